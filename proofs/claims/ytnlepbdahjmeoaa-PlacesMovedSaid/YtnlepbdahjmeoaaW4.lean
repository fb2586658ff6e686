/- Part 4 of a proof: texts of this work, put together. -/
import Derived.Test.YtnlepbdahjmeoaaW3
import Derived.Test.YtnlepbdahjmeoaaRows
import Derived.WalkKit
import Derived.ProofKit
import Derived.OpenShut
import Derived.ShutString
import Derived.ChangeOld
import Derived.Below
import Derived.SizedLaws
section
set_option linter.unusedVariables false
set_option linter.unusedSimpArgs false
/- What the table says of single types: written by gentyb.py, a program of this work. -/
namespace Go.S1N
open Go Go.Am Go.Proofs Go.S1
set_option maxRecDepth 100000
set_option linter.unusedSimpArgs false
set_option linter.unusedVariables false

theorem ty3 : tab.ty 3 = some { td := .int .i64, size := 1, bytes := 8, zero := .int .i64 0, eqok := false } := by kernel_rfl
theorem ty4 : tab.ty 4 = some { td := .bool, size := 1, bytes := 1, zero := .bool false, eqok := false } := by kernel_rfl
theorem ty5 : tab.ty 5 = some { td := .int .u8, size := 1, bytes := 1, zero := .int .u8 0, eqok := false } := by kernel_rfl
theorem ty9 : tab.ty 9 = some { td := .str, size := 1, bytes := 16, zero := .string ⟨#[]⟩, eqok := false } := by kernel_rfl
theorem ty22 : tab.ty 22 = some { td := .slice 3, size := 1, bytes := 24, zero := .slice none 0 0, eqok := false } := by kernel_rfl
theorem ty23 : tab.ty 23 = some { td := .ptr 25, size := 1, bytes := 8, zero := .pointer none, eqok := false } := by kernel_rfl
theorem ty24 : tab.ty 24 = some { td := .struct [(22, 0, true), (3, 1, true)], size := 2, bytes := 32, zero := .agg #[.slice none 0 0, .int .i64 0], eqok := false } := by kernel_rfl
theorem ty25 : tab.ty 25 = some { td := .struct [(22, 0, true), (3, 1, true)], size := 2, bytes := 32, zero := .agg #[.slice none 0 0, .int .i64 0], eqok := false } := by kernel_rfl
theorem ty27 : tab.ty 27 = some { td := .slice 35, size := 1, bytes := 24, zero := .slice none 0 0, eqok := false } := by kernel_rfl
theorem ty31 : tab.ty 31 = some { td := .int .i64, size := 1, bytes := 8, zero := .int .i64 0, eqok := false } := by kernel_rfl
theorem ty35 : tab.ty 35 = some { td := .struct [(3, 0, true), (3, 1, true), (9, 2, true)], size := 3, bytes := 32, zero := .agg #[.int .i64 0, .int .i64 0, .string ⟨#[]⟩], eqok := true } := by kernel_rfl
theorem ty63 : tab.ty 63 = some { td := .slice 9, size := 1, bytes := 24, zero := .slice none 0 0, eqok := false } := by kernel_rfl
theorem ty107 : tab.ty 107 = some { td := .slice 31, size := 1, bytes := 24, zero := .slice none 0 0, eqok := false } := by kernel_rfl
theorem ty112 : tab.ty 112 = some { td := .ptr 115, size := 1, bytes := 8, zero := .pointer none, eqok := false } := by kernel_rfl
theorem ty113 : tab.ty 113 = some { td := .slice 5, size := 1, bytes := 24, zero := .slice none 0 0, eqok := false } := by kernel_rfl
theorem ty115 : tab.ty 115 = some { td := .struct [(112, 0, true), (113, 1, true)], size := 2, bytes := 32, zero := .agg #[.pointer none, .slice none 0 0], eqok := false } := by kernel_rfl
theorem ty116 : tab.ty 116 = some { td := .slice 121, size := 1, bytes := 24, zero := .slice none 0 0, eqok := false } := by kernel_rfl
theorem ty117 : tab.ty 117 = some { td := .struct [(3, 0, true), (116, 1, true)], size := 2, bytes := 32, zero := .agg #[.int .i64 0, .slice none 0 0], eqok := false } := by kernel_rfl
theorem ty118 : tab.ty 118 = some { td := .struct [(3, 0, true), (116, 1, true)], size := 2, bytes := 32, zero := .agg #[.int .i64 0, .slice none 0 0], eqok := false } := by kernel_rfl
theorem ty119 : tab.ty 119 = some { td := .func, size := 1, bytes := 8, zero := .nilFunc, eqok := false } := by kernel_rfl
theorem ty121 : tab.ty 121 = some { td := .struct [(3, 0, true), (5, 1, true)], size := 2, bytes := 16, zero := .agg #[.int .i64 0, .int .u8 0], eqok := false } := by kernel_rfl
@[go_sem] theorem al3 {P : Program} {s0 : AHeap} {N : List AV → AHeap → Prop} {d : Option Nat} {tm : List AV} {s : AHeap} : lstepB P tab s0 N (.alloc 3) d tm s = N (aput tm d (.ptr s.nx 0)) (s.new (.cells [.int .i64 0] (some 3))) := by rw [lstepB_alloc, ty3]; rfl
@[go_sem] theorem da3 {P : Program} {eal : Nat → Bool} {nx0 i : Nat} {N : DSt → AHeap → Prop} {d : Option Nat} {tm : List AV} {co : List AHeap} {re : List AV} {ki : List DKind} {s : AHeap} (he : eal i = false) : ldstepB P tab eal nx0 i false N (.alloc 3) d ⟨tm, co, re, ki⟩ s = N ⟨aput tm d (.ptr (nx0 + i) 0), co, re ++ [.ptr (nx0 + i) 0], ki ++ [.alloc 3]⟩ s := ldstepB_alA ty3 rfl he
@[go_sem] theorem de3 {P : Program} {eal : Nat → Bool} {nx0 i : Nat} {g : Bool} {N : DSt → AHeap → Prop} {d : Option Nat} {tm : List AV} {co : List AHeap} {re : List AV} {ki : List DKind} {s : AHeap} (he : eal i = true) : ldstepB P tab eal nx0 i g N (.alloc 3) d ⟨tm, co, re, ki⟩ s = N ⟨aput tm d (.ptr s.nx 0), co ++ [s.new (.cells [.int .i64 0] (some 3))], re ++ [.ptr s.nx 0], ki ++ [.eff]⟩ (s.new (.cells [.int .i64 0] (some 3))) := ldstepB_alE ty3 rfl he
@[go_sem] theorem zc3 : zcells tab 3 = [.int .i64 0] := by unfold zcells; rw [ty3]; rfl
@[go_sem] theorem al4 {P : Program} {s0 : AHeap} {N : List AV → AHeap → Prop} {d : Option Nat} {tm : List AV} {s : AHeap} : lstepB P tab s0 N (.alloc 4) d tm s = N (aput tm d (.ptr s.nx 0)) (s.new (.cells [.bool false] (some 4))) := by rw [lstepB_alloc, ty4]; rfl
@[go_sem] theorem da4 {P : Program} {eal : Nat → Bool} {nx0 i : Nat} {N : DSt → AHeap → Prop} {d : Option Nat} {tm : List AV} {co : List AHeap} {re : List AV} {ki : List DKind} {s : AHeap} (he : eal i = false) : ldstepB P tab eal nx0 i false N (.alloc 4) d ⟨tm, co, re, ki⟩ s = N ⟨aput tm d (.ptr (nx0 + i) 0), co, re ++ [.ptr (nx0 + i) 0], ki ++ [.alloc 4]⟩ s := ldstepB_alA ty4 rfl he
@[go_sem] theorem de4 {P : Program} {eal : Nat → Bool} {nx0 i : Nat} {g : Bool} {N : DSt → AHeap → Prop} {d : Option Nat} {tm : List AV} {co : List AHeap} {re : List AV} {ki : List DKind} {s : AHeap} (he : eal i = true) : ldstepB P tab eal nx0 i g N (.alloc 4) d ⟨tm, co, re, ki⟩ s = N ⟨aput tm d (.ptr s.nx 0), co ++ [s.new (.cells [.bool false] (some 4))], re ++ [.ptr s.nx 0], ki ++ [.eff]⟩ (s.new (.cells [.bool false] (some 4))) := ldstepB_alE ty4 rfl he
@[go_sem] theorem zc4 : zcells tab 4 = [.bool false] := by unfold zcells; rw [ty4]; rfl
@[go_sem] theorem al5 {P : Program} {s0 : AHeap} {N : List AV → AHeap → Prop} {d : Option Nat} {tm : List AV} {s : AHeap} : lstepB P tab s0 N (.alloc 5) d tm s = N (aput tm d (.ptr s.nx 0)) (s.new (.cells [.int .u8 0] (some 5))) := by rw [lstepB_alloc, ty5]; rfl
@[go_sem] theorem da5 {P : Program} {eal : Nat → Bool} {nx0 i : Nat} {N : DSt → AHeap → Prop} {d : Option Nat} {tm : List AV} {co : List AHeap} {re : List AV} {ki : List DKind} {s : AHeap} (he : eal i = false) : ldstepB P tab eal nx0 i false N (.alloc 5) d ⟨tm, co, re, ki⟩ s = N ⟨aput tm d (.ptr (nx0 + i) 0), co, re ++ [.ptr (nx0 + i) 0], ki ++ [.alloc 5]⟩ s := ldstepB_alA ty5 rfl he
@[go_sem] theorem de5 {P : Program} {eal : Nat → Bool} {nx0 i : Nat} {g : Bool} {N : DSt → AHeap → Prop} {d : Option Nat} {tm : List AV} {co : List AHeap} {re : List AV} {ki : List DKind} {s : AHeap} (he : eal i = true) : ldstepB P tab eal nx0 i g N (.alloc 5) d ⟨tm, co, re, ki⟩ s = N ⟨aput tm d (.ptr s.nx 0), co ++ [s.new (.cells [.int .u8 0] (some 5))], re ++ [.ptr s.nx 0], ki ++ [.eff]⟩ (s.new (.cells [.int .u8 0] (some 5))) := ldstepB_alE ty5 rfl he
@[go_sem] theorem zc5 : zcells tab 5 = [.int .u8 0] := by unfold zcells; rw [ty5]; rfl
@[go_sem] theorem al9 {P : Program} {s0 : AHeap} {N : List AV → AHeap → Prop} {d : Option Nat} {tm : List AV} {s : AHeap} : lstepB P tab s0 N (.alloc 9) d tm s = N (aput tm d (.ptr s.nx 0)) (s.new (.cells [.str []] (some 9))) := by rw [lstepB_alloc, ty9]; rfl
@[go_sem] theorem da9 {P : Program} {eal : Nat → Bool} {nx0 i : Nat} {N : DSt → AHeap → Prop} {d : Option Nat} {tm : List AV} {co : List AHeap} {re : List AV} {ki : List DKind} {s : AHeap} (he : eal i = false) : ldstepB P tab eal nx0 i false N (.alloc 9) d ⟨tm, co, re, ki⟩ s = N ⟨aput tm d (.ptr (nx0 + i) 0), co, re ++ [.ptr (nx0 + i) 0], ki ++ [.alloc 9]⟩ s := ldstepB_alA ty9 rfl he
@[go_sem] theorem de9 {P : Program} {eal : Nat → Bool} {nx0 i : Nat} {g : Bool} {N : DSt → AHeap → Prop} {d : Option Nat} {tm : List AV} {co : List AHeap} {re : List AV} {ki : List DKind} {s : AHeap} (he : eal i = true) : ldstepB P tab eal nx0 i g N (.alloc 9) d ⟨tm, co, re, ki⟩ s = N ⟨aput tm d (.ptr s.nx 0), co ++ [s.new (.cells [.str []] (some 9))], re ++ [.ptr s.nx 0], ki ++ [.eff]⟩ (s.new (.cells [.str []] (some 9))) := ldstepB_alE ty9 rfl he
@[go_sem] theorem zc9 : zcells tab 9 = [.str []] := by unfold zcells; rw [ty9]; rfl
@[go_sem] theorem al22 {P : Program} {s0 : AHeap} {N : List AV → AHeap → Prop} {d : Option Nat} {tm : List AV} {s : AHeap} : lstepB P tab s0 N (.alloc 22) d tm s = N (aput tm d (.ptr s.nx 0)) (s.new (.cells [.nils] (some 22))) := by rw [lstepB_alloc, ty22]; rfl
@[go_sem] theorem da22 {P : Program} {eal : Nat → Bool} {nx0 i : Nat} {N : DSt → AHeap → Prop} {d : Option Nat} {tm : List AV} {co : List AHeap} {re : List AV} {ki : List DKind} {s : AHeap} (he : eal i = false) : ldstepB P tab eal nx0 i false N (.alloc 22) d ⟨tm, co, re, ki⟩ s = N ⟨aput tm d (.ptr (nx0 + i) 0), co, re ++ [.ptr (nx0 + i) 0], ki ++ [.alloc 22]⟩ s := ldstepB_alA ty22 rfl he
@[go_sem] theorem de22 {P : Program} {eal : Nat → Bool} {nx0 i : Nat} {g : Bool} {N : DSt → AHeap → Prop} {d : Option Nat} {tm : List AV} {co : List AHeap} {re : List AV} {ki : List DKind} {s : AHeap} (he : eal i = true) : ldstepB P tab eal nx0 i g N (.alloc 22) d ⟨tm, co, re, ki⟩ s = N ⟨aput tm d (.ptr s.nx 0), co ++ [s.new (.cells [.nils] (some 22))], re ++ [.ptr s.nx 0], ki ++ [.eff]⟩ (s.new (.cells [.nils] (some 22))) := ldstepB_alE ty22 rfl he
@[go_sem] theorem zc22 : zcells tab 22 = [.nils] := by unfold zcells; rw [ty22]; rfl
@[go_sem] theorem al23 {P : Program} {s0 : AHeap} {N : List AV → AHeap → Prop} {d : Option Nat} {tm : List AV} {s : AHeap} : lstepB P tab s0 N (.alloc 23) d tm s = N (aput tm d (.ptr s.nx 0)) (s.new (.cells [.nilp] (some 23))) := by rw [lstepB_alloc, ty23]; rfl
@[go_sem] theorem da23 {P : Program} {eal : Nat → Bool} {nx0 i : Nat} {N : DSt → AHeap → Prop} {d : Option Nat} {tm : List AV} {co : List AHeap} {re : List AV} {ki : List DKind} {s : AHeap} (he : eal i = false) : ldstepB P tab eal nx0 i false N (.alloc 23) d ⟨tm, co, re, ki⟩ s = N ⟨aput tm d (.ptr (nx0 + i) 0), co, re ++ [.ptr (nx0 + i) 0], ki ++ [.alloc 23]⟩ s := ldstepB_alA ty23 rfl he
@[go_sem] theorem de23 {P : Program} {eal : Nat → Bool} {nx0 i : Nat} {g : Bool} {N : DSt → AHeap → Prop} {d : Option Nat} {tm : List AV} {co : List AHeap} {re : List AV} {ki : List DKind} {s : AHeap} (he : eal i = true) : ldstepB P tab eal nx0 i g N (.alloc 23) d ⟨tm, co, re, ki⟩ s = N ⟨aput tm d (.ptr s.nx 0), co ++ [s.new (.cells [.nilp] (some 23))], re ++ [.ptr s.nx 0], ki ++ [.eff]⟩ (s.new (.cells [.nilp] (some 23))) := ldstepB_alE ty23 rfl he
@[go_sem] theorem zc23 : zcells tab 23 = [.nilp] := by unfold zcells; rw [ty23]; rfl
@[go_sem] theorem al24 {P : Program} {s0 : AHeap} {N : List AV → AHeap → Prop} {d : Option Nat} {tm : List AV} {s : AHeap} : lstepB P tab s0 N (.alloc 24) d tm s = N (aput tm d (.ptr s.nx 0)) (s.new (.cells [.nils, .int .i64 0] (some 24))) := by rw [lstepB_alloc, ty24]; rfl
@[go_sem] theorem da24 {P : Program} {eal : Nat → Bool} {nx0 i : Nat} {N : DSt → AHeap → Prop} {d : Option Nat} {tm : List AV} {co : List AHeap} {re : List AV} {ki : List DKind} {s : AHeap} (he : eal i = false) : ldstepB P tab eal nx0 i false N (.alloc 24) d ⟨tm, co, re, ki⟩ s = N ⟨aput tm d (.ptr (nx0 + i) 0), co, re ++ [.ptr (nx0 + i) 0], ki ++ [.alloc 24]⟩ s := ldstepB_alA ty24 rfl he
@[go_sem] theorem de24 {P : Program} {eal : Nat → Bool} {nx0 i : Nat} {g : Bool} {N : DSt → AHeap → Prop} {d : Option Nat} {tm : List AV} {co : List AHeap} {re : List AV} {ki : List DKind} {s : AHeap} (he : eal i = true) : ldstepB P tab eal nx0 i g N (.alloc 24) d ⟨tm, co, re, ki⟩ s = N ⟨aput tm d (.ptr s.nx 0), co ++ [s.new (.cells [.nils, .int .i64 0] (some 24))], re ++ [.ptr s.nx 0], ki ++ [.eff]⟩ (s.new (.cells [.nils, .int .i64 0] (some 24))) := ldstepB_alE ty24 rfl he
@[go_sem] theorem zc24 : zcells tab 24 = [.nils, .int .i64 0] := by unfold zcells; rw [ty24]; rfl
@[go_sem] theorem al25 {P : Program} {s0 : AHeap} {N : List AV → AHeap → Prop} {d : Option Nat} {tm : List AV} {s : AHeap} : lstepB P tab s0 N (.alloc 25) d tm s = N (aput tm d (.ptr s.nx 0)) (s.new (.cells [.nils, .int .i64 0] (some 25))) := by rw [lstepB_alloc, ty25]; rfl
@[go_sem] theorem da25 {P : Program} {eal : Nat → Bool} {nx0 i : Nat} {N : DSt → AHeap → Prop} {d : Option Nat} {tm : List AV} {co : List AHeap} {re : List AV} {ki : List DKind} {s : AHeap} (he : eal i = false) : ldstepB P tab eal nx0 i false N (.alloc 25) d ⟨tm, co, re, ki⟩ s = N ⟨aput tm d (.ptr (nx0 + i) 0), co, re ++ [.ptr (nx0 + i) 0], ki ++ [.alloc 25]⟩ s := ldstepB_alA ty25 rfl he
@[go_sem] theorem de25 {P : Program} {eal : Nat → Bool} {nx0 i : Nat} {g : Bool} {N : DSt → AHeap → Prop} {d : Option Nat} {tm : List AV} {co : List AHeap} {re : List AV} {ki : List DKind} {s : AHeap} (he : eal i = true) : ldstepB P tab eal nx0 i g N (.alloc 25) d ⟨tm, co, re, ki⟩ s = N ⟨aput tm d (.ptr s.nx 0), co ++ [s.new (.cells [.nils, .int .i64 0] (some 25))], re ++ [.ptr s.nx 0], ki ++ [.eff]⟩ (s.new (.cells [.nils, .int .i64 0] (some 25))) := ldstepB_alE ty25 rfl he
@[go_sem] theorem zc25 : zcells tab 25 = [.nils, .int .i64 0] := by unfold zcells; rw [ty25]; rfl
@[go_sem] theorem al27 {P : Program} {s0 : AHeap} {N : List AV → AHeap → Prop} {d : Option Nat} {tm : List AV} {s : AHeap} : lstepB P tab s0 N (.alloc 27) d tm s = N (aput tm d (.ptr s.nx 0)) (s.new (.cells [.nils] (some 27))) := by rw [lstepB_alloc, ty27]; rfl
@[go_sem] theorem da27 {P : Program} {eal : Nat → Bool} {nx0 i : Nat} {N : DSt → AHeap → Prop} {d : Option Nat} {tm : List AV} {co : List AHeap} {re : List AV} {ki : List DKind} {s : AHeap} (he : eal i = false) : ldstepB P tab eal nx0 i false N (.alloc 27) d ⟨tm, co, re, ki⟩ s = N ⟨aput tm d (.ptr (nx0 + i) 0), co, re ++ [.ptr (nx0 + i) 0], ki ++ [.alloc 27]⟩ s := ldstepB_alA ty27 rfl he
@[go_sem] theorem de27 {P : Program} {eal : Nat → Bool} {nx0 i : Nat} {g : Bool} {N : DSt → AHeap → Prop} {d : Option Nat} {tm : List AV} {co : List AHeap} {re : List AV} {ki : List DKind} {s : AHeap} (he : eal i = true) : ldstepB P tab eal nx0 i g N (.alloc 27) d ⟨tm, co, re, ki⟩ s = N ⟨aput tm d (.ptr s.nx 0), co ++ [s.new (.cells [.nils] (some 27))], re ++ [.ptr s.nx 0], ki ++ [.eff]⟩ (s.new (.cells [.nils] (some 27))) := ldstepB_alE ty27 rfl he
@[go_sem] theorem zc27 : zcells tab 27 = [.nils] := by unfold zcells; rw [ty27]; rfl
@[go_sem] theorem al31 {P : Program} {s0 : AHeap} {N : List AV → AHeap → Prop} {d : Option Nat} {tm : List AV} {s : AHeap} : lstepB P tab s0 N (.alloc 31) d tm s = N (aput tm d (.ptr s.nx 0)) (s.new (.cells [.int .i64 0] (some 31))) := by rw [lstepB_alloc, ty31]; rfl
@[go_sem] theorem da31 {P : Program} {eal : Nat → Bool} {nx0 i : Nat} {N : DSt → AHeap → Prop} {d : Option Nat} {tm : List AV} {co : List AHeap} {re : List AV} {ki : List DKind} {s : AHeap} (he : eal i = false) : ldstepB P tab eal nx0 i false N (.alloc 31) d ⟨tm, co, re, ki⟩ s = N ⟨aput tm d (.ptr (nx0 + i) 0), co, re ++ [.ptr (nx0 + i) 0], ki ++ [.alloc 31]⟩ s := ldstepB_alA ty31 rfl he
@[go_sem] theorem de31 {P : Program} {eal : Nat → Bool} {nx0 i : Nat} {g : Bool} {N : DSt → AHeap → Prop} {d : Option Nat} {tm : List AV} {co : List AHeap} {re : List AV} {ki : List DKind} {s : AHeap} (he : eal i = true) : ldstepB P tab eal nx0 i g N (.alloc 31) d ⟨tm, co, re, ki⟩ s = N ⟨aput tm d (.ptr s.nx 0), co ++ [s.new (.cells [.int .i64 0] (some 31))], re ++ [.ptr s.nx 0], ki ++ [.eff]⟩ (s.new (.cells [.int .i64 0] (some 31))) := ldstepB_alE ty31 rfl he
@[go_sem] theorem zc31 : zcells tab 31 = [.int .i64 0] := by unfold zcells; rw [ty31]; rfl
@[go_sem] theorem al35 {P : Program} {s0 : AHeap} {N : List AV → AHeap → Prop} {d : Option Nat} {tm : List AV} {s : AHeap} : lstepB P tab s0 N (.alloc 35) d tm s = N (aput tm d (.ptr s.nx 0)) (s.new (.cells [.int .i64 0, .int .i64 0, .str []] (some 35))) := by rw [lstepB_alloc, ty35]; rfl
@[go_sem] theorem da35 {P : Program} {eal : Nat → Bool} {nx0 i : Nat} {N : DSt → AHeap → Prop} {d : Option Nat} {tm : List AV} {co : List AHeap} {re : List AV} {ki : List DKind} {s : AHeap} (he : eal i = false) : ldstepB P tab eal nx0 i false N (.alloc 35) d ⟨tm, co, re, ki⟩ s = N ⟨aput tm d (.ptr (nx0 + i) 0), co, re ++ [.ptr (nx0 + i) 0], ki ++ [.alloc 35]⟩ s := ldstepB_alA ty35 rfl he
@[go_sem] theorem de35 {P : Program} {eal : Nat → Bool} {nx0 i : Nat} {g : Bool} {N : DSt → AHeap → Prop} {d : Option Nat} {tm : List AV} {co : List AHeap} {re : List AV} {ki : List DKind} {s : AHeap} (he : eal i = true) : ldstepB P tab eal nx0 i g N (.alloc 35) d ⟨tm, co, re, ki⟩ s = N ⟨aput tm d (.ptr s.nx 0), co ++ [s.new (.cells [.int .i64 0, .int .i64 0, .str []] (some 35))], re ++ [.ptr s.nx 0], ki ++ [.eff]⟩ (s.new (.cells [.int .i64 0, .int .i64 0, .str []] (some 35))) := ldstepB_alE ty35 rfl he
@[go_sem] theorem zc35 : zcells tab 35 = [.int .i64 0, .int .i64 0, .str []] := by unfold zcells; rw [ty35]; rfl
@[go_sem] theorem al63 {P : Program} {s0 : AHeap} {N : List AV → AHeap → Prop} {d : Option Nat} {tm : List AV} {s : AHeap} : lstepB P tab s0 N (.alloc 63) d tm s = N (aput tm d (.ptr s.nx 0)) (s.new (.cells [.nils] (some 63))) := by rw [lstepB_alloc, ty63]; rfl
@[go_sem] theorem da63 {P : Program} {eal : Nat → Bool} {nx0 i : Nat} {N : DSt → AHeap → Prop} {d : Option Nat} {tm : List AV} {co : List AHeap} {re : List AV} {ki : List DKind} {s : AHeap} (he : eal i = false) : ldstepB P tab eal nx0 i false N (.alloc 63) d ⟨tm, co, re, ki⟩ s = N ⟨aput tm d (.ptr (nx0 + i) 0), co, re ++ [.ptr (nx0 + i) 0], ki ++ [.alloc 63]⟩ s := ldstepB_alA ty63 rfl he
@[go_sem] theorem de63 {P : Program} {eal : Nat → Bool} {nx0 i : Nat} {g : Bool} {N : DSt → AHeap → Prop} {d : Option Nat} {tm : List AV} {co : List AHeap} {re : List AV} {ki : List DKind} {s : AHeap} (he : eal i = true) : ldstepB P tab eal nx0 i g N (.alloc 63) d ⟨tm, co, re, ki⟩ s = N ⟨aput tm d (.ptr s.nx 0), co ++ [s.new (.cells [.nils] (some 63))], re ++ [.ptr s.nx 0], ki ++ [.eff]⟩ (s.new (.cells [.nils] (some 63))) := ldstepB_alE ty63 rfl he
@[go_sem] theorem zc63 : zcells tab 63 = [.nils] := by unfold zcells; rw [ty63]; rfl
@[go_sem] theorem al107 {P : Program} {s0 : AHeap} {N : List AV → AHeap → Prop} {d : Option Nat} {tm : List AV} {s : AHeap} : lstepB P tab s0 N (.alloc 107) d tm s = N (aput tm d (.ptr s.nx 0)) (s.new (.cells [.nils] (some 107))) := by rw [lstepB_alloc, ty107]; rfl
@[go_sem] theorem da107 {P : Program} {eal : Nat → Bool} {nx0 i : Nat} {N : DSt → AHeap → Prop} {d : Option Nat} {tm : List AV} {co : List AHeap} {re : List AV} {ki : List DKind} {s : AHeap} (he : eal i = false) : ldstepB P tab eal nx0 i false N (.alloc 107) d ⟨tm, co, re, ki⟩ s = N ⟨aput tm d (.ptr (nx0 + i) 0), co, re ++ [.ptr (nx0 + i) 0], ki ++ [.alloc 107]⟩ s := ldstepB_alA ty107 rfl he
@[go_sem] theorem de107 {P : Program} {eal : Nat → Bool} {nx0 i : Nat} {g : Bool} {N : DSt → AHeap → Prop} {d : Option Nat} {tm : List AV} {co : List AHeap} {re : List AV} {ki : List DKind} {s : AHeap} (he : eal i = true) : ldstepB P tab eal nx0 i g N (.alloc 107) d ⟨tm, co, re, ki⟩ s = N ⟨aput tm d (.ptr s.nx 0), co ++ [s.new (.cells [.nils] (some 107))], re ++ [.ptr s.nx 0], ki ++ [.eff]⟩ (s.new (.cells [.nils] (some 107))) := ldstepB_alE ty107 rfl he
@[go_sem] theorem zc107 : zcells tab 107 = [.nils] := by unfold zcells; rw [ty107]; rfl
@[go_sem] theorem al112 {P : Program} {s0 : AHeap} {N : List AV → AHeap → Prop} {d : Option Nat} {tm : List AV} {s : AHeap} : lstepB P tab s0 N (.alloc 112) d tm s = N (aput tm d (.ptr s.nx 0)) (s.new (.cells [.nilp] (some 112))) := by rw [lstepB_alloc, ty112]; rfl
@[go_sem] theorem da112 {P : Program} {eal : Nat → Bool} {nx0 i : Nat} {N : DSt → AHeap → Prop} {d : Option Nat} {tm : List AV} {co : List AHeap} {re : List AV} {ki : List DKind} {s : AHeap} (he : eal i = false) : ldstepB P tab eal nx0 i false N (.alloc 112) d ⟨tm, co, re, ki⟩ s = N ⟨aput tm d (.ptr (nx0 + i) 0), co, re ++ [.ptr (nx0 + i) 0], ki ++ [.alloc 112]⟩ s := ldstepB_alA ty112 rfl he
@[go_sem] theorem de112 {P : Program} {eal : Nat → Bool} {nx0 i : Nat} {g : Bool} {N : DSt → AHeap → Prop} {d : Option Nat} {tm : List AV} {co : List AHeap} {re : List AV} {ki : List DKind} {s : AHeap} (he : eal i = true) : ldstepB P tab eal nx0 i g N (.alloc 112) d ⟨tm, co, re, ki⟩ s = N ⟨aput tm d (.ptr s.nx 0), co ++ [s.new (.cells [.nilp] (some 112))], re ++ [.ptr s.nx 0], ki ++ [.eff]⟩ (s.new (.cells [.nilp] (some 112))) := ldstepB_alE ty112 rfl he
@[go_sem] theorem zc112 : zcells tab 112 = [.nilp] := by unfold zcells; rw [ty112]; rfl
@[go_sem] theorem al113 {P : Program} {s0 : AHeap} {N : List AV → AHeap → Prop} {d : Option Nat} {tm : List AV} {s : AHeap} : lstepB P tab s0 N (.alloc 113) d tm s = N (aput tm d (.ptr s.nx 0)) (s.new (.cells [.nils] (some 113))) := by rw [lstepB_alloc, ty113]; rfl
@[go_sem] theorem da113 {P : Program} {eal : Nat → Bool} {nx0 i : Nat} {N : DSt → AHeap → Prop} {d : Option Nat} {tm : List AV} {co : List AHeap} {re : List AV} {ki : List DKind} {s : AHeap} (he : eal i = false) : ldstepB P tab eal nx0 i false N (.alloc 113) d ⟨tm, co, re, ki⟩ s = N ⟨aput tm d (.ptr (nx0 + i) 0), co, re ++ [.ptr (nx0 + i) 0], ki ++ [.alloc 113]⟩ s := ldstepB_alA ty113 rfl he
@[go_sem] theorem de113 {P : Program} {eal : Nat → Bool} {nx0 i : Nat} {g : Bool} {N : DSt → AHeap → Prop} {d : Option Nat} {tm : List AV} {co : List AHeap} {re : List AV} {ki : List DKind} {s : AHeap} (he : eal i = true) : ldstepB P tab eal nx0 i g N (.alloc 113) d ⟨tm, co, re, ki⟩ s = N ⟨aput tm d (.ptr s.nx 0), co ++ [s.new (.cells [.nils] (some 113))], re ++ [.ptr s.nx 0], ki ++ [.eff]⟩ (s.new (.cells [.nils] (some 113))) := ldstepB_alE ty113 rfl he
@[go_sem] theorem zc113 : zcells tab 113 = [.nils] := by unfold zcells; rw [ty113]; rfl
@[go_sem] theorem al115 {P : Program} {s0 : AHeap} {N : List AV → AHeap → Prop} {d : Option Nat} {tm : List AV} {s : AHeap} : lstepB P tab s0 N (.alloc 115) d tm s = N (aput tm d (.ptr s.nx 0)) (s.new (.cells [.nilp, .nils] (some 115))) := by rw [lstepB_alloc, ty115]; rfl
@[go_sem] theorem da115 {P : Program} {eal : Nat → Bool} {nx0 i : Nat} {N : DSt → AHeap → Prop} {d : Option Nat} {tm : List AV} {co : List AHeap} {re : List AV} {ki : List DKind} {s : AHeap} (he : eal i = false) : ldstepB P tab eal nx0 i false N (.alloc 115) d ⟨tm, co, re, ki⟩ s = N ⟨aput tm d (.ptr (nx0 + i) 0), co, re ++ [.ptr (nx0 + i) 0], ki ++ [.alloc 115]⟩ s := ldstepB_alA ty115 rfl he
@[go_sem] theorem de115 {P : Program} {eal : Nat → Bool} {nx0 i : Nat} {g : Bool} {N : DSt → AHeap → Prop} {d : Option Nat} {tm : List AV} {co : List AHeap} {re : List AV} {ki : List DKind} {s : AHeap} (he : eal i = true) : ldstepB P tab eal nx0 i g N (.alloc 115) d ⟨tm, co, re, ki⟩ s = N ⟨aput tm d (.ptr s.nx 0), co ++ [s.new (.cells [.nilp, .nils] (some 115))], re ++ [.ptr s.nx 0], ki ++ [.eff]⟩ (s.new (.cells [.nilp, .nils] (some 115))) := ldstepB_alE ty115 rfl he
@[go_sem] theorem zc115 : zcells tab 115 = [.nilp, .nils] := by unfold zcells; rw [ty115]; rfl
@[go_sem] theorem al116 {P : Program} {s0 : AHeap} {N : List AV → AHeap → Prop} {d : Option Nat} {tm : List AV} {s : AHeap} : lstepB P tab s0 N (.alloc 116) d tm s = N (aput tm d (.ptr s.nx 0)) (s.new (.cells [.nils] (some 116))) := by rw [lstepB_alloc, ty116]; rfl
@[go_sem] theorem da116 {P : Program} {eal : Nat → Bool} {nx0 i : Nat} {N : DSt → AHeap → Prop} {d : Option Nat} {tm : List AV} {co : List AHeap} {re : List AV} {ki : List DKind} {s : AHeap} (he : eal i = false) : ldstepB P tab eal nx0 i false N (.alloc 116) d ⟨tm, co, re, ki⟩ s = N ⟨aput tm d (.ptr (nx0 + i) 0), co, re ++ [.ptr (nx0 + i) 0], ki ++ [.alloc 116]⟩ s := ldstepB_alA ty116 rfl he
@[go_sem] theorem de116 {P : Program} {eal : Nat → Bool} {nx0 i : Nat} {g : Bool} {N : DSt → AHeap → Prop} {d : Option Nat} {tm : List AV} {co : List AHeap} {re : List AV} {ki : List DKind} {s : AHeap} (he : eal i = true) : ldstepB P tab eal nx0 i g N (.alloc 116) d ⟨tm, co, re, ki⟩ s = N ⟨aput tm d (.ptr s.nx 0), co ++ [s.new (.cells [.nils] (some 116))], re ++ [.ptr s.nx 0], ki ++ [.eff]⟩ (s.new (.cells [.nils] (some 116))) := ldstepB_alE ty116 rfl he
@[go_sem] theorem zc116 : zcells tab 116 = [.nils] := by unfold zcells; rw [ty116]; rfl
@[go_sem] theorem al117 {P : Program} {s0 : AHeap} {N : List AV → AHeap → Prop} {d : Option Nat} {tm : List AV} {s : AHeap} : lstepB P tab s0 N (.alloc 117) d tm s = N (aput tm d (.ptr s.nx 0)) (s.new (.cells [.int .i64 0, .nils] (some 117))) := by rw [lstepB_alloc, ty117]; rfl
@[go_sem] theorem da117 {P : Program} {eal : Nat → Bool} {nx0 i : Nat} {N : DSt → AHeap → Prop} {d : Option Nat} {tm : List AV} {co : List AHeap} {re : List AV} {ki : List DKind} {s : AHeap} (he : eal i = false) : ldstepB P tab eal nx0 i false N (.alloc 117) d ⟨tm, co, re, ki⟩ s = N ⟨aput tm d (.ptr (nx0 + i) 0), co, re ++ [.ptr (nx0 + i) 0], ki ++ [.alloc 117]⟩ s := ldstepB_alA ty117 rfl he
@[go_sem] theorem de117 {P : Program} {eal : Nat → Bool} {nx0 i : Nat} {g : Bool} {N : DSt → AHeap → Prop} {d : Option Nat} {tm : List AV} {co : List AHeap} {re : List AV} {ki : List DKind} {s : AHeap} (he : eal i = true) : ldstepB P tab eal nx0 i g N (.alloc 117) d ⟨tm, co, re, ki⟩ s = N ⟨aput tm d (.ptr s.nx 0), co ++ [s.new (.cells [.int .i64 0, .nils] (some 117))], re ++ [.ptr s.nx 0], ki ++ [.eff]⟩ (s.new (.cells [.int .i64 0, .nils] (some 117))) := ldstepB_alE ty117 rfl he
@[go_sem] theorem zc117 : zcells tab 117 = [.int .i64 0, .nils] := by unfold zcells; rw [ty117]; rfl
@[go_sem] theorem al118 {P : Program} {s0 : AHeap} {N : List AV → AHeap → Prop} {d : Option Nat} {tm : List AV} {s : AHeap} : lstepB P tab s0 N (.alloc 118) d tm s = N (aput tm d (.ptr s.nx 0)) (s.new (.cells [.int .i64 0, .nils] (some 118))) := by rw [lstepB_alloc, ty118]; rfl
@[go_sem] theorem da118 {P : Program} {eal : Nat → Bool} {nx0 i : Nat} {N : DSt → AHeap → Prop} {d : Option Nat} {tm : List AV} {co : List AHeap} {re : List AV} {ki : List DKind} {s : AHeap} (he : eal i = false) : ldstepB P tab eal nx0 i false N (.alloc 118) d ⟨tm, co, re, ki⟩ s = N ⟨aput tm d (.ptr (nx0 + i) 0), co, re ++ [.ptr (nx0 + i) 0], ki ++ [.alloc 118]⟩ s := ldstepB_alA ty118 rfl he
@[go_sem] theorem de118 {P : Program} {eal : Nat → Bool} {nx0 i : Nat} {g : Bool} {N : DSt → AHeap → Prop} {d : Option Nat} {tm : List AV} {co : List AHeap} {re : List AV} {ki : List DKind} {s : AHeap} (he : eal i = true) : ldstepB P tab eal nx0 i g N (.alloc 118) d ⟨tm, co, re, ki⟩ s = N ⟨aput tm d (.ptr s.nx 0), co ++ [s.new (.cells [.int .i64 0, .nils] (some 118))], re ++ [.ptr s.nx 0], ki ++ [.eff]⟩ (s.new (.cells [.int .i64 0, .nils] (some 118))) := ldstepB_alE ty118 rfl he
@[go_sem] theorem zc118 : zcells tab 118 = [.int .i64 0, .nils] := by unfold zcells; rw [ty118]; rfl
@[go_sem] theorem al119 {P : Program} {s0 : AHeap} {N : List AV → AHeap → Prop} {d : Option Nat} {tm : List AV} {s : AHeap} : lstepB P tab s0 N (.alloc 119) d tm s = N (aput tm d (.ptr s.nx 0)) (s.new (.cells [.nilf] (some 119))) := by rw [lstepB_alloc, ty119]; rfl
@[go_sem] theorem da119 {P : Program} {eal : Nat → Bool} {nx0 i : Nat} {N : DSt → AHeap → Prop} {d : Option Nat} {tm : List AV} {co : List AHeap} {re : List AV} {ki : List DKind} {s : AHeap} (he : eal i = false) : ldstepB P tab eal nx0 i false N (.alloc 119) d ⟨tm, co, re, ki⟩ s = N ⟨aput tm d (.ptr (nx0 + i) 0), co, re ++ [.ptr (nx0 + i) 0], ki ++ [.alloc 119]⟩ s := ldstepB_alA ty119 rfl he
@[go_sem] theorem de119 {P : Program} {eal : Nat → Bool} {nx0 i : Nat} {g : Bool} {N : DSt → AHeap → Prop} {d : Option Nat} {tm : List AV} {co : List AHeap} {re : List AV} {ki : List DKind} {s : AHeap} (he : eal i = true) : ldstepB P tab eal nx0 i g N (.alloc 119) d ⟨tm, co, re, ki⟩ s = N ⟨aput tm d (.ptr s.nx 0), co ++ [s.new (.cells [.nilf] (some 119))], re ++ [.ptr s.nx 0], ki ++ [.eff]⟩ (s.new (.cells [.nilf] (some 119))) := ldstepB_alE ty119 rfl he
@[go_sem] theorem zc119 : zcells tab 119 = [.nilf] := by unfold zcells; rw [ty119]; rfl
@[go_sem] theorem al121 {P : Program} {s0 : AHeap} {N : List AV → AHeap → Prop} {d : Option Nat} {tm : List AV} {s : AHeap} : lstepB P tab s0 N (.alloc 121) d tm s = N (aput tm d (.ptr s.nx 0)) (s.new (.cells [.int .i64 0, .int .u8 0] (some 121))) := by rw [lstepB_alloc, ty121]; rfl
@[go_sem] theorem da121 {P : Program} {eal : Nat → Bool} {nx0 i : Nat} {N : DSt → AHeap → Prop} {d : Option Nat} {tm : List AV} {co : List AHeap} {re : List AV} {ki : List DKind} {s : AHeap} (he : eal i = false) : ldstepB P tab eal nx0 i false N (.alloc 121) d ⟨tm, co, re, ki⟩ s = N ⟨aput tm d (.ptr (nx0 + i) 0), co, re ++ [.ptr (nx0 + i) 0], ki ++ [.alloc 121]⟩ s := ldstepB_alA ty121 rfl he
@[go_sem] theorem de121 {P : Program} {eal : Nat → Bool} {nx0 i : Nat} {g : Bool} {N : DSt → AHeap → Prop} {d : Option Nat} {tm : List AV} {co : List AHeap} {re : List AV} {ki : List DKind} {s : AHeap} (he : eal i = true) : ldstepB P tab eal nx0 i g N (.alloc 121) d ⟨tm, co, re, ki⟩ s = N ⟨aput tm d (.ptr s.nx 0), co ++ [s.new (.cells [.int .i64 0, .int .u8 0] (some 121))], re ++ [.ptr s.nx 0], ki ++ [.eff]⟩ (s.new (.cells [.int .i64 0, .int .u8 0] (some 121))) := ldstepB_alE ty121 rfl he
@[go_sem] theorem zc121 : zcells tab 121 = [.int .i64 0, .int .u8 0] := by unfold zcells; rw [ty121]; rfl
@[go_sem] theorem ld3 {x : AV} {s : AHeap} : aload tab 3 x s = (acellsAt s x).bind fun cs => cs[0]? := by rw [aload_one ty3 rfl]
@[go_sem] theorem st3 {b o : Nat} {v : AV} {s : AHeap} : astore tab 3 (.ptr b o) v s = astoreAt s b o 1 v := by rw [astore_ptr ty3]
@[go_sem] theorem ld4 {x : AV} {s : AHeap} : aload tab 4 x s = (acellsAt s x).bind fun cs => cs[0]? := by rw [aload_one ty4 rfl]
@[go_sem] theorem st4 {b o : Nat} {v : AV} {s : AHeap} : astore tab 4 (.ptr b o) v s = astoreAt s b o 1 v := by rw [astore_ptr ty4]
@[go_sem] theorem ld5 {x : AV} {s : AHeap} : aload tab 5 x s = (acellsAt s x).bind fun cs => cs[0]? := by rw [aload_one ty5 rfl]
@[go_sem] theorem st5 {b o : Nat} {v : AV} {s : AHeap} : astore tab 5 (.ptr b o) v s = astoreAt s b o 1 v := by rw [astore_ptr ty5]
@[go_sem] theorem ld9 {x : AV} {s : AHeap} : aload tab 9 x s = (acellsAt s x).bind fun cs => cs[0]? := by rw [aload_one ty9 rfl]
@[go_sem] theorem st9 {b o : Nat} {v : AV} {s : AHeap} : astore tab 9 (.ptr b o) v s = astoreAt s b o 1 v := by rw [astore_ptr ty9]
@[go_sem] theorem len9 {l : List UInt8} : alen tab 9 (.str l) = some (.int .i64 l.length) := by simp [alen, ty9]
@[go_sem] theorem ld22 {x : AV} {s : AHeap} : aload tab 22 x s = (acellsAt s x).bind fun cs => cs[0]? := by rw [aload_one ty22 rfl]
@[go_sem] theorem st22 {b o : Nat} {v : AV} {s : AHeap} : astore tab 22 (.ptr b o) v s = astoreAt s b o 1 v := by rw [astore_ptr ty22]
@[go_sem] theorem len22n : alen tab 22 .nils = some (.int .i64 0) := by simp [alen, ty22]
@[go_sem] theorem len22v {z : Nat} {f : Bool} {l : List AV} : alen tab 22 (.vs z f l) = some (.int .i64 l.length) := by simp [alen, ty22]
@[go_sem] theorem len22r {z b o n : Nat} : alen tab 22 (.rs z b o n) = some (.int .i64 n) := by simp [alen, ty22]
theorem ap22 {x y : AV} {s : AHeap} : lappend tab 22 22 x y s = aappend tab 3 s x y := by simp [lappend, ty22]
theorem app22 {s : AHeap} {n j len m : Nat} {l : List (Nat × Option AObj)} {y : AV} {c new : List AV} (hy : acellsOf (loc s n l) 1 y = some (new, m)) (hm : m ≠ 0) (hn : new.all AV.one = true) (hl : lget l j = gso 3 c) (hc : c.length = len * 1) (hb : (2 * (len + m) + 512) * 8 ≤ 281474976710656) {mm : Nat} (hmm : s.nx = mm) : lappend tab 22 22 (gsv 1 (nm mm j) len) y (loc s n l) = some (.rs 1 (nm mm n) 0 (len + m), loc s (n + 1) (lput (ldel l j) n (.cells (c ++ new) (some 3)))) := ap22.trans (aappend_gs ty3 (by decide) (by decide) hy hm hn hl hc hb hmm)
@[go_sem] theorem bs22 {s : AHeap} {n : Nat} {parts : List (Nat × AV)} (hn : n = parts.length) (hs : seqp 1 0 parts) (hb : n ≤ 1000) : abuildSlice tab false 22 n parts s = some (.rs 1 s.nx 0 n, s.new (.cells ((parts.map (·.2)).flatMap AV.cells) (some 3))) := abuildSlice_seq ty22 rfl ty3 rfl rfl hn hs (show n * 1 ≤ 16777216 by omega)
@[go_sem] theorem len22g {b n : Nat} : alen tab 22 (gsv 1 b n) = some (.int .i64 n) := by unfold gsv; split <;> simp_all [alen, ty22]
@[go_sem] theorem len22f {xs : List AV} : alen tab 22 (fsv 1 xs) = some (.int .i64 xs.length) := by unfold fsv; split <;> simp_all [alen, ty22]
@[go_sem] theorem ld23 {x : AV} {s : AHeap} : aload tab 23 x s = (acellsAt s x).bind fun cs => cs[0]? := by rw [aload_one ty23 rfl]
@[go_sem] theorem st23 {b o : Nat} {v : AV} {s : AHeap} : astore tab 23 (.ptr b o) v s = astoreAt s b o 1 v := by rw [astore_ptr ty23]
@[go_sem] theorem fa24_0p {b o : Nat} : afieldAddr tab 24 (.ptr b o) 0 = some (.ptr b (o + 0)) := by simp [afieldAddr, ty24, Tab.size, ty22]
@[go_sem] theorem fa24_0r {l : List AV} : afieldAddr tab 24 (.rptr l) 0 = some (.rptr (l.drop 0)) := by simp [afieldAddr, ty24, Tab.size, ty22]
@[go_sem] theorem fa24_1p {b o : Nat} : afieldAddr tab 24 (.ptr b o) 1 = some (.ptr b (o + 1)) := by simp [afieldAddr, ty24, Tab.size, ty3]
@[go_sem] theorem fa24_1r {l : List AV} : afieldAddr tab 24 (.rptr l) 1 = some (.rptr (l.drop 1)) := by simp [afieldAddr, ty24, Tab.size, ty3]
@[go_sem] theorem fd24_0 {a0 a1 : AV} : afield tab 24 (.agg [a0, a1]) 0 = some (a0) := by simp [afield, ty24, ty22, apart, TD.isAgg]
@[go_sem] theorem fd24_1 {a0 a1 : AV} : afield tab 24 (.agg [a0, a1]) 1 = some (a1) := by simp [afield, ty24, ty3, apart, TD.isAgg]
@[go_sem] theorem bd24 {parts : List (Nat × AV)} : abuild tab 24 parts = if parts.any (·.2.israw) = true then none else (afill (fun i => ([(0, 1), (1, 1)] : List (Nat × Nat))[i]?) [.nils, .int .i64 0] parts).map .agg := abuild_struct ty24 rfl rfl (by simp [Tab.size, ty22, ty3])
@[go_sem] theorem ld24 {x : AV} {s : AHeap} : aload tab 24 x s = (acellsAt s x).bind fun cs => if 2 ≤ cs.length then some (.agg (cs.take 2)) else none := by rw [aload_agg ty24 rfl]
@[go_sem] theorem st24 {b o : Nat} {v : AV} {s : AHeap} : astore tab 24 (.ptr b o) v s = astoreAt s b o 2 v := by rw [astore_ptr ty24]
@[go_sem] theorem fa25_0p {b o : Nat} : afieldAddr tab 25 (.ptr b o) 0 = some (.ptr b (o + 0)) := by simp [afieldAddr, ty25, Tab.size, ty22]
@[go_sem] theorem fa25_0r {l : List AV} : afieldAddr tab 25 (.rptr l) 0 = some (.rptr (l.drop 0)) := by simp [afieldAddr, ty25, Tab.size, ty22]
@[go_sem] theorem fa25_1p {b o : Nat} : afieldAddr tab 25 (.ptr b o) 1 = some (.ptr b (o + 1)) := by simp [afieldAddr, ty25, Tab.size, ty3]
@[go_sem] theorem fa25_1r {l : List AV} : afieldAddr tab 25 (.rptr l) 1 = some (.rptr (l.drop 1)) := by simp [afieldAddr, ty25, Tab.size, ty3]
@[go_sem] theorem fd25_0 {a0 a1 : AV} : afield tab 25 (.agg [a0, a1]) 0 = some (a0) := by simp [afield, ty25, ty22, apart, TD.isAgg]
@[go_sem] theorem fd25_1 {a0 a1 : AV} : afield tab 25 (.agg [a0, a1]) 1 = some (a1) := by simp [afield, ty25, ty3, apart, TD.isAgg]
@[go_sem] theorem bd25 {parts : List (Nat × AV)} : abuild tab 25 parts = if parts.any (·.2.israw) = true then none else (afill (fun i => ([(0, 1), (1, 1)] : List (Nat × Nat))[i]?) [.nils, .int .i64 0] parts).map .agg := abuild_struct ty25 rfl rfl (by simp [Tab.size, ty22, ty3])
@[go_sem] theorem ld25 {x : AV} {s : AHeap} : aload tab 25 x s = (acellsAt s x).bind fun cs => if 2 ≤ cs.length then some (.agg (cs.take 2)) else none := by rw [aload_agg ty25 rfl]
@[go_sem] theorem st25 {b o : Nat} {v : AV} {s : AHeap} : astore tab 25 (.ptr b o) v s = astoreAt s b o 2 v := by rw [astore_ptr ty25]
@[go_sem] theorem ld27 {x : AV} {s : AHeap} : aload tab 27 x s = (acellsAt s x).bind fun cs => cs[0]? := by rw [aload_one ty27 rfl]
@[go_sem] theorem st27 {b o : Nat} {v : AV} {s : AHeap} : astore tab 27 (.ptr b o) v s = astoreAt s b o 1 v := by rw [astore_ptr ty27]
@[go_sem] theorem len27n : alen tab 27 .nils = some (.int .i64 0) := by simp [alen, ty27]
@[go_sem] theorem len27v {z : Nat} {f : Bool} {l : List AV} : alen tab 27 (.vs z f l) = some (.int .i64 l.length) := by simp [alen, ty27]
@[go_sem] theorem len27r {z b o n : Nat} : alen tab 27 (.rs z b o n) = some (.int .i64 n) := by simp [alen, ty27]
theorem ap27 {x y : AV} {s : AHeap} : lappend tab 27 27 x y s = aappend tab 35 s x y := by simp [lappend, ty27]
theorem app27 {s : AHeap} {n j len m : Nat} {l : List (Nat × Option AObj)} {y : AV} {c new : List AV} (hy : acellsOf (loc s n l) 3 y = some (new, m)) (hm : m ≠ 0) (hn : new.all AV.one = true) (hl : lget l j = gso 35 c) (hc : c.length = len * 3) (hb : (2 * (len + m) + 512) * 32 ≤ 281474976710656) {mm : Nat} (hmm : s.nx = mm) : lappend tab 27 27 (gsv 3 (nm mm j) len) y (loc s n l) = some (.rs 3 (nm mm n) 0 (len + m), loc s (n + 1) (lput (ldel l j) n (.cells (c ++ new) (some 35)))) := ap27.trans (aappend_gs ty35 (by decide) (by decide) hy hm hn hl hc hb hmm)
@[go_sem] theorem bs27 {s : AHeap} {n : Nat} {parts : List (Nat × AV)} (hn : n = parts.length) (hs : seqp 3 0 parts) (hb : n ≤ 1000) : abuildSlice tab false 27 n parts s = some (.rs 3 s.nx 0 n, s.new (.cells ((parts.map (·.2)).flatMap AV.cells) (some 35))) := abuildSlice_seq ty27 rfl ty35 rfl rfl hn hs (show n * 3 ≤ 16777216 by omega)
@[go_sem] theorem len27g {b n : Nat} : alen tab 27 (gsv 3 b n) = some (.int .i64 n) := by unfold gsv; split <;> simp_all [alen, ty27]
@[go_sem] theorem len27f {xs : List AV} : alen tab 27 (fsv 3 xs) = some (.int .i64 xs.length) := by unfold fsv; split <;> simp_all [alen, ty27]
@[go_sem] theorem ld31 {x : AV} {s : AHeap} : aload tab 31 x s = (acellsAt s x).bind fun cs => cs[0]? := by rw [aload_one ty31 rfl]
@[go_sem] theorem st31 {b o : Nat} {v : AV} {s : AHeap} : astore tab 31 (.ptr b o) v s = astoreAt s b o 1 v := by rw [astore_ptr ty31]
@[go_sem] theorem fa35_0p {b o : Nat} : afieldAddr tab 35 (.ptr b o) 0 = some (.ptr b (o + 0)) := by simp [afieldAddr, ty35, Tab.size, ty3]
@[go_sem] theorem fa35_0r {l : List AV} : afieldAddr tab 35 (.rptr l) 0 = some (.rptr (l.drop 0)) := by simp [afieldAddr, ty35, Tab.size, ty3]
@[go_sem] theorem fa35_1p {b o : Nat} : afieldAddr tab 35 (.ptr b o) 1 = some (.ptr b (o + 1)) := by simp [afieldAddr, ty35, Tab.size, ty3]
@[go_sem] theorem fa35_1r {l : List AV} : afieldAddr tab 35 (.rptr l) 1 = some (.rptr (l.drop 1)) := by simp [afieldAddr, ty35, Tab.size, ty3]
@[go_sem] theorem fa35_2p {b o : Nat} : afieldAddr tab 35 (.ptr b o) 2 = some (.ptr b (o + 2)) := by simp [afieldAddr, ty35, Tab.size, ty9]
@[go_sem] theorem fa35_2r {l : List AV} : afieldAddr tab 35 (.rptr l) 2 = some (.rptr (l.drop 2)) := by simp [afieldAddr, ty35, Tab.size, ty9]
@[go_sem] theorem fd35_0 {a0 a1 a2 : AV} : afield tab 35 (.agg [a0, a1, a2]) 0 = some (a0) := by simp [afield, ty35, ty3, apart, TD.isAgg]
@[go_sem] theorem fd35_1 {a0 a1 a2 : AV} : afield tab 35 (.agg [a0, a1, a2]) 1 = some (a1) := by simp [afield, ty35, ty3, apart, TD.isAgg]
@[go_sem] theorem fd35_2 {a0 a1 a2 : AV} : afield tab 35 (.agg [a0, a1, a2]) 2 = some (a2) := by simp [afield, ty35, ty9, apart, TD.isAgg]
@[go_sem] theorem bd35 {parts : List (Nat × AV)} : abuild tab 35 parts = if parts.any (·.2.israw) = true then none else (afill (fun i => ([(0, 1), (1, 1), (2, 1)] : List (Nat × Nat))[i]?) [.int .i64 0, .int .i64 0, .str []] parts).map .agg := abuild_struct ty35 rfl rfl (by simp [Tab.size, ty3, ty9])
@[go_sem] theorem ld35 {x : AV} {s : AHeap} : aload tab 35 x s = (acellsAt s x).bind fun cs => if 3 ≤ cs.length then some (.agg (cs.take 3)) else none := by rw [aload_agg ty35 rfl]
@[go_sem] theorem st35 {b o : Nat} {v : AV} {s : AHeap} : astore tab 35 (.ptr b o) v s = astoreAt s b o 3 v := by rw [astore_ptr ty35]
@[go_sem] theorem ld63 {x : AV} {s : AHeap} : aload tab 63 x s = (acellsAt s x).bind fun cs => cs[0]? := by rw [aload_one ty63 rfl]
@[go_sem] theorem st63 {b o : Nat} {v : AV} {s : AHeap} : astore tab 63 (.ptr b o) v s = astoreAt s b o 1 v := by rw [astore_ptr ty63]
@[go_sem] theorem len63n : alen tab 63 .nils = some (.int .i64 0) := by simp [alen, ty63]
@[go_sem] theorem len63v {z : Nat} {f : Bool} {l : List AV} : alen tab 63 (.vs z f l) = some (.int .i64 l.length) := by simp [alen, ty63]
@[go_sem] theorem len63r {z b o n : Nat} : alen tab 63 (.rs z b o n) = some (.int .i64 n) := by simp [alen, ty63]
theorem ap63 {x y : AV} {s : AHeap} : lappend tab 63 63 x y s = aappend tab 9 s x y := by simp [lappend, ty63]
theorem app63 {s : AHeap} {n j len m : Nat} {l : List (Nat × Option AObj)} {y : AV} {c new : List AV} (hy : acellsOf (loc s n l) 1 y = some (new, m)) (hm : m ≠ 0) (hn : new.all AV.one = true) (hl : lget l j = gso 9 c) (hc : c.length = len * 1) (hb : (2 * (len + m) + 512) * 16 ≤ 281474976710656) {mm : Nat} (hmm : s.nx = mm) : lappend tab 63 63 (gsv 1 (nm mm j) len) y (loc s n l) = some (.rs 1 (nm mm n) 0 (len + m), loc s (n + 1) (lput (ldel l j) n (.cells (c ++ new) (some 9)))) := ap63.trans (aappend_gs ty9 (by decide) (by decide) hy hm hn hl hc hb hmm)
@[go_sem] theorem bs63 {s : AHeap} {n : Nat} {parts : List (Nat × AV)} (hn : n = parts.length) (hs : seqp 1 0 parts) (hb : n ≤ 1000) : abuildSlice tab false 63 n parts s = some (.rs 1 s.nx 0 n, s.new (.cells ((parts.map (·.2)).flatMap AV.cells) (some 9))) := abuildSlice_seq ty63 rfl ty9 rfl rfl hn hs (show n * 1 ≤ 16777216 by omega)
@[go_sem] theorem len63g {b n : Nat} : alen tab 63 (gsv 1 b n) = some (.int .i64 n) := by unfold gsv; split <;> simp_all [alen, ty63]
@[go_sem] theorem len63f {xs : List AV} : alen tab 63 (fsv 1 xs) = some (.int .i64 xs.length) := by unfold fsv; split <;> simp_all [alen, ty63]
@[go_sem] theorem ld107 {x : AV} {s : AHeap} : aload tab 107 x s = (acellsAt s x).bind fun cs => cs[0]? := by rw [aload_one ty107 rfl]
@[go_sem] theorem st107 {b o : Nat} {v : AV} {s : AHeap} : astore tab 107 (.ptr b o) v s = astoreAt s b o 1 v := by rw [astore_ptr ty107]
@[go_sem] theorem len107n : alen tab 107 .nils = some (.int .i64 0) := by simp [alen, ty107]
@[go_sem] theorem len107v {z : Nat} {f : Bool} {l : List AV} : alen tab 107 (.vs z f l) = some (.int .i64 l.length) := by simp [alen, ty107]
@[go_sem] theorem len107r {z b o n : Nat} : alen tab 107 (.rs z b o n) = some (.int .i64 n) := by simp [alen, ty107]
theorem ap107 {x y : AV} {s : AHeap} : lappend tab 107 107 x y s = aappend tab 31 s x y := by simp [lappend, ty107]
theorem app107 {s : AHeap} {n j len m : Nat} {l : List (Nat × Option AObj)} {y : AV} {c new : List AV} (hy : acellsOf (loc s n l) 1 y = some (new, m)) (hm : m ≠ 0) (hn : new.all AV.one = true) (hl : lget l j = gso 31 c) (hc : c.length = len * 1) (hb : (2 * (len + m) + 512) * 8 ≤ 281474976710656) {mm : Nat} (hmm : s.nx = mm) : lappend tab 107 107 (gsv 1 (nm mm j) len) y (loc s n l) = some (.rs 1 (nm mm n) 0 (len + m), loc s (n + 1) (lput (ldel l j) n (.cells (c ++ new) (some 31)))) := ap107.trans (aappend_gs ty31 (by decide) (by decide) hy hm hn hl hc hb hmm)
@[go_sem] theorem bs107 {s : AHeap} {n : Nat} {parts : List (Nat × AV)} (hn : n = parts.length) (hs : seqp 1 0 parts) (hb : n ≤ 1000) : abuildSlice tab false 107 n parts s = some (.rs 1 s.nx 0 n, s.new (.cells ((parts.map (·.2)).flatMap AV.cells) (some 31))) := abuildSlice_seq ty107 rfl ty31 rfl rfl hn hs (show n * 1 ≤ 16777216 by omega)
@[go_sem] theorem len107g {b n : Nat} : alen tab 107 (gsv 1 b n) = some (.int .i64 n) := by unfold gsv; split <;> simp_all [alen, ty107]
@[go_sem] theorem len107f {xs : List AV} : alen tab 107 (fsv 1 xs) = some (.int .i64 xs.length) := by unfold fsv; split <;> simp_all [alen, ty107]
@[go_sem] theorem ld112 {x : AV} {s : AHeap} : aload tab 112 x s = (acellsAt s x).bind fun cs => cs[0]? := by rw [aload_one ty112 rfl]
@[go_sem] theorem st112 {b o : Nat} {v : AV} {s : AHeap} : astore tab 112 (.ptr b o) v s = astoreAt s b o 1 v := by rw [astore_ptr ty112]
@[go_sem] theorem ld113 {x : AV} {s : AHeap} : aload tab 113 x s = (acellsAt s x).bind fun cs => cs[0]? := by rw [aload_one ty113 rfl]
@[go_sem] theorem st113 {b o : Nat} {v : AV} {s : AHeap} : astore tab 113 (.ptr b o) v s = astoreAt s b o 1 v := by rw [astore_ptr ty113]
@[go_sem] theorem len113n : alen tab 113 .nils = some (.int .i64 0) := by simp [alen, ty113]
@[go_sem] theorem len113v {z : Nat} {f : Bool} {l : List AV} : alen tab 113 (.vs z f l) = some (.int .i64 l.length) := by simp [alen, ty113]
@[go_sem] theorem len113r {z b o n : Nat} : alen tab 113 (.rs z b o n) = some (.int .i64 n) := by simp [alen, ty113]
theorem ap113 {x y : AV} {s : AHeap} : lappend tab 113 113 x y s = aappend tab 5 s x y := by simp [lappend, ty113]
theorem app113 {s : AHeap} {n j len m : Nat} {l : List (Nat × Option AObj)} {y : AV} {c new : List AV} (hy : acellsOf (loc s n l) 1 y = some (new, m)) (hm : m ≠ 0) (hn : new.all AV.one = true) (hl : lget l j = gso 5 c) (hc : c.length = len * 1) (hb : (2 * (len + m) + 512) * 1 ≤ 281474976710656) {mm : Nat} (hmm : s.nx = mm) : lappend tab 113 113 (gsv 1 (nm mm j) len) y (loc s n l) = some (.rs 1 (nm mm n) 0 (len + m), loc s (n + 1) (lput (ldel l j) n (.cells (c ++ new) (some 5)))) := ap113.trans (aappend_gs ty5 (by decide) (by decide) hy hm hn hl hc hb hmm)
@[go_sem] theorem bs113 {s : AHeap} {n : Nat} {parts : List (Nat × AV)} (hn : n = parts.length) (hs : seqp 1 0 parts) (hb : n ≤ 1000) : abuildSlice tab false 113 n parts s = some (.rs 1 s.nx 0 n, s.new (.cells ((parts.map (·.2)).flatMap AV.cells) (some 5))) := abuildSlice_seq ty113 rfl ty5 rfl rfl hn hs (show n * 1 ≤ 16777216 by omega)
@[go_sem] theorem len113g {b n : Nat} : alen tab 113 (gsv 1 b n) = some (.int .i64 n) := by unfold gsv; split <;> simp_all [alen, ty113]
@[go_sem] theorem len113f {xs : List AV} : alen tab 113 (fsv 1 xs) = some (.int .i64 xs.length) := by unfold fsv; split <;> simp_all [alen, ty113]
@[go_sem] theorem fa115_0p {b o : Nat} : afieldAddr tab 115 (.ptr b o) 0 = some (.ptr b (o + 0)) := by simp [afieldAddr, ty115, Tab.size, ty112]
@[go_sem] theorem fa115_0r {l : List AV} : afieldAddr tab 115 (.rptr l) 0 = some (.rptr (l.drop 0)) := by simp [afieldAddr, ty115, Tab.size, ty112]
@[go_sem] theorem fa115_1p {b o : Nat} : afieldAddr tab 115 (.ptr b o) 1 = some (.ptr b (o + 1)) := by simp [afieldAddr, ty115, Tab.size, ty113]
@[go_sem] theorem fa115_1r {l : List AV} : afieldAddr tab 115 (.rptr l) 1 = some (.rptr (l.drop 1)) := by simp [afieldAddr, ty115, Tab.size, ty113]
@[go_sem] theorem fd115_0 {a0 a1 : AV} : afield tab 115 (.agg [a0, a1]) 0 = some (a0) := by simp [afield, ty115, ty112, apart, TD.isAgg]
@[go_sem] theorem fd115_1 {a0 a1 : AV} : afield tab 115 (.agg [a0, a1]) 1 = some (a1) := by simp [afield, ty115, ty113, apart, TD.isAgg]
@[go_sem] theorem bd115 {parts : List (Nat × AV)} : abuild tab 115 parts = if parts.any (·.2.israw) = true then none else (afill (fun i => ([(0, 1), (1, 1)] : List (Nat × Nat))[i]?) [.nilp, .nils] parts).map .agg := abuild_struct ty115 rfl rfl (by simp [Tab.size, ty112, ty113])
@[go_sem] theorem ld115 {x : AV} {s : AHeap} : aload tab 115 x s = (acellsAt s x).bind fun cs => if 2 ≤ cs.length then some (.agg (cs.take 2)) else none := by rw [aload_agg ty115 rfl]
@[go_sem] theorem st115 {b o : Nat} {v : AV} {s : AHeap} : astore tab 115 (.ptr b o) v s = astoreAt s b o 2 v := by rw [astore_ptr ty115]
@[go_sem] theorem ld116 {x : AV} {s : AHeap} : aload tab 116 x s = (acellsAt s x).bind fun cs => cs[0]? := by rw [aload_one ty116 rfl]
@[go_sem] theorem st116 {b o : Nat} {v : AV} {s : AHeap} : astore tab 116 (.ptr b o) v s = astoreAt s b o 1 v := by rw [astore_ptr ty116]
@[go_sem] theorem len116n : alen tab 116 .nils = some (.int .i64 0) := by simp [alen, ty116]
@[go_sem] theorem len116v {z : Nat} {f : Bool} {l : List AV} : alen tab 116 (.vs z f l) = some (.int .i64 l.length) := by simp [alen, ty116]
@[go_sem] theorem len116r {z b o n : Nat} : alen tab 116 (.rs z b o n) = some (.int .i64 n) := by simp [alen, ty116]
theorem ap116 {x y : AV} {s : AHeap} : lappend tab 116 116 x y s = aappend tab 121 s x y := by simp [lappend, ty116]
theorem app116 {s : AHeap} {n j len m : Nat} {l : List (Nat × Option AObj)} {y : AV} {c new : List AV} (hy : acellsOf (loc s n l) 2 y = some (new, m)) (hm : m ≠ 0) (hn : new.all AV.one = true) (hl : lget l j = gso 121 c) (hc : c.length = len * 2) (hb : (2 * (len + m) + 512) * 16 ≤ 281474976710656) {mm : Nat} (hmm : s.nx = mm) : lappend tab 116 116 (gsv 2 (nm mm j) len) y (loc s n l) = some (.rs 2 (nm mm n) 0 (len + m), loc s (n + 1) (lput (ldel l j) n (.cells (c ++ new) (some 121)))) := ap116.trans (aappend_gs ty121 (by decide) (by decide) hy hm hn hl hc hb hmm)
@[go_sem] theorem bs116 {s : AHeap} {n : Nat} {parts : List (Nat × AV)} (hn : n = parts.length) (hs : seqp 2 0 parts) (hb : n ≤ 1000) : abuildSlice tab false 116 n parts s = some (.rs 2 s.nx 0 n, s.new (.cells ((parts.map (·.2)).flatMap AV.cells) (some 121))) := abuildSlice_seq ty116 rfl ty121 rfl rfl hn hs (show n * 2 ≤ 16777216 by omega)
@[go_sem] theorem len116g {b n : Nat} : alen tab 116 (gsv 2 b n) = some (.int .i64 n) := by unfold gsv; split <;> simp_all [alen, ty116]
@[go_sem] theorem len116f {xs : List AV} : alen tab 116 (fsv 2 xs) = some (.int .i64 xs.length) := by unfold fsv; split <;> simp_all [alen, ty116]
@[go_sem] theorem fa117_0p {b o : Nat} : afieldAddr tab 117 (.ptr b o) 0 = some (.ptr b (o + 0)) := by simp [afieldAddr, ty117, Tab.size, ty3]
@[go_sem] theorem fa117_0r {l : List AV} : afieldAddr tab 117 (.rptr l) 0 = some (.rptr (l.drop 0)) := by simp [afieldAddr, ty117, Tab.size, ty3]
@[go_sem] theorem fa117_1p {b o : Nat} : afieldAddr tab 117 (.ptr b o) 1 = some (.ptr b (o + 1)) := by simp [afieldAddr, ty117, Tab.size, ty116]
@[go_sem] theorem fa117_1r {l : List AV} : afieldAddr tab 117 (.rptr l) 1 = some (.rptr (l.drop 1)) := by simp [afieldAddr, ty117, Tab.size, ty116]
@[go_sem] theorem fd117_0 {a0 a1 : AV} : afield tab 117 (.agg [a0, a1]) 0 = some (a0) := by simp [afield, ty117, ty3, apart, TD.isAgg]
@[go_sem] theorem fd117_1 {a0 a1 : AV} : afield tab 117 (.agg [a0, a1]) 1 = some (a1) := by simp [afield, ty117, ty116, apart, TD.isAgg]
@[go_sem] theorem bd117 {parts : List (Nat × AV)} : abuild tab 117 parts = if parts.any (·.2.israw) = true then none else (afill (fun i => ([(0, 1), (1, 1)] : List (Nat × Nat))[i]?) [.int .i64 0, .nils] parts).map .agg := abuild_struct ty117 rfl rfl (by simp [Tab.size, ty116, ty3])
@[go_sem] theorem ld117 {x : AV} {s : AHeap} : aload tab 117 x s = (acellsAt s x).bind fun cs => if 2 ≤ cs.length then some (.agg (cs.take 2)) else none := by rw [aload_agg ty117 rfl]
@[go_sem] theorem st117 {b o : Nat} {v : AV} {s : AHeap} : astore tab 117 (.ptr b o) v s = astoreAt s b o 2 v := by rw [astore_ptr ty117]
@[go_sem] theorem fa118_0p {b o : Nat} : afieldAddr tab 118 (.ptr b o) 0 = some (.ptr b (o + 0)) := by simp [afieldAddr, ty118, Tab.size, ty3]
@[go_sem] theorem fa118_0r {l : List AV} : afieldAddr tab 118 (.rptr l) 0 = some (.rptr (l.drop 0)) := by simp [afieldAddr, ty118, Tab.size, ty3]
@[go_sem] theorem fa118_1p {b o : Nat} : afieldAddr tab 118 (.ptr b o) 1 = some (.ptr b (o + 1)) := by simp [afieldAddr, ty118, Tab.size, ty116]
@[go_sem] theorem fa118_1r {l : List AV} : afieldAddr tab 118 (.rptr l) 1 = some (.rptr (l.drop 1)) := by simp [afieldAddr, ty118, Tab.size, ty116]
@[go_sem] theorem fd118_0 {a0 a1 : AV} : afield tab 118 (.agg [a0, a1]) 0 = some (a0) := by simp [afield, ty118, ty3, apart, TD.isAgg]
@[go_sem] theorem fd118_1 {a0 a1 : AV} : afield tab 118 (.agg [a0, a1]) 1 = some (a1) := by simp [afield, ty118, ty116, apart, TD.isAgg]
@[go_sem] theorem bd118 {parts : List (Nat × AV)} : abuild tab 118 parts = if parts.any (·.2.israw) = true then none else (afill (fun i => ([(0, 1), (1, 1)] : List (Nat × Nat))[i]?) [.int .i64 0, .nils] parts).map .agg := abuild_struct ty118 rfl rfl (by simp [Tab.size, ty116, ty3])
@[go_sem] theorem ld118 {x : AV} {s : AHeap} : aload tab 118 x s = (acellsAt s x).bind fun cs => if 2 ≤ cs.length then some (.agg (cs.take 2)) else none := by rw [aload_agg ty118 rfl]
@[go_sem] theorem st118 {b o : Nat} {v : AV} {s : AHeap} : astore tab 118 (.ptr b o) v s = astoreAt s b o 2 v := by rw [astore_ptr ty118]
@[go_sem] theorem ld119 {x : AV} {s : AHeap} : aload tab 119 x s = (acellsAt s x).bind fun cs => cs[0]? := by rw [aload_one ty119 rfl]
@[go_sem] theorem st119 {b o : Nat} {v : AV} {s : AHeap} : astore tab 119 (.ptr b o) v s = astoreAt s b o 1 v := by rw [astore_ptr ty119]
@[go_sem] theorem fa121_0p {b o : Nat} : afieldAddr tab 121 (.ptr b o) 0 = some (.ptr b (o + 0)) := by simp [afieldAddr, ty121, Tab.size, ty3]
@[go_sem] theorem fa121_0r {l : List AV} : afieldAddr tab 121 (.rptr l) 0 = some (.rptr (l.drop 0)) := by simp [afieldAddr, ty121, Tab.size, ty3]
@[go_sem] theorem fa121_1p {b o : Nat} : afieldAddr tab 121 (.ptr b o) 1 = some (.ptr b (o + 1)) := by simp [afieldAddr, ty121, Tab.size, ty5]
@[go_sem] theorem fa121_1r {l : List AV} : afieldAddr tab 121 (.rptr l) 1 = some (.rptr (l.drop 1)) := by simp [afieldAddr, ty121, Tab.size, ty5]
@[go_sem] theorem fd121_0 {a0 a1 : AV} : afield tab 121 (.agg [a0, a1]) 0 = some (a0) := by simp [afield, ty121, ty3, apart, TD.isAgg]
@[go_sem] theorem fd121_1 {a0 a1 : AV} : afield tab 121 (.agg [a0, a1]) 1 = some (a1) := by simp [afield, ty121, ty5, apart, TD.isAgg]
@[go_sem] theorem bd121 {parts : List (Nat × AV)} : abuild tab 121 parts = if parts.any (·.2.israw) = true then none else (afill (fun i => ([(0, 1), (1, 1)] : List (Nat × Nat))[i]?) [.int .i64 0, .int .u8 0] parts).map .agg := abuild_struct ty121 rfl rfl (by simp [Tab.size, ty3, ty5])
@[go_sem] theorem ld121 {x : AV} {s : AHeap} : aload tab 121 x s = (acellsAt s x).bind fun cs => if 2 ≤ cs.length then some (.agg (cs.take 2)) else none := by rw [aload_agg ty121 rfl]
@[go_sem] theorem st121 {b o : Nat} {v : AV} {s : AHeap} : astore tab 121 (.ptr b o) v s = astoreAt s b o 2 v := by rw [astore_ptr ty121]
end Go.S1N
end
section
set_option linter.unusedVariables false
set_option linter.unusedSimpArgs false
/- Calls gone through with steps of the mind: written by gocode.py, a program of this work. -/
namespace Go.S1N
open Go Go.Am Go.Proofs Go.S1
set_option maxRecDepth 100000

theorem gob3 {args : List AV} {s : AHeap} {R : AV → AHeap → Prop} (hl : args.length ≤ 106) (h : ∀ tm, tm.length = 106 → (∀ i, aev tm (.tmp i) = args.getD i aundef) → lvb Try.prog tab s L3 (lpostB tab s [ResultVar.tmp 2] R) tm (loc s 0 [])) : ACall Try.prog 3 args s R := ACall.goB tab_ok mixed Try.func3 l3 nm3 rs3 nt3 hl h
theorem gob8 {args : List AV} {s : AHeap} {R : AV → AHeap → Prop} (hl : args.length ≤ 18) (h : ∀ tm, tm.length = 18 → (∀ i, aev tm (.tmp i) = args.getD i aundef) → lvb Try.prog tab s L8 (lpostB tab s [ResultVar.tmp 4] R) tm (loc s 0 [])) : ACall Try.prog 8 args s R := ACall.goB tab_ok mixed Try.func8 l8 nm8 rs8 nt8 hl h
theorem gob9 {args : List AV} {s : AHeap} {R : AV → AHeap → Prop} (hl : args.length ≤ 61) (h : ∀ tm, tm.length = 61 → (∀ i, aev tm (.tmp i) = args.getD i aundef) → lvb Try.prog tab s L9 (lpostB tab s [ResultVar.tmp 4] R) tm (loc s 0 [])) : ACall Try.prog 9 args s R := ACall.goB tab_ok mixed Try.func9 l9 nm9 rs9 nt9 hl h
theorem gob10 {args : List AV} {s : AHeap} {R : AV → AHeap → Prop} (hl : args.length ≤ 19) (h : ∀ tm, tm.length = 19 → (∀ i, aev tm (.tmp i) = args.getD i aundef) → lvb Try.prog tab s L10 (lpostB tab s [ResultVar.tmp 6] R) tm (loc s 0 [])) : ACall Try.prog 10 args s R := ACall.goB tab_ok mixed Try.func10 l10 nm10 rs10 nt10 hl h
theorem gob11 {args : List AV} {s : AHeap} {R : AV → AHeap → Prop} (hl : args.length ≤ 9) (h : ∀ tm, tm.length = 9 → (∀ i, aev tm (.tmp i) = args.getD i aundef) → lvb Try.prog tab s L11 (lpostB tab s [ResultVar.tmp 4] R) tm (loc s 0 [])) : ACall Try.prog 11 args s R := ACall.goB tab_ok mixed Try.func11 l11 nm11 rs11 nt11 hl h
theorem gob12 {args : List AV} {s : AHeap} {R : AV → AHeap → Prop} (hl : args.length ≤ 69) (h : ∀ tm, tm.length = 69 → (∀ i, aev tm (.tmp i) = args.getD i aundef) → lvb Try.prog tab s L12 (lpostB tab s [ResultVar.tmp 8, ResultVar.tmp 9] R) tm (loc s 0 [])) : ACall Try.prog 12 args s R := ACall.goB tab_ok mixed Try.func12 l12 nm12 rs12 nt12 hl h
theorem gob13 {args : List AV} {s : AHeap} {R : AV → AHeap → Prop} (hl : args.length ≤ 56) (h : ∀ tm, tm.length = 56 → (∀ i, aev tm (.tmp i) = args.getD i aundef) → lvb Try.prog tab s L13 (lpostB tab s [ResultVar.cell 4 35, ResultVar.tmp 5, ResultVar.tmp 6] R) tm (loc s 0 [])) : ACall Try.prog 13 args s R := ACall.goB tab_ok mixed Try.func13 l13 nm13 rs13 nt13 hl h
theorem gob14 {args : List AV} {s : AHeap} {R : AV → AHeap → Prop} (hl : args.length ≤ 70) (h : ∀ tm, tm.length = 70 → (∀ i, aev tm (.tmp i) = args.getD i aundef) → lvb Try.prog tab s L14 (lpostB tab s [ResultVar.tmp 4] R) tm (loc s 0 [])) : ACall Try.prog 14 args s R := ACall.goB tab_ok mixed Try.func14 l14 nm14 rs14 nt14 hl h
theorem gob15 {args : List AV} {s : AHeap} {R : AV → AHeap → Prop} (hl : args.length ≤ 15) (h : ∀ tm, tm.length = 15 → (∀ i, aev tm (.tmp i) = args.getD i aundef) → lvb Try.prog tab s L15 (lpostB tab s [ResultVar.tmp 2] R) tm (loc s 0 [])) : ACall Try.prog 15 args s R := ACall.goB tab_ok mixed Try.func15 l15 nm15 rs15 nt15 hl h
theorem gob16 {args : List AV} {s : AHeap} {R : AV → AHeap → Prop} (hl : args.length ≤ 7) (h : ∀ tm, tm.length = 7 → (∀ i, aev tm (.tmp i) = args.getD i aundef) → lvb Try.prog tab s L16 (lpostB tab s [ResultVar.tmp 4] R) tm (loc s 0 [])) : ACall Try.prog 16 args s R := ACall.goB tab_ok mixed Try.func16 l16 nm16 rs16 nt16 hl h
theorem gob17 {args : List AV} {s : AHeap} {R : AV → AHeap → Prop} (hl : args.length ≤ 59) (h : ∀ tm, tm.length = 59 → (∀ i, aev tm (.tmp i) = args.getD i aundef) → lvb Try.prog tab s L17 (lpostB tab s [ResultVar.tmp 8] R) tm (loc s 0 [])) : ACall Try.prog 17 args s R := ACall.goB tab_ok mixed Try.func17 l17 nm17 rs17 nt17 hl h
theorem gob18 {args : List AV} {s : AHeap} {R : AV → AHeap → Prop} (hl : args.length ≤ 50) (h : ∀ tm, tm.length = 50 → (∀ i, aev tm (.tmp i) = args.getD i aundef) → lvb Try.prog tab s L18 (lpostB tab s [ResultVar.cell 6 35, ResultVar.tmp 7] R) tm (loc s 0 [])) : ACall Try.prog 18 args s R := ACall.goB tab_ok mixed Try.func18 l18 nm18 rs18 nt18 hl h
theorem gob19 {args : List AV} {s : AHeap} {R : AV → AHeap → Prop} (hl : args.length ≤ 15) (h : ∀ tm, tm.length = 15 → (∀ i, aev tm (.tmp i) = args.getD i aundef) → lvb Try.prog tab s L19 (lpostB tab s [ResultVar.tmp 0] R) tm (loc s 0 [])) : ACall Try.prog 19 args s R := ACall.goB tab_ok mixed Try.func19 l19 nm19 rs19 nt19 hl h
theorem gob20 {args : List AV} {s : AHeap} {R : AV → AHeap → Prop} (hl : args.length ≤ 12) (h : ∀ tm, tm.length = 12 → (∀ i, aev tm (.tmp i) = args.getD i aundef) → lvb Try.prog tab s L20 (lpostB tab s [ResultVar.tmp 4] R) tm (loc s 0 [])) : ACall Try.prog 20 args s R := ACall.goB tab_ok mixed Try.func20 l20 nm20 rs20 nt20 hl h
theorem gob21 {args : List AV} {s : AHeap} {R : AV → AHeap → Prop} (hl : args.length ≤ 16) (h : ∀ tm, tm.length = 16 → (∀ i, aev tm (.tmp i) = args.getD i aundef) → lvb Try.prog tab s L21 (lpostB tab s [ResultVar.tmp 4, ResultVar.tmp 5] R) tm (loc s 0 [])) : ACall Try.prog 21 args s R := ACall.goB tab_ok mixed Try.func21 l21 nm21 rs21 nt21 hl h
theorem gob26 {args : List AV} {s : AHeap} {R : AV → AHeap → Prop} (hl : args.length ≤ 31) (h : ∀ tm, tm.length = 31 → (∀ i, aev tm (.tmp i) = args.getD i aundef) → lvb Try.prog tab s L26 (lpostB tab s [ResultVar.tmp 4] R) tm (loc s 0 [])) : ACall Try.prog 26 args s R := ACall.goB tab_ok mixed Try.func26 l26 nm26 rs26 nt26 hl h
theorem gob31 {args : List AV} {s : AHeap} {R : AV → AHeap → Prop} (hl : args.length ≤ 62) (h : ∀ tm, tm.length = 62 → (∀ i, aev tm (.tmp i) = args.getD i aundef) → lvb Try.prog tab s L31 (lpostB tab s [ResultVar.tmp 4] R) tm (loc s 0 [])) : ACall Try.prog 31 args s R := ACall.goB tab_ok mixed Try.func31 l31 nm31 rs31 nt31 hl h
theorem gob66 {args : List AV} {s : AHeap} {R : AV → AHeap → Prop} (hl : args.length ≤ 12) (h : ∀ tm, tm.length = 12 → (∀ i, aev tm (.tmp i) = args.getD i aundef) → lvb Try.prog tab s L66 (lpostB tab s [ResultVar.tmp 4] R) tm (loc s 0 [])) : ACall Try.prog 66 args s R := ACall.goB tab_ok mixed Try.func66 l66 nm66 rs66 nt66 hl h
theorem gob67 {args : List AV} {s : AHeap} {R : AV → AHeap → Prop} (hl : args.length ≤ 39) (h : ∀ tm, tm.length = 39 → (∀ i, aev tm (.tmp i) = args.getD i aundef) → lvb Try.prog tab s L67 (lpostB tab s [ResultVar.cell 4 35] R) tm (loc s 0 [])) : ACall Try.prog 67 args s R := ACall.goB tab_ok mixed Try.func67 l67 nm67 rs67 nt67 hl h
theorem gob68 {args : List AV} {s : AHeap} {R : AV → AHeap → Prop} (hl : args.length ≤ 64) (h : ∀ tm, tm.length = 64 → (∀ i, aev tm (.tmp i) = args.getD i aundef) → lvb Try.prog tab s L68 (lpostB tab s [ResultVar.tmp 4] R) tm (loc s 0 [])) : ACall Try.prog 68 args s R := ACall.goB tab_ok mixed Try.func68 l68 nm68 rs68 nt68 hl h
theorem gob69 {args : List AV} {s : AHeap} {R : AV → AHeap → Prop} (hl : args.length ≤ 12) (h : ∀ tm, tm.length = 12 → (∀ i, aev tm (.tmp i) = args.getD i aundef) → lvb Try.prog tab s L69 (lpostB tab s [ResultVar.tmp 4] R) tm (loc s 0 [])) : ACall Try.prog 69 args s R := ACall.goB tab_ok mixed Try.func69 l69 nm69 rs69 nt69 hl h
theorem gob70 {args : List AV} {s : AHeap} {R : AV → AHeap → Prop} (hl : args.length ≤ 35) (h : ∀ tm, tm.length = 35 → (∀ i, aev tm (.tmp i) = args.getD i aundef) → lvb Try.prog tab s L70 (lpostB tab s [ResultVar.tmp 4] R) tm (loc s 0 [])) : ACall Try.prog 70 args s R := ACall.goB tab_ok mixed Try.func70 l70 nm70 rs70 nt70 hl h
theorem gob71 {args : List AV} {s : AHeap} {R : AV → AHeap → Prop} (hl : args.length ≤ 15) (h : ∀ tm, tm.length = 15 → (∀ i, aev tm (.tmp i) = args.getD i aundef) → lvb Try.prog tab s L71 (lpostB tab s [ResultVar.tmp 6] R) tm (loc s 0 [])) : ACall Try.prog 71 args s R := ACall.goB tab_ok mixed Try.func71 l71 nm71 rs71 nt71 hl h
theorem gob72 {args : List AV} {s : AHeap} {R : AV → AHeap → Prop} (hl : args.length ≤ 23) (h : ∀ tm, tm.length = 23 → (∀ i, aev tm (.tmp i) = args.getD i aundef) → lvb Try.prog tab s L72 (lpostB tab s [ResultVar.tmp 4] R) tm (loc s 0 [])) : ACall Try.prog 72 args s R := ACall.goB tab_ok mixed Try.func72 l72 nm72 rs72 nt72 hl h
theorem gob74 {args : List AV} {s : AHeap} {R : AV → AHeap → Prop} (hl : args.length ≤ 51) (h : ∀ tm, tm.length = 51 → (∀ i, aev tm (.tmp i) = args.getD i aundef) → lvb Try.prog tab s L74 (lpostB tab s [ResultVar.cell 4 118] R) tm (loc s 0 [])) : ACall Try.prog 74 args s R := ACall.goB tab_ok mixed Try.func74 l74 nm74 rs74 nt74 hl h
theorem gob75 {args : List AV} {s : AHeap} {R : AV → AHeap → Prop} (hl : args.length ≤ 17) (h : ∀ tm, tm.length = 17 → (∀ i, aev tm (.tmp i) = args.getD i aundef) → lvb Try.prog tab s L75 (lpostB tab s [ResultVar.tmp 4] R) tm (loc s 0 [])) : ACall Try.prog 75 args s R := ACall.goB tab_ok mixed Try.func75 l75 nm75 rs75 nt75 hl h
theorem gob76 {args : List AV} {s : AHeap} {R : AV → AHeap → Prop} (hl : args.length ≤ 14) (h : ∀ tm, tm.length = 14 → (∀ i, aev tm (.tmp i) = args.getD i aundef) → lvb Try.prog tab s L76 (lpostB tab s [ResultVar.tmp 2] R) tm (loc s 0 [])) : ACall Try.prog 76 args s R := ACall.goB tab_ok mixed Try.func76 l76 nm76 rs76 nt76 hl h
theorem gob80 {args : List AV} {s : AHeap} {R : AV → AHeap → Prop} (hl : args.length ≤ 15) (h : ∀ tm, tm.length = 15 → (∀ i, aev tm (.tmp i) = args.getD i aundef) → lvb Try.prog tab s L80 (lpostB tab s [ResultVar.tmp 6] R) tm (loc s 0 [])) : ACall Try.prog 80 args s R := ACall.goB tab_ok mixed Try.func80 l80 nm80 rs80 nt80 hl h
theorem gob101 {args : List AV} {s : AHeap} {R : AV → AHeap → Prop} (hl : args.length ≤ 19) (h : ∀ tm, tm.length = 19 → (∀ i, aev tm (.tmp i) = args.getD i aundef) → lvb Try.prog tab s L101 (lpostB tab s [ResultVar.tmp 4, ResultVar.tmp 5] R) tm (loc s 0 [])) : ACall Try.prog 101 args s R := ACall.goB tab_ok mixed Try.func101 l101 nm101 rs101 nt101 hl h
theorem gob116 {args : List AV} {s : AHeap} {R : AV → AHeap → Prop} (hl : args.length ≤ 16) (h : ∀ tm, tm.length = 16 → (∀ i, aev tm (.tmp i) = args.getD i aundef) → lvb Try.prog tab s L116 (lpostB tab s [ResultVar.tmp 4] R) tm (loc s 0 [])) : ACall Try.prog 116 args s R := ACall.goB tab_ok mixed Try.func116 l116 nm116 rs116 nt116 hl h
theorem gob119 {args : List AV} {s : AHeap} {R : AV → AHeap → Prop} (hl : args.length ≤ 16) (h : ∀ tm, tm.length = 16 → (∀ i, aev tm (.tmp i) = args.getD i aundef) → lvb Try.prog tab s L119 (lpostB tab s [] R) tm (loc s 0 [])) : ACall Try.prog 119 args s R := ACall.goB tab_ok mixed Try.func119 l119 nm119 rs119 nt119 hl h
theorem gob120 {args : List AV} {s : AHeap} {R : AV → AHeap → Prop} (hl : args.length ≤ 20) (h : ∀ tm, tm.length = 20 → (∀ i, aev tm (.tmp i) = args.getD i aundef) → lvb Try.prog tab s L120 (lpostB tab s [] R) tm (loc s 0 [])) : ACall Try.prog 120 args s R := ACall.goB tab_ok mixed Try.func120 l120 nm120 rs120 nt120 hl h
end Go.S1N
end
section
set_option linter.unusedVariables false
set_option linter.unusedSimpArgs false
namespace Go.S1N
open Go Go.Am Go.Proofs Go.S1
set_option maxRecDepth 100000
set_option linter.unusedSimpArgs false

/-- a contract whose value holds no names leaves the heap as it was -/
theorem exact_of {P : Program} {f : FuncId} {args : List AV} {s : AHeap} {v : AV} (hv : Pu v) (h : ACall P f args s fun r t => r = v ∧ Sub s t) : ACall P f args s fun r t => r = v ∧ t = s := by
  refine h.clean ?_
  rintro r t ⟨rfl, ht⟩ B hB K w us hw hvs hx
  have hlt : ∀ b o, s.get b = some o → b < s.nx := by
    intro b o h
    obtain ⟨rfl, hBw⟩ := hB
    obtain ⟨g, base, q1, _⟩ := hBw.own b o h
    exact (hBw.bnd _ _ _ q1).1
  obtain ⟨K', h1, h2, h3⟩ := rename_core (s' := s) hB hw hx (f := fun b => if b < s.nx then b else b + t.nx) (fun b hb => if_pos hb) (by intro b hb; rw [if_neg (by omega)]; omega) (Nat.le_refl _)
    (fun b o h => .inr ⟨hlt b o h, ht.2 b o (hlt b o h) h, h⟩)
    (by intro b b' o o' h h' e; rwa [if_pos (hlt b o h), if_pos (hlt b' o' h')] at e)
  cases hvs with
  | cons _ u _ us hu hs' =>
    cases hs'
    refine ⟨K', [r], s, h1, .cons _ _ _ _ (h3 _ _ ?_) .nil, h2, r, rfl, rfl, rfl⟩
    rw [ren_pu hv]
    exact hu

theorem _root_.Go.S1.Ed.pu (e : Ed) : Pu e.enc := by simp only [Pu, Ed.enc, low, lowL, and_self]
theorem _root_.Go.S1.SlE.pu {v : AV} {l : List Ed} (h : SlE v l) : Pu v := by
  rcases h with ⟨f, rfl⟩ | ⟨rfl, rfl⟩
  · simp only [Pu, low, lowL_iff, List.mem_map]
    rintro x ⟨e, _, rfl⟩
    exact Ed.pu e
  · simp only [Pu, low]
end Go.S1N
end
section
set_option linter.unusedVariables false
set_option linter.unusedSimpArgs false
namespace Go.S1N
open Go Go.Am Go.Proofs Go.S1
set_option maxRecDepth 100000
set_option linter.unusedSimpArgs false
attribute [local irreducible] lopsB lvb lstepB lfunG lcondB lguardB ldrawB ldrunB ldstepB ldguardB lmem lval ldmem ldval ldfun lexit ldloadB ldlenB lpostB athen ablock

theorem applyOf_exact (x : List UInt8) (v : AV) (l : List Ed) (hv : SlE v l) (hl : l.length ≤ 2000) (hx : x.length ≤ 20000) (hnew : ∀ e ∈ l, e.new.length ≤ 100000) (hsc : scan x.length (-1) l = 0) (s : AHeap) :
    ACall Try.prog 26 [.str x, v] s fun r t => r = .str (applyFrom x 0 l) ∧ t = s := exact_of (by simp only [Pu, low]) (applyOf_ok x v l hv hl hx hnew hsc s)

theorem scan_range {n : Int} : ∀ (l : List Ed) (B : Int), scan n B l = 0 → ∀ z ∈ l, 0 ≤ z.at_ ∧ 0 ≤ z.cut ∧ z.at_ ≤ n ∧ z.cut ≤ n
  | [], B, _, z, hz => by cases hz
  | a :: l, B, h, z, hz => by
    obtain ⟨d1, d2, d3, d4, d5, d6⟩ := scan_cons h
    rcases List.mem_cons.1 hz with rfl | hz
    · omega
    · exact scan_range l _ d6 z hz

/-- the hull of right arguments -/
def hullOf (x : List UInt8) (l : List Ed) : Ed × Bool := if l = [] then (⟨0, 0, []⟩, false) else (hullEd x l, true)

theorem hullOf_ok (x : List UInt8) (v : AV) (l : List Ed) (hv : SlE v l) (hl : l.length ≤ 2000) (hx : x.length ≤ 20000) (hnew : ∀ e ∈ l, e.new.length ≤ 100000) (hsc : scan x.length (-1) l = 0) (s : AHeap) :
    ACall Try.prog 18 [.int .i64 x.length, v, .str x] s fun r t => r = .tuple [(hullOf x l).1.enc, .bool (hullOf x l).2] ∧ t = s := by
  refine gob18 (by simp) ?_
  intro tm hlen harg
  simp (config := { contextual := true }) only [go_sem, L18, hlen, harg, hv.len, build35_0, lcondB_decide, lcondB_not, lguardB_decide_true, lguardB_decide_false, Nat.reduceLT, Nat.reduceEqDiff, Nat.reduceAdd, Nat.reduceLeDiff, reduceIte, reduceCtorEq]
  refine ⟨fun h0 => ?_, fun h0 => ?_⟩
  · have hl0 : l = [] := List.eq_nil_of_length_eq_zero (by omega)
    refine lexit_pure (.refl s) (by simp only [low, lowL, and_self]) ⟨?_, rfl⟩
    rw [hullOf, if_pos hl0]; rfl
  · have hne : l ≠ [] := by rintro rfl; simp at h0
    rw [hullOf, if_neg hne]
    have hw1 : IntKind.i64.wrap ((l.length : Int) - 1) = (l.length : Int) - 1 := wrap_id (by omega)
    have hlast : l[((l.length : Int) - 1).toNat]? = some (l.getLast hne) := by
      rw [show ((l.length : Int) - 1).toNat = l.length - 1 from by omega, List.getLast_eq_getElem]
      exact List.getElem?_eq_getElem _
    have hend := endOf_last l 0 hne
    have hend1 := endOf_le l 0 (-1) (by omega) hsc
    obtain ⟨e, r, hler⟩ : ∃ e r, l = e :: r := by cases l with | nil => exact absurd rfl hne | cons e r => exact ⟨e, r, rfl⟩
    have hsc2 := hsc
    rw [hler] at hsc2
    obtain ⟨a1, a2, a3, a4, a5⟩ := hull_slice hsc2
    obtain ⟨c1, c2', c3, c4, c5, c6⟩ := scan_cons hsc2
    have hat : (hullEd x l).at_ = e.at_ := by rw [hler]; rfl
    have hcut : (hullEd x l).cut = (endOf 0 l : Nat) - e.at_ := by rw [hler]; rfl
    rw [← hler] at a2 a3 a4 a5
    have hfirst : l[(0 : Int).toNat]? = some e := by rw [hler]; rfl
    have hzz := scan_range l _ hsc _ (List.mem_of_getElem? hlast)
    generalize l.getLast hne = z at hlast hend hzz
    have hw2 : IntKind.i64.wrap (z.at_ + z.cut) = (endOf 0 l : Nat) := by rw [wrap_id (by omega), hend]; omega
    refine ldrawB_go [9] [] 12 (by decide) ?_
    simp (config := { contextual := true }) only [go_sem, hlen, harg, hw1, hw2, hv.len, hv.ati (show (0 : Int) ≤ 0 by omega) hfirst, hv.ati (show (0 : Int) ≤ (l.length : Int) - 1 by omega) hlast, lcondB_decide, lcondB_not, lguardB_decide_true, lguardB_decide_false, Nat.reduceLT, Nat.reduceEqDiff, Nat.reduceAdd, Nat.reduceLeDiff, reduceIte, reduceCtorEq]
    refine ⟨by kernel_rfl, ?_⟩
    refine lfunG_eq (applyOf_exact x v l hv hl hx hnew hsc _) ?_
    have hwl : (applyFrom x 0 l).length < 4611686018427387904 := by
      have h1 := applyFrom_len x l 0 (fun e he => by have := hnew e he; omega)
      have h2 : l.length * (x.length + 1000000) ≤ 2000 * (20000 + 1000000) := Nat.mul_le_mul hl (by omega)
      omega
    have hw3 : IntKind.i64.wrap ((endOf 0 l : Nat) - e.at_) = (endOf 0 l : Nat) - e.at_ := wrap_id (by omega)
    have hw4 : IntKind.i64.wrap ((x.length : Int) - (endOf 0 l : Nat)) = (x.length : Int) - (endOf 0 l : Nat) := wrap_id (by omega)
    have hw5 : IntKind.i64.wrap (((applyFrom x 0 l).length : Int) - ((x.length : Int) - (endOf 0 l : Nat))) = ((applyFrom x 0 l).length : Int) - ((x.length : Int) - (endOf 0 l : Nat)) := wrap_id (by omega)
    simp (config := { contextual := true }) only [go_sem, hlen, harg, lcondB_decide, lcondB_not, lguardB_decide_true, lguardB_decide_false, Nat.reduceLT, Nat.reduceEqDiff, Nat.reduceAdd, Nat.reduceLeDiff, reduceIte, reduceCtorEq]
    refine ldrawB_go [] [] 16 (by decide) ?_
    simp (config := { contextual := true }) only [go_sem, hlen, harg, hw3, hw4, hw5, slice9 a1 a2 a3, a5, build35_3, lcondB_decide, lcondB_not, lguardB_decide_true, lguardB_decide_false, Nat.reduceLT, Nat.reduceEqDiff, Nat.reduceAdd, Nat.reduceLeDiff, reduceIte, reduceCtorEq]
    refine ⟨by kernel_rfl, ?_⟩
    refine lexit_pure (.refl s) (by simp only [low, lowL, and_self]) ⟨?_, rfl⟩
    rw [Ed.enc, hat, hcut]
end Go.S1N
end
section
set_option linter.unusedVariables false
set_option linter.unusedSimpArgs false
namespace Go.S1N
open Go Go.Am Go.Proofs Go.S1
set_option maxRecDepth 100000
set_option linter.unusedSimpArgs false
attribute [local irreducible] lopsB lvb lstepB lfunG lcondB lguardB ldrawB ldrunB ldstepB ldguardB lmem lval ldmem ldval ldfun lexit ldloadB ldlenB lpostB athen ablock

/-- a stream's block -/
def strm (Lv : AV) (at_ : Int) : AObj := .cells [Lv, .int .i64 at_] (some 25)

theorem _root_.Go.S1.IsInts.pu {v : AV} {l : List Int} (h : IsInts v l) : Pu v := by
  rcases h with ⟨f, rfl⟩ | ⟨rfl, rfl⟩
  · simp only [Pu, low, lowL_iff, List.mem_map]
    rintro x ⟨e, _, rfl⟩
    simp only [low]
  · simp only [Pu, low]

/-- what is known of a stream that lies in the block b -/
structure Sm (s : AHeap) (b : Nat) (Lv : AV) (L : List Int) (at_ : Int) : Prop where
  ints : IsInts Lv L
  len : L.length < 4611686018427387904
  at0 : 0 ≤ at_
  at1 : at_ < 4000000000000000000
  lt : b < s.nx
  get : s.get b = some (strm Lv at_)

theorem Sm.lowO {s : AHeap} {b : Nat} {Lv : AV} {L : List Int} {at_ : Int} (h : Sm s b Lv L at_) {n : Nat} {a : Int} : lowO n (strm Lv a) := by
  simp only [strm, Am.lowO, lowL, low, and_true]
  exact low.mono (Nat.zero_le _) h.ints.pu

theorem Sm.upd {s : AHeap} {b : Nat} {Lv : AV} {L : List Int} {at_ a : Int} (h : Sm s b Lv L at_) (h0 : 0 ≤ a) (h1 : a < 4000000000000000000) : Sm (s.upd b (strm Lv a)) b Lv L a :=
  ⟨h.ints, h.len, h0, h1, by rw [AHeap.nx_upd]; exact h.lt, get_upd_same⟩

theorem Sm.loc {s : AHeap} {b : Nat} {Lv : AV} {L : List Int} {at_ : Int} (h : Sm s b Lv L at_) {n : Nat} {l : List (Nat × Option AObj)} : Sm (loc s n l) b Lv L at_ :=
  ⟨h.ints, h.len, h.at0, h.at1, by rw [nx_loc]; exact lt_nm h.lt, by rw [get_loc_out h.lt]; exact h.get⟩

theorem nextS {s : AHeap} {b : Nat} {Lv : AV} {L : List Int} {at_ : Int} (h : Sm s b Lv L at_) (n : Int) :
    ACall Try.prog 68 [.ptr b 0, .int .i64 n] s fun v t => v = .int .i64 (nextOf L at_ n) ∧ t = s.upd b (strm Lv (at_ + 1)) := by
  refine gob68 (by simp) ?_
  intro tm hlen harg
  have hb := h.lt
  have hg := h.get
  have hlow := h.lowO (n := s.nx) (a := at_ + 1)
  have hL := h.ints
  have h0 := h.at0
  have e1 : IntKind.i64.wrap (at_ + 1) = at_ + 1 := wrap_id (by have := h.at1; omega)
  have hll := h.len
  rw [strm] at hg
  simp only [strm] at hlow ⊢
  simp (config := { contextual := true }) only [go_sem, L68, hlen, harg, hb, hg, e1, hL.len, lcondB_decide, lcondB_not, lguardB_decide_true, lguardB_decide_false, Nat.reduceLT, Nat.reduceEqDiff, Nat.reduceAdd, Nat.reduceLeDiff, reduceIte, reduceCtorEq]
  refine ⟨fun hz => ?_, fun hz => ?_⟩
  · have hL0 : L = [] := List.eq_nil_of_length_eq_zero (by omega)
    refine lfunG_eq (below_ok _ _ _) ?_
    simp (config := { contextual := true }) only [go_sem, hlen, lcondB_decide, lcondB_not, lguardB_decide_true, lguardB_decide_false, Nat.reduceLT, Nat.reduceEqDiff, Nat.reduceAdd, Nat.reduceLeDiff, reduceIte, reduceCtorEq]
    subst hL0
    refine lexit_pure ((OKo.refl s).upd hb hlow) (by simp only [low]) ⟨?_, rfl⟩
    simp [nextOf, e1, wr]
  · have hL0 : L ≠ [] := by rintro rfl; simp at hz
    have hlz : (L.length : Int) ≠ 0 := hz
    have e2 : IntKind.i64.wrap (at_ + 1 - 1) = at_ := by rw [wrap_id (by have := h.at1; omega)]; omega
    refine ldrawB_go [] [] 10 (by decide) ?_
    simp (config := { contextual := true }) only [go_sem, hlen, harg, hb, hg, e1, e2, hL.len, abin_rem hlz, lcondB_decide, lcondB_not, lguardB_decide_true, lguardB_decide_false, Nat.reduceLT, Nat.reduceEqDiff, Nat.reduceAdd, Nat.reduceLeDiff, reduceIte, reduceCtorEq]
    refine ⟨by kernel_rfl, ?_⟩
    refine ldrawB_go [] [] 10 (by decide) ?_
    simp (config := { contextual := true }) only [go_sem, hlen, harg, hb, hg, e1, e2, hL.len, abin_quo hlz, lcondB_decide, lcondB_not, lguardB_decide_true, lguardB_decide_false, Nat.reduceLT, Nat.reduceEqDiff, Nat.reduceAdd, Nat.reduceLeDiff, reduceIte, reduceCtorEq]
    refine ⟨by kernel_rfl, ?_⟩
    have hi0 : 0 ≤ at_.tmod L.length := Int.tmod_nonneg _ h0
    have hi1 : at_.tmod L.length < L.length := Int.tmod_lt_of_pos _ (by omega)
    obtain ⟨x, hx⟩ : ∃ x, L[(at_.tmod L.length).toNat]? = some x := ⟨_, List.getElem?_eq_getElem (by omega)⟩
    simp (config := { contextual := true }) only [go_sem, hlen, harg, hb, hg, e1, e2, hL.len, hL.at hi0 hx, lcondB_decide, lcondB_not, lguardB_decide_true, lguardB_decide_false, Nat.reduceLT, Nat.reduceEqDiff, Nat.reduceAdd, Nat.reduceLeDiff, reduceIte, reduceCtorEq]
    refine lfunG_eq (below_ok _ _ _) ?_
    simp (config := { contextual := true }) only [go_sem, hlen, harg, lcondB_decide, lcondB_not, lguardB_decide_true, lguardB_decide_false, Nat.reduceLT, Nat.reduceEqDiff, Nat.reduceAdd, Nat.reduceLeDiff, reduceIte, reduceCtorEq]
    refine lfunG_eq (below_ok _ _ _) ?_
    simp (config := { contextual := true }) only [go_sem, hlen, lcondB_decide, lcondB_not, lguardB_decide_true, lguardB_decide_false, Nat.reduceLT, Nat.reduceEqDiff, Nat.reduceAdd, Nat.reduceLeDiff, reduceIte, reduceCtorEq]
    refine lexit_pure ((OKo.refl s).upd hb hlow) (by simp only [low]) ⟨?_, rfl⟩
    have hx' : L.getD (at_.tmod L.length).toNat 0 = x := by rw [List.getD_eq_getElem?_getD, hx]; rfl
    simp only [nextOf, if_neg hL0, wr, e1, e2, hx']

theorem flipS {s : AHeap} {b : Nat} {Lv : AV} {L : List Int} {at_ : Int} (h : Sm s b Lv L at_) (n : Int) :
    ACall Try.prog 11 [.ptr b 0, .int .i64 n] s fun v t => v = .bool (decide (nextOf L at_ n = 0)) ∧ t = s.upd b (strm Lv (at_ + 1)) := by
  refine gob11 (by simp) ?_
  intro tm hlen harg
  have hb := h.lt
  simp (config := { contextual := true }) only [go_sem, L11, hlen, harg, lcondB_decide, lcondB_not, lguardB_decide_true, lguardB_decide_false, Nat.reduceLT, Nat.reduceEqDiff, Nat.reduceAdd, Nat.reduceLeDiff, reduceIte, reduceCtorEq]
  refine lfunG_eq (nextS h.loc _) ?_
  simp (config := { contextual := true }) only [go_sem, hlen, hb, lcondB_decide, lcondB_not, lguardB_decide_true, lguardB_decide_false, Nat.reduceLT, Nat.reduceEqDiff, Nat.reduceAdd, Nat.reduceLeDiff, reduceIte, reduceCtorEq]
  exact lexit_pure ((OKo.refl s).upd hb h.lowO) (by simp only [low]) ⟨rfl, rfl⟩

theorem rangeS {s : AHeap} {b : Nat} {Lv : AV} {L : List Int} {at_ : Int} (h : Sm s b Lv L at_) (lo hi : Int) (hlh : lo ≤ hi) (hhi : hi < 2000000000000000000) (hl2 : -2000000000000000000 < lo) :
    ACall Try.prog 10 [.ptr b 0, .int .i64 lo, .int .i64 hi] s fun v t => v = .int .i64 (lo + nextOf L at_ (hi - lo + 1)) ∧ t = s.upd b (strm Lv (at_ + 1)) := by
  refine gob10 (by simp) ?_
  intro tm hlen harg
  have hb := h.lt
  have e1 : IntKind.i64.wrap (hi - lo) = hi - lo := wrap_id (by omega)
  have e2 : IntKind.i64.wrap (hi - lo + 1) = hi - lo + 1 := wrap_id (by omega)
  have hbd := nextOf_lt L at_ (show 1 ≤ hi - lo + 1 by omega) (by omega)
  have e3 : IntKind.i64.wrap (lo + nextOf L at_ (hi - lo + 1)) = lo + nextOf L at_ (hi - lo + 1) := wrap_id (by omega)
  have hlt : ¬ hi < lo := by omega
  simp (config := { contextual := true }) only [go_sem, L10, hlen, harg, e1, e2, hlt, lcondB_decide, lcondB_not, lguardB_decide_true, lguardB_decide_false, Nat.reduceLT, Nat.reduceEqDiff, Nat.reduceAdd, Nat.reduceLeDiff, reduceIte, reduceCtorEq]
  refine lfunG_eq (nextS h.loc _) ?_
  simp (config := { contextual := true }) only [go_sem, hlen, harg, hb, e3, lcondB_decide, lcondB_not, lguardB_decide_true, lguardB_decide_false, Nat.reduceLT, Nat.reduceEqDiff, Nat.reduceAdd, Nat.reduceLeDiff, reduceIte, reduceCtorEq]
  exact lexit_pure ((OKo.refl s).upd hb h.lowO) (by simp only [low]) ⟨rfl, rfl⟩

theorem pickS {s : AHeap} {b : Nat} {Lv : AV} {L : List Int} {at_ : Int} (h : Sm s b Lv L at_) (c : Nat) (l : List Int) (To : Option TypeId) (hl : l ≠ []) (hl2 : l.length < 1000) (hc : s.get c = some (.cells (l.map (AV.int .i64)) To)) (hne : c ≠ b) (hcn : c < s.nx) :
    ACall Try.prog 20 [.ptr b 0, .rs 1 c 0 l.length] s fun v t => v = .int .i64 (l.getD (nextOf L at_ l.length).toNat 0) ∧ t = s.upd b (strm Lv (at_ + 1)) := by
  refine gob20 (by simp) ?_
  intro tm hlen harg
  have hb := h.lt
  have hpos : 0 < l.length := List.length_pos_iff.2 hl
  have hbd := nextOf_lt L at_ (n := l.length) (by omega) (by omega)
  obtain ⟨x, hx⟩ : ∃ x, l[(nextOf L at_ l.length).toNat]? = some x := ⟨_, List.getElem?_eq_getElem (by omega)⟩
  have hgc : (s.upd b (strm Lv (at_ + 1))).get c = some (.cells (l.map (AV.int .i64)) To) := by rw [AHeap.get_upd, if_neg hne, hc]
  have hd : (List.drop (nextOf L at_ l.length).toNat (l.map (AV.int .i64)))[0]? = some (.int .i64 x) := by simp [hx]
  simp (config := { contextual := true }) only [go_sem, L20, hlen, harg, lcondB_decide, lcondB_not, lguardB_decide_true, lguardB_decide_false, Nat.reduceLT, Nat.reduceEqDiff, Nat.reduceAdd, Nat.reduceLeDiff, reduceIte, reduceCtorEq]
  refine lfunG_eq (nextS h.loc _) ?_
  simp (config := { contextual := true }) only [go_sem, hlen, harg, hb, hcn, rs_at hbd.1 hbd.2, hgc, hd, lcondB_decide, lcondB_not, lguardB_decide_true, lguardB_decide_false, Nat.reduceLT, Nat.reduceEqDiff, Nat.reduceAdd, Nat.reduceLeDiff, reduceIte, reduceCtorEq]
  refine lexit_pure ((OKo.refl s).upd hb h.lowO) (by simp only [low]) ⟨?_, rfl⟩
  rw [List.getD_eq_getElem?_getD, hx]
  rfl

theorem someS {s : AHeap} {b : Nat} {Lv : AV} {L : List Int} {at_ : Int} (h : Sm s b Lv L at_) (c : Nat) (l : List (List UInt8)) (To : Option TypeId) (hl : l ≠ []) (hl2 : l.length < 1000) (hc : s.get c = some (.cells (l.map AV.str) To)) (hne : c ≠ b) (hcn : c < s.nx) :
    ACall Try.prog 66 [.ptr b 0, .rs 1 c 0 l.length] s fun v t => v = .str (l.getD (nextOf L at_ l.length).toNat []) ∧ t = s.upd b (strm Lv (at_ + 1)) := by
  refine gob66 (by simp) ?_
  intro tm hlen harg
  have hb := h.lt
  have hpos : 0 < l.length := List.length_pos_iff.2 hl
  have hbd := nextOf_lt L at_ (n := l.length) (by omega) (by omega)
  obtain ⟨x, hx⟩ : ∃ x, l[(nextOf L at_ l.length).toNat]? = some x := ⟨_, List.getElem?_eq_getElem (by omega)⟩
  have hgc : (s.upd b (strm Lv (at_ + 1))).get c = some (.cells (l.map AV.str) To) := by rw [AHeap.get_upd, if_neg hne, hc]
  have hd : (List.drop (nextOf L at_ l.length).toNat (l.map AV.str))[0]? = some (.str x) := by simp [hx]
  simp (config := { contextual := true }) only [go_sem, L66, hlen, harg, lcondB_decide, lcondB_not, lguardB_decide_true, lguardB_decide_false, Nat.reduceLT, Nat.reduceEqDiff, Nat.reduceAdd, Nat.reduceLeDiff, reduceIte, reduceCtorEq]
  refine lfunG_eq (nextS h.loc _) ?_
  simp (config := { contextual := true }) only [go_sem, hlen, harg, hb, hcn, rs_at63 hbd.1 hbd.2, hgc, hd, lcondB_decide, lcondB_not, lguardB_decide_true, lguardB_decide_false, Nat.reduceLT, Nat.reduceEqDiff, Nat.reduceAdd, Nat.reduceLeDiff, reduceIte, reduceCtorEq]
  refine lexit_pure ((OKo.refl s).upd hb h.lowO) (by simp only [low]) ⟨?_, rfl⟩
  rw [List.getD_eq_getElem?_getD, hx]
  rfl
end Go.S1N
end
section
set_option linter.unusedVariables false
set_option linter.unusedSimpArgs false
namespace Go.S1N
open Go Go.Am Go.Proofs Go.S1
set_option maxRecDepth 100000
set_option linter.unusedSimpArgs false
attribute [local irreducible] lopsB lvb lstepB lfunG lcondB lguardB ldrawB ldrunB ldstepB ldguardB lmem lval ldmem ldval ldfun lexit ldloadB ldlenB lpostB athen ablock

theorem lettersS {s : AHeap} {b : Nat} {Lv : AV} {L : List Int} {at_ : Int} (h : Sm s b Lv L at_) (h1 : at_ < 3000000000000000000) (most : Int) (hm0 : 0 ≤ most) (hm : most ≤ 1000) :
    ACall Try.prog 8 [.ptr b 0, .int .i64 most] s fun v t => ∃ (x : List UInt8) (k : Nat), v = .str x ∧ x.length ≤ most ∧ k ≤ most + 1 ∧ t = s.upd b (strm Lv (at_ + k)) := by
  refine gob8 (by simp) ?_
  intro tm hlen harg
  have hb := h.lt
  simp (config := { contextual := true }) only [go_sem, L8, hlen, harg, lcondB_decide, lcondB_not, lguardB_decide_true, lguardB_decide_false, Nat.reduceLT, Nat.reduceEqDiff, Nat.reduceAdd, Nat.reduceLeDiff, reduceIte, reduceCtorEq]
  refine lfunG_eq (rangeS h.loc 0 most hm0 (by omega) (by omega)) ?_
  have hN := nextOf_lt L at_ (show 1 ≤ most - 0 + 1 by omega) (by omega)
  generalize nextOf L at_ (most - 0 + 1) = N at hN
  simp (config := { contextual := true }) only [go_sem, hlen, harg, hb, Int.zero_add, lcondB_decide, lcondB_not, lguardB_decide_true, lguardB_decide_false, Nat.reduceLT, Nat.reduceEqDiff, Nat.reduceAdd, Nat.reduceLeDiff, reduceIte, reduceCtorEq]
  refine ⟨Nat × List UInt8, fun a => [(0, .ptr b 0), (5, .str a.2), (8, .int .i64 N), (9, .int .i64 a.1)], fun a => loc (s.upd b (strm Lv (at_ + 1 + a.1))) 0 [], fun a => (a.1 : Int) ≤ N ∧ a.2.length ≤ a.1, fun a => N.toNat - a.1, (0, []),
    ⟨by simp; omega, by simp⟩, ?_, ?_⟩
  · refine To.go [] [] (by simp) ((OKo.refl s).upd hb h.lowO) (by decide) (by simp) ?_ trivial
    simp (config := { contextual := true }) only [go_sem, hlen, harg, rnm_low hb, lcondB_decide, lcondB_not, lguardB_decide_true, lguardB_decide_false, Nat.reduceLT, Nat.reduceEqDiff, Nat.reduceAdd, Nat.reduceLeDiff, reduceIte, reduceCtorEq]
    simp
  · rintro ⟨i, x⟩ tm1 ⟨hi, hx⟩ hlen1 hlv
    simp only [go_sem, hlen, lcondB_decide, lcondB_not, lguardB_decide_true, lguardB_decide_false, Nat.reduceLT, Nat.reduceEqDiff, Nat.reduceAdd, Nat.reduceLeDiff, reduceIte, reduceCtorEq] at hlen1 hlv hi hx
    have hS := (h.upd (a := at_ + 1 + i) (by have := h.at0; omega) (by omega)).loc (n := 1) (l := [(0, some (.cells [.str [97], .str [98], .str [99], .str [97], .str [10]] (some 9)))])
    simp (config := { contextual := true }) only [go_sem, hlen, hlen1, hlv, lcondB_decide, lcondB_not, lguardB_decide_true, lguardB_decide_false, Nat.reduceLT, Nat.reduceEqDiff, Nat.reduceAdd, Nat.reduceLeDiff, reduceIte, reduceCtorEq]
    refine ⟨fun hlt => ?_, fun hge => ?_⟩
    · refine lfunG_eq (someS hS (nm s.nx 0) [[97], [98], [99], [97], [10]] (some 9) (by simp) (by simp) (by simp only [go_sem, List.map_cons, lcondB_decide, lcondB_not, lguardB_decide_true, lguardB_decide_false, Nat.reduceLT, Nat.reduceEqDiff, Nat.reduceAdd, Nat.reduceLeDiff, reduceIte, reduceCtorEq]) (by rw [ne_eq, nm_ne hb]; simp) (by simp only [go_sem, lcondB_decide, lcondB_not, lguardB_decide_true, lguardB_decide_false, Nat.reduceLT, Nat.reduceEqDiff, Nat.reduceAdd, Nat.reduceLeDiff, reduceIte, reduceCtorEq])) ?_
      have hy : ∀ j, ([[97], [98], [99], [97], [10]].getD j ([] : List UInt8)).length ≤ 1 := by
        intro j
        rcases j with _ | _ | _ | _ | _ | j <;> simp
      generalize (nextOf L (at_ + 1 + i) _).toNat = j
      have hyj := hy j
      generalize [[97], [98], [99], [97], [10]].getD j ([] : List UInt8) = y at hyj
      have hw : IntKind.i64.wrap ((i : Int) + 1) = ((i + 1 : Nat) : Int) := by rw [wrap_id (by omega)]; rfl
      simp (config := { contextual := true }) only [go_sem, hlen, hlen1, hlv, hb, hw, abin_sadd (show x.length + y.length ≤ 9000000000000000000 by omega), lcondB_decide, lcondB_not, lguardB_decide_true, lguardB_decide_false, Nat.reduceLT, Nat.reduceEqDiff, Nat.reduceAdd, Nat.reduceLeDiff, reduceIte, reduceCtorEq]
      refine ⟨(i + 1, x ++ y), ⟨by simp only; omega, by simp only [List.length_append]; omega⟩, by simp only; omega, ?_⟩
      refine To.go [] [] (by show loc (s.upd b (strm Lv (at_ + 1 + ((i + 1 : Nat) : Int)))) 0 [] = _; rw [show at_ + 1 + ((i + 1 : Nat) : Int) = at_ + 1 + i + 1 from by omega]; rfl) ((OKo.refl s).upd hb h.lowO) (by decide) (by simp) ?_ trivial
      simp (config := { contextual := true }) only [go_sem, hlen1, hlv, rnm_low hb, lcondB_decide, lcondB_not, lguardB_decide_true, lguardB_decide_false, Nat.reduceLT, Nat.reduceEqDiff, Nat.reduceAdd, Nat.reduceLeDiff, reduceIte, reduceCtorEq]
    · refine lexit_pure ((OKo.refl s).upd hb h.lowO) (by simp only [low]) ⟨x, i + 1, rfl, by omega, by omega, ?_⟩
      congr 2
      omega
end Go.S1N
end
section
set_option linter.unusedVariables false
set_option linter.unusedSimpArgs false
namespace Go.S1N
open Go Go.Am Go.Proofs Go.S1
set_option maxRecDepth 100000
set_option linter.unusedSimpArgs false
attribute [local irreducible] lopsB lvb lstepB lfunG lcondB lguardB ldrawB ldrunB ldstepB ldguardB lmem lval ldmem ldval ldfun lexit ldloadB ldlenB lpostB athen ablock

theorem getD_le {l : List (List UInt8)} {k : Nat} (h : ∀ x ∈ l, x.length ≤ k) (j : Nat) : (l.getD j []).length ≤ k := by
  rw [List.getD_eq_getElem?_getD]
  cases hj : l[j]? with
  | none => simp
  | some x => exact h x (List.mem_of_getElem? hj)

theorem anEditS {s : AHeap} {b : Nat} {Lv : AV} {L : List Int} {at_ : Int} (h : Sm s b Lv L at_) (h1 : at_ < 3900000000000000000) (n : Int) :
    ACall Try.prog 67 [.ptr b 0, .int .i64 n] s fun v t => ∃ (e : Ed) (k : Nat), v = e.enc ∧ e.new.length ≤ 4 ∧ k ≤ 6 ∧ t = s.upd b (strm Lv (at_ + k)) := by
  refine gob67 (by simp) ?_
  intro tm hlen harg
  have hb := h.lt
  have h0 := h.at0
  simp (config := { contextual := true }) only [go_sem, L67, hlen, harg, lcondB_decide, lcondB_not, lguardB_decide_true, lguardB_decide_false, Nat.reduceLT, Nat.reduceEqDiff, Nat.reduceAdd, Nat.reduceLeDiff, reduceIte, reduceCtorEq]
  refine lfunG_eq (nextS h.loc _) ?_
  simp (config := { contextual := true }) only [go_sem, hlen, harg, hb, lcondB_decide, lcondB_not, lguardB_decide_true, lguardB_decide_false, Nat.reduceLT, Nat.reduceEqDiff, Nat.reduceAdd, Nat.reduceLeDiff, reduceIte, reduceCtorEq]
  refine lfunG_eq (pickS ((h.upd (by omega) (by omega)).loc) (nm s.nx 1) [0, 0, 1, 2, 5] (some 3) (by simp) (by simp) (by simp only [go_sem, List.map_cons, lcondB_decide, lcondB_not, lguardB_decide_true, lguardB_decide_false, Nat.reduceLT, Nat.reduceEqDiff, Nat.reduceAdd, Nat.reduceLeDiff, reduceIte, reduceCtorEq]) (by rw [ne_eq, nm_ne hb]; simp) (by simp only [go_sem, lcondB_decide, lcondB_not, lguardB_decide_true, lguardB_decide_false, Nat.reduceLT, Nat.reduceEqDiff, Nat.reduceAdd, Nat.reduceLeDiff, reduceIte, reduceCtorEq])) ?_
  simp (config := { contextual := true }) only [go_sem, hlen, harg, hb, lcondB_decide, lcondB_not, lguardB_decide_true, lguardB_decide_false, Nat.reduceLT, Nat.reduceEqDiff, Nat.reduceAdd, Nat.reduceLeDiff, reduceIte, reduceCtorEq]
  refine lfunG_eq (someS ((h.upd (by omega) (by omega)).loc) (nm s.nx 2) [[], [97], [32], [49], [43], [41], [35], [34], [97, 98, 32, 49], [46]] (some 9) (by simp) (by simp) (by simp only [go_sem, List.map_cons, lcondB_decide, lcondB_not, lguardB_decide_true, lguardB_decide_false, Nat.reduceLT, Nat.reduceEqDiff, Nat.reduceAdd, Nat.reduceLeDiff, reduceIte, reduceCtorEq]) (by rw [ne_eq, nm_ne hb]; simp) (by simp only [go_sem, lcondB_decide, lcondB_not, lguardB_decide_true, lguardB_decide_false, Nat.reduceLT, Nat.reduceEqDiff, Nat.reduceAdd, Nat.reduceLeDiff, reduceIte, reduceCtorEq])) ?_
  simp (config := { contextual := true }) only [go_sem, hlen, harg, hb, lcondB_decide, lcondB_not, lguardB_decide_true, lguardB_decide_false, Nat.reduceLT, Nat.reduceEqDiff, Nat.reduceAdd, Nat.reduceLeDiff, reduceIte, reduceCtorEq]
  refine lfunG_eq (flipS ((h.upd (by omega) (by omega)).loc) _) ?_
  have hS := getD_le (l := [[], [97], [32], [49], [43], [41], [35], [34], [97, 98, 32, 49], [46]]) (k := 4) (by simp) (nextOf L (at_ + 1 + 1) (([[], [97], [32], [49], [43], [41], [35], [34], [97, 98, 32, 49], [46]] : List (List UInt8)).length)).toNat
  generalize ([[], [97], [32], [49], [43], [41], [35], [34], [97, 98, 32, 49], [46]] : List (List UInt8)).getD _ [] = y at hS ⊢
  simp (config := { contextual := true }) only [go_sem, hlen, harg, hb, lcondB_decide, lcondB_not, lguardB_decide_true, lguardB_decide_false, Nat.reduceLT, Nat.reduceEqDiff, Nat.reduceAdd, Nat.reduceLeDiff, reduceIte, reduceCtorEq]
  refine ⟨fun hf => ?_, fun hf => ?_⟩
  · refine lfunG_eq (pickS ((h.upd (by omega) (by omega)).loc) (nm s.nx 4) [-1, _, _] (some 3) (by simp) (by simp) (by simp only [go_sem, List.map_cons, lcondB_decide, lcondB_not, lguardB_decide_true, lguardB_decide_false, Nat.reduceLT, Nat.reduceEqDiff, Nat.reduceAdd, Nat.reduceLeDiff, reduceIte, reduceCtorEq]; rfl) (by rw [ne_eq, nm_ne hb]; simp) (by simp only [go_sem, lcondB_decide, lcondB_not, lguardB_decide_true, lguardB_decide_false, Nat.reduceLT, Nat.reduceEqDiff, Nat.reduceAdd, Nat.reduceLeDiff, reduceIte, reduceCtorEq])) ?_
    simp (config := { contextual := true }) only [go_sem, hlen, harg, hb, lcondB_decide, lcondB_not, lguardB_decide_true, lguardB_decide_false, Nat.reduceLT, Nat.reduceEqDiff, Nat.reduceAdd, Nat.reduceLeDiff, reduceIte, reduceCtorEq]
    refine lfunG_eq (pickS ((h.upd (by omega) (by omega)).loc) (nm s.nx 5) [0, -1, _] (some 3) (by simp) (by simp) (by simp only [go_sem, List.map_cons, lcondB_decide, lcondB_not, lguardB_decide_true, lguardB_decide_false, Nat.reduceLT, Nat.reduceEqDiff, Nat.reduceAdd, Nat.reduceLeDiff, reduceIte, reduceCtorEq]; rfl) (by rw [ne_eq, nm_ne hb]; simp) (by simp only [go_sem, lcondB_decide, lcondB_not, lguardB_decide_true, lguardB_decide_false, Nat.reduceLT, Nat.reduceEqDiff, Nat.reduceAdd, Nat.reduceLeDiff, reduceIte, reduceCtorEq])) ?_
    simp (config := { contextual := true }) only [go_sem, hlen, harg, hb, lcondB_decide, lcondB_not, lguardB_decide_true, lguardB_decide_false, Nat.reduceLT, Nat.reduceEqDiff, Nat.reduceAdd, Nat.reduceLeDiff, reduceIte, reduceCtorEq]
    refine lexit_pure ((OKo.refl s).upd hb h.lowO) (by simp only [low, lowL, and_self]) ⟨⟨_, _, y⟩, 6, rfl, hS, by omega, ?_⟩
    congr 2
    omega
  · refine lexit_pure ((OKo.refl s).upd hb h.lowO) (by simp only [low, lowL, and_self]) ⟨⟨_, _, y⟩, 4, rfl, hS, by omega, ?_⟩
    congr 2
    omega
end Go.S1N
end
section
set_option linter.unusedVariables false
set_option linter.unusedSimpArgs false
namespace Go.S1N
open Go Go.Am Go.Proofs Go.S1
set_option maxRecDepth 100000
set_option linter.unusedSimpArgs false
attribute [local irreducible] lopsB lvb lstepB lfunG lcondB lguardB ldrawB ldrunB ldstepB ldguardB lmem lval ldmem ldval ldfun lexit ldloadB ldlenB lpostB athen ablock

/-- the cells of edits -/
def edc (l : List Ed) : List AV := (l.map Ed.enc).flatMap AV.cells
theorem edc_len (l : List Ed) : (edc l).length = l.length * 3 := by
  unfold edc
  induction l with
  | nil => rfl
  | cons e l ih => simp only [List.map_cons, List.flatMap_cons, List.length_append, ih, List.length_cons, Ed.enc, AV.cells, List.length_nil]; omega
theorem edc_snoc (l : List Ed) (e : Ed) : edc (l ++ [e]) = edc l ++ [.int .i64 e.at_, .int .i64 e.cut, .str e.new] := by
  simp [edc, Ed.enc, AV.cells]
theorem edc_pul (l : List Ed) : PuL (edc l) := by
  unfold edc
  induction l with
  | nil => simp only [List.map_nil, List.flatMap_nil, PuL, lowL]
  | cons e l ih =>
    rw [List.map_cons, List.flatMap_cons, PuL, lowL_append]
    exact ⟨by simp only [Ed.enc, AV.cells, lowL, low, and_self], ih⟩
/-- edits as what a function hands back -/
def edv (l : List Ed) : AV := fsv 3 (l.map Ed.enc)
theorem edv_sl (l : List Ed) : SlE (edv l) l := by
  unfold edv
  cases l with
  | nil => exact .inr ⟨rfl, rfl⟩
  | cons e l => exact .inl ⟨false, fsv_pos (by simp)⟩
theorem edv_pu (l : List Ed) : Pu (edv l) := (edv_sl l).pu

theorem enc_len (l : List Ed) : ∀ x ∈ l.map Ed.enc, x.cells.length = 3 := by
  intro x hx
  obtain ⟨e, _, rfl⟩ := List.mem_map.1 hx
  rfl
theorem len_fz {b : Nat} {l : List Ed} : fz b 3 (l.map Ed.enc) (gsv 3 b l.length) = edv l := by
  rw [show l.length = (l.map Ed.enc).length from (List.length_map ..).symm, fz_gsv]; rfl
theorem len_fz1 {b : Nat} {l : List Ed} {e : Ed} : fz b 3 ((l ++ [e]).map Ed.enc) (.rs 3 b 0 (l.length + 1)) = edv (l ++ [e]) := by
  simp only [fz, List.length_map, List.length_append, List.length_cons, List.length_nil, Nat.zero_add, and_self, if_true, edv]
  rw [fsv_pos (by simp)]
theorem loc_at {s : AHeap} {b : Nat} {Lv : AV} {a a' : Int} {n : Nat} {l : List (Nat × Option AObj)} (h : a = a') : loc (s.upd b (strm Lv a)) n l = loc (s.upd b (strm Lv a')) n l := by rw [h]

theorem getI_le {l : List Int} {lo hi : Int} (h0 : lo ≤ 0 ∧ 0 ≤ hi) (h : ∀ x ∈ l, lo ≤ x ∧ x ≤ hi) (j : Nat) : lo ≤ l.getD j 0 ∧ l.getD j 0 ≤ hi := by
  rw [List.getD_eq_getElem?_getD]
  cases hj : l[j]? with
  | none => simpa using h0
  | some x => exact h x (List.mem_of_getElem? hj)

theorem changeS {s : AHeap} {b : Nat} {Lv : AV} {L : List Int} {at_ : Int} (h : Sm s b Lv L at_) (h1 : at_ < 3800000000000000000) (n : Int) :
    ACall Try.prog 9 [.ptr b 0, .int .i64 n] s fun v t => ∃ (l : List Ed) (k : Nat), v = edv l ∧ l.length ≤ 4 ∧ (∀ e ∈ l, e.new.length ≤ 4) ∧ k ≤ 20 ∧ t = s.upd b (strm Lv (at_ + k)) := by
  refine gob9 (by simp) ?_
  intro tm hlen harg
  have hb := h.lt
  have h0 := h.at0
  simp (config := { contextual := true }) only [go_sem, L9, hlen, harg, lcondB_decide, lcondB_not, lguardB_decide_true, lguardB_decide_false, Nat.reduceLT, Nat.reduceEqDiff, Nat.reduceAdd, Nat.reduceLeDiff, reduceIte, reduceCtorEq]
  refine lfunG_eq (rangeS h.loc 0 3 (by omega) (by omega) (by omega)) ?_
  simp (config := { contextual := true }) only [go_sem, hlen, harg, hb, lcondB_decide, lcondB_not, lguardB_decide_true, lguardB_decide_false, Nat.reduceLT, Nat.reduceEqDiff, Nat.reduceAdd, Nat.reduceLeDiff, reduceIte, reduceCtorEq]
  refine lfunG_eq (pickS ((h.upd (by omega) (by omega)).loc) (nm s.nx 0) [0, 1, 1, 2, 3] (some 3) (by simp) (by simp) (by simp only [go_sem, List.map_cons, lcondB_decide, lcondB_not, lguardB_decide_true, lguardB_decide_false, Nat.reduceLT, Nat.reduceEqDiff, Nat.reduceAdd, Nat.reduceLeDiff, reduceIte, reduceCtorEq]) (by rw [ne_eq, nm_ne hb]; simp) (by simp only [go_sem, lcondB_decide, lcondB_not, lguardB_decide_true, lguardB_decide_false, Nat.reduceLT, Nat.reduceEqDiff, Nat.reduceAdd, Nat.reduceLeDiff, reduceIte, reduceCtorEq])) ?_
  have hN := getI_le (l := [0, 1, 1, 2, 3]) (lo := 0) (hi := 3) (by omega) (by simp) (nextOf L (at_ + 1) (([0, 1, 1, 2, 3] : List Int).length)).toNat
  generalize ([0, 1, 1, 2, 3] : List Int).getD _ 0 = N at hN ⊢
  simp (config := { contextual := true }) only [go_sem, hlen, harg, hb, lcondB_decide, lcondB_not, lguardB_decide_true, lguardB_decide_false, Nat.reduceLT, Nat.reduceEqDiff, Nat.reduceAdd, Nat.reduceLeDiff, reduceIte, reduceCtorEq]
  refine ⟨Nat × Int × Nat × List Ed, fun a => [(0, .ptr b 0), (1, .int .i64 n), (5, gsv 3 (nm s.nx 0) a.2.2.2.length), (6, .int .i64 a.2.1), (12, .int .i64 N), (13, .int .i64 a.1)],
    fun a => loc (s.upd b (strm Lv (at_ + a.2.2.1))) 1 [(0, gso 35 (edc a.2.2.2))], fun a => (a.1 : Int) ≤ N ∧ a.2.2.1 ≤ 2 + 3 * a.1 ∧ a.2.2.2.length ≤ a.1 ∧ ∀ e ∈ a.2.2.2, e.new.length ≤ 4, fun a => N.toNat - a.1, (0, 0 + nextOf L at_ (3 - 0 + 1), 2, []),
    ⟨by simp only; omega, by simp only; omega, by simp, by simp⟩, ?_, ?_⟩
  · refine To.go [9] [(0, none)] (by simp only [edc, List.map_nil, List.flatMap_nil, gso_nil]; congr 3; omega) ((OKo.refl s).upd hb h.lowO) (by decide) (by simp) ?_ ?_
    · simp (config := { contextual := true }) only [go_sem, hlen, harg, gsv_zero, rnm_low hb, lcondB_decide, lcondB_not, lguardB_decide_true, lguardB_decide_false, Nat.reduceLT, Nat.reduceEqDiff, Nat.reduceAdd, Nat.reduceLeDiff, reduceIte, reduceCtorEq]
      simp
    · simp only [go_sem, lcondB_decide, lcondB_not, lguardB_decide_true, lguardB_decide_false, Nat.reduceLT, Nat.reduceEqDiff, Nat.reduceAdd, Nat.reduceLeDiff, reduceIte, reduceCtorEq]
  · rintro ⟨i, at1, k, l⟩ tm1 ⟨hi, hk, hl, hnew⟩ hlen1 hlv
    simp only [go_sem, hlen, lcondB_decide, lcondB_not, lguardB_decide_true, lguardB_decide_false, Nat.reduceLT, Nat.reduceEqDiff, Nat.reduceAdd, Nat.reduceLeDiff, reduceIte, reduceCtorEq] at hlen1 hlv hi hk hl hnew
    simp (config := { contextual := true }) only [go_sem, hlen, hlen1, hlv, lcondB_decide, lcondB_not, lguardB_decide_true, lguardB_decide_false, Nat.reduceLT, Nat.reduceEqDiff, Nat.reduceAdd, Nat.reduceLeDiff, reduceIte, reduceCtorEq]
    refine ⟨fun hlt => ⟨fun hbr => ?_, fun hnb => ?_⟩, fun hge => ?_⟩
    rotate_left
    · refine lfunG_eq (pickS ((h.upd (by omega) (by omega)).loc) (nm s.nx 1) [0, 1, 1, 2, 4] (some 3) (by simp) (by simp) (by simp only [go_sem, List.map_cons, lcondB_decide, lcondB_not, lguardB_decide_true, lguardB_decide_false, Nat.reduceLT, Nat.reduceEqDiff, Nat.reduceAdd, Nat.reduceLeDiff, reduceIte, reduceCtorEq]) (by rw [ne_eq, nm_ne hb]; simp) (by simp only [go_sem, lcondB_decide, lcondB_not, lguardB_decide_true, lguardB_decide_false, Nat.reduceLT, Nat.reduceEqDiff, Nat.reduceAdd, Nat.reduceLeDiff, reduceIte, reduceCtorEq])) ?_
      simp (config := { contextual := true }) only [go_sem, hlen1, hlv, hb, lcondB_decide, lcondB_not, lguardB_decide_true, lguardB_decide_false, Nat.reduceLT, Nat.reduceEqDiff, Nat.reduceAdd, Nat.reduceLeDiff, reduceIte, reduceCtorEq]
      refine lfunG_eq (someS ((h.upd (by omega) (by omega)).loc) (nm s.nx 2) [[], [120], [121, 122], [120], [195, 169]] (some 9) (by simp) (by simp) (by simp only [go_sem, List.map_cons, lcondB_decide, lcondB_not, lguardB_decide_true, lguardB_decide_false, Nat.reduceLT, Nat.reduceEqDiff, Nat.reduceAdd, Nat.reduceLeDiff, reduceIte, reduceCtorEq]) (by rw [ne_eq, nm_ne hb]; simp) (by simp only [go_sem, lcondB_decide, lcondB_not, lguardB_decide_true, lguardB_decide_false, Nat.reduceLT, Nat.reduceEqDiff, Nat.reduceAdd, Nat.reduceLeDiff, reduceIte, reduceCtorEq])) ?_
      have hS := getD_le (l := [[], [120], [121, 122], [120], [195, 169]]) (k := 4) (by simp) (nextOf L (at_ + k + 1) (([[], [120], [121, 122], [120], [195, 169]] : List (List UInt8)).length)).toNat
      generalize ([[], [120], [121, 122], [120], [195, 169]] : List (List UInt8)).getD _ [] = y at hS ⊢
      generalize ([0, 1, 1, 2, 4] : List Int).getD _ 0 = z
      simp (config := { contextual := true }) only [go_sem, hlen1, hlv, hb, lcondB_decide, lcondB_not, lguardB_decide_true, lguardB_decide_false, Nat.reduceLT, Nat.reduceEqDiff, Nat.reduceAdd, Nat.reduceLeDiff, reduceIte, reduceCtorEq]
      generalize (if IntKind.i64.wrap (n - at1) < z then IntKind.i64.wrap (n - at1) else z) = w
      have hw : IntKind.i64.wrap ((i : Int) + 1) = ((i + 1 : Nat) : Int) := by rw [wrap_id (by omega)]; rfl
      refine ⟨fun c1 => ⟨fun c2 => ?_, fun c2 => ?_⟩, fun c1 => ?_⟩
      all_goals
        refine lmem_eq (app27 (acellsOf_rs (by simp only [go_sem, lcondB_decide, lcondB_not, lguardB_decide_true, lguardB_decide_false, Nat.reduceLT, Nat.reduceEqDiff, Nat.reduceAdd, Nat.reduceLeDiff, reduceIte, reduceCtorEq]; rfl) (by rfl) (AHeap.nx_upd _ _ _)) (by decide) (by simp only [go_sem, lcondB_decide, lcondB_not, lguardB_decide_true, lguardB_decide_false, Nat.reduceLT, Nat.reduceEqDiff, Nat.reduceAdd, Nat.reduceLeDiff, reduceIte, reduceCtorEq]) (by simp only [go_sem, lcondB_decide, lcondB_not, lguardB_decide_true, lguardB_decide_false, Nat.reduceLT, Nat.reduceEqDiff, Nat.reduceAdd, Nat.reduceLeDiff, reduceIte, reduceCtorEq]) (edc_len l) (by omega) (AHeap.nx_upd _ _ _)) ?_
        simp (config := { contextual := true }) only [go_sem, hlen1, hlv, hb, lcondB_decide, lcondB_not, lguardB_decide_true, lguardB_decide_false, Nat.reduceLT, Nat.reduceEqDiff, Nat.reduceAdd, Nat.reduceLeDiff, reduceIte, reduceCtorEq]
        refine ldrawB_go [] [(2, 1), (2, 2)] 7 (by decide) ?_
        simp (config := { contextual := true }) only [go_sem, hlen1, hlv, hb, lcondB_decide, lcondB_not, lguardB_decide_true, lguardB_decide_false, Nat.reduceLT, Nat.reduceEqDiff, Nat.reduceAdd, Nat.reduceLeDiff, reduceIte, reduceCtorEq]
        refine ldfun_eff _ _ (pickS ((h.upd (by omega) (by omega)).loc) _ [1, 1, 2, 5] (some 3) (by simp) (by simp) (by simp only [go_sem, List.map_cons, lcondB_decide, lcondB_not, lguardB_decide_true, lguardB_decide_false, Nat.reduceLT, Nat.reduceEqDiff, Nat.reduceAdd, Nat.reduceLeDiff, reduceIte, reduceCtorEq]) (by rw [ne_eq, nm_ne hb]; simp) (by simp only [go_sem, lcondB_decide, lcondB_not, lguardB_decide_true, lguardB_decide_false, Nat.reduceLT, Nat.reduceEqDiff, Nat.reduceAdd, Nat.reduceLeDiff, reduceIte, reduceCtorEq])) ?_
        simp (config := { contextual := true }) only [go_sem, hlen1, hlv, hb, lcondB_decide, lcondB_not, lguardB_decide_true, lguardB_decide_false, Nat.reduceLT, Nat.reduceEqDiff, Nat.reduceAdd, Nat.reduceLeDiff, reduceIte, reduceCtorEq]
        generalize ([1, 1, 2, 5] : List Int).getD _ 0 = p
      · refine ⟨by kernel_rfl, (i + 1, IntKind.i64.wrap (at1 + IntKind.i64.wrap (0 + p)), k + 3, l ++ [⟨at1, 0, [119]⟩]), ⟨by simp only; omega, by simp only; omega, by simp only [List.length_append, List.length_cons, List.length_nil]; omega, ?_⟩, by simp only; omega, ?_⟩
        · intro e he
          rcases List.mem_append.1 he with he | he
          · exact hnew e he
          · rw [List.mem_singleton.1 he]; simp
        · refine To.go [5] [(0, gso 35 (edc (l ++ [⟨at1, 0, [119]⟩])))] (loc_at (by simp only; omega)) ((OKo.refl s).upd hb h.lowO) (by decide) (by simp) ?_ ?_
          · simp (config := { contextual := true }) only [go_sem, hlen1, hlv, hw, rnm_low hb, List.length_append, gsv_pos (Nat.succ_ne_zero l.length), lcondB_decide, lcondB_not, lguardB_decide_true, lguardB_decide_false, Nat.reduceLT, Nat.reduceEqDiff, Nat.reduceAdd, Nat.reduceLeDiff, reduceIte, reduceCtorEq]
          · simp only [go_sem, map_gso_pu (edc_pul _), lcondB_decide, lcondB_not, lguardB_decide_true, lguardB_decide_false, Nat.reduceLT, Nat.reduceEqDiff, Nat.reduceAdd, Nat.reduceLeDiff, reduceIte, reduceCtorEq]
            simp only [edc_snoc, gso_pos (List.append_ne_nil_of_right_ne_nil (edc l) (List.cons_ne_nil _ _))]
      · refine ⟨by kernel_rfl, (i + 1, IntKind.i64.wrap (at1 + IntKind.i64.wrap (0 + p)), k + 3, l ++ [⟨at1, 0, y⟩]), ⟨by simp only; omega, by simp only; omega, by simp only [List.length_append, List.length_cons, List.length_nil]; omega, ?_⟩, by simp only; omega, ?_⟩
        · intro e he
          rcases List.mem_append.1 he with he | he
          · exact hnew e he
          · rw [List.mem_singleton.1 he]; exact hS
        · refine To.go [5] [(0, gso 35 (edc (l ++ [⟨at1, 0, y⟩])))] (loc_at (by simp only; omega)) ((OKo.refl s).upd hb h.lowO) (by decide) (by simp) ?_ ?_
          · simp (config := { contextual := true }) only [go_sem, hlen1, hlv, hw, rnm_low hb, List.length_append, gsv_pos (Nat.succ_ne_zero l.length), lcondB_decide, lcondB_not, lguardB_decide_true, lguardB_decide_false, Nat.reduceLT, Nat.reduceEqDiff, Nat.reduceAdd, Nat.reduceLeDiff, reduceIte, reduceCtorEq]
          · simp only [go_sem, map_gso_pu (edc_pul _), lcondB_decide, lcondB_not, lguardB_decide_true, lguardB_decide_false, Nat.reduceLT, Nat.reduceEqDiff, Nat.reduceAdd, Nat.reduceLeDiff, reduceIte, reduceCtorEq]
            simp only [edc_snoc, gso_pos (List.append_ne_nil_of_right_ne_nil (edc l) (List.cons_ne_nil _ _))]
      · refine ⟨by kernel_rfl, (i + 1, IntKind.i64.wrap (at1 + IntKind.i64.wrap (w + p)), k + 3, l ++ [⟨at1, w, y⟩]), ⟨by simp only; omega, by simp only; omega, by simp only [List.length_append, List.length_cons, List.length_nil]; omega, ?_⟩, by simp only; omega, ?_⟩
        · intro e he
          rcases List.mem_append.1 he with he | he
          · exact hnew e he
          · rw [List.mem_singleton.1 he]; exact hS
        · refine To.go [5] [(0, gso 35 (edc (l ++ [⟨at1, w, y⟩])))] (loc_at (by simp only; omega)) ((OKo.refl s).upd hb h.lowO) (by decide) (by simp) ?_ ?_
          · simp (config := { contextual := true }) only [go_sem, hlen1, hlv, hw, rnm_low hb, List.length_append, gsv_pos (Nat.succ_ne_zero l.length), lcondB_decide, lcondB_not, lguardB_decide_true, lguardB_decide_false, Nat.reduceLT, Nat.reduceEqDiff, Nat.reduceAdd, Nat.reduceLeDiff, reduceIte, reduceCtorEq]
          · simp only [go_sem, map_gso_pu (edc_pul _), lcondB_decide, lcondB_not, lguardB_decide_true, lguardB_decide_false, Nat.reduceLT, Nat.reduceEqDiff, Nat.reduceAdd, Nat.reduceLeDiff, reduceIte, reduceCtorEq]
            simp only [edc_snoc, gso_pos (List.append_ne_nil_of_right_ne_nil (edc l) (List.cons_ne_nil _ _))]
    all_goals
      refine lfunG_eq (flipS ((h.upd (by omega) (by omega)).loc) _) ?_
      simp (config := { contextual := true }) only [go_sem, hlen1, hlv, hb, lcondB_decide, lcondB_not, lguardB_decide_true, lguardB_decide_false, Nat.reduceLT, Nat.reduceEqDiff, Nat.reduceAdd, Nat.reduceLeDiff, reduceIte, reduceCtorEq]
      refine ⟨fun hf => ?_, fun hf => ?_⟩
      · refine lfunG_of (anEditS ((h.upd (by omega) (by omega)).loc) (by omega) _) ?_
        rintro _ _ ⟨e, m, rfl, he, hm, rfl⟩
        simp (config := { contextual := true }) only [go_sem, hlen1, hlv, hb, Ed.enc, lcondB_decide, lcondB_not, lguardB_decide_true, lguardB_decide_false, Nat.reduceLT, Nat.reduceEqDiff, Nat.reduceAdd, Nat.reduceLeDiff, reduceIte, reduceCtorEq]
        refine lmem_eq (app27 (acellsOf_rs (by simp only [go_sem, lcondB_decide, lcondB_not, lguardB_decide_true, lguardB_decide_false, Nat.reduceLT, Nat.reduceEqDiff, Nat.reduceAdd, Nat.reduceLeDiff, reduceIte, reduceCtorEq]; rfl) (by rfl) (AHeap.nx_upd _ _ _)) (by decide) (by simp only [go_sem, lcondB_decide, lcondB_not, lguardB_decide_true, lguardB_decide_false, Nat.reduceLT, Nat.reduceEqDiff, Nat.reduceAdd, Nat.reduceLeDiff, reduceIte, reduceCtorEq]) (by simp only [go_sem, lcondB_decide, lcondB_not, lguardB_decide_true, lguardB_decide_false, Nat.reduceLT, Nat.reduceEqDiff, Nat.reduceAdd, Nat.reduceLeDiff, reduceIte, reduceCtorEq]) (edc_len l) (by omega) (AHeap.nx_upd _ _ _)) ?_
        simp (config := { contextual := true }) only [go_sem, hlen1, hlv, hb, lcondB_decide, lcondB_not, lguardB_decide_true, lguardB_decide_false, Nat.reduceLT, Nat.reduceEqDiff, Nat.reduceAdd, Nat.reduceLeDiff, reduceIte, reduceCtorEq]
        refine lexit_freeze 2 3 ((l ++ [e]).map Ed.enc) (by simp only [go_sem, lcondB_decide, lcondB_not, lguardB_decide_true, lguardB_decide_false, Nat.reduceLT, Nat.reduceEqDiff, Nat.reduceAdd, Nat.reduceLeDiff, reduceIte, reduceCtorEq]; exact congrArg (fun c => some (AObj.cells c (some 35))) (edc_snoc l e).symm) (enc_len _) ?_
        simp only [AHeap.nx_upd, len_fz1]
        refine lexit_pure ((OKo.refl s).upd hb h.lowO) (low.mono (Nat.zero_le _) (edv_pu _)) ⟨_, k + 1 + m, rfl, by simp only [List.length_append, List.length_cons, List.length_nil]; omega, ?_, by omega, by congr 2; omega⟩
        intro x hx
        rcases List.mem_append.1 hx with hx | hx
        · exact hnew x hx
        · rw [List.mem_singleton.1 hx]; exact he
      · refine lexit_freezeG 0 3 (l.map Ed.enc) (by simp only [go_sem, lcondB_decide, lcondB_not, lguardB_decide_true, lguardB_decide_false, Nat.reduceLT, Nat.reduceEqDiff, Nat.reduceAdd, Nat.reduceLeDiff, reduceIte, reduceCtorEq]; rfl) (enc_len l) (by decide) ?_
        simp only [AHeap.nx_upd, len_fz]
        exact lexit_pure ((OKo.refl s).upd hb h.lowO) (low.mono (Nat.zero_le _) (edv_pu _)) ⟨_, k + 1, rfl, by omega, hnew, by omega, by congr 2; omega⟩
end Go.S1N
end
section
set_option linter.unusedVariables false
set_option linter.unusedSimpArgs false
namespace Go.S1
open Go Go.Am Go.Proofs
set_option maxRecDepth 100000
noncomputable def run (n : Nat) := afun tab (fun _ => {}) ov 100 n
theorem a72 : (run 5 72 [.int .i64 2, .vs 3 true [.agg [.int .i64 1, .int .i64 0, .str [120]]]] .empty).isSome = true := by kernel_rfl
theorem t19 : (run 12 19 [] .empty).map Prod.fst = some (.bool true) := by kernel_rfl
end Go.S1
namespace Go.S1
open Go Go.Am Go.Proofs
set_option maxRecDepth 100000
theorem t59 : (run 14 59 [] .empty).map Prod.fst = some (.bool true) := by kernel_rfl
end Go.S1
end
section
set_option linter.unusedVariables false
set_option linter.unusedSimpArgs false
namespace Go.S1N
open Go Go.Am Go.Proofs Go.S1
set_option maxRecDepth 100000
set_option linter.unusedSimpArgs false

/-- a closed call that was executed over the empty heap -/
theorem ACall.closed {P : Program} {f : FuncId} {b : Bool} (h : ACall P f [] .empty fun v _ => v = .bool b) (s : AHeap) : ACall P f [] s fun v t => v = .bool b ∧ t = s := by
  intro K w vals hw hv
  cases hv
  have hlt : ∀ {g o u}, K.frz g o = some u → g < w.heap.size := fun h => hw.frz_lt h
  have hdl : ∀ {g n}, K.dim g = some n → g < w.heap.size := fun h => hw.dim_lt h
  let K0 : Know := ⟨fun _ => none, K.frz, K.dim⟩
  have he : ∀ {x : Nat} {o : AObj} {p : Prop}, AHeap.empty.get x = some o → p := by
    intro x o p e
    rw [AHeap.get_empty] at e
    cases e
  have h0 : WR K0 .empty w := ⟨hw.frz, hw.dim, fun _ _ e => he e, fun _ _ _ _ _ _ _ e => he e, fun _ _ _ _ e => he e, fun _ _ _ e => nomatch e⟩
  have fin : ∀ {v : AV} {u : Value} {K' : Know} {s' : AHeap} {w' : World}, RV K' v u → Ext K0 .empty w K' s' w' → v = .bool b → ∃ v' K2 s2, RV K2 v' u ∧ WR K2 s2 w' ∧ Ext K s w K2 s2 w' ∧ v' = .bool b ∧ s2 = s := by
    intro v u K' s' w' hr hx hv
    subst hv
    have hno : ∀ g, ¬ owned K0 .empty g := by
      rintro g ⟨x, o, base, e, _⟩
      rw [AHeap.get_empty] at e; cases e
    have hbl : ∀ g, g < w.heap.size → w'.heap[g]? = w.heap[g]? := fun g hg => hx.block g hg (hno g)
    refine ⟨.bool b, K, s, ?_, ?_, ?_, rfl, rfl⟩
    · cases hr; exact .bool b
    · refine ⟨?_, ?_, ?_, hw.inj, hw.sep, fun b g i e => ⟨(hw.bnd b g i e).1, Nat.lt_of_lt_of_le (hw.bnd b g i e).2 hx.size⟩⟩
      · intro g o u e
        have := hw.frz g o u e
        unfold World.cell? at this ⊢
        rw [show (⟨g, o, none⟩ : Addr).block = g from rfl] at this ⊢
        rw [hbl g (hlt e)]; exact this
      · intro g n e
        rw [hbl g (hdl e)]; exact hw.dim g n e
      · intro x o e
        obtain ⟨g, base, q1, q2⟩ := hw.own x o e
        exact ⟨g, base, q1, q2.of_block (hbl g (hw.bnd _ _ _ q1).2)⟩
    · exact ⟨.refl K, fun _ _ => rfl, Nat.le_refl _, hx.os, hx.tape, hx.output, hx.size, fun g hg _ => hbl g hg, fun g ho => .inl ho, fun _ _ _ _ => rfl⟩
  have := h K0 w [] h0 .nil
  generalize (callFunc f ([] : List Value).toArray).run P w = r at *
  cases r with
  | halt _ _ => exact this
  | ok n w' =>
    cases n <;> simp only at this ⊢
    · obtain ⟨v, K', s', h1, h2, h3, h4⟩ := this
      obtain ⟨v', K2, s2, q1, q2, q3, q4, q5⟩ := fin h1 h3 h4
      exact ⟨v', K2, s2, q1, q2, q3, q4, q5⟩
    · refine Calls.mono this ?_
      rintro e w'' ⟨u, v, K', s', h0, h1, h2, h3, h4⟩
      obtain ⟨v', K2, s2, q1, q2, q3, q4, q5⟩ := fin h1 h3 h4
      exact ⟨u, v', K2, s2, h0, q1, q2, q3, q4, q5⟩

theorem run_bool {n f : Nat} {b : Bool} (h : (run n f [] .empty).map Prod.fst = some (.bool b)) (s : AHeap) : ACall Try.prog f [] s fun v t => v = .bool b ∧ t = s := by
  obtain ⟨⟨v, t⟩, h1, h2⟩ := Option.map_eq_some_iff.1 h
  refine ACall.closed ((afun_ok tab_ok mixed ov_ok 100 n f [] .empty v t h1).mono ?_) s
  rintro v' t' ⟨rfl, _⟩
  exact h2
theorem edited_ok (s : AHeap) : ACall Try.prog 19 [] s fun v t => v = .bool true ∧ t = s := run_bool t19 s
theorem treed_ok (s : AHeap) : ACall Try.prog 59 [] s fun v t => v = .bool true ∧ t = s := run_bool t59 s
end Go.S1N
end
section
set_option linter.unusedVariables false
set_option linter.unusedSimpArgs false
namespace Go.S1N
open Go Go.Am Go.Proofs Go.S1
set_option maxRecDepth 100000
set_option linter.unusedSimpArgs false
attribute [local irreducible] lopsB lvb lstepB lfunG lcondB lguardB ldrawB ldrunB ldstepB ldguardB lmem lval ldmem ldval ldfun lexit ldloadB ldlenB lpostB athen ablock

theorem _root_.Go.S1.IsInts.cells {v : AV} {l : List Int} (h : IsInts v l) : v.cells = [v] := by rcases h with ⟨f, rfl⟩ | ⟨rfl, rfl⟩ <;> rfl
theorem _root_.Go.S1.IsInts.israw {v : AV} {l : List Int} (h : IsInts v l) : v.israw = false := by rcases h with ⟨f, rfl⟩ | ⟨rfl, rfl⟩ <;> rfl

theorem eql35 {a b : Int} {c : List UInt8} : abin tab .eql 35 (.agg [.int .i64 a, .int .i64 b, .str c]) (.agg [.int .i64 a, .int .i64 b, .str c]) = some (.bool true) := by
  simp [abin, abin1, aeq, ty35, ty3, ty9, aeqFields, apart, TD.isAgg]
theorem eql4 {a : Bool} : abin tab .eql 4 (.bool a) (.bool a) = some (.bool true) := by
  simp [abin, abin1, aeq, ty4]

set_option maxHeartbeats 1000000 in
theorem placesMoved_ok (v : AV) (L : List Int) (hv : IsInts v L) (hL : L.length < 4611686018427387904) (s : AHeap) :
    ACall Try.prog 3 [v] s fun r t => r = .bool true ∧ t = s := by
  refine gob3 (by simp) ?_
  intro tm hlen harg
  simp (config := { contextual := true }) only [go_sem, L3, hlen, harg, hv.cells, hv.israw, lcondB_decide, lcondB_not, lguardB_decide_true, lguardB_decide_false, Nat.reduceLT, Nat.reduceEqDiff, Nat.reduceAdd, Nat.reduceLeDiff, reduceIte, reduceCtorEq]

  have h0 : Sm (loc s 1 [(0, some (strm v 0))]) (nm s.nx 0) v L 0 := ⟨hv, hL, by omega, by omega, by rw [nx_loc, nm_lt]; omega, by simp only [go_sem, lcondB_decide, lcondB_not, lguardB_decide_true, lguardB_decide_false, Nat.reduceLT, Nat.reduceEqDiff, Nat.reduceAdd, Nat.reduceLeDiff, reduceIte, reduceCtorEq]⟩
  refine lfunG_of (lettersS h0 (by omega) 10 (by omega) (by omega)) ?_
  rintro _ _ ⟨x, k1, rfl, hx, hk1, rfl⟩
  simp (config := { contextual := true }) only [go_sem, hlen, harg, hv.cells, hv.israw, lcondB_decide, lcondB_not, lguardB_decide_true, lguardB_decide_false, Nat.reduceLT, Nat.reduceEqDiff, Nat.reduceAdd, Nat.reduceLeDiff, reduceIte, reduceCtorEq]
  have hS : ∀ (a : Int) (n : Nat) (l : List (Nat × Option AObj)), 0 ≤ a → a < 4000000000000000000 → Sm (loc s (n + 1) ((0, some (strm v a)) :: l)) (nm s.nx 0) v L a := fun a n l h1 h2 =>
    ⟨hv, hL, h1, h2, by rw [nx_loc, nm_lt]; omega, by simp only [go_sem, lcondB_decide, lcondB_not, lguardB_decide_true, lguardB_decide_false, Nat.reduceLT, Nat.reduceEqDiff, Nat.reduceAdd, Nat.reduceLeDiff, reduceIte, reduceCtorEq]⟩
  refine lfunG_of (changeS (hS _ _ _ (by omega) (by omega)) (by omega) _) ?_
  rintro _ _ ⟨l, k2, rfl, hl, hnew, hk2, rfl⟩
  have hxl : (x.length : Int) ≤ 10 := hx
  have hw1 : IntKind.i64.wrap ((x.length : Int) + 1) = x.length + 1 := wrap_id (by omega)
  simp (config := { contextual := true }) only [go_sem, hlen, harg, hw1, lcondB_decide, lcondB_not, lguardB_decide_true, lguardB_decide_false, Nat.reduceLT, Nat.reduceEqDiff, Nat.reduceAdd, Nat.reduceLeDiff, reduceIte, reduceCtorEq]
  refine lfunG_eq (rangeS (hS _ _ _ (by omega) (by omega)) _ _ (by omega) (by omega) (by omega)) ?_
  simp (config := { contextual := true }) only [go_sem, hlen, harg, lcondB_decide, lcondB_not, lguardB_decide_true, lguardB_decide_false, Nat.reduceLT, Nat.reduceEqDiff, Nat.reduceAdd, Nat.reduceLeDiff, reduceIte, reduceCtorEq]
  refine lfunG_eq (flipS (hS _ _ _ (by omega) (by omega)) _) ?_
  generalize (-1 + nextOf L _ _) = q
  generalize decide (nextOf L _ 2 = 0) = bh
  simp (config := { contextual := true }) only [go_sem, hlen, harg, lcondB_decide, lcondB_not, lguardB_decide_true, lguardB_decide_false, Nat.reduceLT, Nat.reduceEqDiff, Nat.reduceAdd, Nat.reduceLeDiff, reduceIte, reduceCtorEq]
  have hsl := edv_sl l
  have hnew2 : ∀ e ∈ l, e.new.length ≤ 1000000 := fun e he => by have := hnew e he; omega
  refine lfunG_eq (exact_of (by simp only [Pu, low, lowL, and_self]) (moved_ok _ _ l q bh hsl (by omega) _)) ?_
  simp (config := { contextual := true }) only [go_sem, hlen, harg, lcondB_decide, lcondB_not, lguardB_decide_true, lguardB_decide_false, Nat.reduceLT, Nat.reduceEqDiff, Nat.reduceAdd, Nat.reduceLeDiff, reduceIte, reduceCtorEq]
  refine lfunG_eq (exact_of (by simp only [Pu, low, lowL, and_self, Ed.enc]) (hull_ok x _ l hsl (by omega) hnew2 _)) ?_
  simp (config := { contextual := true }) only [go_sem, hlen, harg, Ed.enc, lcondB_decide, lcondB_not, lguardB_decide_true, lguardB_decide_false, Nat.reduceLT, Nat.reduceEqDiff, Nat.reduceAdd, Nat.reduceLeDiff, reduceIte, reduceCtorEq]
  refine lfunG_eq (exact_of (by simp only [Pu, low, lowL, and_self]) (fault_ok _ _ l hsl (by omega) _)) ?_
  simp (config := { contextual := true }) only [go_sem, hlen, harg, Nat.reduceLT, Nat.reduceEqDiff, Nat.reduceAdd, Nat.reduceLeDiff, reduceIte, reduceCtorEq]
  have htf : textFault x l = faultOf x.length l := by rw [textFault, if_neg (by omega)]
  generalize hstr : 0 + (k1 : Int) + k2 + 1 + 1 = str
  refine lguardB_cut 106 (fun β : Bool => [(3, .ptr (nm s.nx 0) 0), (4, .str x), (5, .int .i64 x.length), (6, edv l), (7, .int .i64 q), (8, .bool bh), (9, .int .i64 (movedVal x.length l q bh).1), (10, .int .i64 (movedVal x.length l q bh).2),
    (11, .ptr (nm s.nx 1) 0), (12, .bool (hullVal x l).2.1), (13, .int .i64 (hullVal x l).2.2), (14, .int .i64 (faultOf x.length l)), (53, .int .i64 (faultOf x.length l)), (60, .bool β)])
    (fun _ => loc s 2 [(0, some (strm v str)), (1, some (.cells [.int .i64 (hullVal x l).1.at_, .int .i64 (hullVal x l).1.cut, .str (hullVal x l).1.new] (some 35)))]) (fun β => β = decide (q < 0 ∨ x.length < q)) 3 ?_ ?_
  · simp (config := { contextual := true }) only [go_sem, hlen, harg, lcondB_decide, lcondB_not, lguardB_decide_true, lguardB_decide_false, Nat.reduceLT, Nat.reduceEqDiff, Nat.reduceAdd, Nat.reduceLeDiff, reduceIte, reduceCtorEq]
    refine ⟨fun c => ?_, fun c => ?_⟩
    · refine ⟨by simp only [go_sem, hlen], true, by simp [c], rfl, ?_⟩
      simp only [go_sem, hlen, harg, lcondB_decide, lcondB_not, lguardB_decide_true, lguardB_decide_false, Nat.reduceLT, Nat.reduceEqDiff, Nat.reduceAdd, Nat.reduceLeDiff, reduceIte, reduceCtorEq]
    · refine ⟨by simp only [go_sem, hlen], decide (x.length < q), by simp [c], rfl, ?_⟩
      simp only [go_sem, hlen, harg, lcondB_decide, lcondB_not, lguardB_decide_true, lguardB_decide_false, Nat.reduceLT, Nat.reduceEqDiff, Nat.reduceAdd, Nat.reduceLeDiff, reduceIte, reduceCtorEq]
  rintro β tm1 hβ hlen1 hlv
  simp only [go_sem, lcondB_decide, lcondB_not, lguardB_decide_true, lguardB_decide_false, Nat.reduceLT, Nat.reduceEqDiff, Nat.reduceAdd, Nat.reduceLeDiff, reduceIte, reduceCtorEq] at hlv
  simp (config := { contextual := true }) only [go_sem, hlen1, hlv, lcondB_decide, lcondB_not, lguardB_decide_true, lguardB_decide_false, Nat.reduceLT, Nat.reduceEqDiff, Nat.reduceAdd, Nat.reduceLeDiff, reduceIte, reduceCtorEq]
  refine lfunG_eq (when_ok β 1 _) ?_
  simp (config := { contextual := true }) only [go_sem, hlen1, hlv, lcondB_decide, lcondB_not, lguardB_decide_true, lguardB_decide_false, Nat.reduceLT, Nat.reduceEqDiff, Nat.reduceAdd, Nat.reduceLeDiff, reduceIte, reduceCtorEq]
  refine lfunG_eq (errs_ok _ [faultOf x.length l, if β = true then 1 else 0] (some 31) (by simp) _ (by simp only [go_sem, List.map_cons, lcondB_decide, lcondB_not, lguardB_decide_true, lguardB_decide_false, Nat.reduceLT, Nat.reduceEqDiff, Nat.reduceAdd, Nat.reduceLeDiff, reduceIte, reduceCtorEq])) ?_
  have hone : errsOf [faultOf x.length l, if β = true then 1 else 0] = (movedVal x.length l q bh).2 := by
    simp only [errsOf, movedVal]
    by_cases hf : faultOf x.length l = 0
    · by_cases hq : q < 0 ∨ (x.length : Int) < q
      · rw [hβ]; simp [hf, hq]
      · rw [hβ]; simp [hf, hq]
    · simp [hf]
  rw [hone]
  simp (config := { contextual := true }) only [go_sem, hlen1, hlv, Nat.reduceLT, Nat.reduceEqDiff, Nat.reduceAdd, Nat.reduceLeDiff, reduceIte, reduceCtorEq]
  -- where the place is
  refine lcondB_cut 106 (fun w : Int => [(4, .str x), (5, .int .i64 x.length), (6, edv l), (9, .int .i64 (movedVal x.length l q bh).1), (10, .int .i64 (movedVal x.length l q bh).2),
    (11, .ptr (nm s.nx 1) 0), (12, .bool (hullVal x l).2.1), (13, .int .i64 (hullVal x l).2.2), (14, .int .i64 (faultOf x.length l)), (15, .int .i64 (movedVal x.length l q bh).2), (16, .int .i64 w)])
    (fun _ => loc s 3 [(0, some (strm v str)), (1, some (.cells [.int .i64 (hullVal x l).1.at_, .int .i64 (hullVal x l).1.cut, .str (hullVal x l).1.new] (some 35))),
      (2, some (.cells [.int .i64 (faultOf x.length l), .int .i64 (if β = true then 1 else 0)] (some 31)))]) (fun w => w = (movedVal x.length l q bh).1) ?_ ?_
  · simp (config := { contextual := true }) only [go_sem, hlen1, hlv, lcondB_decide, lcondB_not, lguardB_decide_true, lguardB_decide_false, Nat.reduceLT, Nat.reduceEqDiff, Nat.reduceAdd, Nat.reduceLeDiff, reduceIte, reduceCtorEq]
    refine ⟨fun c => ?_, fun c => ?_⟩
    · refine lfunG_eq (exact_of (by simp only [Pu, low]) (movedOf_ok _ _ l q bh hsl (by omega) _)) ?_
      simp only [go_sem, hlen1, hlv, lcondB_decide, lcondB_not, lguardB_decide_true, lguardB_decide_false, Nat.reduceLT, Nat.reduceEqDiff, Nat.reduceAdd, Nat.reduceLeDiff, reduceIte, reduceCtorEq]
      refine ⟨by simp only [go_sem, hlen1], movedFrom q bh 0 l, ?_, rfl, ?_⟩
      · have c' := c
        unfold movedVal at c' ⊢
        split at c'
        · rename_i hf; exact absurd c' hf
        · rename_i hf
          rw [if_neg hf]
          split at c'
          · cases c'
          · rename_i hq; rw [if_neg hq]
      · simp only [go_sem, hlen1, hlv, c, lcondB_decide, lcondB_not, lguardB_decide_true, lguardB_decide_false, Nat.reduceLT, Nat.reduceEqDiff, Nat.reduceAdd, Nat.reduceLeDiff, reduceIte, reduceCtorEq]
    · refine ⟨hlen1 ▸ (by simp only [go_sem]), 0, ?_, rfl, ?_⟩
      · have c' := c
        unfold movedVal at c' ⊢
        split at c'
        · rename_i hf; rw [if_pos hf]
        · rename_i hf
          rw [if_neg hf]
          split at c'
          · rename_i hq; rw [if_pos hq]
          · exact absurd rfl c'
      · simp only [go_sem, hlen1, hlv, lcondB_decide, lcondB_not, lguardB_decide_true, lguardB_decide_false, Nat.reduceLT, Nat.reduceEqDiff, Nat.reduceAdd, Nat.reduceLeDiff, reduceIte, reduceCtorEq]
  rintro w tm2 rfl hlen2 hlv2
  simp only [go_sem, lcondB_decide, lcondB_not, lguardB_decide_true, lguardB_decide_false, Nat.reduceLT, Nat.reduceEqDiff, Nat.reduceAdd, Nat.reduceLeDiff, reduceIte, reduceCtorEq] at hlv2
  simp (config := { contextual := true }) only [go_sem, hlen2, hlv2, Nat.reduceLT, Nat.reduceEqDiff, Nat.reduceAdd, Nat.reduceLeDiff, reduceIte, reduceCtorEq]
  -- the hull
  refine lcondB_cut 106 (fun _ : Unit => [(9, .int .i64 (movedVal x.length l q bh).1), (10, .int .i64 (movedVal x.length l q bh).2),
    (11, .ptr (nm s.nx 1) 0), (12, .bool (hullVal x l).2.1), (13, .int .i64 (hullVal x l).2.2), (14, .int .i64 (faultOf x.length l)), (15, .int .i64 (movedVal x.length l q bh).2), (16, .int .i64 (movedVal x.length l q bh).1),
    (17, .ptr (nm s.nx 3) 0), (18, .bool (hullVal x l).2.1)])
    (fun _ => loc s 4 [(0, some (strm v str)), (1, some (.cells [.int .i64 (hullVal x l).1.at_, .int .i64 (hullVal x l).1.cut, .str (hullVal x l).1.new] (some 35))),
      (2, some (.cells [.int .i64 (faultOf x.length l), .int .i64 (if β = true then 1 else 0)] (some 31))),
      (3, some (.cells [.int .i64 (hullVal x l).1.at_, .int .i64 (hullVal x l).1.cut, .str (hullVal x l).1.new] (some 35)))]) (fun _ => True) ?_ ?_
  · simp (config := { contextual := true }) only [go_sem, hlen2, hlv2, lcondB_decide, lcondB_not, lguardB_decide_true, lguardB_decide_false, Nat.reduceLT, Nat.reduceEqDiff, Nat.reduceAdd, Nat.reduceLeDiff, reduceIte, reduceCtorEq]
    refine ⟨fun c => ?_, fun c => ?_⟩
    · obtain ⟨hx2, hl2, hsc⟩ := textFault_zero (htf.trans c)
      have hho : hullVal x l = ((hullOf x l).1, (hullOf x l).2, 0) := by
        rw [hullVal, if_neg (by rw [htf, c]; simp), hullOf]
        split <;> rfl
      refine lfunG_eq (hullOf_ok x _ l hsl (by omega) (by omega) (fun e he => by have := hnew e he; omega) hsc _) ?_
      rw [hho]
      simp only [go_sem, hlen2, hlv2, Ed.enc, lcondB_decide, lcondB_not, lguardB_decide_true, lguardB_decide_false, Nat.reduceLT, Nat.reduceEqDiff, Nat.reduceAdd, Nat.reduceLeDiff, reduceIte, reduceCtorEq]
      refine ⟨by simp only [go_sem, hlen2], (), trivial, rfl, ?_⟩
      rw [hho] at hlv2
      simp only [go_sem, hlen2, hlv2, c, lcondB_decide, lcondB_not, lguardB_decide_true, lguardB_decide_false, Nat.reduceLT, Nat.reduceEqDiff, Nat.reduceAdd, Nat.reduceLeDiff, reduceIte, reduceCtorEq]
    · have hho : hullVal x l = (⟨0, 0, []⟩, false, faultOf x.length l) := by rw [hullVal, htf, if_pos c]
      rw [hho] at hlv2 ⊢
      refine ⟨by simp only [go_sem, hlen2], (), trivial, rfl, ?_⟩
      simp only [go_sem, hlen2, hlv2, lcondB_decide, lcondB_not, lguardB_decide_true, lguardB_decide_false, Nat.reduceLT, Nat.reduceEqDiff, Nat.reduceAdd, Nat.reduceLeDiff, reduceIte, reduceCtorEq]
  rintro _ tm3 - hlen3 hlv3
  simp only [go_sem, lcondB_decide, lcondB_not, lguardB_decide_true, lguardB_decide_false, Nat.reduceLT, Nat.reduceEqDiff, Nat.reduceAdd, Nat.reduceLeDiff, reduceIte, reduceCtorEq] at hlv3
  have hF3 : (hullVal x l).2.2 = faultOf x.length l := by
    rw [hullVal, htf]
    split
    · rfl
    · rename_i hf
      have : faultOf x.length l = 0 := Classical.not_not.1 hf
      split <;> simp [this]
  simp (config := { contextual := true }) only [go_sem, hlen3, hlv3, hF3, eql35, eql4, lcondB_decide, lcondB_not, lguardB_decide_true, lguardB_decide_false, Nat.reduceLT, Nat.reduceEqDiff, Nat.reduceAdd, Nat.reduceLeDiff, reduceIte, reduceCtorEq]
  refine lfunG_eq (edited_ok _) ?_
  simp only [go_sem, hlen3, hlv3, lcondB_decide, lcondB_not, lguardB_decide_true, lguardB_decide_false, Nat.reduceLT, Nat.reduceEqDiff, Nat.reduceAdd, Nat.reduceLeDiff, reduceIte, reduceCtorEq]
  exact lexit_pure (.refl s) (by simp only [low]) ⟨rfl, rfl⟩
end Go.S1N
end
section
set_option linter.unusedVariables false
set_option linter.unusedSimpArgs false
namespace Go.S1N
open Go Go.Am Go.Proofs Go.S1
open Go.Proofs.Ytnlepbdahjmeoaa
open Go.ChangeShapes Go.WideShapes Go.ChangeAt Go.RowKit
open Go.ChangeMaps (open_string shut_string)
set_option maxRecDepth 100000
set_option linter.unusedVariables false

theorem own : ownKnob Try.prog.godebug = none := by kernel_rfl
theorem laidOut : laidOutB Try.prog = true := by kernel_rfl

/-- a slice of whole numbers as it comes in -/
def IsRow (w : World) (a : Option Addr) (len cap : Nat) (zs : List Int) : Prop :=
  (a = none ∧ len = 0 ∧ cap = 0) ∨
  ∃ x, a = some x ∧ len ≤ cap ∧ cap ≤ maxLen ∧ zs.length = cap ∧ (∀ i, i < zs.length → w.cell? (x.add i) = some (.int .i64 (zs.getD i 0)))

/-- a law of one slice of whole numbers, out of what it does of abstract states -/
theorem law_calls {n : Nat} {fn : Func} {c : Code} (hf : Try.prog.funcs[n]? = some fn) (hb : fn.body = some c) (hn : (fn.name == "runtime.NumGoroutine") = false)
    (h : ∀ v L, IsInts v L → L.length < 4611686018427387904 → ∀ s, ACall Try.prog n [v] s fun r t => r = .bool true ∧ t = s) {W : World} {a : Option Addr} {len cap : Nat} {zs : List Int} (hr : IsRow W a len cap zs) (hlen : len < 4611686018427387904) :
    Calls Try.prog n #[.slice a len cap] W fun e W' => e = .returned (.bool true) ∧ Below W.heap.size W W' := by
  have key : ∀ (K : Know) (v : AV) (L : List Int), (∀ b, K.phi b = none) → WR K .empty W → RV K v (.slice a len cap) → IsInts v L → L.length < 4611686018427387904 →
      Calls Try.prog n #[.slice a len cap] W fun e W' => e = .returned (.bool true) ∧ Below W.heap.size W W' := by
    intro K v L hphi hw hv hi hl
    have := h v L hi hl .empty K W [.slice a len cap] hw (.cons _ _ _ _ hv .nil)
    have hrun : (callFunc n [Value.slice a len cap].toArray).run Try.prog W = .ok (.enter n #[.slice a len cap]) W := by
      have hn' : ¬ fn.name = "runtime.NumGoroutine" := by simpa using hn
      simp [callFunc, hf, hb, hn']
    rw [hrun] at this
    simp only at this
    refine this.mono ?_
    rintro e w' ⟨u, r, K', s', rfl, q1, q2, q3, rfl, q5⟩
    cases q1
    refine ⟨rfl, q3.os, q3.tape, q3.output, q3.size, fun g hg => q3.block g hg ?_⟩
    rintro ⟨b, o, base, e, _⟩
    rw [AHeap.get_empty] at e
    cases e
  have he : ∀ {x : Nat} {o : AObj} {p : Prop}, AHeap.empty.get x = some o → p := by
    intro x o p e
    rw [AHeap.get_empty] at e
    cases e
  rcases hr with ⟨rfl, rfl, rfl⟩ | ⟨x, rfl, h1, h2, h3, h4⟩
  · exact key ⟨fun _ => none, fun _ _ => none, fun _ => none⟩ .nils [] (fun _ => rfl) ⟨fun _ _ _ e => (by cases e), fun _ _ e => (by cases e), fun _ _ e => he e, fun _ _ _ _ _ _ _ e => he e, fun _ _ _ _ e => he e, fun _ _ _ e => (by cases e)⟩ .nils (.inr ⟨rfl, rfl⟩) (by simp)
  · refine key ⟨fun _ => none, fun g o => if g = x.block then W.cell? ⟨g, o, none⟩ else none, fun _ => none⟩ (.vs 1 false ((zs.take len).map (AV.int .i64))) (zs.take len) (fun _ => rfl) ⟨?_, fun _ _ e => (by cases e), fun _ _ e => he e, fun _ _ _ _ _ _ _ e => he e, fun _ _ _ _ e => he e, fun _ _ _ e => (by cases e)⟩ ?_ (.inl ⟨false, rfl⟩) ?_
    · intro g o u e
      simp only at e
      split at e
      · exact e
      · cases e
    · refine .vs _ _ _ x len cap ((zs.take len).map (Value.int .i64)) (by simp; omega) ?_ ?_ h1 (fun q => by cases q) ?_
      · have : ∀ zs : List Int, RVs ⟨fun _ => none, fun g o => if g = x.block then W.cell? ⟨g, o, none⟩ else none, fun _ => none⟩ ((zs.map (AV.int .i64)).flatMap AV.cells) (zs.map (Value.int .i64)) := by
          intro zs
          induction zs with
          | nil => exact .nil
          | cons z zs ih => exact .cons _ _ _ _ (.int .i64 z) ih
        exact this _
      · intro y hy
        obtain ⟨z, _, rfl⟩ := List.mem_map.1 hy
        rfl
      · intro i u hu
        rw [List.getElem?_map] at hu
        obtain ⟨z, q1, rfl⟩ := Option.map_eq_some_iff.1 hu
        rw [List.getElem?_take] at q1
        split at q1
        · rename_i hi
          have hc := h4 i (by omega)
          have hsp : x.spot = none := by
            have h0 := h4 0 (by omega)
            unfold World.cell? Addr.add at h0
            rw [if_pos rfl] at h0
            cases hs : x.spot with
            | none => rfl
            | some y =>
              exfalso
              split at h0
              · simp [hs] at h0
              · cases h0
          refine ⟨hsp, ?_⟩
          show (if x.block = x.block then W.cell? ⟨x.block, x.off + i, none⟩ else none) = _
          rw [if_pos rfl]
          have hz : zs.getD i 0 = z := by rw [List.getD_eq_getElem?_getD, q1]; rfl
          rw [hz] at hc
          rw [← hc]
          congr 1
          unfold Addr.add
          split
          · rename_i hi0
            subst hi0
            obtain ⟨b, o, sp⟩ := x
            simp only at hsp
            subst hsp
            rfl
          · rfl
        · cases q1
    · simp only [List.length_take]
      omega

/-- how long a slice of whole numbers can be that the reach lets in -/
theorem ints_small {H : Type} {enc : TypeId × Value → H} {W : World} {base : Nat} {spare : Nat → Bool} {held : Bool} {a : Option Addr} {len cap : Nat} {d : DataW H} {ps : List MemPlace} {ts : List TypeId} {ds : List (DataW H)}
    (hsz : (DataW.weightsEach Try.prog ts ds).all (· ≤ reachBytes) = true) (ht : ts[0]? = some 22) (hd : ds[0]? = some d) (h : DataW.Trod enc Try.prog W base spare held 22 (.slice a len cap) d ps) : len < 4611686018427387904 := by
  have hB : Try.prog.bytesOf 3 = 8 := by kernel_rfl
  obtain ⟨fuel, hf⟩ := h
  rcases open_ints Try.underlying22 Try.underlying3 (by kernel_rfl) hf with ⟨hcs, _⟩ | ⟨x, l, c, zs, hcs, _, hl, _, hz, hx, _, _⟩
  · simp [Value.cells] at hcs
    omega
  · simp [Value.cells] at hcs
    obtain ⟨_, hle, hce⟩ := hcs
    obtain ⟨hx1, _⟩ := Prod.mk.inj hx
    subst hx1
    have hw := sized_slice hsz ht hd Try.underlying22
    have hlz : len ≤ zs.length := by
      rw [hz, hle]
      split <;> omega
    have hsum : (lits (H := H) .i64 (zs.take l)).length + (lits (H := H) .i64 (zs.drop l)).length = zs.length := by
      simp only [lits, List.length_map, List.length_take, List.length_drop]
      omega
    rw [hB, hsum] at hw
    have := reachBytes_lt
    omega

set_option maxHeartbeats 1000000 in
theorem placesMoved_lifted (hP : ∀ {W : World} {a : Option Addr} {len cap : Nat} {zs : List Int}, IsRow W a len cap zs → len < 4611686018427387904 → Calls Try.prog 3 #[.slice a len cap] W fun e W' => e = .returned (.bool true) ∧ Below W.heap.size W W')
    (os : Os) (started : os.Started) (H : Type) (enc : TypeId × Value → H) :
    ReturnsInHanded {} Try.checked os 3 .any (Rows.placesMovedSpec.pre6 enc Try.prog Try.f3 Rows.placesMovedRow.domain false) (Rows.placesMovedSpec.post enc Try.prog Try.f3 false true false false) := by
  refine returnsInHanded_of_change_sized (C := Try.checked) own started (by kernel_rfl) Try.func3
    (ChangeSpec.witness6 (enc := enc) (C := Try.checked) false ⟨#[], #[.slice none 0 0], []⟩ 8 (by kernel_rfl) (by kernel_rfl) (by kernel_rfl) (by kernel_rfl)) ?_
  intro W base args ds gs before hval0 hW hcnd hsz0 _
  have hsz : (DataW.weightsEach Try.prog (Try.f3.params.toList ++ Rows.placesMovedSpec.plain.varTypes Try.prog) (ds ++ gs)).all (· ≤ reachBytes) = true := hsz0
  have hval : ∀ (j : Nat) t v, Try.f3.params[j]? = some t → args[j]? = some v → Value.okWide Try.prog W .any base t v := hval0
  have hW' := hW
  obtain ⟨p, q, hA0, hV, rfl, hfz, hnd⟩ := hW
  have hA : DataW.TrodAll enc Try.prog W 0 (fun _ => true) true Try.f3.params.toList args.toList ds p := hA0
  rw [Try.params3] at hA hval hsz
  obtain ⟨v0, vs0, d0, ds0, p0, q0, hargs, rfl, rfl, h0, r0⟩ := trodAll_cons hA
  obtain ⟨rfl, rfl, rfl⟩ := trodAll_nil r0
  obtain rfl : args = #[v0] := by cases args; simp_all
  obtain ⟨rfl, rfl⟩ := trodVars_none hV
  obtain ⟨a0, len0, cap0, rfl⟩ := okWide_slice Try.underlying22 (hval 0 22 v0 rfl rfl)
  have k0 := h0
  have lt0 : ∀ x ∈ p0, x.block < W.heap.size := by obtain ⟨m, hm⟩ := k0; exact DataW.trod_lt m _ _ _ hm
  obtain ⟨z0, w0⟩ : ∃ zs, IsRow W a0 len0 cap0 zs := by
    obtain ⟨fuel, hf⟩ := h0
    rcases open_ints Try.underlying22 Try.underlying3 (by kernel_rfl) hf with ⟨hcs, _⟩ | ⟨x, l, c, zs, hcs, _, hl, hm, hz, _, hcell, hwz⟩
    · simp [Value.cells] at hcs
      obtain ⟨rfl, rfl, rfl⟩ := hcs
      exact ⟨[], .inl ⟨rfl, rfl, rfl⟩⟩
    · simp [Value.cells] at hcs
      obtain ⟨rfl, rfl, rfl⟩ := hcs
      exact ⟨zs, .inr ⟨_, rfl, hl, hm, by simpa using hz, hcell⟩⟩
  have y0 := ints_small hsz rfl rfl k0
  clear hA0 hval0 hsz0 hsz
  refine (hP w0 y0).mono fun e W' ⟨he, bel⟩ => ?_
  subst he
  exact ⟨_, rfl, _, _, _, [], _, [], hW', trodAll_mk1 (shut_bool Try.underlying4 _), (trodAll_cons_mk (Below.trod laidOut (by kernel_rfl) (of_decide_eq_true (by kernel_rfl)) k0 bel lt0) trodAll_mk0), rfl, bel.frame _, fun h => by cases h⟩
end Go.S1N
end
