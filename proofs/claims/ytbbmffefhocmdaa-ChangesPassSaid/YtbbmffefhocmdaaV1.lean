/- Part 1 of a proof: texts of this work, put together. -/
import Derived.Test.YtbbmffefhocmdaaW1
import Derived.Test.YtbbmffefhocmdaaAm7
import Derived.Test.YtbbmffefhocmdaaRows
import Derived.WalkKit
import Derived.ProofKit
import Derived.OpenShut
import Derived.ShutString
import Derived.ChangeOld
import Derived.Below
import Derived.SizedLaws
import Derived.KernelRfl
section
set_option linter.unusedVariables false
set_option linter.unusedSimpArgs false
namespace Go.S1N
open Go Go.Am Go.Proofs Go.S1
set_option maxRecDepth 100000
set_option linter.unusedSimpArgs false
set_option linter.unusedVariables false
theorem ty3 : tab.ty 3 = some { td := .int .i64, size := 1, bytes := 8, zero := .int .i64 0, eqok := false } := by kernel_rfl
theorem ty4 : tab.ty 4 = some { td := .bool, size := 1, bytes := 1, zero := .bool false, eqok := false } := by kernel_rfl
theorem ty5 : tab.ty 5 = some { td := .int .u8, size := 1, bytes := 1, zero := .int .u8 0, eqok := false } := by kernel_rfl
theorem ty9 : tab.ty 9 = some { td := .str, size := 1, bytes := 16, zero := .string ⟨#[]⟩, eqok := false } := by kernel_rfl
theorem ty22 : tab.ty 22 = some { td := .slice 3, size := 1, bytes := 24, zero := .slice none 0 0, eqok := false } := by kernel_rfl
theorem ty25 : tab.ty 25 = some { td := .struct [(22, 0, true), (3, 1, true)], size := 2, bytes := 32, zero := .agg #[.slice none 0 0, .int .i64 0], eqok := false } := by kernel_rfl
theorem ty27 : tab.ty 27 = some { td := .slice 35, size := 1, bytes := 24, zero := .slice none 0 0, eqok := false } := by kernel_rfl
theorem ty31 : tab.ty 31 = some { td := .int .i64, size := 1, bytes := 8, zero := .int .i64 0, eqok := false } := by kernel_rfl
theorem ty35 : tab.ty 35 = some { td := .struct [(3, 0, true), (3, 1, true), (9, 2, true)], size := 3, bytes := 32, zero := .agg #[.int .i64 0, .int .i64 0, .string ⟨#[]⟩], eqok := true } := by kernel_rfl
theorem ty60 : tab.ty 60 = some { td := .slice 27, size := 1, bytes := 24, zero := .slice none 0 0, eqok := false } := by kernel_rfl
theorem ty63 : tab.ty 63 = some { td := .slice 9, size := 1, bytes := 24, zero := .slice none 0 0, eqok := false } := by kernel_rfl
theorem ty107 : tab.ty 107 = some { td := .slice 31, size := 1, bytes := 24, zero := .slice none 0 0, eqok := false } := by kernel_rfl
theorem ty108 : tab.ty 108 = some { td := .slice 111, size := 1, bytes := 24, zero := .slice none 0 0, eqok := false } := by kernel_rfl
theorem ty111 : tab.ty 111 = some { td := .struct [(3, 0, true), (3, 1, true), (9, 2, true)], size := 3, bytes := 32, zero := .agg #[.int .i64 0, .int .i64 0, .string ⟨#[]⟩], eqok := false } := by kernel_rfl
theorem ty113 : tab.ty 113 = some { td := .slice 5, size := 1, bytes := 24, zero := .slice none 0 0, eqok := false } := by kernel_rfl
theorem ty116 : tab.ty 116 = some { td := .slice 121, size := 1, bytes := 24, zero := .slice none 0 0, eqok := false } := by kernel_rfl
theorem ty118 : tab.ty 118 = some { td := .struct [(3, 0, true), (116, 1, true)], size := 2, bytes := 32, zero := .agg #[.int .i64 0, .slice none 0 0], eqok := false } := by kernel_rfl
theorem ty121 : tab.ty 121 = some { td := .struct [(3, 0, true), (5, 1, true)], size := 2, bytes := 16, zero := .agg #[.int .i64 0, .int .u8 0], eqok := false } := by kernel_rfl
@[go_sem] theorem al3 {P : Program} {s0 : AHeap} {N : List AV → AHeap → Prop} {d : Option Nat} {tm : List AV} {s : AHeap} : lstepB P tab s0 N (.alloc 3) d tm s = N (aput tm d (.ptr s.nx 0)) (s.new (.cells [.int .i64 0] (some 3))) := by rw [lstepB_alloc, ty3]; rfl
@[go_sem] theorem al9 {P : Program} {s0 : AHeap} {N : List AV → AHeap → Prop} {d : Option Nat} {tm : List AV} {s : AHeap} : lstepB P tab s0 N (.alloc 9) d tm s = N (aput tm d (.ptr s.nx 0)) (s.new (.cells [.str []] (some 9))) := by rw [lstepB_alloc, ty9]; rfl
@[go_sem] theorem al27 {P : Program} {s0 : AHeap} {N : List AV → AHeap → Prop} {d : Option Nat} {tm : List AV} {s : AHeap} : lstepB P tab s0 N (.alloc 27) d tm s = N (aput tm d (.ptr s.nx 0)) (s.new (.cells [.nils] (some 27))) := by rw [lstepB_alloc, ty27]; rfl
@[go_sem] theorem al35 {P : Program} {s0 : AHeap} {N : List AV → AHeap → Prop} {d : Option Nat} {tm : List AV} {s : AHeap} : lstepB P tab s0 N (.alloc 35) d tm s = N (aput tm d (.ptr s.nx 0)) (s.new (.cells [.int .i64 0, .int .i64 0, .str []] (some 35))) := by rw [lstepB_alloc, ty35]; rfl
@[go_sem] theorem al111 {P : Program} {s0 : AHeap} {N : List AV → AHeap → Prop} {d : Option Nat} {tm : List AV} {s : AHeap} : lstepB P tab s0 N (.alloc 111) d tm s = N (aput tm d (.ptr s.nx 0)) (s.new (.cells [.int .i64 0, .int .i64 0, .str []] (some 111))) := by rw [lstepB_alloc, ty111]; rfl
@[go_sem] theorem al118 {P : Program} {s0 : AHeap} {N : List AV → AHeap → Prop} {d : Option Nat} {tm : List AV} {s : AHeap} : lstepB P tab s0 N (.alloc 118) d tm s = N (aput tm d (.ptr s.nx 0)) (s.new (.cells [.int .i64 0, .nils] (some 118))) := by rw [lstepB_alloc, ty118]; rfl
@[go_sem] theorem al121 {P : Program} {s0 : AHeap} {N : List AV → AHeap → Prop} {d : Option Nat} {tm : List AV} {s : AHeap} : lstepB P tab s0 N (.alloc 121) d tm s = N (aput tm d (.ptr s.nx 0)) (s.new (.cells [.int .i64 0, .int .u8 0] (some 121))) := by rw [lstepB_alloc, ty121]; rfl
@[go_sem] theorem ld3 {x : AV} {s : AHeap} : aload tab 3 x s = (acellsAt s x).bind fun cs => cs[0]? := by rw [aload_one ty3 rfl]
@[go_sem] theorem st3 {b o : Nat} {v : AV} {s : AHeap} : astore tab 3 (.ptr b o) v s = astoreAt s b o 1 v := by rw [astore_ptr ty3]
@[go_sem] theorem ld4 {x : AV} {s : AHeap} : aload tab 4 x s = (acellsAt s x).bind fun cs => cs[0]? := by rw [aload_one ty4 rfl]
@[go_sem] theorem ld5 {x : AV} {s : AHeap} : aload tab 5 x s = (acellsAt s x).bind fun cs => cs[0]? := by rw [aload_one ty5 rfl]
@[go_sem] theorem ld9 {x : AV} {s : AHeap} : aload tab 9 x s = (acellsAt s x).bind fun cs => cs[0]? := by rw [aload_one ty9 rfl]
@[go_sem] theorem st9 {b o : Nat} {v : AV} {s : AHeap} : astore tab 9 (.ptr b o) v s = astoreAt s b o 1 v := by rw [astore_ptr ty9]
@[go_sem] theorem len9 {l : List UInt8} : alen tab 9 (.str l) = some (.int .i64 l.length) := by simp [alen, ty9]
@[go_sem] theorem ld22 {x : AV} {s : AHeap} : aload tab 22 x s = (acellsAt s x).bind fun cs => cs[0]? := by rw [aload_one ty22 rfl]
@[go_sem] theorem len22r {z b o n : Nat} : alen tab 22 (.rs z b o n) = some (.int .i64 n) := by simp [alen, ty22]
theorem ap22 {x y : AV} {s : AHeap} : lappend tab 22 22 x y s = aappend tab 3 s x y := by simp [lappend, ty22]
theorem app22 {s : AHeap} {n j len m : Nat} {l : List (Nat × Option AObj)} {y : AV} {c new : List AV} (hy : acellsOf (loc s n l) 1 y = some (new, m)) (hm : m ≠ 0) (hn : new.all AV.one = true) (hl : lget l j = gso 3 c) (hc : c.length = len * 1) (hb : (2 * (len + m) + 512) * 8 ≤ 281474976710656) {mm : Nat} (hmm : s.nx = mm) : lappend tab 22 22 (gsv 1 (nm mm j) len) y (loc s n l) = some (.rs 1 (nm mm n) 0 (len + m), loc s (n + 1) (lput (ldel l j) n (.cells (c ++ new) (some 3)))) := ap22.trans (aappend_gs ty3 (by decide) (by decide) hy hm hn hl hc hb hmm)
@[go_sem] theorem bs22 {s : AHeap} {n : Nat} {parts : List (Nat × AV)} (hn : n = parts.length) (hs : seqp 1 0 parts) (hb : n ≤ 1000) : abuildSlice tab false 22 n parts s = some (.rs 1 s.nx 0 n, s.new (.cells ((parts.map (·.2)).flatMap AV.cells) (some 3))) := abuildSlice_seq ty22 rfl ty3 rfl rfl hn hs (show n * 1 ≤ 16777216 by omega)
theorem ix22r {b o m : Nat} {n : Int} (h0 : 0 ≤ n) (h1 : n < m) : aindexAddr tab 22 (.rs 1 b o m) (.int .i64 n) = some (.ptr b (o + n.toNat * 1)) := by
  simp [aindexAddr, ty22, Tab.size, ty3, h0, h1]
@[go_sem] theorem fa25_0p {b o : Nat} : afieldAddr tab 25 (.ptr b o) 0 = some (.ptr b (o + 0)) := by simp [afieldAddr, ty25, Tab.size, ty22]
@[go_sem] theorem fa25_1p {b o : Nat} : afieldAddr tab 25 (.ptr b o) 1 = some (.ptr b (o + 1)) := by simp [afieldAddr, ty25, Tab.size, ty3]
@[go_sem] theorem bd25 {parts : List (Nat × AV)} : abuild tab 25 parts = if parts.any (·.2.israw) = true then none else (afill (fun i => ([(0, 1), (1, 1)] : List (Nat × Nat))[i]?) [.nils, .int .i64 0] parts).map .agg := abuild_struct ty25 rfl rfl (by simp [Tab.size, ty22, ty3])
@[go_sem] theorem ld27 {x : AV} {s : AHeap} : aload tab 27 x s = (acellsAt s x).bind fun cs => cs[0]? := by rw [aload_one ty27 rfl]
@[go_sem] theorem st27 {b o : Nat} {v : AV} {s : AHeap} : astore tab 27 (.ptr b o) v s = astoreAt s b o 1 v := by rw [astore_ptr ty27]
@[go_sem] theorem len27n : alen tab 27 .nils = some (.int .i64 0) := by simp [alen, ty27]
theorem ap27 {x y : AV} {s : AHeap} : lappend tab 27 27 x y s = aappend tab 35 s x y := by simp [lappend, ty27]
theorem app27 {s : AHeap} {n j len m : Nat} {l : List (Nat × Option AObj)} {y : AV} {c new : List AV} (hy : acellsOf (loc s n l) 3 y = some (new, m)) (hm : m ≠ 0) (hn : new.all AV.one = true) (hl : lget l j = gso 35 c) (hc : c.length = len * 3) (hb : (2 * (len + m) + 512) * 32 ≤ 281474976710656) {mm : Nat} (hmm : s.nx = mm) : lappend tab 27 27 (gsv 3 (nm mm j) len) y (loc s n l) = some (.rs 3 (nm mm n) 0 (len + m), loc s (n + 1) (lput (ldel l j) n (.cells (c ++ new) (some 35)))) := ap27.trans (aappend_gs ty35 (by decide) (by decide) hy hm hn hl hc hb hmm)
@[go_sem] theorem bs27 {s : AHeap} {n : Nat} {parts : List (Nat × AV)} (hn : n = parts.length) (hs : seqp 3 0 parts) (hb : n ≤ 1000) : abuildSlice tab false 27 n parts s = some (.rs 3 s.nx 0 n, s.new (.cells ((parts.map (·.2)).flatMap AV.cells) (some 35))) := abuildSlice_seq ty27 rfl ty35 rfl rfl hn hs (show n * 3 ≤ 16777216 by omega)
@[go_sem] theorem fa35_0p {b o : Nat} : afieldAddr tab 35 (.ptr b o) 0 = some (.ptr b (o + 0)) := by simp [afieldAddr, ty35, Tab.size, ty3]
@[go_sem] theorem fa35_0r {l : List AV} : afieldAddr tab 35 (.rptr l) 0 = some (.rptr (l.drop 0)) := by simp [afieldAddr, ty35, Tab.size, ty3]
@[go_sem] theorem fa35_1p {b o : Nat} : afieldAddr tab 35 (.ptr b o) 1 = some (.ptr b (o + 1)) := by simp [afieldAddr, ty35, Tab.size, ty3]
@[go_sem] theorem fa35_1r {l : List AV} : afieldAddr tab 35 (.rptr l) 1 = some (.rptr (l.drop 1)) := by simp [afieldAddr, ty35, Tab.size, ty3]
@[go_sem] theorem fa35_2p {b o : Nat} : afieldAddr tab 35 (.ptr b o) 2 = some (.ptr b (o + 2)) := by simp [afieldAddr, ty35, Tab.size, ty9]
@[go_sem] theorem fa35_2r {l : List AV} : afieldAddr tab 35 (.rptr l) 2 = some (.rptr (l.drop 2)) := by simp [afieldAddr, ty35, Tab.size, ty9]
@[go_sem] theorem bd35 {parts : List (Nat × AV)} : abuild tab 35 parts = if parts.any (·.2.israw) = true then none else (afill (fun i => ([(0, 1), (1, 1), (2, 1)] : List (Nat × Nat))[i]?) [.int .i64 0, .int .i64 0, .str []] parts).map .agg := abuild_struct ty35 rfl rfl (by simp [Tab.size, ty3, ty9])
@[go_sem] theorem ld35 {x : AV} {s : AHeap} : aload tab 35 x s = (acellsAt s x).bind fun cs => if 3 ≤ cs.length then some (.agg (cs.take 3)) else none := by rw [aload_agg ty35 rfl]
@[go_sem] theorem st35 {b o : Nat} {v : AV} {s : AHeap} : astore tab 35 (.ptr b o) v s = astoreAt s b o 3 v := by rw [astore_ptr ty35]
@[go_sem] theorem len60v {z : Nat} {f : Bool} {l : List AV} : alen tab 60 (.vs z f l) = some (.int .i64 l.length) := by simp [alen, ty60]
@[go_sem] theorem len60r {z b o n : Nat} : alen tab 60 (.rs z b o n) = some (.int .i64 n) := by simp [alen, ty60]
@[go_sem] theorem bs60 {s : AHeap} {n : Nat} {parts : List (Nat × AV)} (hn : n = parts.length) (hs : seqp 1 0 parts) (hb : n ≤ 1000) : abuildSlice tab false 60 n parts s = some (.rs 1 s.nx 0 n, s.new (.cells ((parts.map (·.2)).flatMap AV.cells) (some 27))) := abuildSlice_seq ty60 rfl ty27 rfl rfl hn hs (show n * 1 ≤ 16777216 by omega)
theorem ix60f {xs : List AV} {n : Int} {v : AV} (h0 : 0 ≤ n) (hv : xs[n.toNat]? = some v) (hr : v.israw = false) : aindexAddr tab 60 (fsv 1 xs) (.int .i64 n) = some (.rptr v.cells) := by
  rw [fsv_pos (by rintro rfl; simp at hv)]
  simp [aindexAddr, ty60, Tab.size, ty27, h0, hv, hr]
theorem ix60r {b o m : Nat} {n : Int} (h0 : 0 ≤ n) (h1 : n < m) : aindexAddr tab 60 (.rs 1 b o m) (.int .i64 n) = some (.ptr b (o + n.toNat * 1)) := by
  simp [aindexAddr, ty60, Tab.size, ty27, h0, h1]
@[go_sem] theorem len60f {xs : List AV} : alen tab 60 (fsv 1 xs) = some (.int .i64 xs.length) := by unfold fsv; split <;> simp_all [alen, ty60]
@[go_sem] theorem len63r {z b o n : Nat} : alen tab 63 (.rs z b o n) = some (.int .i64 n) := by simp [alen, ty63]
@[go_sem] theorem bs63 {s : AHeap} {n : Nat} {parts : List (Nat × AV)} (hn : n = parts.length) (hs : seqp 1 0 parts) (hb : n ≤ 1000) : abuildSlice tab false 63 n parts s = some (.rs 1 s.nx 0 n, s.new (.cells ((parts.map (·.2)).flatMap AV.cells) (some 9))) := abuildSlice_seq ty63 rfl ty9 rfl rfl hn hs (show n * 1 ≤ 16777216 by omega)
@[go_sem] theorem bs107 {s : AHeap} {n : Nat} {parts : List (Nat × AV)} (hn : n = parts.length) (hs : seqp 1 0 parts) (hb : n ≤ 1000) : abuildSlice tab false 107 n parts s = some (.rs 1 s.nx 0 n, s.new (.cells ((parts.map (·.2)).flatMap AV.cells) (some 31))) := abuildSlice_seq ty107 rfl ty31 rfl rfl hn hs (show n * 1 ≤ 16777216 by omega)
@[go_sem] theorem ld108 {x : AV} {s : AHeap} : aload tab 108 x s = (acellsAt s x).bind fun cs => cs[0]? := by rw [aload_one ty108 rfl]
@[go_sem] theorem st108 {b o : Nat} {v : AV} {s : AHeap} : astore tab 108 (.ptr b o) v s = astoreAt s b o 1 v := by rw [astore_ptr ty108]
theorem ap108 {x y : AV} {s : AHeap} : lappend tab 108 108 x y s = aappend tab 111 s x y := by simp [lappend, ty108]
theorem app108 {s : AHeap} {n j len m : Nat} {l : List (Nat × Option AObj)} {y : AV} {c new : List AV} (hy : acellsOf (loc s n l) 3 y = some (new, m)) (hm : m ≠ 0) (hn : new.all AV.one = true) (hl : lget l j = gso 111 c) (hc : c.length = len * 3) (hb : (2 * (len + m) + 512) * 32 ≤ 281474976710656) {mm : Nat} (hmm : s.nx = mm) : lappend tab 108 108 (gsv 3 (nm mm j) len) y (loc s n l) = some (.rs 3 (nm mm n) 0 (len + m), loc s (n + 1) (lput (ldel l j) n (.cells (c ++ new) (some 111)))) := ap108.trans (aappend_gs ty111 (by decide) (by decide) hy hm hn hl hc hb hmm)
@[go_sem] theorem bs108 {s : AHeap} {n : Nat} {parts : List (Nat × AV)} (hn : n = parts.length) (hs : seqp 3 0 parts) (hb : n ≤ 1000) : abuildSlice tab false 108 n parts s = some (.rs 3 s.nx 0 n, s.new (.cells ((parts.map (·.2)).flatMap AV.cells) (some 111))) := abuildSlice_seq ty108 rfl ty111 rfl rfl hn hs (show n * 3 ≤ 16777216 by omega)
theorem ix108f {xs : List AV} {n : Int} {v : AV} (h0 : 0 ≤ n) (hv : xs[n.toNat]? = some v) (hr : v.israw = false) : aindexAddr tab 108 (fsv 3 xs) (.int .i64 n) = some (.rptr v.cells) := by
  rw [fsv_pos (by rintro rfl; simp at hv)]
  simp [aindexAddr, ty108, Tab.size, ty111, h0, hv, hr]
@[go_sem] theorem len108f {xs : List AV} : alen tab 108 (fsv 3 xs) = some (.int .i64 xs.length) := by unfold fsv; split <;> simp_all [alen, ty108]
@[go_sem] theorem fa111_0p {b o : Nat} : afieldAddr tab 111 (.ptr b o) 0 = some (.ptr b (o + 0)) := by simp [afieldAddr, ty111, Tab.size, ty3]
@[go_sem] theorem fa111_1p {b o : Nat} : afieldAddr tab 111 (.ptr b o) 1 = some (.ptr b (o + 1)) := by simp [afieldAddr, ty111, Tab.size, ty3]
@[go_sem] theorem fa111_2p {b o : Nat} : afieldAddr tab 111 (.ptr b o) 2 = some (.ptr b (o + 2)) := by simp [afieldAddr, ty111, Tab.size, ty9]
@[go_sem] theorem bd111 {parts : List (Nat × AV)} : abuild tab 111 parts = if parts.any (·.2.israw) = true then none else (afill (fun i => ([(0, 1), (1, 1), (2, 1)] : List (Nat × Nat))[i]?) [.int .i64 0, .int .i64 0, .str []] parts).map .agg := abuild_struct ty111 rfl rfl (by simp [Tab.size, ty3, ty9])
@[go_sem] theorem ld111 {x : AV} {s : AHeap} : aload tab 111 x s = (acellsAt s x).bind fun cs => if 3 ≤ cs.length then some (.agg (cs.take 3)) else none := by rw [aload_agg ty111 rfl]
@[go_sem] theorem st111 {b o : Nat} {v : AV} {s : AHeap} : astore tab 111 (.ptr b o) v s = astoreAt s b o 3 v := by rw [astore_ptr ty111]
@[go_sem] theorem bs113 {s : AHeap} {n : Nat} {parts : List (Nat × AV)} (hn : n = parts.length) (hs : seqp 1 0 parts) (hb : n ≤ 1000) : abuildSlice tab false 113 n parts s = some (.rs 1 s.nx 0 n, s.new (.cells ((parts.map (·.2)).flatMap AV.cells) (some 5))) := abuildSlice_seq ty113 rfl ty5 rfl rfl hn hs (show n * 1 ≤ 16777216 by omega)
@[go_sem] theorem ld116 {x : AV} {s : AHeap} : aload tab 116 x s = (acellsAt s x).bind fun cs => cs[0]? := by rw [aload_one ty116 rfl]
@[go_sem] theorem st116 {b o : Nat} {v : AV} {s : AHeap} : astore tab 116 (.ptr b o) v s = astoreAt s b o 1 v := by rw [astore_ptr ty116]
theorem ap116 {x y : AV} {s : AHeap} : lappend tab 116 116 x y s = aappend tab 121 s x y := by simp [lappend, ty116]
theorem app116 {s : AHeap} {n j len m : Nat} {l : List (Nat × Option AObj)} {y : AV} {c new : List AV} (hy : acellsOf (loc s n l) 2 y = some (new, m)) (hm : m ≠ 0) (hn : new.all AV.one = true) (hl : lget l j = gso 121 c) (hc : c.length = len * 2) (hb : (2 * (len + m) + 512) * 16 ≤ 281474976710656) {mm : Nat} (hmm : s.nx = mm) : lappend tab 116 116 (gsv 2 (nm mm j) len) y (loc s n l) = some (.rs 2 (nm mm n) 0 (len + m), loc s (n + 1) (lput (ldel l j) n (.cells (c ++ new) (some 121)))) := ap116.trans (aappend_gs ty121 (by decide) (by decide) hy hm hn hl hc hb hmm)
@[go_sem] theorem bs116 {s : AHeap} {n : Nat} {parts : List (Nat × AV)} (hn : n = parts.length) (hs : seqp 2 0 parts) (hb : n ≤ 1000) : abuildSlice tab false 116 n parts s = some (.rs 2 s.nx 0 n, s.new (.cells ((parts.map (·.2)).flatMap AV.cells) (some 121))) := abuildSlice_seq ty116 rfl ty121 rfl rfl hn hs (show n * 2 ≤ 16777216 by omega)
theorem ix116f {xs : List AV} {n : Int} {v : AV} (h0 : 0 ≤ n) (hv : xs[n.toNat]? = some v) (hr : v.israw = false) : aindexAddr tab 116 (fsv 2 xs) (.int .i64 n) = some (.rptr v.cells) := by
  rw [fsv_pos (by rintro rfl; simp at hv)]
  simp [aindexAddr, ty116, Tab.size, ty121, h0, hv, hr]
@[go_sem] theorem len116f {xs : List AV} : alen tab 116 (fsv 2 xs) = some (.int .i64 xs.length) := by unfold fsv; split <;> simp_all [alen, ty116]
@[go_sem] theorem fa118_0p {b o : Nat} : afieldAddr tab 118 (.ptr b o) 0 = some (.ptr b (o + 0)) := by simp [afieldAddr, ty118, Tab.size, ty3]
@[go_sem] theorem fa118_1p {b o : Nat} : afieldAddr tab 118 (.ptr b o) 1 = some (.ptr b (o + 1)) := by simp [afieldAddr, ty118, Tab.size, ty116]
@[go_sem] theorem bd118 {parts : List (Nat × AV)} : abuild tab 118 parts = if parts.any (·.2.israw) = true then none else (afill (fun i => ([(0, 1), (1, 1)] : List (Nat × Nat))[i]?) [.int .i64 0, .nils] parts).map .agg := abuild_struct ty118 rfl rfl (by simp [Tab.size, ty116, ty3])
@[go_sem] theorem ld118 {x : AV} {s : AHeap} : aload tab 118 x s = (acellsAt s x).bind fun cs => if 2 ≤ cs.length then some (.agg (cs.take 2)) else none := by rw [aload_agg ty118 rfl]
@[go_sem] theorem st118 {b o : Nat} {v : AV} {s : AHeap} : astore tab 118 (.ptr b o) v s = astoreAt s b o 2 v := by rw [astore_ptr ty118]
@[go_sem] theorem fa121_0p {b o : Nat} : afieldAddr tab 121 (.ptr b o) 0 = some (.ptr b (o + 0)) := by simp [afieldAddr, ty121, Tab.size, ty3]
@[go_sem] theorem fa121_1p {b o : Nat} : afieldAddr tab 121 (.ptr b o) 1 = some (.ptr b (o + 1)) := by simp [afieldAddr, ty121, Tab.size, ty5]
@[go_sem] theorem ld121 {x : AV} {s : AHeap} : aload tab 121 x s = (acellsAt s x).bind fun cs => if 2 ≤ cs.length then some (.agg (cs.take 2)) else none := by rw [aload_agg ty121 rfl]
@[go_sem] theorem st121 {b o : Nat} {v : AV} {s : AHeap} : astore tab 121 (.ptr b o) v s = astoreAt s b o 2 v := by rw [astore_ptr ty121]
end Go.S1N
end
section
set_option linter.unusedVariables false
set_option linter.unusedSimpArgs false
namespace Go.S1N
open Go Go.Am Go.Proofs Go.S1
set_option maxRecDepth 100000
theorem gob9 {args : List AV} {s : AHeap} {R : AV → AHeap → Prop} (hl : args.length ≤ 61) (h : ∀ tm, tm.length = 61 → (∀ i, aev tm (.tmp i) = args.getD i aundef) → lvb Try.prog tab s L9 (lpostB tab s [ResultVar.tmp 4] R) tm (loc s 0 [])) : ACall Try.prog 9 args s R := ACall.goB tab_ok mixed Try.func9 l9 nm9 rs9 nt9 hl h
theorem gob10 {args : List AV} {s : AHeap} {R : AV → AHeap → Prop} (hl : args.length ≤ 19) (h : ∀ tm, tm.length = 19 → (∀ i, aev tm (.tmp i) = args.getD i aundef) → lvb Try.prog tab s L10 (lpostB tab s [ResultVar.tmp 6] R) tm (loc s 0 [])) : ACall Try.prog 10 args s R := ACall.goB tab_ok mixed Try.func10 l10 nm10 rs10 nt10 hl h
theorem gob11 {args : List AV} {s : AHeap} {R : AV → AHeap → Prop} (hl : args.length ≤ 9) (h : ∀ tm, tm.length = 9 → (∀ i, aev tm (.tmp i) = args.getD i aundef) → lvb Try.prog tab s L11 (lpostB tab s [ResultVar.tmp 4] R) tm (loc s 0 [])) : ACall Try.prog 11 args s R := ACall.goB tab_ok mixed Try.func11 l11 nm11 rs11 nt11 hl h
theorem gob20 {args : List AV} {s : AHeap} {R : AV → AHeap → Prop} (hl : args.length ≤ 12) (h : ∀ tm, tm.length = 12 → (∀ i, aev tm (.tmp i) = args.getD i aundef) → lvb Try.prog tab s L20 (lpostB tab s [ResultVar.tmp 4] R) tm (loc s 0 [])) : ACall Try.prog 20 args s R := ACall.goB tab_ok mixed Try.func20 l20 nm20 rs20 nt20 hl h
theorem gob66 {args : List AV} {s : AHeap} {R : AV → AHeap → Prop} (hl : args.length ≤ 12) (h : ∀ tm, tm.length = 12 → (∀ i, aev tm (.tmp i) = args.getD i aundef) → lvb Try.prog tab s L66 (lpostB tab s [ResultVar.tmp 4] R) tm (loc s 0 [])) : ACall Try.prog 66 args s R := ACall.goB tab_ok mixed Try.func66 l66 nm66 rs66 nt66 hl h
theorem gob67 {args : List AV} {s : AHeap} {R : AV → AHeap → Prop} (hl : args.length ≤ 39) (h : ∀ tm, tm.length = 39 → (∀ i, aev tm (.tmp i) = args.getD i aundef) → lvb Try.prog tab s L67 (lpostB tab s [ResultVar.cell 4 35] R) tm (loc s 0 [])) : ACall Try.prog 67 args s R := ACall.goB tab_ok mixed Try.func67 l67 nm67 rs67 nt67 hl h
theorem gob68 {args : List AV} {s : AHeap} {R : AV → AHeap → Prop} (hl : args.length ≤ 64) (h : ∀ tm, tm.length = 64 → (∀ i, aev tm (.tmp i) = args.getD i aundef) → lvb Try.prog tab s L68 (lpostB tab s [ResultVar.tmp 4] R) tm (loc s 0 [])) : ACall Try.prog 68 args s R := ACall.goB tab_ok mixed Try.func68 l68 nm68 rs68 nt68 hl h
end Go.S1N
end
section
set_option linter.unusedVariables false
set_option linter.unusedSimpArgs false
namespace Go.S1N
open Go Go.Am Go.Proofs Go.S1
set_option maxRecDepth 100000
set_option linter.unusedSimpArgs false
theorem exact_of {P : Program} {f : FuncId} {args : List AV} {s : AHeap} {v : AV} (hv : Pu v) (h : ACall P f args s fun r t => r = v ∧ Sub s t) : ACall P f args s fun r t => r = v ∧ t = s := by
  refine h.clean ?_
  rintro r t ⟨rfl, ht⟩ B hB K w us hw hvs hx
  have hlt : ∀ b o, s.get b = some o → b < s.nx := by
    intro b o h
    obtain ⟨rfl, hBw⟩ := hB
    obtain ⟨g, base, q1, _⟩ := hBw.own b o h
    exact (hBw.bnd _ _ _ q1).1
  obtain ⟨K', h1, h2, h3⟩ := rename_core (s' := s) hB hw hx (f := fun b => if b < s.nx then b else b + t.nx) (fun b hb => if_pos hb) (by intro b hb; rw [if_neg (by omega)]; omega) (Nat.le_refl _)
    (fun b o h => .inr ⟨hlt b o h, ht.2 b o (hlt b o h) h, h⟩)
    (by intro b b' o o' h h' e; rwa [if_pos (hlt b o h), if_pos (hlt b' o' h')] at e)
  cases hvs with
  | cons _ u _ us hu hs' =>
    cases hs'
    refine ⟨K', [r], s, h1, .cons _ _ _ _ (h3 _ _ ?_) .nil, h2, r, rfl, rfl, rfl⟩
    rw [ren_pu hv]
    exact hu
theorem _root_.Go.S1.Ed.pu (e : Ed) : Pu e.enc := by simp only [Pu, Ed.enc, low, lowL, and_self]
theorem _root_.Go.S1.SlE.pu {v : AV} {l : List Ed} (h : SlE v l) : Pu v := by
  rcases h with ⟨f, rfl⟩ | ⟨rfl, rfl⟩
  · simp only [Pu, low, lowL_iff, List.mem_map]
    rintro x ⟨e, _, rfl⟩
    exact Ed.pu e
  · simp only [Pu, low]
end Go.S1N
end
section
set_option linter.unusedVariables false
set_option linter.unusedSimpArgs false
namespace Go.S1N
open Go Go.Am Go.Proofs Go.S1
open Go.Proofs.Ytbbmffefhocmdaa
open Go.ChangeShapes Go.WideShapes Go.ChangeAt Go.RowKit
open Go.ChangeMaps (open_string shut_string)
set_option maxRecDepth 100000
set_option linter.unusedVariables false
theorem own : ownKnob Try.prog.godebug = none := by kernel_rfl
theorem laidOut : laidOutB Try.prog = true := by kernel_rfl
def IsRow (w : World) (a : Option Addr) (len cap : Nat) (zs : List Int) : Prop :=
  (a = none ∧ len = 0 ∧ cap = 0) ∨
  ∃ x, a = some x ∧ len ≤ cap ∧ cap ≤ maxLen ∧ zs.length = cap ∧ (∀ i, i < zs.length → w.cell? (x.add i) = some (.int .i64 (zs.getD i 0)))
theorem law_calls {n : Nat} {fn : Func} {c : Code} (hf : Try.prog.funcs[n]? = some fn) (hb : fn.body = some c) (hn : (fn.name == "runtime.NumGoroutine") = false)
    (h : ∀ v L, IsInts v L → L.length < 4611686018427387904 → ∀ s, ACall Try.prog n [v] s fun r t => r = .bool true ∧ t = s) {W : World} {a : Option Addr} {len cap : Nat} {zs : List Int} (hr : IsRow W a len cap zs) (hlen : len < 4611686018427387904) :
    Calls Try.prog n #[.slice a len cap] W fun e W' => e = .returned (.bool true) ∧ Below W.heap.size W W' := by
  have key : ∀ (K : Know) (v : AV) (L : List Int), (∀ b, K.phi b = none) → WR K .empty W → RV K v (.slice a len cap) → IsInts v L → L.length < 4611686018427387904 →
      Calls Try.prog n #[.slice a len cap] W fun e W' => e = .returned (.bool true) ∧ Below W.heap.size W W' := by
    intro K v L hphi hw hv hi hl
    have := h v L hi hl .empty K W [.slice a len cap] hw (.cons _ _ _ _ hv .nil)
    have hrun : (callFunc n [Value.slice a len cap].toArray).run Try.prog W = .ok (.enter n #[.slice a len cap]) W := by
      have hn' : ¬ fn.name = "runtime.NumGoroutine" := by simpa using hn
      simp [callFunc, hf, hb, hn']
    rw [hrun] at this
    simp only at this
    refine this.mono ?_
    rintro e w' ⟨u, r, K', s', rfl, q1, q2, q3, rfl, q5⟩
    cases q1
    refine ⟨rfl, q3.os, q3.tape, q3.output, q3.size, fun g hg => q3.block g hg ?_⟩
    rintro ⟨b, o, base, e, _⟩
    rw [AHeap.get_empty] at e
    cases e
  have he : ∀ {x : Nat} {o : AObj} {p : Prop}, AHeap.empty.get x = some o → p := by
    intro x o p e
    rw [AHeap.get_empty] at e
    cases e
  rcases hr with ⟨rfl, rfl, rfl⟩ | ⟨x, rfl, h1, h2, h3, h4⟩
  · exact key ⟨fun _ => none, fun _ _ => none, fun _ => none⟩ .nils [] (fun _ => rfl) ⟨fun _ _ _ e => (by cases e), fun _ _ e => (by cases e), fun _ _ e => he e, fun _ _ _ _ _ _ _ e => he e, fun _ _ _ _ e => he e, fun _ _ _ e => (by cases e)⟩ .nils (.inr ⟨rfl, rfl⟩) (by simp)
  · refine key ⟨fun _ => none, fun g o => if g = x.block then W.cell? ⟨g, o, none⟩ else none, fun _ => none⟩ (.vs 1 false ((zs.take len).map (AV.int .i64))) (zs.take len) (fun _ => rfl) ⟨?_, fun _ _ e => (by cases e), fun _ _ e => he e, fun _ _ _ _ _ _ _ e => he e, fun _ _ _ _ e => he e, fun _ _ _ e => (by cases e)⟩ ?_ (.inl ⟨false, rfl⟩) ?_
    · intro g o u e
      simp only at e
      split at e
      · exact e
      · cases e
    · refine .vs _ _ _ x len cap ((zs.take len).map (Value.int .i64)) (by simp; omega) ?_ ?_ h1 (fun q => by cases q) ?_
      · have : ∀ zs : List Int, RVs ⟨fun _ => none, fun g o => if g = x.block then W.cell? ⟨g, o, none⟩ else none, fun _ => none⟩ ((zs.map (AV.int .i64)).flatMap AV.cells) (zs.map (Value.int .i64)) := by
          intro zs
          induction zs with
          | nil => exact .nil
          | cons z zs ih => exact .cons _ _ _ _ (.int .i64 z) ih
        exact this _
      · intro y hy
        obtain ⟨z, _, rfl⟩ := List.mem_map.1 hy
        rfl
      · intro i u hu
        rw [List.getElem?_map] at hu
        obtain ⟨z, q1, rfl⟩ := Option.map_eq_some_iff.1 hu
        rw [List.getElem?_take] at q1
        split at q1
        · rename_i hi
          have hc := h4 i (by omega)
          have hsp : x.spot = none := by
            have h0 := h4 0 (by omega)
            unfold World.cell? Addr.add at h0
            rw [if_pos rfl] at h0
            cases hs : x.spot with
            | none => rfl
            | some y =>
              exfalso
              split at h0
              · simp [hs] at h0
              · cases h0
          refine ⟨hsp, ?_⟩
          show (if x.block = x.block then W.cell? ⟨x.block, x.off + i, none⟩ else none) = _
          rw [if_pos rfl]
          have hz : zs.getD i 0 = z := by rw [List.getD_eq_getElem?_getD, q1]; rfl
          rw [hz] at hc
          rw [← hc]
          congr 1
          unfold Addr.add
          split
          · rename_i hi0
            subst hi0
            obtain ⟨b, o, sp⟩ := x
            simp only at hsp
            subst hsp
            rfl
          · rfl
        · cases q1
    · simp only [List.length_take]
      omega
theorem ints_small {H : Type} {enc : TypeId × Value → H} {W : World} {base : Nat} {spare : Nat → Bool} {held : Bool} {a : Option Addr} {len cap : Nat} {d : DataW H} {ps : List MemPlace} {ts : List TypeId} {ds : List (DataW H)}
    (hsz : (DataW.weightsEach Try.prog ts ds).all (· ≤ reachBytes) = true) (ht : ts[0]? = some 22) (hd : ds[0]? = some d) (h : DataW.Trod enc Try.prog W base spare held 22 (.slice a len cap) d ps) : len < 4611686018427387904 := by
  have hB : Try.prog.bytesOf 3 = 8 := by kernel_rfl
  obtain ⟨fuel, hf⟩ := h
  rcases open_ints Try.underlying22 Try.underlying3 (by kernel_rfl) hf with ⟨hcs, _⟩ | ⟨x, l, c, zs, hcs, _, hl, _, hz, hx, _, _⟩
  · simp [Value.cells] at hcs
    omega
  · simp [Value.cells] at hcs
    obtain ⟨_, hle, hce⟩ := hcs
    obtain ⟨hx1, _⟩ := Prod.mk.inj hx
    subst hx1
    have hw := sized_slice hsz ht hd Try.underlying22
    have hlz : len ≤ zs.length := by
      rw [hz, hle]
      split <;> omega
    have hsum : (lits (H := H) .i64 (zs.take l)).length + (lits (H := H) .i64 (zs.drop l)).length = zs.length := by
      simp only [lits, List.length_map, List.length_take, List.length_drop]
      omega
    rw [hB, hsum] at hw
    have := reachBytes_lt
    omega
set_option maxHeartbeats 1000000 in
theorem placesMoved_lifted (hP : ∀ {W : World} {a : Option Addr} {len cap : Nat} {zs : List Int}, IsRow W a len cap zs → len < 4611686018427387904 → Calls Try.prog 3 #[.slice a len cap] W fun e W' => e = .returned (.bool true) ∧ Below W.heap.size W W')
    (os : Os) (started : os.Started) (H : Type) (enc : TypeId × Value → H) :
    ReturnsInHanded {} Try.checked os 3 .any (Rows.placesMovedSpec.pre6 enc Try.prog Try.f3 Rows.placesMovedRow.domain false) (Rows.placesMovedSpec.post enc Try.prog Try.f3 false true false false) := by
  refine returnsInHanded_of_change_sized (C := Try.checked) own started (by kernel_rfl) Try.func3
    (ChangeSpec.witness6 (enc := enc) (C := Try.checked) false ⟨#[], #[.slice none 0 0], []⟩ 8 (by kernel_rfl) (by kernel_rfl) (by kernel_rfl) (by kernel_rfl)) ?_
  intro W base args ds gs before hval0 hW hcnd hsz0 _
  have hsz : (DataW.weightsEach Try.prog (Try.f3.params.toList ++ Rows.placesMovedSpec.plain.varTypes Try.prog) (ds ++ gs)).all (· ≤ reachBytes) = true := hsz0
  have hval : ∀ (j : Nat) t v, Try.f3.params[j]? = some t → args[j]? = some v → Value.okWide Try.prog W .any base t v := hval0
  have hW' := hW
  obtain ⟨p, q, hA0, hV, rfl, hfz, hnd⟩ := hW
  have hA : DataW.TrodAll enc Try.prog W 0 (fun _ => true) true Try.f3.params.toList args.toList ds p := hA0
  rw [Try.params3] at hA hval hsz
  obtain ⟨v0, vs0, d0, ds0, p0, q0, hargs, rfl, rfl, h0, r0⟩ := trodAll_cons hA
  obtain ⟨rfl, rfl, rfl⟩ := trodAll_nil r0
  obtain rfl : args = #[v0] := by cases args; simp_all
  obtain ⟨rfl, rfl⟩ := trodVars_none hV
  obtain ⟨a0, len0, cap0, rfl⟩ := okWide_slice Try.underlying22 (hval 0 22 v0 rfl rfl)
  have k0 := h0
  have lt0 : ∀ x ∈ p0, x.block < W.heap.size := by obtain ⟨m, hm⟩ := k0; exact DataW.trod_lt m _ _ _ hm
  obtain ⟨z0, w0⟩ : ∃ zs, IsRow W a0 len0 cap0 zs := by
    obtain ⟨fuel, hf⟩ := h0
    rcases open_ints Try.underlying22 Try.underlying3 (by kernel_rfl) hf with ⟨hcs, _⟩ | ⟨x, l, c, zs, hcs, _, hl, hm, hz, _, hcell, hwz⟩
    · simp [Value.cells] at hcs
      obtain ⟨rfl, rfl, rfl⟩ := hcs
      exact ⟨[], .inl ⟨rfl, rfl, rfl⟩⟩
    · simp [Value.cells] at hcs
      obtain ⟨rfl, rfl, rfl⟩ := hcs
      exact ⟨zs, .inr ⟨_, rfl, hl, hm, by simpa using hz, hcell⟩⟩
  have y0 := ints_small hsz rfl rfl k0
  clear hA0 hval0 hsz0 hsz
  refine (hP w0 y0).mono fun e W' ⟨he, bel⟩ => ?_
  subst he
  exact ⟨_, rfl, _, _, _, [], _, [], hW', trodAll_mk1 (shut_bool Try.underlying4 _), (trodAll_cons_mk (Below.trod laidOut (by kernel_rfl) (of_decide_eq_true (by kernel_rfl)) k0 bel lt0) trodAll_mk0), rfl, bel.frame _, fun h => by cases h⟩
end Go.S1N
end
section
set_option linter.unusedVariables false
set_option linter.unusedSimpArgs false
namespace Go.S1N
open Go Go.Am Go.Proofs Go.S1
set_option maxRecDepth 100000
set_option linter.unusedSimpArgs false
attribute [local irreducible] lopsB lvb lstepB lfunG lcondB lguardB ldrawB ldrunB ldstepB ldguardB lmem lval ldmem ldval ldfun lexit ldloadB ldlenB lpostB athen ablock
def strm (Lv : AV) (at_ : Int) : AObj := .cells [Lv, .int .i64 at_] (some 25)
theorem _root_.Go.S1.IsInts.pu {v : AV} {l : List Int} (h : IsInts v l) : Pu v := by
  rcases h with ⟨f, rfl⟩ | ⟨rfl, rfl⟩
  · simp only [Pu, low, lowL_iff, List.mem_map]
    rintro x ⟨e, _, rfl⟩
    simp only [low]
  · simp only [Pu, low]
structure Sm (s : AHeap) (b : Nat) (Lv : AV) (L : List Int) (at_ : Int) : Prop where
  ints : IsInts Lv L
  len : L.length < 4611686018427387904
  at0 : 0 ≤ at_
  at1 : at_ < 4000000000000000000
  lt : b < s.nx
  get : s.get b = some (strm Lv at_)
theorem Sm.lowO {s : AHeap} {b : Nat} {Lv : AV} {L : List Int} {at_ : Int} (h : Sm s b Lv L at_) {n : Nat} {a : Int} : lowO n (strm Lv a) := by
  simp only [strm, Am.lowO, lowL, low, and_true]
  exact low.mono (Nat.zero_le _) h.ints.pu
theorem Sm.upd {s : AHeap} {b : Nat} {Lv : AV} {L : List Int} {at_ a : Int} (h : Sm s b Lv L at_) (h0 : 0 ≤ a) (h1 : a < 4000000000000000000) : Sm (s.upd b (strm Lv a)) b Lv L a :=
  ⟨h.ints, h.len, h0, h1, by rw [AHeap.nx_upd]; exact h.lt, get_upd_same⟩
theorem Sm.loc {s : AHeap} {b : Nat} {Lv : AV} {L : List Int} {at_ : Int} (h : Sm s b Lv L at_) {n : Nat} {l : List (Nat × Option AObj)} : Sm (loc s n l) b Lv L at_ :=
  ⟨h.ints, h.len, h.at0, h.at1, by rw [nx_loc]; exact lt_nm h.lt, by rw [get_loc_out h.lt]; exact h.get⟩
theorem nextS {s : AHeap} {b : Nat} {Lv : AV} {L : List Int} {at_ : Int} (h : Sm s b Lv L at_) (n : Int) :
    ACall Try.prog 68 [.ptr b 0, .int .i64 n] s fun v t => v = .int .i64 (nextOf L at_ n) ∧ t = s.upd b (strm Lv (at_ + 1)) := by
  refine gob68 (by simp) ?_
  intro tm hlen harg
  have hb := h.lt
  have hg := h.get
  have hlow := h.lowO (n := s.nx) (a := at_ + 1)
  have hL := h.ints
  have h0 := h.at0
  have e1 : IntKind.i64.wrap (at_ + 1) = at_ + 1 := wrap_id (by have := h.at1; omega)
  have hll := h.len
  rw [strm] at hg
  simp only [strm] at hlow ⊢
  simp +contextual only [go_sem, L68, hlen, harg, hb, hg, e1, hL.len, lcondB_decide, lcondB_not, lguardB_decide_true, lguardB_decide_false, ldguardB_decide, Nat.reduceLT, Nat.reduceEqDiff, Nat.reduceAdd, Nat.reduceLeDiff, reduceIte, reduceCtorEq]
  refine ⟨fun hz => ?_, fun hz => ?_⟩
  · have hL0 : L = [] := List.eq_nil_of_length_eq_zero (by omega)
    refine lfunG_eq (below_ok _ _ _) ?_
    simp +contextual only [go_sem, hlen, lcondB_decide, lcondB_not, lguardB_decide_true, lguardB_decide_false, ldguardB_decide, Nat.reduceLT, Nat.reduceEqDiff, Nat.reduceAdd, Nat.reduceLeDiff, reduceIte, reduceCtorEq]
    subst hL0
    refine lexit_pure ((OKo.refl s).upd hb hlow) (by simp only [low]) ⟨?_, rfl⟩
    simp [nextOf, e1, wr]
  · have hL0 : L ≠ [] := by rintro rfl; simp at hz
    have hlz : (L.length : Int) ≠ 0 := hz
    have e2 : IntKind.i64.wrap (at_ + 1 - 1) = at_ := by rw [wrap_id (by have := h.at1; omega)]; omega
    refine ldrawB_go [] [] 10 (by decide) ?_
    simp +contextual only [go_sem, hlen, harg, hb, hg, e1, e2, hL.len, abin_rem hlz, lcondB_decide, lcondB_not, lguardB_decide_true, lguardB_decide_false, ldguardB_decide, Nat.reduceLT, Nat.reduceEqDiff, Nat.reduceAdd, Nat.reduceLeDiff, reduceIte, reduceCtorEq]
    refine ⟨by kernel_rfl, ?_⟩
    refine ldrawB_go [] [] 10 (by decide) ?_
    simp +contextual only [go_sem, hlen, harg, hb, hg, e1, e2, hL.len, abin_quo hlz, lcondB_decide, lcondB_not, lguardB_decide_true, lguardB_decide_false, ldguardB_decide, Nat.reduceLT, Nat.reduceEqDiff, Nat.reduceAdd, Nat.reduceLeDiff, reduceIte, reduceCtorEq]
    refine ⟨by kernel_rfl, ?_⟩
    have hi0 : 0 ≤ at_.tmod L.length := Int.tmod_nonneg _ h0
    have hi1 : at_.tmod L.length < L.length := Int.tmod_lt_of_pos _ (by omega)
    obtain ⟨x, hx⟩ : ∃ x, L[(at_.tmod L.length).toNat]? = some x := ⟨_, List.getElem?_eq_getElem (by omega)⟩
    simp +contextual only [go_sem, hlen, harg, hb, hg, e1, e2, hL.len, hL.at hi0 hx, lcondB_decide, lcondB_not, lguardB_decide_true, lguardB_decide_false, ldguardB_decide, Nat.reduceLT, Nat.reduceEqDiff, Nat.reduceAdd, Nat.reduceLeDiff, reduceIte, reduceCtorEq]
    refine lfunG_eq (below_ok _ _ _) ?_
    simp +contextual only [go_sem, hlen, harg, lcondB_decide, lcondB_not, lguardB_decide_true, lguardB_decide_false, ldguardB_decide, Nat.reduceLT, Nat.reduceEqDiff, Nat.reduceAdd, Nat.reduceLeDiff, reduceIte, reduceCtorEq]
    refine lfunG_eq (below_ok _ _ _) ?_
    simp +contextual only [go_sem, hlen, lcondB_decide, lcondB_not, lguardB_decide_true, lguardB_decide_false, ldguardB_decide, Nat.reduceLT, Nat.reduceEqDiff, Nat.reduceAdd, Nat.reduceLeDiff, reduceIte, reduceCtorEq]
    refine lexit_pure ((OKo.refl s).upd hb hlow) (by simp only [low]) ⟨?_, rfl⟩
    have hx' : L.getD (at_.tmod L.length).toNat 0 = x := by rw [List.getD_eq_getElem?_getD, hx]; rfl
    simp only [nextOf, if_neg hL0, wr, e1, e2, hx']
theorem flipS {s : AHeap} {b : Nat} {Lv : AV} {L : List Int} {at_ : Int} (h : Sm s b Lv L at_) (n : Int) :
    ACall Try.prog 11 [.ptr b 0, .int .i64 n] s fun v t => v = .bool (decide (nextOf L at_ n = 0)) ∧ t = s.upd b (strm Lv (at_ + 1)) := by
  refine gob11 (by simp) ?_
  intro tm hlen harg
  have hb := h.lt
  simp +contextual only [go_sem, L11, hlen, harg, lcondB_decide, lcondB_not, lguardB_decide_true, lguardB_decide_false, ldguardB_decide, Nat.reduceLT, Nat.reduceEqDiff, Nat.reduceAdd, Nat.reduceLeDiff, reduceIte, reduceCtorEq]
  refine lfunG_eq (nextS h.loc _) ?_
  simp +contextual only [go_sem, hlen, hb, lcondB_decide, lcondB_not, lguardB_decide_true, lguardB_decide_false, ldguardB_decide, Nat.reduceLT, Nat.reduceEqDiff, Nat.reduceAdd, Nat.reduceLeDiff, reduceIte, reduceCtorEq]
  exact lexit_pure ((OKo.refl s).upd hb h.lowO) (by simp only [low]) ⟨rfl, rfl⟩
theorem rangeS {s : AHeap} {b : Nat} {Lv : AV} {L : List Int} {at_ : Int} (h : Sm s b Lv L at_) (lo hi : Int) (hlh : lo ≤ hi) (hhi : hi < 2000000000000000000) (hl2 : -2000000000000000000 < lo) :
    ACall Try.prog 10 [.ptr b 0, .int .i64 lo, .int .i64 hi] s fun v t => v = .int .i64 (lo + nextOf L at_ (hi - lo + 1)) ∧ t = s.upd b (strm Lv (at_ + 1)) := by
  refine gob10 (by simp) ?_
  intro tm hlen harg
  have hb := h.lt
  have e1 : IntKind.i64.wrap (hi - lo) = hi - lo := wrap_id (by omega)
  have e2 : IntKind.i64.wrap (hi - lo + 1) = hi - lo + 1 := wrap_id (by omega)
  have hbd := nextOf_lt L at_ (show 1 ≤ hi - lo + 1 by omega) (by omega)
  have e3 : IntKind.i64.wrap (lo + nextOf L at_ (hi - lo + 1)) = lo + nextOf L at_ (hi - lo + 1) := wrap_id (by omega)
  have hlt : ¬ hi < lo := by omega
  simp +contextual only [go_sem, L10, hlen, harg, e1, e2, hlt, lcondB_decide, lcondB_not, lguardB_decide_true, lguardB_decide_false, ldguardB_decide, Nat.reduceLT, Nat.reduceEqDiff, Nat.reduceAdd, Nat.reduceLeDiff, reduceIte, reduceCtorEq]
  refine lfunG_eq (nextS h.loc _) ?_
  simp +contextual only [go_sem, hlen, harg, hb, e3, lcondB_decide, lcondB_not, lguardB_decide_true, lguardB_decide_false, ldguardB_decide, Nat.reduceLT, Nat.reduceEqDiff, Nat.reduceAdd, Nat.reduceLeDiff, reduceIte, reduceCtorEq]
  exact lexit_pure ((OKo.refl s).upd hb h.lowO) (by simp only [low]) ⟨rfl, rfl⟩
theorem pickS {s : AHeap} {b : Nat} {Lv : AV} {L : List Int} {at_ : Int} (h : Sm s b Lv L at_) (c : Nat) (l : List Int) (To : Option TypeId) (hl : l ≠ []) (hl2 : l.length < 1000) (hc : s.get c = some (.cells (l.map (AV.int .i64)) To)) (hne : c ≠ b) (hcn : c < s.nx) :
    ACall Try.prog 20 [.ptr b 0, .rs 1 c 0 l.length] s fun v t => v = .int .i64 (l.getD (nextOf L at_ l.length).toNat 0) ∧ t = s.upd b (strm Lv (at_ + 1)) := by
  refine gob20 (by simp) ?_
  intro tm hlen harg
  have hb := h.lt
  have hpos : 0 < l.length := List.length_pos_iff.2 hl
  have hbd := nextOf_lt L at_ (n := l.length) (by omega) (by omega)
  obtain ⟨x, hx⟩ : ∃ x, l[(nextOf L at_ l.length).toNat]? = some x := ⟨_, List.getElem?_eq_getElem (by omega)⟩
  have hgc : (s.upd b (strm Lv (at_ + 1))).get c = some (.cells (l.map (AV.int .i64)) To) := by rw [AHeap.get_upd, if_neg hne, hc]
  have hd : (List.drop (nextOf L at_ l.length).toNat (l.map (AV.int .i64)))[0]? = some (.int .i64 x) := by simp [hx]
  simp +contextual only [go_sem, L20, hlen, harg, lcondB_decide, lcondB_not, lguardB_decide_true, lguardB_decide_false, ldguardB_decide, Nat.reduceLT, Nat.reduceEqDiff, Nat.reduceAdd, Nat.reduceLeDiff, reduceIte, reduceCtorEq]
  refine lfunG_eq (nextS h.loc _) ?_
  simp +contextual only [go_sem, hlen, harg, hb, hcn, rs_at hbd.1 hbd.2, hgc, hd, lcondB_decide, lcondB_not, lguardB_decide_true, lguardB_decide_false, ldguardB_decide, Nat.reduceLT, Nat.reduceEqDiff, Nat.reduceAdd, Nat.reduceLeDiff, reduceIte, reduceCtorEq]
  refine lexit_pure ((OKo.refl s).upd hb h.lowO) (by simp only [low]) ⟨?_, rfl⟩
  rw [List.getD_eq_getElem?_getD, hx]
  rfl
theorem someS {s : AHeap} {b : Nat} {Lv : AV} {L : List Int} {at_ : Int} (h : Sm s b Lv L at_) (c : Nat) (l : List (List UInt8)) (To : Option TypeId) (hl : l ≠ []) (hl2 : l.length < 1000) (hc : s.get c = some (.cells (l.map AV.str) To)) (hne : c ≠ b) (hcn : c < s.nx) :
    ACall Try.prog 66 [.ptr b 0, .rs 1 c 0 l.length] s fun v t => v = .str (l.getD (nextOf L at_ l.length).toNat []) ∧ t = s.upd b (strm Lv (at_ + 1)) := by
  refine gob66 (by simp) ?_
  intro tm hlen harg
  have hb := h.lt
  have hpos : 0 < l.length := List.length_pos_iff.2 hl
  have hbd := nextOf_lt L at_ (n := l.length) (by omega) (by omega)
  obtain ⟨x, hx⟩ : ∃ x, l[(nextOf L at_ l.length).toNat]? = some x := ⟨_, List.getElem?_eq_getElem (by omega)⟩
  have hgc : (s.upd b (strm Lv (at_ + 1))).get c = some (.cells (l.map AV.str) To) := by rw [AHeap.get_upd, if_neg hne, hc]
  have hd : (List.drop (nextOf L at_ l.length).toNat (l.map AV.str))[0]? = some (.str x) := by simp [hx]
  simp +contextual only [go_sem, L66, hlen, harg, lcondB_decide, lcondB_not, lguardB_decide_true, lguardB_decide_false, ldguardB_decide, Nat.reduceLT, Nat.reduceEqDiff, Nat.reduceAdd, Nat.reduceLeDiff, reduceIte, reduceCtorEq]
  refine lfunG_eq (nextS h.loc _) ?_
  simp +contextual only [go_sem, hlen, harg, hb, hcn, rs_at63 hbd.1 hbd.2, hgc, hd, lcondB_decide, lcondB_not, lguardB_decide_true, lguardB_decide_false, ldguardB_decide, Nat.reduceLT, Nat.reduceEqDiff, Nat.reduceAdd, Nat.reduceLeDiff, reduceIte, reduceCtorEq]
  refine lexit_pure ((OKo.refl s).upd hb h.lowO) (by simp only [low]) ⟨?_, rfl⟩
  rw [List.getD_eq_getElem?_getD, hx]
  rfl
end Go.S1N
end
section
set_option linter.unusedVariables false
set_option linter.unusedSimpArgs false
namespace Go.S1N
open Go Go.Am Go.Proofs Go.S1
set_option maxRecDepth 100000
set_option linter.unusedSimpArgs false
attribute [local irreducible] lopsB lvb lstepB lfunG lcondB lguardB ldrawB ldrunB ldstepB ldguardB lmem lval ldmem ldval ldfun lexit ldloadB ldlenB lpostB athen ablock
end Go.S1N
end
section
set_option linter.unusedVariables false
set_option linter.unusedSimpArgs false
namespace Go.S1N
open Go Go.Am Go.Proofs Go.S1
set_option maxRecDepth 100000
set_option linter.unusedSimpArgs false
attribute [local irreducible] lopsB lvb lstepB lfunG lcondB lguardB ldrawB ldrunB ldstepB ldguardB lmem lval ldmem ldval ldfun lexit ldloadB ldlenB lpostB athen ablock
theorem getD_le {l : List (List UInt8)} {k : Nat} (h : ∀ x ∈ l, x.length ≤ k) (j : Nat) : (l.getD j []).length ≤ k := by
  rw [List.getD_eq_getElem?_getD]
  cases hj : l[j]? with
  | none => simp
  | some x => exact h x (List.mem_of_getElem? hj)
theorem anEditS {s : AHeap} {b : Nat} {Lv : AV} {L : List Int} {at_ : Int} (h : Sm s b Lv L at_) (h1 : at_ < 3900000000000000000) (n : Int) :
    ACall Try.prog 67 [.ptr b 0, .int .i64 n] s fun v t => ∃ (e : Ed) (k : Nat), v = e.enc ∧ e.new.length ≤ 4 ∧ k ≤ 6 ∧ t = s.upd b (strm Lv (at_ + k)) := by
  refine gob67 (by simp) ?_
  intro tm hlen harg
  have hb := h.lt
  have h0 := h.at0
  simp +contextual only [go_sem, L67, hlen, harg, lcondB_decide, lcondB_not, lguardB_decide_true, lguardB_decide_false, ldguardB_decide, Nat.reduceLT, Nat.reduceEqDiff, Nat.reduceAdd, Nat.reduceLeDiff, reduceIte, reduceCtorEq]
  refine lfunG_eq (nextS h.loc _) ?_
  simp +contextual only [go_sem, hlen, harg, hb, lcondB_decide, lcondB_not, lguardB_decide_true, lguardB_decide_false, ldguardB_decide, Nat.reduceLT, Nat.reduceEqDiff, Nat.reduceAdd, Nat.reduceLeDiff, reduceIte, reduceCtorEq]
  refine lfunG_eq (pickS ((h.upd (by omega) (by omega)).loc) (nm s.nx 1) [0, 0, 1, 2, 5] (some 3) (by simp) (by simp) (by simp only [go_sem, List.map_cons, lcondB_decide, lcondB_not, lguardB_decide_true, lguardB_decide_false, ldguardB_decide, Nat.reduceLT, Nat.reduceEqDiff, Nat.reduceAdd, Nat.reduceLeDiff, reduceIte, reduceCtorEq]) (by rw [ne_eq, nm_ne hb]; simp) (by simp only [go_sem, lcondB_decide, lcondB_not, lguardB_decide_true, lguardB_decide_false, ldguardB_decide, Nat.reduceLT, Nat.reduceEqDiff, Nat.reduceAdd, Nat.reduceLeDiff, reduceIte, reduceCtorEq])) ?_
  simp +contextual only [go_sem, hlen, harg, hb, lcondB_decide, lcondB_not, lguardB_decide_true, lguardB_decide_false, ldguardB_decide, Nat.reduceLT, Nat.reduceEqDiff, Nat.reduceAdd, Nat.reduceLeDiff, reduceIte, reduceCtorEq]
  refine lfunG_eq (someS ((h.upd (by omega) (by omega)).loc) (nm s.nx 2) [[], [97], [32], [49], [43], [41], [35], [34], [97, 98, 32, 49], [46]] (some 9) (by simp) (by simp) (by simp only [go_sem, List.map_cons, lcondB_decide, lcondB_not, lguardB_decide_true, lguardB_decide_false, ldguardB_decide, Nat.reduceLT, Nat.reduceEqDiff, Nat.reduceAdd, Nat.reduceLeDiff, reduceIte, reduceCtorEq]) (by rw [ne_eq, nm_ne hb]; simp) (by simp only [go_sem, lcondB_decide, lcondB_not, lguardB_decide_true, lguardB_decide_false, ldguardB_decide, Nat.reduceLT, Nat.reduceEqDiff, Nat.reduceAdd, Nat.reduceLeDiff, reduceIte, reduceCtorEq])) ?_
  simp +contextual only [go_sem, hlen, harg, hb, lcondB_decide, lcondB_not, lguardB_decide_true, lguardB_decide_false, ldguardB_decide, Nat.reduceLT, Nat.reduceEqDiff, Nat.reduceAdd, Nat.reduceLeDiff, reduceIte, reduceCtorEq]
  refine lfunG_eq (flipS ((h.upd (by omega) (by omega)).loc) _) ?_
  have hS := getD_le (l := [[], [97], [32], [49], [43], [41], [35], [34], [97, 98, 32, 49], [46]]) (k := 4) (by simp) (nextOf L (at_ + 1 + 1) (([[], [97], [32], [49], [43], [41], [35], [34], [97, 98, 32, 49], [46]] : List (List UInt8)).length)).toNat
  generalize ([[], [97], [32], [49], [43], [41], [35], [34], [97, 98, 32, 49], [46]] : List (List UInt8)).getD _ [] = y at hS ⊢
  simp +contextual only [go_sem, hlen, harg, hb, lcondB_decide, lcondB_not, lguardB_decide_true, lguardB_decide_false, ldguardB_decide, Nat.reduceLT, Nat.reduceEqDiff, Nat.reduceAdd, Nat.reduceLeDiff, reduceIte, reduceCtorEq]
  refine ⟨fun hf => ?_, fun hf => ?_⟩
  · refine lfunG_eq (pickS ((h.upd (by omega) (by omega)).loc) (nm s.nx 4) [-1, _, _] (some 3) (by simp) (by simp) (by simp only [go_sem, List.map_cons, lcondB_decide, lcondB_not, lguardB_decide_true, lguardB_decide_false, ldguardB_decide, Nat.reduceLT, Nat.reduceEqDiff, Nat.reduceAdd, Nat.reduceLeDiff, reduceIte, reduceCtorEq]; rfl) (by rw [ne_eq, nm_ne hb]; simp) (by simp only [go_sem, lcondB_decide, lcondB_not, lguardB_decide_true, lguardB_decide_false, ldguardB_decide, Nat.reduceLT, Nat.reduceEqDiff, Nat.reduceAdd, Nat.reduceLeDiff, reduceIte, reduceCtorEq])) ?_
    simp +contextual only [go_sem, hlen, harg, hb, lcondB_decide, lcondB_not, lguardB_decide_true, lguardB_decide_false, ldguardB_decide, Nat.reduceLT, Nat.reduceEqDiff, Nat.reduceAdd, Nat.reduceLeDiff, reduceIte, reduceCtorEq]
    refine lfunG_eq (pickS ((h.upd (by omega) (by omega)).loc) (nm s.nx 5) [0, -1, _] (some 3) (by simp) (by simp) (by simp only [go_sem, List.map_cons, lcondB_decide, lcondB_not, lguardB_decide_true, lguardB_decide_false, ldguardB_decide, Nat.reduceLT, Nat.reduceEqDiff, Nat.reduceAdd, Nat.reduceLeDiff, reduceIte, reduceCtorEq]; rfl) (by rw [ne_eq, nm_ne hb]; simp) (by simp only [go_sem, lcondB_decide, lcondB_not, lguardB_decide_true, lguardB_decide_false, ldguardB_decide, Nat.reduceLT, Nat.reduceEqDiff, Nat.reduceAdd, Nat.reduceLeDiff, reduceIte, reduceCtorEq])) ?_
    simp +contextual only [go_sem, hlen, harg, hb, lcondB_decide, lcondB_not, lguardB_decide_true, lguardB_decide_false, ldguardB_decide, Nat.reduceLT, Nat.reduceEqDiff, Nat.reduceAdd, Nat.reduceLeDiff, reduceIte, reduceCtorEq]
    refine lexit_pure ((OKo.refl s).upd hb h.lowO) (by simp only [low, lowL, and_self]) ⟨⟨_, _, y⟩, 6, rfl, hS, by omega, ?_⟩
    congr 2
    omega
  · refine lexit_pure ((OKo.refl s).upd hb h.lowO) (by simp only [low, lowL, and_self]) ⟨⟨_, _, y⟩, 4, rfl, hS, by omega, ?_⟩
    congr 2
    omega
end Go.S1N
end
section
set_option linter.unusedVariables false
set_option linter.unusedSimpArgs false
namespace Go.S1N
open Go Go.Am Go.Proofs Go.S1
set_option maxRecDepth 100000
set_option linter.unusedSimpArgs false
attribute [local irreducible] lopsB lvb lstepB lfunG lcondB lguardB ldrawB ldrunB ldstepB ldguardB lmem lval ldmem ldval ldfun lexit ldloadB ldlenB lpostB athen ablock
def edc (l : List Ed) : List AV := (l.map Ed.enc).flatMap AV.cells
theorem edc_len (l : List Ed) : (edc l).length = l.length * 3 := by
  unfold edc
  induction l with
  | nil => rfl
  | cons e l ih => simp only [List.map_cons, List.flatMap_cons, List.length_append, ih, List.length_cons, Ed.enc, AV.cells, List.length_nil]; omega
theorem edc_snoc (l : List Ed) (e : Ed) : edc (l ++ [e]) = edc l ++ [.int .i64 e.at_, .int .i64 e.cut, .str e.new] := by
  simp [edc, Ed.enc, AV.cells]
theorem edc_pul (l : List Ed) : PuL (edc l) := by
  unfold edc
  induction l with
  | nil => simp only [List.map_nil, List.flatMap_nil, PuL, lowL]
  | cons e l ih =>
    rw [List.map_cons, List.flatMap_cons, PuL, lowL_append]
    exact ⟨by simp only [Ed.enc, AV.cells, lowL, low, and_self], ih⟩
def edv (l : List Ed) : AV := fsv 3 (l.map Ed.enc)
theorem edv_sl (l : List Ed) : SlE (edv l) l := by
  unfold edv
  cases l with
  | nil => exact .inr ⟨rfl, rfl⟩
  | cons e l => exact .inl ⟨false, fsv_pos (by simp)⟩
theorem edv_pu (l : List Ed) : Pu (edv l) := (edv_sl l).pu
theorem enc_len (l : List Ed) : ∀ x ∈ l.map Ed.enc, x.cells.length = 3 := by
  intro x hx
  obtain ⟨e, _, rfl⟩ := List.mem_map.1 hx
  rfl
theorem len_fz {b : Nat} {l : List Ed} : fz b 3 (l.map Ed.enc) (gsv 3 b l.length) = edv l := by
  rw [show l.length = (l.map Ed.enc).length from (List.length_map ..).symm, fz_gsv]; rfl
theorem len_fz1 {b : Nat} {l : List Ed} {e : Ed} : fz b 3 ((l ++ [e]).map Ed.enc) (.rs 3 b 0 (l.length + 1)) = edv (l ++ [e]) := by
  simp only [fz, List.length_map, List.length_append, List.length_cons, List.length_nil, Nat.zero_add, and_self, if_true, edv]
  rw [fsv_pos (by simp)]
theorem loc_at {s : AHeap} {b : Nat} {Lv : AV} {a a' : Int} {n : Nat} {l : List (Nat × Option AObj)} (h : a = a') : loc (s.upd b (strm Lv a)) n l = loc (s.upd b (strm Lv a')) n l := by rw [h]
theorem getI_le {l : List Int} {lo hi : Int} (h0 : lo ≤ 0 ∧ 0 ≤ hi) (h : ∀ x ∈ l, lo ≤ x ∧ x ≤ hi) (j : Nat) : lo ≤ l.getD j 0 ∧ l.getD j 0 ≤ hi := by
  rw [List.getD_eq_getElem?_getD]
  cases hj : l[j]? with
  | none => simpa using h0
  | some x => exact h x (List.mem_of_getElem? hj)
theorem changeS {s : AHeap} {b : Nat} {Lv : AV} {L : List Int} {at_ : Int} (h : Sm s b Lv L at_) (h1 : at_ < 3800000000000000000) (n : Int) :
    ACall Try.prog 9 [.ptr b 0, .int .i64 n] s fun v t => ∃ (l : List Ed) (k : Nat), v = edv l ∧ l.length ≤ 4 ∧ (∀ e ∈ l, e.new.length ≤ 4) ∧ k ≤ 20 ∧ t = s.upd b (strm Lv (at_ + k)) := by
  refine gob9 (by simp) ?_
  intro tm hlen harg
  have hb := h.lt
  have h0 := h.at0
  simp +contextual only [go_sem, L9, hlen, harg, lcondB_decide, lcondB_not, lguardB_decide_true, lguardB_decide_false, ldguardB_decide, Nat.reduceLT, Nat.reduceEqDiff, Nat.reduceAdd, Nat.reduceLeDiff, reduceIte, reduceCtorEq]
  refine lfunG_eq (rangeS h.loc 0 3 (by omega) (by omega) (by omega)) ?_
  simp +contextual only [go_sem, hlen, harg, hb, lcondB_decide, lcondB_not, lguardB_decide_true, lguardB_decide_false, ldguardB_decide, Nat.reduceLT, Nat.reduceEqDiff, Nat.reduceAdd, Nat.reduceLeDiff, reduceIte, reduceCtorEq]
  refine lfunG_eq (pickS ((h.upd (by omega) (by omega)).loc) (nm s.nx 0) [0, 1, 1, 2, 3] (some 3) (by simp) (by simp) (by simp only [go_sem, List.map_cons, lcondB_decide, lcondB_not, lguardB_decide_true, lguardB_decide_false, ldguardB_decide, Nat.reduceLT, Nat.reduceEqDiff, Nat.reduceAdd, Nat.reduceLeDiff, reduceIte, reduceCtorEq]) (by rw [ne_eq, nm_ne hb]; simp) (by simp only [go_sem, lcondB_decide, lcondB_not, lguardB_decide_true, lguardB_decide_false, ldguardB_decide, Nat.reduceLT, Nat.reduceEqDiff, Nat.reduceAdd, Nat.reduceLeDiff, reduceIte, reduceCtorEq])) ?_
  have hN := getI_le (l := [0, 1, 1, 2, 3]) (lo := 0) (hi := 3) (by omega) (by simp) (nextOf L (at_ + 1) (([0, 1, 1, 2, 3] : List Int).length)).toNat
  generalize ([0, 1, 1, 2, 3] : List Int).getD _ 0 = N at hN ⊢
  simp +contextual only [go_sem, hlen, harg, hb, lcondB_decide, lcondB_not, lguardB_decide_true, lguardB_decide_false, ldguardB_decide, Nat.reduceLT, Nat.reduceEqDiff, Nat.reduceAdd, Nat.reduceLeDiff, reduceIte, reduceCtorEq]
  refine ⟨Nat × Int × Nat × List Ed, fun a => [(0, .ptr b 0), (1, .int .i64 n), (5, gsv 3 (nm s.nx 0) a.2.2.2.length), (6, .int .i64 a.2.1), (12, .int .i64 N), (13, .int .i64 a.1)],
    fun a => loc (s.upd b (strm Lv (at_ + a.2.2.1))) 1 [(0, gso 35 (edc a.2.2.2))], fun a => (a.1 : Int) ≤ N ∧ a.2.2.1 ≤ 2 + 3 * a.1 ∧ a.2.2.2.length ≤ a.1 ∧ ∀ e ∈ a.2.2.2, e.new.length ≤ 4, fun a => N.toNat - a.1, (0, 0 + nextOf L at_ (3 - 0 + 1), 2, []),
    ⟨by simp only; omega, by simp only; omega, by simp, by simp⟩, ?_, ?_⟩
  · refine To.go [9] [(0, none)] (by simp only [edc, List.map_nil, List.flatMap_nil, gso_nil]; congr 3; omega) ((OKo.refl s).upd hb h.lowO) (by decide) (by simp) ?_ ?_
    · simp +contextual only [go_sem, hlen, harg, gsv_zero, rnm_low hb, lcondB_decide, lcondB_not, lguardB_decide_true, lguardB_decide_false, ldguardB_decide, Nat.reduceLT, Nat.reduceEqDiff, Nat.reduceAdd, Nat.reduceLeDiff, reduceIte, reduceCtorEq]
      simp
    · simp only [go_sem, lcondB_decide, lcondB_not, lguardB_decide_true, lguardB_decide_false, ldguardB_decide, Nat.reduceLT, Nat.reduceEqDiff, Nat.reduceAdd, Nat.reduceLeDiff, reduceIte, reduceCtorEq]
  · rintro ⟨i, at1, k, l⟩ tm1 ⟨hi, hk, hl, hnew⟩ hlen1 hlv
    simp only [go_sem, hlen, lcondB_decide, lcondB_not, lguardB_decide_true, lguardB_decide_false, ldguardB_decide, Nat.reduceLT, Nat.reduceEqDiff, Nat.reduceAdd, Nat.reduceLeDiff, reduceIte, reduceCtorEq] at hlen1 hlv hi hk hl hnew
    simp +contextual only [go_sem, hlen, hlen1, hlv, lcondB_decide, lcondB_not, lguardB_decide_true, lguardB_decide_false, ldguardB_decide, Nat.reduceLT, Nat.reduceEqDiff, Nat.reduceAdd, Nat.reduceLeDiff, reduceIte, reduceCtorEq]
    refine ⟨fun hlt => ⟨fun hbr => ?_, fun hnb => ?_⟩, fun hge => ?_⟩
    rotate_left
    · refine lfunG_eq (pickS ((h.upd (by omega) (by omega)).loc) (nm s.nx 1) [0, 1, 1, 2, 4] (some 3) (by simp) (by simp) (by simp only [go_sem, List.map_cons, lcondB_decide, lcondB_not, lguardB_decide_true, lguardB_decide_false, ldguardB_decide, Nat.reduceLT, Nat.reduceEqDiff, Nat.reduceAdd, Nat.reduceLeDiff, reduceIte, reduceCtorEq]) (by rw [ne_eq, nm_ne hb]; simp) (by simp only [go_sem, lcondB_decide, lcondB_not, lguardB_decide_true, lguardB_decide_false, ldguardB_decide, Nat.reduceLT, Nat.reduceEqDiff, Nat.reduceAdd, Nat.reduceLeDiff, reduceIte, reduceCtorEq])) ?_
      simp +contextual only [go_sem, hlen1, hlv, hb, lcondB_decide, lcondB_not, lguardB_decide_true, lguardB_decide_false, ldguardB_decide, Nat.reduceLT, Nat.reduceEqDiff, Nat.reduceAdd, Nat.reduceLeDiff, reduceIte, reduceCtorEq]
      refine lfunG_eq (someS ((h.upd (by omega) (by omega)).loc) (nm s.nx 2) [[], [120], [121, 122], [120], [195, 169]] (some 9) (by simp) (by simp) (by simp only [go_sem, List.map_cons, lcondB_decide, lcondB_not, lguardB_decide_true, lguardB_decide_false, ldguardB_decide, Nat.reduceLT, Nat.reduceEqDiff, Nat.reduceAdd, Nat.reduceLeDiff, reduceIte, reduceCtorEq]) (by rw [ne_eq, nm_ne hb]; simp) (by simp only [go_sem, lcondB_decide, lcondB_not, lguardB_decide_true, lguardB_decide_false, ldguardB_decide, Nat.reduceLT, Nat.reduceEqDiff, Nat.reduceAdd, Nat.reduceLeDiff, reduceIte, reduceCtorEq])) ?_
      have hS := getD_le (l := [[], [120], [121, 122], [120], [195, 169]]) (k := 4) (by simp) (nextOf L (at_ + k + 1) (([[], [120], [121, 122], [120], [195, 169]] : List (List UInt8)).length)).toNat
      generalize ([[], [120], [121, 122], [120], [195, 169]] : List (List UInt8)).getD _ [] = y at hS ⊢
      generalize ([0, 1, 1, 2, 4] : List Int).getD _ 0 = z
      simp +contextual only [go_sem, hlen1, hlv, hb, lcondB_decide, lcondB_not, lguardB_decide_true, lguardB_decide_false, ldguardB_decide, Nat.reduceLT, Nat.reduceEqDiff, Nat.reduceAdd, Nat.reduceLeDiff, reduceIte, reduceCtorEq]
      generalize (if IntKind.i64.wrap (n - at1) < z then IntKind.i64.wrap (n - at1) else z) = w
      have hw : IntKind.i64.wrap ((i : Int) + 1) = ((i + 1 : Nat) : Int) := by rw [wrap_id (by omega)]; rfl
      refine ⟨fun c1 => ⟨fun c2 => ?_, fun c2 => ?_⟩, fun c1 => ?_⟩
      all_goals
        refine lmem_eq (app27 (acellsOf_rs (by simp only [go_sem, lcondB_decide, lcondB_not, lguardB_decide_true, lguardB_decide_false, ldguardB_decide, Nat.reduceLT, Nat.reduceEqDiff, Nat.reduceAdd, Nat.reduceLeDiff, reduceIte, reduceCtorEq]; rfl) (by rfl) (AHeap.nx_upd _ _ _)) (by decide) (by simp only [go_sem, lcondB_decide, lcondB_not, lguardB_decide_true, lguardB_decide_false, ldguardB_decide, Nat.reduceLT, Nat.reduceEqDiff, Nat.reduceAdd, Nat.reduceLeDiff, reduceIte, reduceCtorEq]) (by simp only [go_sem, lcondB_decide, lcondB_not, lguardB_decide_true, lguardB_decide_false, ldguardB_decide, Nat.reduceLT, Nat.reduceEqDiff, Nat.reduceAdd, Nat.reduceLeDiff, reduceIte, reduceCtorEq]) (edc_len l) (by omega) (AHeap.nx_upd _ _ _)) ?_
        simp +contextual only [go_sem, hlen1, hlv, hb, lcondB_decide, lcondB_not, lguardB_decide_true, lguardB_decide_false, ldguardB_decide, Nat.reduceLT, Nat.reduceEqDiff, Nat.reduceAdd, Nat.reduceLeDiff, reduceIte, reduceCtorEq]
        refine ldrawB_go [] [(2, 1), (2, 2)] 7 (by decide) ?_
        simp +contextual only [go_sem, hlen1, hlv, hb, lcondB_decide, lcondB_not, lguardB_decide_true, lguardB_decide_false, ldguardB_decide, Nat.reduceLT, Nat.reduceEqDiff, Nat.reduceAdd, Nat.reduceLeDiff, reduceIte, reduceCtorEq]
        refine ldfun_eff _ _ (pickS ((h.upd (by omega) (by omega)).loc) _ [1, 1, 2, 5] (some 3) (by simp) (by simp) (by simp only [go_sem, List.map_cons, lcondB_decide, lcondB_not, lguardB_decide_true, lguardB_decide_false, ldguardB_decide, Nat.reduceLT, Nat.reduceEqDiff, Nat.reduceAdd, Nat.reduceLeDiff, reduceIte, reduceCtorEq]) (by rw [ne_eq, nm_ne hb]; simp) (by simp only [go_sem, lcondB_decide, lcondB_not, lguardB_decide_true, lguardB_decide_false, ldguardB_decide, Nat.reduceLT, Nat.reduceEqDiff, Nat.reduceAdd, Nat.reduceLeDiff, reduceIte, reduceCtorEq])) ?_
        simp +contextual only [go_sem, hlen1, hlv, hb, lcondB_decide, lcondB_not, lguardB_decide_true, lguardB_decide_false, ldguardB_decide, Nat.reduceLT, Nat.reduceEqDiff, Nat.reduceAdd, Nat.reduceLeDiff, reduceIte, reduceCtorEq]
        generalize ([1, 1, 2, 5] : List Int).getD _ 0 = p
      · refine ⟨by kernel_rfl, (i + 1, IntKind.i64.wrap (at1 + IntKind.i64.wrap (0 + p)), k + 3, l ++ [⟨at1, 0, [119]⟩]), ⟨by simp only; omega, by simp only; omega, by simp only [List.length_append, List.length_cons, List.length_nil]; omega, ?_⟩, by simp only; omega, ?_⟩
        · intro e he
          rcases List.mem_append.1 he with he | he
          · exact hnew e he
          · rw [List.mem_singleton.1 he]; simp
        · refine To.go [5] [(0, gso 35 (edc (l ++ [⟨at1, 0, [119]⟩])))] (loc_at (by simp only; omega)) ((OKo.refl s).upd hb h.lowO) (by decide) (by simp) ?_ ?_
          · simp +contextual only [go_sem, hlen1, hlv, hw, rnm_low hb, List.length_append, gsv_pos (Nat.succ_ne_zero l.length), lcondB_decide, lcondB_not, lguardB_decide_true, lguardB_decide_false, ldguardB_decide, Nat.reduceLT, Nat.reduceEqDiff, Nat.reduceAdd, Nat.reduceLeDiff, reduceIte, reduceCtorEq]
          · simp only [go_sem, map_gso_pu (edc_pul _), lcondB_decide, lcondB_not, lguardB_decide_true, lguardB_decide_false, ldguardB_decide, Nat.reduceLT, Nat.reduceEqDiff, Nat.reduceAdd, Nat.reduceLeDiff, reduceIte, reduceCtorEq]
            simp only [edc_snoc, gso_pos (List.append_ne_nil_of_right_ne_nil (edc l) (List.cons_ne_nil _ _))]
      · refine ⟨by kernel_rfl, (i + 1, IntKind.i64.wrap (at1 + IntKind.i64.wrap (0 + p)), k + 3, l ++ [⟨at1, 0, y⟩]), ⟨by simp only; omega, by simp only; omega, by simp only [List.length_append, List.length_cons, List.length_nil]; omega, ?_⟩, by simp only; omega, ?_⟩
        · intro e he
          rcases List.mem_append.1 he with he | he
          · exact hnew e he
          · rw [List.mem_singleton.1 he]; exact hS
        · refine To.go [5] [(0, gso 35 (edc (l ++ [⟨at1, 0, y⟩])))] (loc_at (by simp only; omega)) ((OKo.refl s).upd hb h.lowO) (by decide) (by simp) ?_ ?_
          · simp +contextual only [go_sem, hlen1, hlv, hw, rnm_low hb, List.length_append, gsv_pos (Nat.succ_ne_zero l.length), lcondB_decide, lcondB_not, lguardB_decide_true, lguardB_decide_false, ldguardB_decide, Nat.reduceLT, Nat.reduceEqDiff, Nat.reduceAdd, Nat.reduceLeDiff, reduceIte, reduceCtorEq]
          · simp only [go_sem, map_gso_pu (edc_pul _), lcondB_decide, lcondB_not, lguardB_decide_true, lguardB_decide_false, ldguardB_decide, Nat.reduceLT, Nat.reduceEqDiff, Nat.reduceAdd, Nat.reduceLeDiff, reduceIte, reduceCtorEq]
            simp only [edc_snoc, gso_pos (List.append_ne_nil_of_right_ne_nil (edc l) (List.cons_ne_nil _ _))]
      · refine ⟨by kernel_rfl, (i + 1, IntKind.i64.wrap (at1 + IntKind.i64.wrap (w + p)), k + 3, l ++ [⟨at1, w, y⟩]), ⟨by simp only; omega, by simp only; omega, by simp only [List.length_append, List.length_cons, List.length_nil]; omega, ?_⟩, by simp only; omega, ?_⟩
        · intro e he
          rcases List.mem_append.1 he with he | he
          · exact hnew e he
          · rw [List.mem_singleton.1 he]; exact hS
        · refine To.go [5] [(0, gso 35 (edc (l ++ [⟨at1, w, y⟩])))] (loc_at (by simp only; omega)) ((OKo.refl s).upd hb h.lowO) (by decide) (by simp) ?_ ?_
          · simp +contextual only [go_sem, hlen1, hlv, hw, rnm_low hb, List.length_append, gsv_pos (Nat.succ_ne_zero l.length), lcondB_decide, lcondB_not, lguardB_decide_true, lguardB_decide_false, ldguardB_decide, Nat.reduceLT, Nat.reduceEqDiff, Nat.reduceAdd, Nat.reduceLeDiff, reduceIte, reduceCtorEq]
          · simp only [go_sem, map_gso_pu (edc_pul _), lcondB_decide, lcondB_not, lguardB_decide_true, lguardB_decide_false, ldguardB_decide, Nat.reduceLT, Nat.reduceEqDiff, Nat.reduceAdd, Nat.reduceLeDiff, reduceIte, reduceCtorEq]
            simp only [edc_snoc, gso_pos (List.append_ne_nil_of_right_ne_nil (edc l) (List.cons_ne_nil _ _))]
    all_goals
      refine lfunG_eq (flipS ((h.upd (by omega) (by omega)).loc) _) ?_
      simp +contextual only [go_sem, hlen1, hlv, hb, lcondB_decide, lcondB_not, lguardB_decide_true, lguardB_decide_false, ldguardB_decide, Nat.reduceLT, Nat.reduceEqDiff, Nat.reduceAdd, Nat.reduceLeDiff, reduceIte, reduceCtorEq]
      refine ⟨fun hf => ?_, fun hf => ?_⟩
      · refine lfunG_of (anEditS ((h.upd (by omega) (by omega)).loc) (by omega) _) ?_
        rintro _ _ ⟨e, m, rfl, he, hm, rfl⟩
        simp +contextual only [go_sem, hlen1, hlv, hb, Ed.enc, lcondB_decide, lcondB_not, lguardB_decide_true, lguardB_decide_false, ldguardB_decide, Nat.reduceLT, Nat.reduceEqDiff, Nat.reduceAdd, Nat.reduceLeDiff, reduceIte, reduceCtorEq]
        refine lmem_eq (app27 (acellsOf_rs (by simp only [go_sem, lcondB_decide, lcondB_not, lguardB_decide_true, lguardB_decide_false, ldguardB_decide, Nat.reduceLT, Nat.reduceEqDiff, Nat.reduceAdd, Nat.reduceLeDiff, reduceIte, reduceCtorEq]; rfl) (by rfl) (AHeap.nx_upd _ _ _)) (by decide) (by simp only [go_sem, lcondB_decide, lcondB_not, lguardB_decide_true, lguardB_decide_false, ldguardB_decide, Nat.reduceLT, Nat.reduceEqDiff, Nat.reduceAdd, Nat.reduceLeDiff, reduceIte, reduceCtorEq]) (by simp only [go_sem, lcondB_decide, lcondB_not, lguardB_decide_true, lguardB_decide_false, ldguardB_decide, Nat.reduceLT, Nat.reduceEqDiff, Nat.reduceAdd, Nat.reduceLeDiff, reduceIte, reduceCtorEq]) (edc_len l) (by omega) (AHeap.nx_upd _ _ _)) ?_
        simp +contextual only [go_sem, hlen1, hlv, hb, lcondB_decide, lcondB_not, lguardB_decide_true, lguardB_decide_false, ldguardB_decide, Nat.reduceLT, Nat.reduceEqDiff, Nat.reduceAdd, Nat.reduceLeDiff, reduceIte, reduceCtorEq]
        refine lexit_freeze 2 3 ((l ++ [e]).map Ed.enc) (by simp only [go_sem, lcondB_decide, lcondB_not, lguardB_decide_true, lguardB_decide_false, ldguardB_decide, Nat.reduceLT, Nat.reduceEqDiff, Nat.reduceAdd, Nat.reduceLeDiff, reduceIte, reduceCtorEq]; exact congrArg (fun c => some (AObj.cells c (some 35))) (edc_snoc l e).symm) (enc_len _) ?_
        simp only [AHeap.nx_upd, len_fz1]
        refine lexit_pure ((OKo.refl s).upd hb h.lowO) (low.mono (Nat.zero_le _) (edv_pu _)) ⟨_, k + 1 + m, rfl, by simp only [List.length_append, List.length_cons, List.length_nil]; omega, ?_, by omega, by congr 2; omega⟩
        intro x hx
        rcases List.mem_append.1 hx with hx | hx
        · exact hnew x hx
        · rw [List.mem_singleton.1 hx]; exact he
      · refine lexit_freezeG 0 3 (l.map Ed.enc) (by simp only [go_sem, lcondB_decide, lcondB_not, lguardB_decide_true, lguardB_decide_false, ldguardB_decide, Nat.reduceLT, Nat.reduceEqDiff, Nat.reduceAdd, Nat.reduceLeDiff, reduceIte, reduceCtorEq]; rfl) (enc_len l) (by decide) ?_
        simp only [AHeap.nx_upd, len_fz]
        exact lexit_pure ((OKo.refl s).upd hb h.lowO) (low.mono (Nat.zero_le _) (edv_pu _)) ⟨_, k + 1, rfl, by omega, hnew, by omega, by congr 2; omega⟩
end Go.S1N
end
section
set_option linter.unusedVariables false
set_option linter.unusedSimpArgs false
namespace Go.S1N
open Go Go.Am Go.Proofs Go.S1
set_option maxRecDepth 100000
set_option linter.unusedSimpArgs false
attribute [local irreducible] lopsB lvb lstepB lfunG lcondB lguardB ldrawB ldrunB ldstepB ldguardB lmem lval ldmem ldval ldfun lexit ldloadB ldlenB lpostB athen ablock
theorem scan_range {n : Int} : ∀ (l : List Ed) (B : Int), scan n B l = 0 → ∀ z ∈ l, 0 ≤ z.at_ ∧ 0 ≤ z.cut ∧ z.at_ ≤ n ∧ z.cut ≤ n
  | [], B, _, z, hz => by cases hz
  | a :: l, B, h, z, hz => by
    obtain ⟨d1, d2, d3, d4, d5, d6⟩ := scan_cons h
    rcases List.mem_cons.1 hz with rfl | hz
    · omega
    · exact scan_range l _ d6 z hz
end Go.S1N
end
section
set_option linter.unusedVariables false
set_option linter.unusedSimpArgs false
namespace Go.S1
open Go Go.Am Go.Proofs
set_option maxRecDepth 100000
noncomputable def L33 : LCode := LCode.seq (LCode.ops [⟨Op.assign (Operand.const (Value.bool false)), some 4, none⟩]) (LCode.seq (LCode.seq (LCode.ops [⟨Op.move (Operand.tmp 0), some 6, none⟩, ⟨Op.call { callee := Callee.builtin Builtin.len, args := { toList := [Operand.tmp 6] }, argTypes := { toList := [27] } }, some 7, none⟩, ⟨Op.move (Operand.tmp 1), some 8, none⟩, ⟨Op.call { callee := Callee.builtin Builtin.len, args := { toList := [Operand.tmp 8] }, argTypes := { toList := [27] } }, some 9, none⟩, ⟨Op.binOp BinOp.neq 3 (Operand.tmp 7) (Operand.tmp 9) 3, some 10, none⟩]) (LCode.cond (Operand.tmp 10) (LCode.seq (LCode.ops [⟨Op.assign (Operand.const (Value.bool false)), some 4, none⟩]) LCode.ret) LCode.skip)) (LCode.seq (LCode.seq (LCode.ops [⟨Op.move (Operand.tmp 0), some 11, none⟩, ⟨Op.call { callee := Callee.builtin Builtin.len, args := { toList := [Operand.tmp 11] }, argTypes := { toList := [27] } }, some 12, none⟩, ⟨Op.move (Operand.const (Value.int IntKind.i64 0)), some 13, none⟩]) (LCode.block 0 (LCode.loop (LCode.seq (LCode.ops [⟨Op.binOp BinOp.lss 3 (Operand.tmp 13) (Operand.tmp 12) 3, some 14, none⟩]) (LCode.seq (LCode.cond (Operand.tmp 14) LCode.skip (LCode.exit 0)) (LCode.seq (LCode.block 1 (LCode.seq (LCode.ops [⟨Op.move (Operand.tmp 13), some 15, none⟩, ⟨Op.assign (Operand.tmp 15), some 5, none⟩]) (LCode.seq (LCode.draw [0, 0, 3, 7, 0, 0, 48, 112, 255] [⟨Op.move (Operand.tmp 0), some 16, none⟩, ⟨Op.move (Operand.tmp 5), some 17, none⟩, ⟨Op.indexAddr 27 (Operand.tmp 16) (Operand.tmp 17), some 18, none⟩, ⟨Op.load 35 (Operand.tmp 18), some 19, none⟩, ⟨Op.move (Operand.tmp 1), some 20, none⟩, ⟨Op.move (Operand.tmp 5), some 21, none⟩, ⟨Op.indexAddr 27 (Operand.tmp 20) (Operand.tmp 21), some 22, none⟩, ⟨Op.load 35 (Operand.tmp 22), some 23, none⟩, ⟨Op.binOp BinOp.neq 35 (Operand.tmp 19) (Operand.tmp 23) 35, some 24, none⟩]) (LCode.cond (Operand.tmp 24) (LCode.seq (LCode.ops [⟨Op.assign (Operand.const (Value.bool false)), some 4, none⟩]) LCode.ret) LCode.skip)))) (LCode.ops [⟨Op.binOp BinOp.add 3 (Operand.tmp 13) (Operand.const (Value.int IntKind.i64 1)) 3, some 25, none⟩, ⟨Op.move (Operand.tmp 25), some 13, none⟩]))))))) (LCode.seq (LCode.ops [⟨Op.assign (Operand.const (Value.bool true)), some 4, none⟩]) LCode.ret)))
theorem l33 : Try.f33.body.map lighten = some L33 := by kernel_rfl
theorem rs33 : Try.f33.results.toList = [ResultVar.tmp 4] := by kernel_rfl
theorem nt33 : Try.f33.ntmps = 26 := by kernel_rfl
theorem gob33 {args : List AV} {s : AHeap} {R : AV → AHeap → Prop} (hl : args.length ≤ 26) (h : ∀ tm, tm.length = 26 → (∀ i, aev tm (.tmp i) = args.getD i aundef) → lvb Try.prog tab s L33 (lpostB tab s [ResultVar.tmp 4] R) tm (loc s 0 [])) : ACall Try.prog 33 args s R := ACall.goB tab_ok mixed Try.func33 l33 nm33 rs33 nt33 hl h
noncomputable def L79 : LCode := LCode.seq (LCode.ops [⟨Op.box 118 (Operand.tmp 0), some 1, none⟩, ⟨Op.assign (Operand.const (Value.slice none 0 0)), some 2, none⟩]) (LCode.seq (LCode.ops [⟨Op.alloc 27, some 3, none⟩]) (LCode.seq (LCode.ops [⟨Op.alloc 3, some 4, none⟩, ⟨Op.store 3 (Operand.tmp 4) (Operand.const (Value.int IntKind.i64 0)), none, none⟩]) (LCode.seq (LCode.ops [⟨Op.alloc 9, some 5, none⟩, ⟨Op.store 9 (Operand.tmp 5) (Operand.const (Value.string { data := { toList := [] } })), none, none⟩]) (LCode.seq (LCode.ops [⟨Op.makeFunc (Fn.func 121) { toList := [] } { toList := [Operand.tmp 4, Operand.tmp 5, Operand.tmp 3] }, some 9, none⟩, ⟨Op.assign (Operand.tmp 9), some 6, none⟩]) (LCode.seq (LCode.seq (LCode.ops [⟨Op.fieldAddr 118 (Operand.tmp 1) 1, some 10, none⟩, ⟨Op.load 116 (Operand.tmp 10), some 11, none⟩, ⟨Op.call { callee := Callee.builtin Builtin.len, args := { toList := [Operand.tmp 11] }, argTypes := { toList := [116] } }, some 12, none⟩, ⟨Op.move (Operand.const (Value.int IntKind.i64 0)), some 13, none⟩]) (LCode.block 0 (LCode.loop (LCode.seq (LCode.ops [⟨Op.binOp BinOp.lss 3 (Operand.tmp 13) (Operand.tmp 12) 3, some 14, none⟩]) (LCode.seq (LCode.cond (Operand.tmp 14) LCode.skip (LCode.exit 0)) (LCode.seq (LCode.block 1 (LCode.seq (LCode.ops [⟨Op.indexAddr 116 (Operand.tmp 11) (Operand.tmp 13), some 15, none⟩, ⟨Op.load 121 (Operand.tmp 15), some 16, none⟩, ⟨Op.alloc 121, some 8, none⟩, ⟨Op.store 121 (Operand.tmp 8) (Operand.tmp 16), none, none⟩]) (LCode.seq (LCode.seq (LCode.ops [⟨Op.fieldAddr 121 (Operand.tmp 8) 0, some 17, none⟩, ⟨Op.load 3 (Operand.tmp 17), some 18, none⟩, ⟨Op.binOp BinOp.lss 3 (Operand.tmp 18) (Operand.const (Value.int IntKind.i64 0)) 3, some 19, none⟩]) (LCode.cond (Operand.tmp 19) (LCode.seq (LCode.ops [⟨Op.load 9 (Operand.tmp 5), some 20, none⟩, ⟨Op.fieldAddr 121 (Operand.tmp 8) 1, some 21, none⟩, ⟨Op.load 5 (Operand.tmp 21), some 22, none⟩, ⟨Op.buildSlice 113 1 { toList := [(0, Operand.tmp 22)] }, some 23, none⟩, ⟨Op.convert 113 9 (Operand.tmp 23), some 24, none⟩, ⟨Op.binOp BinOp.add 9 (Operand.tmp 20) (Operand.tmp 24) 9, some 25, none⟩, ⟨Op.store 9 (Operand.tmp 5) (Operand.tmp 25), none, none⟩]) (LCode.exit 1)) LCode.skip)) (LCode.seq (LCode.ops [⟨Op.move (Operand.tmp 6), some 26, none⟩, ⟨Op.fieldAddr 121 (Operand.tmp 8) 0, some 27, none⟩, ⟨Op.load 3 (Operand.tmp 27), some 28, none⟩, ⟨Op.call { callee := Callee.value (Operand.tmp 26), args := { toList := [Operand.tmp 28] }, argTypes := { toList := [3] } }, some 29, none⟩]) (LCode.ops [⟨Op.fieldAddr 121 (Operand.tmp 8) 0, some 30, none⟩, ⟨Op.load 3 (Operand.tmp 30), some 31, none⟩, ⟨Op.binOp BinOp.add 3 (Operand.tmp 31) (Operand.const (Value.int IntKind.i64 1)) 3, some 32, none⟩, ⟨Op.store 3 (Operand.tmp 4) (Operand.tmp 32), none, none⟩]))))) (LCode.ops [⟨Op.binOp BinOp.add 3 (Operand.tmp 13) (Operand.const (Value.int IntKind.i64 1)) 3, some 33, none⟩, ⟨Op.move (Operand.tmp 33), some 13, none⟩]))))))) (LCode.seq (LCode.ops [⟨Op.move (Operand.tmp 6), some 34, none⟩, ⟨Op.fieldAddr 118 (Operand.tmp 1) 0, some 35, none⟩, ⟨Op.load 3 (Operand.tmp 35), some 36, none⟩, ⟨Op.call { callee := Callee.value (Operand.tmp 34), args := { toList := [Operand.tmp 36] }, argTypes := { toList := [3] } }, some 37, none⟩]) (LCode.seq (LCode.ops [⟨Op.load 27 (Operand.tmp 3), some 38, none⟩, ⟨Op.assign (Operand.tmp 38), some 2, none⟩]) LCode.ret)))))))
theorem l79 : Try.f79.body.map lighten = some L79 := by kernel_rfl
theorem rs79 : Try.f79.results.toList = [ResultVar.tmp 2] := by kernel_rfl
theorem nt79 : Try.f79.ntmps = 39 := by kernel_rfl
theorem gob79 {args : List AV} {s : AHeap} {R : AV → AHeap → Prop} (hl : args.length ≤ 39) (h : ∀ tm, tm.length = 39 → (∀ i, aev tm (.tmp i) = args.getD i aundef) → lvb Try.prog tab s L79 (lpostB tab s [ResultVar.tmp 2] R) tm (loc s 0 [])) : ACall Try.prog 79 args s R := ACall.goB tab_ok mixed Try.func79 l79 nm79 rs79 nt79 hl h
noncomputable def L117 : LCode := LCode.seq (LCode.ops [⟨Op.alloc 111, some 4, none⟩]) (LCode.seq (LCode.ops [⟨Op.move (Operand.tmp 0), some 5, none⟩, ⟨Op.move (Operand.tmp 1), some 6, none⟩, ⟨Op.build 111 { toList := [(0, Operand.tmp 5), (1, Operand.tmp 6)] }, some 7, none⟩, ⟨Op.store 111 (Operand.tmp 4) (Operand.tmp 7), none, none⟩]) LCode.ret)
theorem l117 : Try.f117.body.map lighten = some L117 := by kernel_rfl
theorem rs117 : Try.f117.results.toList = [ResultVar.cell 4 111] := by kernel_rfl
theorem nt117 : Try.f117.ntmps = 8 := by kernel_rfl
theorem gob117 {args : List AV} {s : AHeap} {R : AV → AHeap → Prop} (hl : args.length ≤ 8) (h : ∀ tm, tm.length = 8 → (∀ i, aev tm (.tmp i) = args.getD i aundef) → lvb Try.prog tab s L117 (lpostB tab s [ResultVar.cell 4 111] R) tm (loc s 0 [])) : ACall Try.prog 117 args s R := ACall.goB tab_ok mixed Try.func117 l117 nm117 rs117 nt117 hl h
noncomputable def L118 : LCode := LCode.seq (LCode.ops [⟨Op.alloc 111, some 2, none⟩]) (LCode.seq (LCode.ops [⟨Op.move (Operand.tmp 0), some 3, none⟩, ⟨Op.build 111 { toList := [(2, Operand.tmp 3)] }, some 4, none⟩, ⟨Op.store 111 (Operand.tmp 2) (Operand.tmp 4), none, none⟩]) LCode.ret)
theorem l118 : Try.f118.body.map lighten = some L118 := by kernel_rfl
theorem rs118 : Try.f118.results.toList = [ResultVar.cell 2 111] := by kernel_rfl
theorem nt118 : Try.f118.ntmps = 5 := by kernel_rfl
theorem gob118 {args : List AV} {s : AHeap} {R : AV → AHeap → Prop} (hl : args.length ≤ 5) (h : ∀ tm, tm.length = 5 → (∀ i, aev tm (.tmp i) = args.getD i aundef) → lvb Try.prog tab s L118 (lpostB tab s [ResultVar.cell 2 111] R) tm (loc s 0 [])) : ACall Try.prog 118 args s R := ACall.goB tab_ok mixed Try.func118 l118 nm118 rs118 nt118 hl h
noncomputable def L121 : LCode := LCode.seq (LCode.seq (LCode.ops [⟨Op.move (Operand.tmp 0), some 5, none⟩, ⟨Op.load 3 (Operand.tmp 1), some 6, none⟩, ⟨Op.binOp BinOp.gtr 3 (Operand.tmp 5) (Operand.tmp 6) 3, some 7, none⟩, ⟨Op.move (Operand.tmp 7), some 8, none⟩, ⟨Op.load 9 (Operand.tmp 2), some 9, some (8, false)⟩, ⟨Op.binOp BinOp.neq 9 (Operand.tmp 9) (Operand.const (Value.string { data := { toList := [] } })) 9, some 10, some (8, false)⟩, ⟨Op.pick (Operand.tmp 8) (Operand.const (Value.bool true)) (Operand.tmp 10), some 11, none⟩]) (LCode.cond (Operand.tmp 11) (LCode.ops [⟨Op.load 27 (Operand.tmp 3), some 12, none⟩, ⟨Op.load 3 (Operand.tmp 1), some 13, none⟩, ⟨Op.move (Operand.tmp 0), some 14, none⟩, ⟨Op.load 3 (Operand.tmp 1), some 15, none⟩, ⟨Op.binOp BinOp.sub 3 (Operand.tmp 14) (Operand.tmp 15) 3, some 16, none⟩, ⟨Op.load 9 (Operand.tmp 2), some 17, none⟩, ⟨Op.build 35 { toList := [(0, Operand.tmp 13), (1, Operand.tmp 16), (2, Operand.tmp 17)] }, some 18, none⟩, ⟨Op.buildSlice 27 1 { toList := [(0, Operand.tmp 18)] }, some 19, none⟩, ⟨Op.call { callee := Callee.builtin Builtin.append, args := { toList := [Operand.tmp 12, Operand.tmp 19] }, argTypes := { toList := [27, 27] } }, some 20, none⟩, ⟨Op.store 27 (Operand.tmp 3) (Operand.tmp 20), none, none⟩]) LCode.skip)) (LCode.ops [⟨Op.store 9 (Operand.tmp 2) (Operand.const (Value.string { data := { toList := [] } })), none, none⟩])
theorem l121 : Try.f121.body.map lighten = some L121 := by kernel_rfl
theorem rs121 : Try.f121.results.toList = [] := by kernel_rfl
theorem nt121 : Try.f121.ntmps = 21 := by kernel_rfl
theorem gob121 {args : List AV} {s : AHeap} {R : AV → AHeap → Prop} (hl : args.length ≤ 21) (h : ∀ tm, tm.length = 21 → (∀ i, aev tm (.tmp i) = args.getD i aundef) → lvb Try.prog tab s L121 (lpostB tab s [] R) tm (loc s 0 [])) : ACall Try.prog 121 args s R := ACall.goB tab_ok mixed Try.func121 l121 nm121 rs121 nt121 hl h
end Go.S1
end
section
set_option linter.unusedVariables false
set_option linter.unusedSimpArgs false
namespace Go.S1N
open Go Go.Am Go.Proofs Go.S1
set_option maxRecDepth 100000
set_option linter.unusedSimpArgs false
attribute [local irreducible] lopsB lvb lstepB lfunG lcondB lguardB ldrawB ldrunB ldstepB ldguardB lmem lval ldmem ldval ldfun lexit ldloadB ldlenB lpostB athen ablock
theorem clean_fz {s t : AHeap} {c sz : Nat} {xs : List AV} {T : Option TypeId} (hs : Sub s t) (hc : s.nx ≤ c) (hg : t.get c = some (.cells (xs.flatMap AV.cells) T)) (hsz : ∀ x ∈ xs, x.cells.length = sz) {v v' : AV} (hv : fz c sz xs v = v') (hp : Pu v')
    {R : AV → AHeap → Prop} (hR : R v' s) : Gh s (fun vs t => ∃ v', vs = [v'] ∧ R v' t) [v] t := by
  intro B hB K w us hw hvs hx
  have hlt : ∀ b o, s.get b = some o → b < s.nx := by
    intro b o h
    obtain ⟨rfl, hBw⟩ := hB
    obtain ⟨g, base, q1, _⟩ := hBw.own b o h
    exact (hBw.bnd _ _ _ q1).1
  obtain ⟨K1, h1, h2, h3⟩ := freeze_core (s' := t.del c) hB hw hx hg hsz (AHeap.nx_del _ _) (by
    intro x o hx
    rw [AHeap.get_del] at hx
    split at hx
    · cases hx
    · rename_i hne; exact ⟨hne, o, hx, .inr rfl⟩)
  obtain ⟨K', g1, g2, g3⟩ := rename_core (s' := s) hB h1 h2 (f := fun b => if b < s.nx then b else b + t.nx) (fun b hb => if_pos hb) (by intro b hb; rw [if_neg (by omega), AHeap.nx_del]; omega) (Nat.le_refl _)
    (fun b o h => .inr ⟨hlt b o h, by rw [AHeap.get_del, if_neg (by have := hlt b o h; omega)]; exact hs.2 b o (hlt b o h) h, h⟩)
    (by intro b b' o o' h h' e; rwa [if_pos (hlt b o h), if_pos (hlt b' o' h')] at e)
  cases hvs with
  | cons _ u _ us hu hs' =>
    cases hs'
    refine ⟨K', [v'], s, g1, .cons _ _ _ _ (g3 _ _ ?_) .nil, g2, v', rfl, hR⟩
    rw [ren_pu hp, ← hv]
    exact h3 _ _ hu
def ltv (L : List (Int × UInt8)) : List AV := L.map fun p => .agg [.int .i64 p.1, .int .u8 p.2.toNat]
theorem ltv_letters (L : List (Int × UInt8)) : (ltv L).flatMap AV.cells = letters L := by
  unfold ltv letters
  rw [List.flatMap_map]
  rfl
theorem ltv_len (L : List (Int × UInt8)) : ∀ x ∈ ltv L, x.cells.length = 2 := by
  intro x hx
  obtain ⟨p, _, rfl⟩ := List.mem_map.1 hx
  rfl
theorem ltv_pu (L : List (Int × UInt8)) : PuL (ltv L) := by
  simp only [PuL, lowL_iff]
  intro x hx
  obtain ⟨p, _, rfl⟩ := List.mem_map.1 hx
  simp only [low, lowL, and_self]
def flv (n : Int) (L : List (Int × UInt8)) : AV := .agg [.int .i64 n, fsv 2 (ltv L)]
theorem flv_pu (n : Int) (L : List (Int × UInt8)) : Pu (flv n L) := by
  simp only [Pu, flv, low, lowL, and_true, true_and]
  exact pu_fsv (ltv_pu L)
theorem flowOfE (n : Nat) (v : AV) (l : List Ed) (hv : SlE v l) (hl : l.length ≤ 2000) (hn : n ≤ 20000) (hnew : ∀ e ∈ l, e.new.length ≤ 100000) (hsc : scan n (-1) l = 0) (s : AHeap) :
    ACall Try.prog 74 [.int .i64 n, v] s fun r t => r = flv n (flowFrom n 0 l) ∧ t = s := by
  refine (flowOf_ok n v l hv hl hn hnew hsc s).clean ?_
  rintro r t ⟨⟨y, rfl, hy⟩, hs⟩
  rcases hy with ⟨rfl, h⟩ | ⟨c, hc, hct, rfl, hne, hg⟩
  · have hv : flv n (flowFrom n 0 l) = .agg [.int .i64 n, .nils] := by rw [h]; rfl
    intro B hB K w us hw hvs hx
    have hlt : ∀ b o, s.get b = some o → b < s.nx := by
      intro b o h
      obtain ⟨rfl, hBw⟩ := hB
      obtain ⟨g, base, q1, _⟩ := hBw.own b o h
      exact (hBw.bnd _ _ _ q1).1
    obtain ⟨K', g1, g2, g3⟩ := rename_core (s' := s) hB hw hx (f := fun b => if b < s.nx then b else b + t.nx) (fun b hb => if_pos hb) (by intro b hb; rw [if_neg (by omega)]; omega) (Nat.le_refl _)
      (fun b o h => .inr ⟨hlt b o h, hs.2 b o (hlt b o h) h, h⟩)
      (by intro b b' o o' h h' e; rwa [if_pos (hlt b o h), if_pos (hlt b' o' h')] at e)
    cases hvs with
    | cons _ u _ us hu hs' =>
      cases hs'
      refine ⟨K', [_], s, g1, .cons _ _ _ _ (g3 _ _ ?_) .nil, g2, _, rfl, hv.symm, rfl⟩
      exact hu
  · refine clean_fz hs hc (xs := ltv (flowFrom n 0 l)) (sz := 2) (by rw [ltv_letters]; exact hg) (ltv_len _) (v' := flv n (flowFrom n 0 l)) ?_ (flv_pu _ _) ⟨rfl, rfl⟩
    have hl : (ltv (flowFrom n 0 l)).length = (flowFrom n 0 l).length := List.length_map ..
    simp only [fz, fzL, hl, and_self, if_true, flv]
    rw [fsv_pos (by intro h; rw [h] at hl; exact hne (List.eq_nil_of_length_eq_zero hl.symm))]
theorem longE (n : Int) (v : AV) (l : List Ed) (hv : SlE v l) (hl : l.length < 4611686018427387904) (s : AHeap) : ACall Try.prog 72 [.int .i64 n, v] s fun r t => r = .int .i64 (longOf n l) ∧ t = s :=
  exact_of (by simp only [Pu, low]) (long_ok n v l hv hl s)
theorem checkE (n : Int) (v : AV) (l : List Ed) (hv : SlE v l) (hl : l.length < 4611686018427387904) (s : AHeap) : ACall Try.prog 31 [.int .i64 n, v] s fun r t => r = .int .i64 (faultOf n l) ∧ t = s :=
  exact_of (by simp only [Pu, low]) (check_ok n v l hv hl s)
end Go.S1N
end
section
set_option linter.unusedVariables false
set_option linter.unusedSimpArgs false
namespace Go.S1N
open Go Go.Am Go.Proofs Go.S1
set_option maxRecDepth 100000
set_option linter.unusedSimpArgs false
attribute [local irreducible] lopsB lvb lstepB lfunG lcondB lguardB ldrawB ldrunB ldstepB ldguardB lmem lval ldmem ldval ldfun lexit ldloadB ldlenB lpostB athen ablock
theorem gso_ed {O : List Ed} {z : Ed} : gso 35 (edc (O ++ [z])) = some (.cells (edc (O ++ [z])) (some 35)) := gso_pos (by simp [edc_snoc])
end Go.S1N
end
section
set_option linter.unusedVariables false
set_option linter.unusedSimpArgs false
namespace Go.S1N
open Go Go.Am Go.Proofs Go.S1
set_option maxRecDepth 100000
set_option linter.unusedSimpArgs false
attribute [local irreducible] lopsB lvb lstepB lfunG lcondB lguardB ldrawB ldrunB ldstepB ldguardB lmem lval ldmem ldval ldfun lexit ldloadB ldlenB lpostB athen ablock
structure Rn where
  at_ : Int
  long : Int
  text : List UInt8
def Rn.enc (e : Rn) : AV := .agg [.int .i64 e.at_, .int .i64 e.long, .str e.text]
def rnc (l : List Rn) : List AV := (l.map Rn.enc).flatMap AV.cells
def rnv (l : List Rn) : AV := fsv 3 (l.map Rn.enc)
theorem rnc_len (l : List Rn) : (rnc l).length = l.length * 3 := by
  unfold rnc
  induction l with
  | nil => rfl
  | cons e l ih => simp only [List.map_cons, List.flatMap_cons, List.length_append, ih, List.length_cons, Rn.enc, AV.cells, List.length_nil]; omega
theorem rnc_snoc (l : List Rn) (e : Rn) : rnc (l ++ [e]) = rnc l ++ [.int .i64 e.at_, .int .i64 e.long, .str e.text] := by
  simp [rnc, Rn.enc, AV.cells]
theorem rnc_pul (l : List Rn) : PuL (rnc l) := by
  unfold rnc
  induction l with
  | nil => simp only [List.map_nil, List.flatMap_nil, PuL, lowL]
  | cons e l ih =>
    rw [List.map_cons, List.flatMap_cons, PuL, lowL_append]
    exact ⟨by simp only [Rn.enc, AV.cells, lowL, low, and_self], ih⟩
theorem rn_len (l : List Rn) : ∀ x ∈ l.map Rn.enc, x.cells.length = 3 := by
  intro x hx
  obtain ⟨e, _, rfl⟩ := List.mem_map.1 hx
  rfl
theorem rnv_pu (l : List Rn) : Pu (rnv l) := pu_fsv (by
  simp only [PuL, lowL_iff]
  intro x hx
  obtain ⟨e, _, rfl⟩ := List.mem_map.1 hx
  simp only [Rn.enc, low, lowL, and_self])
theorem kept_ok (a n : Int) (s : AHeap) : ACall Try.prog 117 [.int .i64 a, .int .i64 n] s fun r t => r = Rn.enc ⟨a, n, []⟩ ∧ t = s := by
  refine gob117 (by simp) ?_
  intro tm hlen harg
  simp +contextual only [go_sem, L117, hlen, harg, lcondB_decide, lcondB_not, lguardB_decide_true, lguardB_decide_false, ldguardB_decide, Nat.reduceLT, Nat.reduceEqDiff, Nat.reduceAdd, Nat.reduceLeDiff, reduceIte, reduceCtorEq]
  exact lexit_pure (.refl s) (by simp only [low, lowL, and_self]) ⟨rfl, rfl⟩
theorem fresh_ok (x : List UInt8) (s : AHeap) : ACall Try.prog 118 [.str x] s fun r t => r = Rn.enc ⟨0, 0, x⟩ ∧ t = s := by
  refine gob118 (by simp) ?_
  intro tm hlen harg
  simp +contextual only [go_sem, L118, hlen, harg, lcondB_decide, lcondB_not, lguardB_decide_true, lguardB_decide_false, ldguardB_decide, Nat.reduceLT, Nat.reduceEqDiff, Nat.reduceAdd, Nat.reduceLeDiff, reduceIte, reduceCtorEq]
  exact lexit_pure (.refl s) (by simp only [low, lowL, and_self]) ⟨rfl, rfl⟩
theorem len_rnfz {b : Nat} {l : List Rn} : fz b 3 (l.map Rn.enc) (gsv 3 b l.length) = rnv l := by
  rw [show l.length = (l.map Rn.enc).length from (List.length_map ..).symm, fz_gsv]; rfl
end Go.S1N
end
section
set_option linter.unusedVariables false
set_option linter.unusedSimpArgs false
namespace Go.S1N
open Go Go.Am Go.Proofs Go.S1
set_option maxRecDepth 100000
set_option linter.unusedSimpArgs false
attribute [local irreducible] lopsB lvb lstepB lfunG lcondB lguardB ldrawB ldrunB ldstepB ldguardB lmem lval ldmem ldval ldfun lexit ldloadB ldlenB lpostB athen ablock
def inl_ (O : List Int) : List AV := O.map (AV.int .i64)
def intv (O : List Int) : AV := fsv 1 (inl_ O)
theorem inl_flat (O : List Int) : (inl_ O).flatMap AV.cells = inl_ O := by
  unfold inl_
  induction O with
  | nil => rfl
  | cons x O ih => simp only [List.map_cons, List.flatMap_cons, AV.cells, ih, List.cons_append, List.nil_append]
theorem inl_pul (O : List Int) : PuL (inl_ O) := by
  simp only [PuL, lowL_iff, inl_, List.mem_map]
  rintro x ⟨z, _, rfl⟩
  simp only [low]
theorem intv_pu (O : List Int) : Pu (intv O) := pu_fsv (inl_pul O)
theorem inl_cl (O : List Int) : ∀ x ∈ inl_ O, x.cells.length = 1 := by
  intro x hx
  obtain ⟨z, _, rfl⟩ := List.mem_map.1 hx
  rfl
theorem inl_length (O : List Int) : (inl_ O).length = O.length := List.length_map ..
theorem inl_snoc (O : List Int) (z : Int) : inl_ (O ++ [z]) = inl_ O ++ [.int .i64 z] := by simp [inl_]
theorem len_infz {b : Nat} {O : List Int} : fz b 1 (inl_ O) (gsv 1 b O.length) = intv O := by
  rw [← inl_length O, fz_gsv]; rfl
theorem intv_ints (O : List Int) : IsInts (intv O) O := by
  cases O with
  | nil => exact .inr ⟨rfl, rfl⟩
  | cons x O => exact .inl ⟨false, fsv_pos (by simp [inl_])⟩
theorem app_int {s : AHeap} {n j k : Nat} {l : List (Nat × Option AObj)} {O : List Int} {z : Int} (hk : lget l k = some (.cells [.int .i64 z] (some 3))) (hj : lget l j = gso 3 (inl_ O)) (hO : O.length ≤ 1000000000) :
    lappend tab 22 22 (gsv 1 (nm s.nx j) O.length) (.rs 1 (nm s.nx k) 0 1) (loc s n l) = some (.rs 1 (nm s.nx n) 0 (O.length + 1), loc s (n + 1) (lput (ldel l j) n (.cells (inl_ (O ++ [z])) (some 3)))) := by
  rw [inl_snoc]
  exact app22 (acellsOf_rs hk rfl rfl) (by decide) rfl hj (by rw [inl_length]; omega) (by omega) rfl
theorem rn_at (RS : List Rn) {j : Nat} {r : Rn} (h : RS[j]? = some r) : aindexAddr tab 108 (rnv RS) (.int .i64 j) = some (.rptr [.int .i64 r.at_, .int .i64 r.long, .str r.text]) :=
  ix108f (v := r.enc) (by omega) (by rw [List.getElem?_map, Int.toNat_natCast, h]; rfl) rfl
theorem gso_int {O : List Int} {z : Int} : gso 3 (inl_ (O ++ [z])) = some (.cells (inl_ (O ++ [z])) (some 3)) := gso_pos (by simp [inl_])
theorem flow_at (L : List (Int × UInt8)) {j : Nat} {p : Int × UInt8} (h : L[j]? = some p) : aindexAddr tab 116 (fsv 2 (ltv L)) (.int .i64 j) = some (.rptr [.int .i64 p.1, .int .u8 p.2.toNat]) :=
  ix116f (v := .agg [.int .i64 p.1, .int .u8 p.2.toNat]) (by omega) (by rw [ltv, List.getElem?_map, Int.toNat_natCast, h]; rfl) rfl
end Go.S1N
end
section
set_option linter.unusedVariables false
set_option linter.unusedSimpArgs false
namespace Go.S1N
open Go Go.Am Go.Proofs Go.S1
set_option maxRecDepth 100000
set_option linter.unusedSimpArgs false
theorem lfunG_eqc' {P : Program} {s0 s : AHeap} {N : List AV → AHeap → Prop} {f : Operand} {args : List Operand} {d : Option Nat} {tm : List AV} {g : FuncId} {av fi ca av' : List AV} {R : AV → AHeap → Prop} (he : fi ++ av ++ ca = av') (h : ACall P g av' s R) (k : ∀ v t, R v t → N (aput tm d v) t) :
    lfunG P s0 N f args d tm s (.func (.func g) fi ca) av := by
  intro hf ha
  refine .now ?_
  rw [← hf, ← ha]
  show lcall P N g (fi ++ av ++ ca) s d tm
  rw [he]
  exact lcall_of h k
theorem lexit_now {s0 s : AHeap} {R : AV → AHeap → Prop} {v : AV} (h : R v s) : lexit s0 R (some v) s := Gh.now ⟨v, rfl, h⟩
attribute [local irreducible] lopsB lvb lstepB lfunG lcondB lguardB ldrawB ldrunB ldstepB ldguardB lmem lval ldmem ldval ldfun lexit ldloadB ldlenB lpostB athen ablock
theorem loc_loc {s : AHeap} {n : Nat} {l : List (Nat × Option AObj)} (h : ∀ j, n ≤ j → lget l j = none) : loc (loc s n l) 0 [] = loc s n l := by
  unfold loc
  congr 1
  funext b
  have e : ∀ b, AHeap.get (⟨s.nx + n, true, .nil, fun b => if b < s.nx then s.get b else lget l (b - s.nx)⟩ : AHeap) b = if b < s.nx then s.get b else lget l (b - s.nx) := fun b => rfl
  by_cases hb : b < s.nx + n
  · rw [if_pos hb, e]
  · rw [if_neg hb, if_neg (by omega), h _ (by omega)]; rfl
theorem cv113 {ev : Operand → AV} {x : Operand} {b : Nat} {s : AHeap} {c : UInt8} (hx : ev x = .rs 1 b 0 1) (hg : s.get b = some (.cells [.int .u8 c.toNat] (some 5))) : lop tab ev (.convert 113 9 x) s = some (.str [c], s) := by
  simp [lop, aop, apure, aconv, amem, ty113, ty9, ty5, hx, acellsOf, hg, AObj.cells?, abytes]
def pushE (a : Int) (w : List UInt8) (to : Int) : List Ed := if a < to ∨ w ≠ [] then [⟨a, to - a, w⟩] else []
def edGo (n : Int) : Int → List UInt8 → List (Int × UInt8) → List Ed
  | a, w, [] => pushE a w n
  | a, w, p :: r => if p.1 < 0 then edGo n a (w ++ [p.2]) r else pushE a w p.1 ++ edGo n (p.1 + 1) [] r
theorem push5 {s : AHeap} {o0 : Option AObj} {a to : Int} {w : List UInt8} {L : List Ed} (ha : -1 ≤ a) (ha2 : a ≤ 1000000000000) (ht : -1 ≤ to) (ht2 : to ≤ 1000000000000) (hL : L.length ≤ 1000000000) :
    ACall Try.prog 121 [.int .i64 to, .ptr (nm s.nx 2) 0, .ptr (nm s.nx 3) 0, .ptr (nm s.nx 1) 0]
      (loc s 5 [(0, o0), (1, some (.cells [gsv 3 (nm s.nx 4) L.length] (some 27))), (2, some (.cells [.int .i64 a] (some 3))), (3, some (.cells [.str w] (some 9))), (4, gso 35 (edc L))])
      fun v t => v = .tuple [] ∧ ((pushE a w to = [] ∧ t = loc s 5 [(0, o0), (1, some (.cells [gsv 3 (nm s.nx 4) L.length] (some 27))), (2, some (.cells [.int .i64 a] (some 3))), (3, some (.cells [.str []] (some 9))), (4, gso 35 (edc L))]) ∨
        ∃ e, pushE a w to = [e] ∧ t = loc s 7 [(0, o0), (1, some (.cells [gsv 3 (nm s.nx 6) (L ++ [e]).length] (some 27))), (2, some (.cells [.int .i64 a] (some 3))), (3, some (.cells [.str []] (some 9))), (5, some (.cells [.int .i64 a, .int .i64 (to - a), .str w] (some 35))), (6, gso 35 (edc (L ++ [e])))]) := by
  refine gob121 (by simp) ?_
  intro tm hlen harg
  rw [loc_loc (by intro j hj; simp only [lget]; rw [if_neg (by omega), if_neg (by omega), if_neg (by omega), if_neg (by omega), if_neg (by omega)])]
  simp +contextual only [go_sem, L121, hlen, harg, lcondB_decide, lcondB_not, lguardB_decide_true, lguardB_decide_false, ldguardB_decide, Nat.reduceLT, Nat.reduceEqDiff, Nat.reduceAdd, Nat.reduceLeDiff, reduceIte, reduceCtorEq]
  have hw : IntKind.i64.wrap (to - a) = to - a := wrap_id (by omega)
  have fin : ∀ e : Ed, e = ⟨a, to - a, w⟩ → pushE a w to = [e] →
      pushE a w to = [e] ∧ loc s 7 [(0, o0), (1, some (AObj.cells [AV.rs 3 (nm s.nx 6) 0 (L.length + 1)] (some 27))), (2, some (AObj.cells [AV.int IntKind.i64 a] (some 3))), (3, some (AObj.cells [AV.str []] (some 9))), (5, some (.cells [.int .i64 a, .int .i64 (to - a), .str w] (some 35))), (6, some (.cells (edc L ++ [.int .i64 a, .int .i64 (to - a), .str w]) (some 35)))] =
        loc s 7 [(0, o0), (1, some (.cells [gsv 3 (nm s.nx 6) (L ++ [e]).length] (some 27))), (2, some (.cells [.int .i64 a] (some 3))), (3, some (.cells [.str []] (some 9))), (5, some (.cells [.int .i64 a, .int .i64 (to - a), .str w] (some 35))), (6, gso 35 (edc (L ++ [e])))] := by
    rintro e rfl h
    refine ⟨h, ?_⟩
    rw [gso_ed, List.length_append, List.length_singleton, gsv_pos (Nat.succ_ne_zero _), edc_snoc]
  refine ⟨fun c => ?_, fun c => ⟨fun c2 => ?_, fun c2 => ?_⟩⟩
  · refine lmem_eq (app27 (acellsOf_rs (by simp only [go_sem, lcondB_decide, lcondB_not, lguardB_decide_true, lguardB_decide_false, ldguardB_decide, Nat.reduceLT, Nat.reduceEqDiff, Nat.reduceAdd, Nat.reduceLeDiff, reduceIte, reduceCtorEq]; rfl) (by rfl) rfl) (by decide) (by simp only [go_sem, lcondB_decide, lcondB_not, lguardB_decide_true, lguardB_decide_false, ldguardB_decide, Nat.reduceLT, Nat.reduceEqDiff, Nat.reduceAdd, Nat.reduceLeDiff, reduceIte, reduceCtorEq]) (by simp only [go_sem, lcondB_decide, lcondB_not, lguardB_decide_true, lguardB_decide_false, ldguardB_decide, Nat.reduceLT, Nat.reduceEqDiff, Nat.reduceAdd, Nat.reduceLeDiff, reduceIte, reduceCtorEq]) (edc_len L) (by omega) rfl) ?_
    simp +contextual only [go_sem, hlen, harg, hw, lcondB_decide, lcondB_not, lguardB_decide_true, lguardB_decide_false, ldguardB_decide, Nat.reduceLT, Nat.reduceEqDiff, Nat.reduceAdd, Nat.reduceLeDiff, reduceIte, reduceCtorEq]
    exact lexit_now ⟨rfl, .inr ⟨_, fin _ rfl (if_pos (.inl c))⟩⟩
  · refine lmem_eq (app27 (acellsOf_rs (by simp only [go_sem, lcondB_decide, lcondB_not, lguardB_decide_true, lguardB_decide_false, ldguardB_decide, Nat.reduceLT, Nat.reduceEqDiff, Nat.reduceAdd, Nat.reduceLeDiff, reduceIte, reduceCtorEq]; rfl) (by rfl) rfl) (by decide) (by simp only [go_sem, lcondB_decide, lcondB_not, lguardB_decide_true, lguardB_decide_false, ldguardB_decide, Nat.reduceLT, Nat.reduceEqDiff, Nat.reduceAdd, Nat.reduceLeDiff, reduceIte, reduceCtorEq]) (by simp only [go_sem, lcondB_decide, lcondB_not, lguardB_decide_true, lguardB_decide_false, ldguardB_decide, Nat.reduceLT, Nat.reduceEqDiff, Nat.reduceAdd, Nat.reduceLeDiff, reduceIte, reduceCtorEq]) (edc_len L) (by omega) rfl) ?_
    simp +contextual only [go_sem, hlen, harg, hw, lcondB_decide, lcondB_not, lguardB_decide_true, lguardB_decide_false, ldguardB_decide, Nat.reduceLT, Nat.reduceEqDiff, Nat.reduceAdd, Nat.reduceLeDiff, reduceIte, reduceCtorEq]
    exact lexit_now ⟨rfl, .inr ⟨_, fin _ rfl (if_pos (.inr c2))⟩⟩
  · subst c2
    exact lexit_now ⟨rfl, .inl ⟨if_neg (by rintro (h | h); exact c h; exact h rfl), rfl⟩⟩
theorem push6 {s : AHeap} {o0 o5 : Option AObj} {a to : Int} {w : List UInt8} {L : List Ed} (ha : -1 ≤ a) (ha2 : a ≤ 1000000000000) (ht : -1 ≤ to) (ht2 : to ≤ 1000000000000) (hL : L.length ≤ 1000000000) :
    ACall Try.prog 121 [.int .i64 to, .ptr (nm s.nx 2) 0, .ptr (nm s.nx 3) 0, .ptr (nm s.nx 1) 0]
      (loc s 6 [(0, o0), (1, some (.cells [gsv 3 (nm s.nx 4) L.length] (some 27))), (2, some (.cells [.int .i64 a] (some 3))), (3, some (.cells [.str w] (some 9))), (4, gso 35 (edc L)), (5, o5)])
      fun v t => v = .tuple [] ∧ ((pushE a w to = [] ∧ t = loc s 6 [(0, o0), (1, some (.cells [gsv 3 (nm s.nx 4) L.length] (some 27))), (2, some (.cells [.int .i64 a] (some 3))), (3, some (.cells [.str []] (some 9))), (4, gso 35 (edc L)), (5, o5)]) ∨
        ∃ e, pushE a w to = [e] ∧ t = loc s 8 [(0, o0), (1, some (.cells [gsv 3 (nm s.nx 7) (L ++ [e]).length] (some 27))), (2, some (.cells [.int .i64 a] (some 3))), (3, some (.cells [.str []] (some 9))), (5, o5), (6, some (.cells [.int .i64 a, .int .i64 (to - a), .str w] (some 35))), (7, gso 35 (edc (L ++ [e])))]) := by
  refine gob121 (by simp) ?_
  intro tm hlen harg
  rw [loc_loc (by intro j hj; simp only [lget]; rw [if_neg (by omega), if_neg (by omega), if_neg (by omega), if_neg (by omega), if_neg (by omega), if_neg (by omega)])]
  simp +contextual only [go_sem, L121, hlen, harg, lcondB_decide, lcondB_not, lguardB_decide_true, lguardB_decide_false, ldguardB_decide, Nat.reduceLT, Nat.reduceEqDiff, Nat.reduceAdd, Nat.reduceLeDiff, reduceIte, reduceCtorEq]
  have hw : IntKind.i64.wrap (to - a) = to - a := wrap_id (by omega)
  have fin : ∀ e : Ed, e = ⟨a, to - a, w⟩ → pushE a w to = [e] →
      pushE a w to = [e] ∧ loc s 8 [(0, o0), (1, some (AObj.cells [AV.rs 3 (nm s.nx 7) 0 (L.length + 1)] (some 27))), (2, some (AObj.cells [AV.int IntKind.i64 a] (some 3))), (3, some (AObj.cells [AV.str []] (some 9))), (5, o5), (6, some (.cells [.int .i64 a, .int .i64 (to - a), .str w] (some 35))), (7, some (.cells (edc L ++ [.int .i64 a, .int .i64 (to - a), .str w]) (some 35)))] =
        loc s 8 [(0, o0), (1, some (.cells [gsv 3 (nm s.nx 7) (L ++ [e]).length] (some 27))), (2, some (.cells [.int .i64 a] (some 3))), (3, some (.cells [.str []] (some 9))), (5, o5), (6, some (.cells [.int .i64 a, .int .i64 (to - a), .str w] (some 35))), (7, gso 35 (edc (L ++ [e])))] := by
    rintro e rfl h
    refine ⟨h, ?_⟩
    rw [gso_ed, List.length_append, List.length_singleton, gsv_pos (Nat.succ_ne_zero _), edc_snoc]
  refine ⟨fun c => ?_, fun c => ⟨fun c2 => ?_, fun c2 => ?_⟩⟩
  · refine lmem_eq (app27 (acellsOf_rs (by simp only [go_sem, lcondB_decide, lcondB_not, lguardB_decide_true, lguardB_decide_false, ldguardB_decide, Nat.reduceLT, Nat.reduceEqDiff, Nat.reduceAdd, Nat.reduceLeDiff, reduceIte, reduceCtorEq]; rfl) (by rfl) rfl) (by decide) (by simp only [go_sem, lcondB_decide, lcondB_not, lguardB_decide_true, lguardB_decide_false, ldguardB_decide, Nat.reduceLT, Nat.reduceEqDiff, Nat.reduceAdd, Nat.reduceLeDiff, reduceIte, reduceCtorEq]) (by simp only [go_sem, lcondB_decide, lcondB_not, lguardB_decide_true, lguardB_decide_false, ldguardB_decide, Nat.reduceLT, Nat.reduceEqDiff, Nat.reduceAdd, Nat.reduceLeDiff, reduceIte, reduceCtorEq]) (edc_len L) (by omega) rfl) ?_
    simp +contextual only [go_sem, hlen, harg, hw, lcondB_decide, lcondB_not, lguardB_decide_true, lguardB_decide_false, ldguardB_decide, Nat.reduceLT, Nat.reduceEqDiff, Nat.reduceAdd, Nat.reduceLeDiff, reduceIte, reduceCtorEq]
    exact lexit_now ⟨rfl, .inr ⟨_, fin _ rfl (if_pos (.inl c))⟩⟩
  · refine lmem_eq (app27 (acellsOf_rs (by simp only [go_sem, lcondB_decide, lcondB_not, lguardB_decide_true, lguardB_decide_false, ldguardB_decide, Nat.reduceLT, Nat.reduceEqDiff, Nat.reduceAdd, Nat.reduceLeDiff, reduceIte, reduceCtorEq]; rfl) (by rfl) rfl) (by decide) (by simp only [go_sem, lcondB_decide, lcondB_not, lguardB_decide_true, lguardB_decide_false, ldguardB_decide, Nat.reduceLT, Nat.reduceEqDiff, Nat.reduceAdd, Nat.reduceLeDiff, reduceIte, reduceCtorEq]) (by simp only [go_sem, lcondB_decide, lcondB_not, lguardB_decide_true, lguardB_decide_false, ldguardB_decide, Nat.reduceLT, Nat.reduceEqDiff, Nat.reduceAdd, Nat.reduceLeDiff, reduceIte, reduceCtorEq]) (edc_len L) (by omega) rfl) ?_
    simp +contextual only [go_sem, hlen, harg, hw, lcondB_decide, lcondB_not, lguardB_decide_true, lguardB_decide_false, ldguardB_decide, Nat.reduceLT, Nat.reduceEqDiff, Nat.reduceAdd, Nat.reduceLeDiff, reduceIte, reduceCtorEq]
    exact lexit_now ⟨rfl, .inr ⟨_, fin _ rfl (if_pos (.inr c2))⟩⟩
  · subst c2
    exact lexit_now ⟨rfl, .inl ⟨if_neg (by rintro (h | h); exact c h; exact h rfl), rfl⟩⟩
theorem flow_len' (F : List (Int × UInt8)) : alen tab 116 (fsv 2 (ltv F)) = some (.int .i64 F.length) := by rw [len116f, ltv, List.length_map]
theorem edits_ok (n : Int) (F : List (Int × UInt8)) (hn : 0 ≤ n ∧ n ≤ 1000000000000) (hF : ∀ p ∈ F, -1 ≤ p.1 ∧ p.1 < 1000000000) (hFl : F.length ≤ 1000000000) (s : AHeap) :
    ACall Try.prog 79 [flv n F] s fun r t => r = edv (edGo n 0 [] F) ∧ t = s := by
  refine gob79 (by simp) ?_
  intro tm hlen harg
  have hpu : Pu (fsv 2 (ltv F)) := pu_fsv (ltv_pu F)
  simp +contextual only [go_sem, L79, hlen, harg, flv, flow_len', lcondB_decide, lcondB_not, lguardB_decide_true, lguardB_decide_false, ldguardB_decide, Nat.reduceLT, Nat.reduceEqDiff, Nat.reduceAdd, Nat.reduceLeDiff, reduceIte, reduceCtorEq]
  refine ⟨Nat × Int × List UInt8 × List Ed, fun a => [(1, .ptr (nm s.nx 0) 0), (3, .ptr (nm s.nx 1) 0), (4, .ptr (nm s.nx 2) 0), (5, .ptr (nm s.nx 3) 0), (6, .func (.func 121) [] [.ptr (nm s.nx 2) 0, .ptr (nm s.nx 3) 0, .ptr (nm s.nx 1) 0]), (11, fsv 2 (ltv F)), (12, .int .i64 F.length), (13, .int .i64 a.1)],
    fun a => loc s 5 [(0, some (.cells [.int .i64 n, fsv 2 (ltv F)] (some 118))), (1, some (.cells [gsv 3 (nm s.nx 4) a.2.2.2.length] (some 27))), (2, some (.cells [.int .i64 a.2.1] (some 3))), (3, some (.cells [.str a.2.2.1] (some 9))), (4, gso 35 (edc a.2.2.2))],
    fun a => a.1 ≤ F.length ∧ a.2.2.2.length ≤ a.1 ∧ a.2.2.1.length ≤ a.1 ∧ 0 ≤ a.2.1 ∧ a.2.1 ≤ 1000000000 ∧ a.2.2.2 ++ edGo n a.2.1 a.2.2.1 (F.drop a.1) = edGo n 0 [] F, fun a => F.length - a.1, (0, 0, [], []), ⟨by simp, by simp, by simp, by simp, by simp, by simp⟩, ?_, ?_⟩
  · refine To.go [0, 1, 2, 3, 9] [(0, some (.cells [.int .i64 n, fsv 2 (ltv F)] (some 118))), (1, some (.cells [.nils] (some 27))), (2, some (.cells [.int .i64 0] (some 3))), (3, some (.cells [.str []] (some 9))), (4, none)] (by simp only [edc, List.map_nil, List.flatMap_nil, gso_nil, List.length_nil, gsv_zero]; rfl) (.refl s) (by decide) (by simp) ?_ ?_
    · simp +contextual only [go_sem, hlen, harg, pu_ren hpu, gsv_zero, lcondB_decide, lcondB_not, lguardB_decide_true, lguardB_decide_false, ldguardB_decide, Nat.reduceLT, Nat.reduceEqDiff, Nat.reduceAdd, Nat.reduceLeDiff, reduceIte, reduceCtorEq]
      rfl
    · simp only [go_sem, pu_ren hpu, lcondB_decide, lcondB_not, lguardB_decide_true, lguardB_decide_false, ldguardB_decide, Nat.reduceLT, Nat.reduceEqDiff, Nat.reduceAdd, Nat.reduceLeDiff, reduceIte, reduceCtorEq]
  · rintro ⟨j, a, w, L⟩ tm1 ⟨hj, hL, hw, ha0, ha1, hE⟩ hlen1 hlv
    simp only [go_sem, hlen, lcondB_decide, lcondB_not, lguardB_decide_true, lguardB_decide_false, ldguardB_decide, Nat.reduceLT, Nat.reduceEqDiff, Nat.reduceAdd, Nat.reduceLeDiff, reduceIte, reduceCtorEq] at hlen1 hlv hj hL hw ha0 ha1 hE
    simp +contextual only [go_sem, hlen, hlen1, hlv, lcondB_decide, lcondB_not, lguardB_decide_true, lguardB_decide_false, ldguardB_decide, Nat.reduceLT, Nat.reduceEqDiff, Nat.reduceAdd, Nat.reduceLeDiff, reduceIte, reduceCtorEq]
    refine ⟨fun hlt => ?_, fun hge => ?_⟩
    · have hj2 : j < F.length := by omega
      have he := List.getElem?_eq_getElem hj2
      have hmem : F[j] ∈ F := List.getElem_mem hj2
      have hdrop := List.drop_eq_getElem_cons hj2
      generalize F[j] = p at he hmem hdrop
      have hp := hF p hmem
      rw [hdrop] at hE
      have hw3 : IntKind.i64.wrap ((j : Int) + 1) = ((j + 1 : Nat) : Int) := by rw [wrap_id (by omega)]; rfl
      have hw4 : IntKind.i64.wrap (p.1 + 1) = p.1 + 1 := wrap_id (by omega)
      have hadd := abin_sadd (t := 9) (a := w) (b := [p.2]) (by simp; omega)
      simp +contextual only [go_sem, hlen1, hlv, flow_at F he, lcondB_decide, lcondB_not, lguardB_decide_true, lguardB_decide_false, ldguardB_decide, Nat.reduceLT, Nat.reduceEqDiff, Nat.reduceAdd, Nat.reduceLeDiff, reduceIte, reduceCtorEq]
      refine ⟨fun hneg => ?_, fun hpos => ?_⟩
      · rw [lstepB_convert]
        refine lmem_eq (cv113 (c := p.2) (by simp only [go_sem, hlen1, lcondB_decide, lcondB_not, lguardB_decide_true, lguardB_decide_false, ldguardB_decide, Nat.reduceLT, Nat.reduceEqDiff, Nat.reduceAdd, Nat.reduceLeDiff, reduceIte, reduceCtorEq]; rfl) (by simp only [go_sem, lcondB_decide, lcondB_not, lguardB_decide_true, lguardB_decide_false, ldguardB_decide, Nat.reduceLT, Nat.reduceEqDiff, Nat.reduceAdd, Nat.reduceLeDiff, reduceIte, reduceCtorEq])) ?_
        simp +contextual only [go_sem, hlen1, hlv, hadd, hw3, lcondB_decide, lcondB_not, lguardB_decide_true, lguardB_decide_false, ldguardB_decide, Nat.reduceLT, Nat.reduceEqDiff, Nat.reduceAdd, Nat.reduceLeDiff, reduceIte, reduceCtorEq]
        refine ⟨(j + 1, a, w ++ [p.2], L), ⟨by simp only; omega, by simp only; omega, by simp only [List.length_append, List.length_singleton]; omega, ha0, ha1, ?_⟩, by simp only; omega, ?_⟩
        · rw [← hE, edGo, if_pos hneg]
        · refine To.go [0, 1, 2, 3, 4] _ rfl (.refl s) (by decide) (by simp) ?_ ?_
          · simp +contextual only [go_sem, hlen1, hlv, pu_ren hpu, lcondB_decide, lcondB_not, lguardB_decide_true, lguardB_decide_false, ldguardB_decide, Nat.reduceLT, Nat.reduceEqDiff, Nat.reduceAdd, Nat.reduceLeDiff, reduceIte, reduceCtorEq]
          · simp only [go_sem, pu_ren hpu, map_gso_pu (edc_pul _), lcondB_decide, lcondB_not, lguardB_decide_true, lguardB_decide_false, ldguardB_decide, Nat.reduceLT, Nat.reduceEqDiff, Nat.reduceAdd, Nat.reduceLeDiff, reduceIte, reduceCtorEq]
      · refine lfunG_eqc' rfl (push6 (by omega) (by omega) (by omega) (by omega) (by omega)) ?_
        rintro _ t ⟨rfl, h | ⟨e, h⟩⟩
        · obtain ⟨hpe, rfl⟩ := h
          simp +contextual only [go_sem, hlen1, hlv, hw3, hw4, lcondB_decide, lcondB_not, lguardB_decide_true, lguardB_decide_false, ldguardB_decide, Nat.reduceLT, Nat.reduceEqDiff, Nat.reduceAdd, Nat.reduceLeDiff, reduceIte, reduceCtorEq]
          refine ⟨(j + 1, p.1 + 1, [], L), ⟨by simp only; omega, by simp only; omega, by simp, by simp only; omega, by simp only; omega, ?_⟩, by simp only; omega, ?_⟩
          · rw [← hE, edGo, if_neg hpos, hpe, List.nil_append]
          · refine To.go [0, 1, 2, 3, 4] _ rfl (.refl s) (by decide) (by simp) ?_ ?_
            · simp +contextual only [go_sem, hlen1, hlv, pu_ren hpu, lcondB_decide, lcondB_not, lguardB_decide_true, lguardB_decide_false, ldguardB_decide, Nat.reduceLT, Nat.reduceEqDiff, Nat.reduceAdd, Nat.reduceLeDiff, reduceIte, reduceCtorEq]
            · simp only [go_sem, pu_ren hpu, map_gso_pu (edc_pul _), lcondB_decide, lcondB_not, lguardB_decide_true, lguardB_decide_false, ldguardB_decide, Nat.reduceLT, Nat.reduceEqDiff, Nat.reduceAdd, Nat.reduceLeDiff, reduceIte, reduceCtorEq]
        · obtain ⟨hpe, rfl⟩ := h
          simp +contextual only [go_sem, hlen1, hlv, hw3, hw4, lcondB_decide, lcondB_not, lguardB_decide_true, lguardB_decide_false, ldguardB_decide, Nat.reduceLT, Nat.reduceEqDiff, Nat.reduceAdd, Nat.reduceLeDiff, reduceIte, reduceCtorEq]
          refine ⟨(j + 1, p.1 + 1, [], L ++ [e]), ⟨by simp only; omega, by simp only [List.length_append, List.length_singleton]; omega, by simp, by simp only; omega, by simp only; omega, ?_⟩, by simp only; omega, ?_⟩
          · rw [← hE, edGo, if_neg hpos, hpe, List.append_assoc]
          · refine To.go [0, 1, 2, 3, 7] _ rfl (.refl s) (by decide) (by simp) ?_ ?_
            · simp +contextual only [go_sem, hlen1, hlv, pu_ren hpu, lcondB_decide, lcondB_not, lguardB_decide_true, lguardB_decide_false, ldguardB_decide, Nat.reduceLT, Nat.reduceEqDiff, Nat.reduceAdd, Nat.reduceLeDiff, reduceIte, reduceCtorEq]
            · simp only [go_sem, pu_ren hpu, map_gso_pu (edc_pul _), lcondB_decide, lcondB_not, lguardB_decide_true, lguardB_decide_false, ldguardB_decide, Nat.reduceLT, Nat.reduceEqDiff, Nat.reduceAdd, Nat.reduceLeDiff, reduceIte, reduceCtorEq]
    · have hj2 : j = F.length := by omega
      rw [hj2, List.drop_length, edGo] at hE
      refine lfunG_eqc' rfl (push5 (by omega) (by omega) (by omega) (by omega) (by omega)) ?_
      rintro _ t ⟨rfl, h | ⟨e, h⟩⟩
      · obtain ⟨hpe, rfl⟩ := h
        rw [hpe, List.append_nil] at hE
        simp +contextual only [go_sem, hlen1, hlv, lcondB_decide, lcondB_not, lguardB_decide_true, lguardB_decide_false, ldguardB_decide, Nat.reduceLT, Nat.reduceEqDiff, Nat.reduceAdd, Nat.reduceLeDiff, reduceIte, reduceCtorEq]
        refine lexit_freezeG 4 3 (L.map Ed.enc) (by simp only [go_sem, lcondB_decide, lcondB_not, lguardB_decide_true, lguardB_decide_false, ldguardB_decide, Nat.reduceLT, Nat.reduceEqDiff, Nat.reduceAdd, Nat.reduceLeDiff, reduceIte, reduceCtorEq]; rfl) (enc_len L) (by decide) ?_
        simp only [go_sem, len_fz, hE, lcondB_decide, lcondB_not, lguardB_decide_true, lguardB_decide_false, ldguardB_decide, Nat.reduceLT, Nat.reduceEqDiff, Nat.reduceAdd, Nat.reduceLeDiff, reduceIte, reduceCtorEq]
        exact lexit_pure (.refl s) (low.mono (Nat.zero_le _) (edv_pu _)) ⟨rfl, rfl⟩
      · obtain ⟨hpe, rfl⟩ := h
        rw [hpe] at hE
        simp +contextual only [go_sem, hlen1, hlv, lcondB_decide, lcondB_not, lguardB_decide_true, lguardB_decide_false, ldguardB_decide, Nat.reduceLT, Nat.reduceEqDiff, Nat.reduceAdd, Nat.reduceLeDiff, reduceIte, reduceCtorEq]
        refine lexit_freezeG 6 3 ((L ++ [e]).map Ed.enc) (by simp only [go_sem, lcondB_decide, lcondB_not, lguardB_decide_true, lguardB_decide_false, ldguardB_decide, Nat.reduceLT, Nat.reduceEqDiff, Nat.reduceAdd, Nat.reduceLeDiff, reduceIte, reduceCtorEq]; rfl) (enc_len _) (by decide) ?_
        simp only [go_sem, len_fz, hE, lcondB_decide, lcondB_not, lguardB_decide_true, lguardB_decide_false, ldguardB_decide, Nat.reduceLT, Nat.reduceEqDiff, Nat.reduceAdd, Nat.reduceLeDiff, reduceIte, reduceCtorEq]
        exact lexit_pure (.refl s) (low.mono (Nat.zero_le _) (edv_pu _)) ⟨rfl, rfl⟩
end Go.S1N
end
section
set_option linter.unusedVariables false
set_option linter.unusedSimpArgs false
namespace Go.S1N
open Go Go.Am Go.Proofs Go.S1
set_option maxRecDepth 100000
set_option linter.unusedSimpArgs false
attribute [local irreducible] lopsB lvb lstepB lfunG lcondB lguardB ldrawB ldrunB ldstepB ldguardB lmem lval ldmem ldval ldfun lexit ldloadB ldlenB lpostB athen ablock
theorem letters_pul (L : List (Int × UInt8)) : PuL (letters L) := by
  rw [← ltv_letters]
  have := ltv_pu L
  simp only [PuL, lowL_iff] at this ⊢
  intro c hc
  obtain ⟨v, hv, hcv⟩ := List.mem_flatMap.1 hc
  obtain ⟨p, _, rfl⟩ := List.mem_map.1 hv
  simp only [AV.cells, List.mem_cons, List.not_mem_nil, or_false] at hcv
  rcases hcv with rfl | rfl <;> simp only [low]
theorem letters_snoc (L : List (Int × UInt8)) (a : Int) (c : UInt8) : letters (L ++ [(a, c)]) = letters L ++ [.int .i64 a, .int .u8 c.toNat] := by rw [letters_append]; rfl
theorem gso_let {O : List (Int × UInt8)} {z : Int × UInt8} : gso 121 (letters (O ++ [z])) = some (.cells (letters (O ++ [z])) (some 121)) := gso_pos (by simp [letters])
end Go.S1N
end
section
set_option linter.unusedVariables false
set_option linter.unusedSimpArgs false
namespace Go.S1N
open Go Go.Am Go.Proofs Go.S1
set_option maxRecDepth 100000
set_option linter.unusedSimpArgs false
attribute [local irreducible] lopsB lvb lstepB lfunG lcondB lguardB ldrawB ldrunB ldstepB ldguardB lmem lval ldmem ldval ldfun lexit ldloadB ldlenB lpostB athen ablock
theorem eq_of_take {α : Type} {a b : List α} {i : Nat} (h : a.take i = b.take i) (hi : i = a.length) (hl : a.length = b.length) : a = b := by
  subst hi
  rw [List.take_length, hl, List.take_length] at h
  exact h
theorem take_snoc {α : Type} {a b : List α} {i : Nat} {x : α} (h : a.take i = b.take i) (ha : a[i]? = some x) (hb : b[i]? = some x) : a.take (i + 1) = b.take (i + 1) := by
  rw [List.take_add_one, List.take_add_one, h, ha, hb]
theorem ints_at' {v : AV} {l : List Int} (h : IsInts v l) {i : Nat} {x : Int} (he : l[i]? = some x) : aindexAddr tab 22 v (.int .i64 i) = some (.rptr [.int .i64 x]) :=
  h.at (n := i) (by omega) (by simpa using he)
theorem Ed.ext' {a b : Ed} (h1 : a.at_ = b.at_) (h2 : a.cut = b.cut) (h3 : a.new = b.new) : a = b := by cases a; cases b; simp_all
theorem beqd {α : Type} [BEq α] [LawfulBEq α] [DecidableEq α] {a b : α} : (a == b) = decide (a = b) := by
  by_cases h : a = b <;> simp [h]
theorem neq35 {a b a' b' : Int} {c c' : List UInt8} : abin tab .neq 35 (.agg [.int .i64 a, .int .i64 b, .str c]) (.agg [.int .i64 a', .int .i64 b', .str c']) = some (.bool (decide (¬ (a = a' ∧ b = b' ∧ c = c')))) := by
  simp [abin, abin1, aeq, ty35, ty3, ty9, aeqFields, apart, TD.isAgg, beqd]
  by_cases h1 : a = a' <;> by_cases h2 : b = b' <;> by_cases h3 : c = c' <;> simp [h1, h2, h3]
theorem equalEds_ok {v w : AV} {a b : List Ed} (hv : SlE v a) (hw : SlE w b) (ha : a.length < 4611686018427387904) (s : AHeap) [Decidable (a = b)] :
    ACall Try.prog 33 [v, w] s fun r t => r = .bool (decide (a = b)) ∧ t = s := by
  refine gob33 (by simp) ?_
  intro tm hlen harg
  simp +contextual only [go_sem, L33, hlen, harg, hv.len, hw.len, lcondB_decide, lcondB_not, lguardB_decide_true, lguardB_decide_false, ldguardB_decide, Nat.reduceLT, Nat.reduceEqDiff, Nat.reduceAdd, Nat.reduceLeDiff, reduceIte, reduceCtorEq]
  refine ⟨fun c => ?_, fun c => ?_⟩
  · refine lexit_pure (.refl s) (by simp only [low]) ⟨?_, rfl⟩
    have : a ≠ b := by rintro rfl; exact c rfl
    simp [this]
  · have hl : a.length = b.length := by omega
    refine ⟨Nat, fun i => [(0, v), (1, w), (12, .int .i64 a.length), (13, .int .i64 i)], fun i => loc s 0 [], fun i => i ≤ a.length ∧ a.take i = b.take i, fun i => a.length - i, 0, by simp, ?_, ?_⟩
    · refine To.go [] [] rfl (.refl s) (by decide) (by simp) ?_ trivial
      simp +contextual only [go_sem, hlen, harg, pu_ren hv.pu, pu_ren hw.pu, lcondB_decide, lcondB_not, lguardB_decide_true, lguardB_decide_false, ldguardB_decide, Nat.reduceLT, Nat.reduceEqDiff, Nat.reduceAdd, Nat.reduceLeDiff, reduceIte, reduceCtorEq]
      simp [hl]
    · rintro i tm1 ⟨hi, ht⟩ hlen1 hlv
      simp only [go_sem, hlen, lcondB_decide, lcondB_not, lguardB_decide_true, lguardB_decide_false, ldguardB_decide, Nat.reduceLT, Nat.reduceEqDiff, Nat.reduceAdd, Nat.reduceLeDiff, reduceIte, reduceCtorEq] at hlen1 hlv
      simp +contextual only [go_sem, hlen, hlen1, hlv, lcondB_decide, lcondB_not, lguardB_decide_true, lguardB_decide_false, ldguardB_decide, Nat.reduceLT, Nat.reduceEqDiff, Nat.reduceAdd, Nat.reduceLeDiff, reduceIte, reduceCtorEq]
      refine ⟨fun hlt => ?_, fun hge => ?_⟩
      · have hea := List.getElem?_eq_getElem (show i < a.length by omega)
        have heb := List.getElem?_eq_getElem (show i < b.length by omega)
        generalize a[i] = x at hea
        generalize b[i] = y at heb
        have hw1 : IntKind.i64.wrap ((i : Int) + 1) = ((i + 1 : Nat) : Int) := by rw [wrap_id (by omega)]; rfl
        refine ldrawB_go [] [] 8 (by decide) ?_
        simp only [go_sem, hlen1, hlv, hv.at hea, hw.at heb, neq35, hw1, lcondB_decide, Nat.reduceLT, Nat.reduceEqDiff, Nat.reduceAdd, Nat.reduceLeDiff, reduceIte, reduceCtorEq]
        refine ⟨by kernel_rfl, fun hne => ?_, fun he => ?_⟩
        · refine lexit_pure (.refl s) (by simp only [low]) ⟨?_, rfl⟩
          have : a ≠ b := by rintro rfl; rw [hea] at heb; cases heb; exact hne ⟨rfl, rfl, rfl⟩
          simp [this]
        · have he : _ ∧ _ ∧ _ := he
          have hxy : y = x := (Ed.ext' he.1 he.2.1 he.2.2).symm
          refine ⟨i + 1, ⟨by omega, take_snoc ht hea (by rw [heb, hxy])⟩, by omega, ?_⟩
          refine To.go [] [] rfl (.refl s) (by decide) (by simp) ?_ trivial
          simp +contextual only [go_sem, hlen1, hlv, pu_ren hv.pu, pu_ren hw.pu, lcondB_decide, lcondB_not, lguardB_decide_true, lguardB_decide_false, ldguardB_decide, Nat.reduceLT, Nat.reduceEqDiff, Nat.reduceAdd, Nat.reduceLeDiff, reduceIte, reduceCtorEq]
      · refine lexit_pure (.refl s) (by simp only [low]) ⟨?_, rfl⟩
        simp [eq_of_take ht (by omega) hl]
end Go.S1N
end
section
set_option linter.unusedVariables false
set_option linter.unusedSimpArgs false
namespace Go.S1N
open Go Go.Am Go.Proofs Go.S1
set_option maxRecDepth 100000
set_option linter.unusedSimpArgs false
attribute [local irreducible] lopsB lvb lstepB lfunG lcondB lguardB ldrawB ldrunB ldstepB ldguardB lmem lval ldmem ldval ldfun lexit ldloadB ldlenB lpostB athen ablock
end Go.S1N
end
section
set_option linter.unusedVariables false
set_option linter.unusedSimpArgs false
namespace Go.S1N
open Go Go.Am Go.Proofs Go.S1
set_option maxRecDepth 100000
set_option linter.unusedSimpArgs false
attribute [local irreducible] lopsB lvb lstepB lfunG lcondB lguardB ldrawB ldrunB ldstepB ldguardB lmem lval ldmem ldval ldfun lexit ldloadB ldlenB lpostB athen ablock
end Go.S1N
end
section
set_option linter.unusedVariables false
set_option linter.unusedSimpArgs false
namespace Go.S1N
open Go Go.Am Go.Proofs Go.S1
set_option maxRecDepth 100000
set_option linter.unusedSimpArgs false
def dl : List Ed → Int
  | [] => 0
  | e :: r => (e.new.length - e.cut) + dl r
theorem long_dl : ∀ (l : List Ed) (m : Int), (∀ e ∈ l, e.new.length ≤ 100000 ∧ 0 ≤ e.cut ∧ e.cut ≤ 100000) → -1000000000000 ≤ m - 100000 * (l.length : Int) → m + 100000 * (l.length : Int) ≤ 1000000000000 → longOf m l = m + dl l
  | [], m, _, _, _ => by simp [longOf, dl]
  | e :: r, m, h, h1, h2 => by
    have he := h e (List.mem_cons_self ..)
    simp only [List.length_cons] at h1 h2
    have hw1 : IntKind.i64.wrap ((e.new.length : Int) - e.cut) = (e.new.length : Int) - e.cut := wrap_id (by omega)
    have hw2 : IntKind.i64.wrap (m + ((e.new.length : Int) - e.cut)) = m + ((e.new.length : Int) - e.cut) := wrap_id (by omega)
    have := long_dl r (m + ((e.new.length : Int) - e.cut)) (fun x hx => h x (List.mem_cons_of_mem _ hx)) (by omega) (by omega)
    rw [longOf, List.foldl_cons, hw1, hw2]
    rw [longOf] at this
    rw [this, dl]
    omega
theorem run_len (a k : Nat) : (runOf a k).length = k := by simp [runOf]
theorem flow_dl (n : Nat) : ∀ (l : List Ed) (a : Nat) (B : Int), (B = a ∨ (B = -1 ∧ a = 0)) → a ≤ n → scan n B l = 0 → ((flowFrom n a l).length : Int) = (n - a) + dl l
  | [], a, B, _, ha, _ => by simp only [flowFrom, run_len, dl]; omega
  | e :: r, a, B, hB, ha, h => by
    obtain ⟨c1, c2, c3, c4, c5, c6⟩ := scan_cons h
    have := flow_dl n r (e.at_ + e.cut).toNat (e.at_ + e.cut) (.inl (by omega)) (by omega) c6
    simp only [flowFrom, List.length_append, run_len, List.length_map, dl]
    omega
def negL (w : List UInt8) : List (Int × UInt8) := w.map fun c => ((-1 : Int), c)
theorem push_same {p : Int} : pushE p [] p = [] := if_neg (by rintro (h | h); omega; exact h rfl)
theorem ed_neg (N : Int) : ∀ (u : List UInt8) (q : Int) (w : List UInt8) (t : List (Int × UInt8)), edGo N q w (negL u ++ t) = edGo N q (w ++ u) t
  | [], q, w, t => by simp [negL]
  | c :: u, q, w, t => by
    have ih := ed_neg N u q (w ++ [c]) t
    simp only [negL, List.map_cons, List.cons_append] at ih ⊢
    rw [edGo, if_pos (by simp only; omega), ih, List.append_assoc]; rfl
theorem runOf_cons (a k : Nat) : runOf a (k + 1) = ((a : Int), 0) :: runOf (a + 1) k := rfl
end Go.S1N
end
section
set_option linter.unusedVariables false
set_option linter.unusedSimpArgs false
namespace Go.S1
open Go Go.Am Go.Proofs
set_option maxRecDepth 100000
noncomputable def L83 : LCode := LCode.seq (LCode.ops [⟨Op.assign (Operand.const (Value.int IntKind.i64 0)), some 2, none⟩]) (LCode.seq (LCode.seq (LCode.ops [⟨Op.move (Operand.tmp 0), some 3, none⟩, ⟨Op.call { callee := Callee.builtin Builtin.len, args := { toList := [Operand.tmp 3] }, argTypes := { toList := [27] } }, some 4, none⟩, ⟨Op.binOp BinOp.gtr 3 (Operand.tmp 4) (Operand.const (Value.int IntKind.i64 2000)) 3, some 5, none⟩]) (LCode.cond (Operand.tmp 5) (LCode.seq (LCode.ops [⟨Op.assign (Operand.const (Value.int IntKind.i64 2)), some 2, none⟩]) LCode.ret) LCode.skip)) (LCode.seq (LCode.ops [⟨Op.assign (Operand.const (Value.int IntKind.i64 0)), some 2, none⟩]) LCode.ret))
theorem l83 : Try.f83.body.map lighten = some L83 := by kernel_rfl
theorem rs83 : Try.f83.results.toList = [ResultVar.tmp 2] := by kernel_rfl
theorem nt83 : Try.f83.ntmps = 6 := by kernel_rfl
theorem gob83 {args : List AV} {s : AHeap} {R : AV → AHeap → Prop} (hl : args.length ≤ 6) (h : ∀ tm, tm.length = 6 → (∀ i, aev tm (.tmp i) = args.getD i aundef) → lvb Try.prog tab s L83 (lpostB tab s [ResultVar.tmp 2] R) tm (loc s 0 [])) : ACall Try.prog 83 args s R := ACall.goB tab_ok mixed Try.func83 l83 nm83 rs83 nt83 hl h
noncomputable def L112 : LCode := LCode.seq (LCode.ops [⟨Op.assign (Operand.const (Value.slice none 0 0)), some 4, none⟩]) (LCode.seq (LCode.ops [⟨Op.alloc 27, some 5, none⟩]) (LCode.seq (LCode.ops [⟨Op.alloc 3, some 6, none⟩, ⟨Op.alloc 9, some 7, none⟩, ⟨Op.store 3 (Operand.tmp 6) (Operand.const (Value.int IntKind.i64 0)), none, none⟩, ⟨Op.store 9 (Operand.tmp 7) (Operand.const (Value.string { data := { toList := [] } })), none, none⟩]) (LCode.seq (LCode.ops [⟨Op.makeFunc (Fn.func 144) { toList := [] } { toList := [Operand.tmp 6, Operand.tmp 7, Operand.tmp 5] }, some 11, none⟩, ⟨Op.assign (Operand.tmp 11), some 8, none⟩]) (LCode.seq (LCode.seq (LCode.ops [⟨Op.move (Operand.tmp 1), some 12, none⟩, ⟨Op.call { callee := Callee.builtin Builtin.len, args := { toList := [Operand.tmp 12] }, argTypes := { toList := [108] } }, some 13, none⟩, ⟨Op.move (Operand.const (Value.int IntKind.i64 0)), some 14, none⟩]) (LCode.block 0 (LCode.loop (LCode.seq (LCode.ops [⟨Op.binOp BinOp.lss 3 (Operand.tmp 14) (Operand.tmp 13) 3, some 15, none⟩]) (LCode.seq (LCode.cond (Operand.tmp 15) LCode.skip (LCode.exit 0)) (LCode.seq (LCode.block 1 (LCode.seq (LCode.ops [⟨Op.indexAddr 108 (Operand.tmp 12) (Operand.tmp 14), some 16, none⟩, ⟨Op.load 111 (Operand.tmp 16), some 17, none⟩, ⟨Op.alloc 111, some 10, none⟩, ⟨Op.store 111 (Operand.tmp 10) (Operand.tmp 17), none, none⟩]) (LCode.block 2 (LCode.seq (LCode.ops [⟨Op.fieldAddr 111 (Operand.tmp 10) 2, some 19, none⟩, ⟨Op.load 9 (Operand.tmp 19), some 20, none⟩, ⟨Op.binOp BinOp.neq 9 (Operand.tmp 20) (Operand.const (Value.string { data := { toList := [] } })) 9, some 21, none⟩, ⟨Op.assign (Operand.tmp 21), some 18, none⟩]) (LCode.cond (Operand.tmp 18) (LCode.ops [⟨Op.load 9 (Operand.tmp 7), some 22, none⟩, ⟨Op.fieldAddr 111 (Operand.tmp 10) 2, some 23, none⟩, ⟨Op.load 9 (Operand.tmp 23), some 24, none⟩, ⟨Op.binOp BinOp.add 9 (Operand.tmp 22) (Operand.tmp 24) 9, some 25, none⟩, ⟨Op.store 9 (Operand.tmp 7) (Operand.tmp 25), none, none⟩]) (LCode.seq (LCode.ops [⟨Op.fieldAddr 111 (Operand.tmp 10) 1, some 27, none⟩, ⟨Op.load 3 (Operand.tmp 27), some 28, none⟩, ⟨Op.binOp BinOp.gtr 3 (Operand.tmp 28) (Operand.const (Value.int IntKind.i64 0)) 3, some 29, none⟩, ⟨Op.assign (Operand.tmp 29), some 26, none⟩]) (LCode.cond (Operand.tmp 26) (LCode.seq (LCode.ops [⟨Op.move (Operand.tmp 8), some 30, none⟩, ⟨Op.fieldAddr 111 (Operand.tmp 10) 0, some 31, none⟩, ⟨Op.load 3 (Operand.tmp 31), some 32, none⟩, ⟨Op.call { callee := Callee.value (Operand.tmp 30), args := { toList := [Operand.tmp 32] }, argTypes := { toList := [3] } }, some 33, none⟩]) (LCode.ops [⟨Op.fieldAddr 111 (Operand.tmp 10) 0, some 34, none⟩, ⟨Op.load 3 (Operand.tmp 34), some 35, none⟩, ⟨Op.fieldAddr 111 (Operand.tmp 10) 1, some 36, none⟩, ⟨Op.load 3 (Operand.tmp 36), some 37, none⟩, ⟨Op.binOp BinOp.add 3 (Operand.tmp 35) (Operand.tmp 37) 3, some 38, none⟩, ⟨Op.store 3 (Operand.tmp 6) (Operand.tmp 38), none, none⟩, ⟨Op.store 9 (Operand.tmp 7) (Operand.const (Value.string { data := { toList := [] } })), none, none⟩])) LCode.skip))))))) (LCode.ops [⟨Op.binOp BinOp.add 3 (Operand.tmp 14) (Operand.const (Value.int IntKind.i64 1)) 3, some 39, none⟩, ⟨Op.move (Operand.tmp 39), some 14, none⟩]))))))) (LCode.seq (LCode.ops [⟨Op.move (Operand.tmp 8), some 40, none⟩, ⟨Op.move (Operand.tmp 0), some 41, none⟩, ⟨Op.call { callee := Callee.value (Operand.tmp 40), args := { toList := [Operand.tmp 41] }, argTypes := { toList := [3] } }, some 42, none⟩]) (LCode.seq (LCode.ops [⟨Op.load 27 (Operand.tmp 5), some 43, none⟩, ⟨Op.assign (Operand.tmp 43), some 4, none⟩]) LCode.ret))))))
theorem l112 : Try.f112.body.map lighten = some L112 := by kernel_rfl
theorem rs112 : Try.f112.results.toList = [ResultVar.tmp 4] := by kernel_rfl
theorem nt112 : Try.f112.ntmps = 44 := by kernel_rfl
theorem gob112 {args : List AV} {s : AHeap} {R : AV → AHeap → Prop} (hl : args.length ≤ 44) (h : ∀ tm, tm.length = 44 → (∀ i, aev tm (.tmp i) = args.getD i aundef) → lvb Try.prog tab s L112 (lpostB tab s [ResultVar.tmp 4] R) tm (loc s 0 [])) : ACall Try.prog 112 args s R := ACall.goB tab_ok mixed Try.func112 l112 nm112 rs112 nt112 hl h
noncomputable def L144 : LCode := LCode.seq (LCode.ops [⟨Op.move (Operand.tmp 0), some 5, none⟩, ⟨Op.load 3 (Operand.tmp 1), some 6, none⟩, ⟨Op.binOp BinOp.gtr 3 (Operand.tmp 5) (Operand.tmp 6) 3, some 7, none⟩, ⟨Op.move (Operand.tmp 7), some 8, none⟩, ⟨Op.load 9 (Operand.tmp 2), some 9, some (8, false)⟩, ⟨Op.binOp BinOp.neq 9 (Operand.tmp 9) (Operand.const (Value.string { data := { toList := [] } })) 9, some 10, some (8, false)⟩, ⟨Op.pick (Operand.tmp 8) (Operand.const (Value.bool true)) (Operand.tmp 10), some 11, none⟩]) (LCode.cond (Operand.tmp 11) (LCode.ops [⟨Op.load 27 (Operand.tmp 3), some 12, none⟩, ⟨Op.load 3 (Operand.tmp 1), some 13, none⟩, ⟨Op.move (Operand.tmp 0), some 14, none⟩, ⟨Op.load 3 (Operand.tmp 1), some 15, none⟩, ⟨Op.binOp BinOp.sub 3 (Operand.tmp 14) (Operand.tmp 15) 3, some 16, none⟩, ⟨Op.load 9 (Operand.tmp 2), some 17, none⟩, ⟨Op.build 35 { toList := [(0, Operand.tmp 13), (1, Operand.tmp 16), (2, Operand.tmp 17)] }, some 18, none⟩, ⟨Op.buildSlice 27 1 { toList := [(0, Operand.tmp 18)] }, some 19, none⟩, ⟨Op.call { callee := Callee.builtin Builtin.append, args := { toList := [Operand.tmp 12, Operand.tmp 19] }, argTypes := { toList := [27, 27] } }, some 20, none⟩, ⟨Op.store 27 (Operand.tmp 3) (Operand.tmp 20), none, none⟩]) LCode.skip)
theorem l144 : Try.f144.body.map lighten = some L144 := by kernel_rfl
theorem rs144 : Try.f144.results.toList = [] := by kernel_rfl
theorem nt144 : Try.f144.ntmps = 21 := by kernel_rfl
theorem gob144 {args : List AV} {s : AHeap} {R : AV → AHeap → Prop} (hl : args.length ≤ 21) (h : ∀ tm, tm.length = 21 → (∀ i, aev tm (.tmp i) = args.getD i aundef) → lvb Try.prog tab s L144 (lpostB tab s [] R) tm (loc s 0 [])) : ACall Try.prog 144 args s R := ACall.goB tab_ok mixed Try.func144 l144 nm144 rs144 nt144 hl h
end Go.S1
end
section
set_option linter.unusedVariables false
set_option linter.unusedSimpArgs false
namespace Go.S1
open Go Go.Am Go.Proofs
set_option maxRecDepth 100000
noncomputable def run (n : Nat) := afun tab (fun _ => {}) ov 100 n
theorem t19 : (run 12 19 [] .empty).map Prod.fst = some (.bool true) := by kernel_rfl
end Go.S1
namespace Go.S1
open Go Go.Am Go.Proofs
set_option maxRecDepth 100000
end Go.S1
end
section
set_option linter.unusedVariables false
set_option linter.unusedSimpArgs false
namespace Go.S1N
open Go Go.Am Go.Proofs Go.S1
set_option maxRecDepth 100000
set_option linter.unusedSimpArgs false
theorem ACall.closed {P : Program} {f : FuncId} {b : Bool} (h : ACall P f [] .empty fun v _ => v = .bool b) (s : AHeap) : ACall P f [] s fun v t => v = .bool b ∧ t = s := by
  intro K w vals hw hv
  cases hv
  have hlt : ∀ {g o u}, K.frz g o = some u → g < w.heap.size := fun h => hw.frz_lt h
  have hdl : ∀ {g n}, K.dim g = some n → g < w.heap.size := fun h => hw.dim_lt h
  let K0 : Know := ⟨fun _ => none, K.frz, K.dim⟩
  have he : ∀ {x : Nat} {o : AObj} {p : Prop}, AHeap.empty.get x = some o → p := by
    intro x o p e
    rw [AHeap.get_empty] at e
    cases e
  have h0 : WR K0 .empty w := ⟨hw.frz, hw.dim, fun _ _ e => he e, fun _ _ _ _ _ _ _ e => he e, fun _ _ _ _ e => he e, fun _ _ _ e => nomatch e⟩
  have fin : ∀ {v : AV} {u : Value} {K' : Know} {s' : AHeap} {w' : World}, RV K' v u → Ext K0 .empty w K' s' w' → v = .bool b → ∃ v' K2 s2, RV K2 v' u ∧ WR K2 s2 w' ∧ Ext K s w K2 s2 w' ∧ v' = .bool b ∧ s2 = s := by
    intro v u K' s' w' hr hx hv
    subst hv
    have hno : ∀ g, ¬ owned K0 .empty g := by
      rintro g ⟨x, o, base, e, _⟩
      rw [AHeap.get_empty] at e; cases e
    have hbl : ∀ g, g < w.heap.size → w'.heap[g]? = w.heap[g]? := fun g hg => hx.block g hg (hno g)
    refine ⟨.bool b, K, s, ?_, ?_, ?_, rfl, rfl⟩
    · cases hr; exact .bool b
    · refine ⟨?_, ?_, ?_, hw.inj, hw.sep, fun b g i e => ⟨(hw.bnd b g i e).1, Nat.lt_of_lt_of_le (hw.bnd b g i e).2 hx.size⟩⟩
      · intro g o u e
        have := hw.frz g o u e
        unfold World.cell? at this ⊢
        rw [show (⟨g, o, none⟩ : Addr).block = g from rfl] at this ⊢
        rw [hbl g (hlt e)]; exact this
      · intro g n e
        rw [hbl g (hdl e)]; exact hw.dim g n e
      · intro x o e
        obtain ⟨g, base, q1, q2⟩ := hw.own x o e
        exact ⟨g, base, q1, q2.of_block (hbl g (hw.bnd _ _ _ q1).2)⟩
    · exact ⟨.refl K, fun _ _ => rfl, Nat.le_refl _, hx.os, hx.tape, hx.output, hx.size, fun g hg _ => hbl g hg, fun g ho => .inl ho, fun _ _ _ _ => rfl⟩
  have := h K0 w [] h0 .nil
  generalize (callFunc f ([] : List Value).toArray).run P w = r at *
  cases r with
  | halt _ _ => exact this
  | ok n w' =>
    cases n <;> simp only at this ⊢
    · obtain ⟨v, K', s', h1, h2, h3, h4⟩ := this
      obtain ⟨v', K2, s2, q1, q2, q3, q4, q5⟩ := fin h1 h3 h4
      exact ⟨v', K2, s2, q1, q2, q3, q4, q5⟩
    · refine Calls.mono this ?_
      rintro e w'' ⟨u, v, K', s', h0, h1, h2, h3, h4⟩
      obtain ⟨v', K2, s2, q1, q2, q3, q4, q5⟩ := fin h1 h3 h4
      exact ⟨u, v', K2, s2, h0, q1, q2, q3, q4, q5⟩
theorem run_bool {n f : Nat} {b : Bool} (h : (run n f [] .empty).map Prod.fst = some (.bool b)) (s : AHeap) : ACall Try.prog f [] s fun v t => v = .bool b ∧ t = s := by
  obtain ⟨⟨v, t⟩, h1, h2⟩ := Option.map_eq_some_iff.1 h
  refine ACall.closed ((afun_ok tab_ok mixed ov_ok 100 n f [] .empty v t h1).mono ?_) s
  rintro v' t' ⟨rfl, _⟩
  exact h2
theorem edited_ok (s : AHeap) : ACall Try.prog 19 [] s fun v t => v = .bool true ∧ t = s := run_bool t19 s
end Go.S1N
end
section
set_option linter.unusedVariables false
set_option linter.unusedSimpArgs false
namespace Go.S1N
open Go Go.Am Go.Proofs Go.S1
set_option maxRecDepth 100000
set_option linter.unusedSimpArgs false
attribute [local irreducible] lopsB lvb lstepB lfunG lcondB lguardB ldrawB ldrunB ldstepB ldguardB lmem lval ldmem ldval ldfun lexit ldloadB ldlenB lpostB athen ablock
theorem ints_cells {v : AV} {l : List Int} (h : IsInts v l) : v.cells = [v] := by rcases h with ⟨f, rfl⟩ | ⟨rfl, rfl⟩ <;> rfl
theorem ints_israw {v : AV} {l : List Int} (h : IsInts v l) : v.israw = false := by rcases h with ⟨f, rfl⟩ | ⟨rfl, rfl⟩ <;> rfl
theorem faultOf_zero {n : Int} {l : List Ed} (h : faultOf n l = 0) : 0 ≤ n ∧ n ≤ 20000 ∧ l.length ≤ 2000 ∧ scan n (-1) l = 0 := by
  rw [faultOf] at h
  split at h
  · cases h
  · rename_i h1
    have h1 := Classical.not_not.1 h1
    split at h
    · cases h
    · split at h
      · rename_i h3; exact absurd h h3
      · rename_i h2 h3
        exact ⟨h1.1, h1.2, by omega, Classical.not_not.1 h3⟩
theorem same33 (l : List Ed) (h : l.length < 4611686018427387904) (s : AHeap) : ACall Try.prog 33 [edv l, edv l] s fun r t => r = .bool true ∧ t = s := by
  classical
  have := equalEds_ok (edv_sl l) (edv_sl l) h s
  simpa using this
end Go.S1N
end
section
set_option linter.unusedVariables false
set_option linter.unusedSimpArgs false
namespace Go.S1N
open Go Go.Am Go.Proofs Go.S1
set_option maxRecDepth 100000
set_option linter.unusedSimpArgs false
attribute [local irreducible] lopsB lvb lstepB lfunG lcondB lguardB ldrawB ldrunB ldstepB ldguardB lmem lval ldmem ldval ldfun lexit ldloadB ldlenB lpostB athen ablock
theorem many_ok (v : AV) (l : List Ed) (hv : SlE v l) (s : AHeap) : ACall Try.prog 83 [v] s fun r t => r = .int .i64 (if 2000 < l.length then 2 else 0 : Int) ∧ t = s := by
  refine gob83 (by simp) ?_
  intro tm hlen harg
  simp +contextual only [go_sem, L83, hlen, harg, hv.len, lcondB_decide, lcondB_not, lguardB_decide_true, lguardB_decide_false, ldguardB_decide, Nat.reduceLT, Nat.reduceEqDiff, Nat.reduceAdd, Nat.reduceLeDiff, reduceIte, reduceCtorEq]
  refine ⟨fun c => ?_, fun c => ?_⟩
  · refine lexit_pure (.refl s) (by simp only [low]) ⟨?_, rfl⟩
    rw [if_pos (by omega)]
  · refine lexit_pure (.refl s) (by simp only [low]) ⟨?_, rfl⟩
    rw [if_neg (by omega)]
end Go.S1N
end
section
set_option linter.unusedVariables false
set_option linter.unusedSimpArgs false
namespace Go.S1N
open Go Go.Am Go.Proofs Go.S1
set_option maxRecDepth 100000
set_option linter.unusedSimpArgs false
def rfl1 (r : Rn) : List (Int × UInt8) := if r.text ≠ [] then negL r.text else (List.range r.long.toNat).map fun (i : Nat) => (r.at_ + (i : Int), (0 : UInt8))
def rflow (l : List Rn) : List (Int × UInt8) := l.flatMap rfl1
def rGo (n : Int) : Int → List UInt8 → List Rn → List Ed
  | a, w, [] => pushE a w n
  | a, w, r :: l => if r.text ≠ [] then rGo n a (w ++ r.text) l else if 0 < r.long then pushE a w r.at_ ++ rGo n (r.at_ + r.long) [] l else rGo n a w l
theorem ed_kept (N : Int) (t : List (Int × UInt8)) : ∀ (k : Nat) (o q : Int) (w : List UInt8), 0 ≤ o → edGo N q w ((List.range (k + 1)).map (fun (i : Nat) => (o + (i : Int), (0 : UInt8))) ++ t) = pushE q w o ++ edGo N (o + (k + 1 : Nat)) [] t
  | 0, o, q, w, h => by
    simp only [List.range_succ, List.range_zero, List.nil_append, List.map_cons, List.map_nil, List.cons_append, edGo]
    rw [if_neg (by omega)]
    simp
  | k + 1, o, q, w, h => by
    have ih := ed_kept N t k (o + 1) (o + 1) [] (by omega)
    rw [List.range_succ_eq_map, List.map_cons, List.map_map, List.cons_append, edGo, if_neg (by simp only; omega)]
    have e : (List.range (k + 1)).map ((fun (i : Nat) => (o + (i : Int), (0 : UInt8))) ∘ Nat.succ) = (List.range (k + 1)).map (fun (i : Nat) => (o + 1 + (i : Int), (0 : UInt8))) := by
      refine List.map_congr_left fun i _ => ?_
      simp only [Function.comp_apply, Nat.succ_eq_add_one, Prod.mk.injEq, and_true]
      omega
    rw [e]
    simp only [Int.natCast_zero, Int.add_zero] at ih ⊢
    rw [ih, push_same, List.nil_append]
    congr 2; omega
theorem rGo_flow (n : Int) : ∀ (l : List Rn) (a : Int) (w : List UInt8), (∀ r ∈ l, 0 ≤ r.at_) → rGo n a w l = edGo n a w (rflow l)
  | [], a, w, _ => rfl
  | r :: l, a, w, h => by
    have ih := fun a w => rGo_flow n l a w fun x hx => h x (List.mem_cons_of_mem _ hx)
    have hr := h r (List.mem_cons_self ..)
    have hf : rflow (r :: l) = rfl1 r ++ rflow l := List.flatMap_cons
    rw [rGo, hf, rfl1]
    split
    · rw [ed_neg, ih]
    · split
      · rename_i h0
        obtain ⟨k, hk⟩ : ∃ k, r.long.toNat = k + 1 := ⟨r.long.toNat - 1, by omega⟩
        rw [hk, ed_kept _ _ _ _ _ _ hr, ih]
        congr 2; omega
      · rename_i h0
        rw [show r.long.toNat = 0 by omega, ih]; rfl
theorem rflow_app (a b : List Rn) : rflow (a ++ b) = rflow a ++ rflow b := List.flatMap_append
theorem rfl1_kept {a k : Nat} : rfl1 ⟨a, k, []⟩ = runOf a k := by
  simp only [rfl1, ne_eq, not_true_eq_false, if_false, runOf, Int.toNat_natCast]
  rw [List.range'_eq_map_range, List.map_map]
  refine List.map_congr_left fun i _ => ?_
  simp
theorem rfl1_fresh {w : List UInt8} : rfl1 ⟨0, 0, w⟩ = negL w := by
  unfold rfl1
  split
  · rfl
  · rename_i h
    have : w = [] := Classical.not_not.1 h
    subst this; rfl
def rsize (r : Rn) : Nat := max r.long.toNat r.text.length
def okR (r : Rn) : Prop := 0 ≤ r.at_ ∧ 0 ≤ r.long ∧ (r.text = [] ∨ r.long = 0)
end Go.S1N
end
section
set_option linter.unusedVariables false
set_option linter.unusedSimpArgs false
namespace Go.S1N
open Go Go.Am Go.Proofs Go.S1
set_option maxRecDepth 100000
set_option linter.unusedSimpArgs false
set_option linter.unusedVariables false
end Go.S1N
end
section
set_option linter.unusedVariables false
set_option linter.unusedSimpArgs false
namespace Go.S1N
open Go Go.Am Go.Proofs Go.S1
set_option maxRecDepth 100000
set_option linter.unusedSimpArgs false
attribute [local irreducible] lopsB lvb lstepB lfunG lcondB lguardB ldrawB ldrunB ldstepB ldguardB lmem lval ldmem ldval ldfun lexit ldloadB ldlenB lpostB athen ablock
theorem loc_loc0 {s : AHeap} {n : Nat} {l : List (Nat × Option AObj)} : loc (loc s 0 []) n l = loc s n l := by
  have h2 : ∀ b, b < s.nx → (loc s 0 []).get b = s.get b := fun b hb => get_loc_out hb
  show AHeap.mk ((loc s 0 []).nx + n) true .nil (fun b => if b < (loc s 0 []).nx then (loc s 0 []).get b else lget l (b - (loc s 0 []).nx)) = AHeap.mk (s.nx + n) true .nil (fun b => if b < s.nx then s.get b else lget l (b - s.nx))
  congr 1
  funext b
  show (if b < s.nx then (loc s 0 []).get b else lget l (b - s.nx)) = if b < s.nx then s.get b else lget l (b - s.nx)
  by_cases hb : b < s.nx
  · rw [if_pos hb, if_pos hb, h2 b hb]
  · rw [if_neg hb, if_neg hb]
def Rn.emp (r : Rn) : Prop := r.long = 0 ∧ r.text = []
instance (r : Rn) : Decidable r.emp := inferInstanceAs (Decidable (_ ∧ _))
theorem rnc_cons (r : Rn) (l : List Rn) : rnc (r :: l) = .int .i64 r.at_ :: .int .i64 r.long :: .str r.text :: rnc l := rfl
structure LB (C : List AV) (off : Nat) (R : List Rn) : Prop where
  pu : PuL C
  rest : ∃ J, C.drop off = rnc R ++ J
theorem LB.tail {C : List AV} {off : Nat} {r : Rn} {R : List Rn} (h : LB C off (r :: R)) : LB C (off + 3) R := by
  obtain ⟨J, hJ⟩ := h.rest
  refine ⟨h.pu, J, ?_⟩
  rw [show off + 3 = off + 3 from rfl, ← List.drop_drop, hJ, rnc_cons]
  rfl
theorem pul_set {C : List AV} (h : PuL C) (i : Nat) {v : AV} (hv : low 0 v) : PuL (C.set i v) := by
  unfold PuL at *
  rw [lowL_iff] at *
  intro x hx
  rcases List.mem_or_eq_of_mem_set hx with q | rfl
  · exact h x q
  · exact hv
theorem drop_set_at {C : List AV} (off k : Nat) (v : AV) : (C.set (off + k) v).drop off = (C.drop off).set k v := by
  rw [List.drop_set, if_neg (by omega), Nat.add_sub_cancel_left]
theorem LB.text {C : List AV} {off : Nat} {r : Rn} {R : List Rn} (h : LB C off (r :: R)) (x : List UInt8) : LB (C.set (off + 2) (.str x)) off (⟨r.at_, r.long, x⟩ :: R) := by
  obtain ⟨J, hJ⟩ := h.rest
  refine ⟨pul_set h.pu _ (by simp only [low]), J, ?_⟩
  rw [drop_set_at, hJ, rnc_cons, rnc_cons]
  rfl
theorem LB.set {C : List AV} {off : Nat} {r : Rn} {R : List Rn} (h : LB C off (r :: R)) (a b : Int) (x : List UInt8) : LB (((C.set off (.int .i64 a)).set (off + 1) (.int .i64 b)).set (off + 1 + 1) (.str x)) off (⟨a, b, x⟩ :: R) := by
  obtain ⟨J, hJ⟩ := h.rest
  refine ⟨pul_set (pul_set (pul_set h.pu _ (by simp only [low])) _ (by simp only [low])) _ (by simp only [low]), J, ?_⟩
  rw [show off + 1 + 1 = off + 2 from rfl, drop_set_at, drop_set_at, show C.set off (.int .i64 a) = C.set (off + 0) (.int .i64 a) from rfl, drop_set_at, hJ, rnc_cons, rnc_cons]
  rfl
end Go.S1N
end
section
set_option linter.unusedVariables false
set_option linter.unusedSimpArgs false
namespace Go.S1N
open Go Go.Am Go.Proofs Go.S1
set_option maxRecDepth 100000
set_option linter.unusedSimpArgs false
attribute [local irreducible] lopsB lvb lstepB lfunG lcondB lguardB ldrawB ldrunB ldstepB ldguardB lmem lval ldmem ldval ldfun lexit ldloadB ldlenB lpostB athen ablock
end Go.S1N
end
section
set_option linter.unusedVariables false
set_option linter.unusedSimpArgs false
namespace Go.S1N
open Go Go.Am Go.Proofs Go.S1
set_option maxRecDepth 100000
set_option linter.unusedSimpArgs false
attribute [local irreducible] lopsB lvb lstepB lfunG lcondB lguardB ldrawB ldrunB ldstepB ldguardB lmem lval ldmem ldval ldfun lexit ldloadB ldlenB lpostB athen ablock
structure RB (r : Rn) : Prop where
  ok : okR r
  pos : 0 < rsize r
  lo : 0 ≤ r.at_
  hi : r.at_ + r.long ≤ 1000000000
end Go.S1N
end
section
set_option linter.unusedVariables false
set_option linter.unusedSimpArgs false
namespace Go.S1N
open Go Go.Am Go.Proofs Go.S1
set_option maxRecDepth 100000
set_option linter.unusedSimpArgs false
attribute [local irreducible] lopsB lvb lstepB lfunG lcondB lguardB ldrawB ldrunB ldstepB ldguardB lmem lval ldmem ldval ldfun lexit ldloadB ldlenB lpostB athen ablock
end Go.S1N
end
section
set_option linter.unusedVariables false
set_option linter.unusedSimpArgs false
namespace Go.S1N
open Go Go.Am Go.Proofs Go.S1
set_option maxRecDepth 100000
set_option linter.unusedSimpArgs false
attribute [local irreducible] lopsB lvb lstepB lfunG lcondB lguardB ldrawB ldrunB ldstepB ldguardB lmem lval ldmem ldval ldfun lexit ldloadB ldlenB lpostB athen ablock
theorem pushR {s : AHeap} {o4 : Option AObj} {a to : Int} {w : List UInt8} {L : List Ed} (ha : -1 ≤ a) (ha2 : a ≤ 1000000000000) (ht : -1 ≤ to) (ht2 : to ≤ 1000000000000) (hL : L.length ≤ 1000000000) :
    ACall Try.prog 144 [.int .i64 to, .ptr (nm s.nx 1) 0, .ptr (nm s.nx 2) 0, .ptr (nm s.nx 0) 0]
      (loc s 5 [(0, some (.cells [gsv 3 (nm s.nx 3) L.length] (some 27))), (1, some (.cells [.int .i64 a] (some 3))), (2, some (.cells [.str w] (some 9))), (3, gso 35 (edc L)), (4, o4)])
      fun v t => v = .tuple [] ∧ ((pushE a w to = [] ∧ t = loc s 5 [(0, some (.cells [gsv 3 (nm s.nx 3) L.length] (some 27))), (1, some (.cells [.int .i64 a] (some 3))), (2, some (.cells [.str w] (some 9))), (3, gso 35 (edc L)), (4, o4)]) ∨
        ∃ e, pushE a w to = [e] ∧ t = loc s 7 [(0, some (.cells [gsv 3 (nm s.nx 6) (L ++ [e]).length] (some 27))), (1, some (.cells [.int .i64 a] (some 3))), (2, some (.cells [.str w] (some 9))), (4, o4), (5, some (.cells [.int .i64 a, .int .i64 (to - a), .str w] (some 35))), (6, gso 35 (edc (L ++ [e])))]) := by
  refine gob144 (by simp) ?_
  intro tm hlen harg
  rw [loc_flat (by intro j hj; simp only [lget]; rw [if_neg (by omega), if_neg (by omega), if_neg (by omega), if_neg (by omega), if_neg (by omega)])]
  have hw : IntKind.i64.wrap (to - a) = to - a := wrap_id (by omega)
  have fin : ∀ e : Ed, e = ⟨a, to - a, w⟩ → pushE a w to = [e] →
      pushE a w to = [e] ∧ loc s 7 [(0, some (AObj.cells [AV.rs 3 (nm s.nx 6) 0 (L.length + 1)] (some 27))), (1, some (AObj.cells [AV.int IntKind.i64 a] (some 3))), (2, some (AObj.cells [AV.str w] (some 9))), (4, o4), (5, some (.cells [.int .i64 a, .int .i64 (to - a), .str w] (some 35))), (6, some (.cells (edc L ++ [.int .i64 a, .int .i64 (to - a), .str w]) (some 35)))] =
        loc s 7 [(0, some (.cells [gsv 3 (nm s.nx 6) (L ++ [e]).length] (some 27))), (1, some (.cells [.int .i64 a] (some 3))), (2, some (.cells [.str w] (some 9))), (4, o4), (5, some (.cells [.int .i64 a, .int .i64 (to - a), .str w] (some 35))), (6, gso 35 (edc (L ++ [e])))] := by
    rintro e rfl h
    refine ⟨h, ?_⟩
    rw [gso_ed, List.length_append, List.length_singleton, gsv_pos (Nat.succ_ne_zero _), edc_snoc]
  by_cases c : a < to
  · simp +contextual only [go_sem, L144, hlen, harg, hw, build35_3, c, lcondB_decide, lcondB_not, lguardB_decide_true, lguardB_decide_false, ldguardB_decide, Nat.reduceLT, Nat.reduceEqDiff, Nat.reduceAdd, Nat.reduceLeDiff, reduceIte, reduceCtorEq]
    refine lmem_eq (app27 (acellsOf_rs (by simp only [go_sem, lcondB_decide, lcondB_not, lguardB_decide_true, lguardB_decide_false, ldguardB_decide, Nat.reduceLT, Nat.reduceEqDiff, Nat.reduceAdd, Nat.reduceLeDiff, reduceIte, reduceCtorEq]; rfl) (by rfl) rfl) (by decide) (by simp only [go_sem, lcondB_decide, lcondB_not, lguardB_decide_true, lguardB_decide_false, ldguardB_decide, Nat.reduceLT, Nat.reduceEqDiff, Nat.reduceAdd, Nat.reduceLeDiff, reduceIte, reduceCtorEq]) (by simp only [go_sem, lcondB_decide, lcondB_not, lguardB_decide_true, lguardB_decide_false, ldguardB_decide, Nat.reduceLT, Nat.reduceEqDiff, Nat.reduceAdd, Nat.reduceLeDiff, reduceIte, reduceCtorEq]) (edc_len L) (by omega) rfl) ?_
    simp +contextual only [go_sem, hlen, harg, hw, lcondB_decide, lcondB_not, lguardB_decide_true, lguardB_decide_false, ldguardB_decide, Nat.reduceLT, Nat.reduceEqDiff, Nat.reduceAdd, Nat.reduceLeDiff, reduceIte, reduceCtorEq]
    exact lexit_now ⟨rfl, .inr ⟨_, fin _ rfl (if_pos (.inl c))⟩⟩
  · by_cases c2 : w = []
    · subst c2
      simp +contextual only [go_sem, L144, hlen, harg, hw, c, lcondB_decide, lcondB_not, lguardB_decide_true, lguardB_decide_false, ldguardB_decide, Nat.reduceLT, Nat.reduceEqDiff, Nat.reduceAdd, Nat.reduceLeDiff, reduceIte, reduceCtorEq]
      exact lexit_now ⟨rfl, .inl ⟨if_neg (by rintro (h | h); exact c h; exact h rfl), rfl⟩⟩
    · simp +contextual only [go_sem, L144, hlen, harg, hw, build35_3, c, c2, lcondB_decide, lcondB_not, lguardB_decide_true, lguardB_decide_false, ldguardB_decide, Nat.reduceLT, Nat.reduceEqDiff, Nat.reduceAdd, Nat.reduceLeDiff, reduceIte, reduceCtorEq]
      refine lmem_eq (app27 (acellsOf_rs (by simp only [go_sem, lcondB_decide, lcondB_not, lguardB_decide_true, lguardB_decide_false, ldguardB_decide, Nat.reduceLT, Nat.reduceEqDiff, Nat.reduceAdd, Nat.reduceLeDiff, reduceIte, reduceCtorEq]; rfl) (by rfl) rfl) (by decide) (by simp only [go_sem, lcondB_decide, lcondB_not, lguardB_decide_true, lguardB_decide_false, ldguardB_decide, Nat.reduceLT, Nat.reduceEqDiff, Nat.reduceAdd, Nat.reduceLeDiff, reduceIte, reduceCtorEq]) (by simp only [go_sem, lcondB_decide, lcondB_not, lguardB_decide_true, lguardB_decide_false, ldguardB_decide, Nat.reduceLT, Nat.reduceEqDiff, Nat.reduceAdd, Nat.reduceLeDiff, reduceIte, reduceCtorEq]) (edc_len L) (by omega) rfl) ?_
      simp +contextual only [go_sem, hlen, harg, hw, lcondB_decide, lcondB_not, lguardB_decide_true, lguardB_decide_false, ldguardB_decide, Nat.reduceLT, Nat.reduceEqDiff, Nat.reduceAdd, Nat.reduceLeDiff, reduceIte, reduceCtorEq]
      exact lexit_now ⟨rfl, .inr ⟨_, fin _ rfl (if_pos (.inr c2))⟩⟩
theorem rnv_len (F : List Rn) : alen tab 108 (rnv F) = some (.int .i64 F.length) := by rw [rnv, len108f, List.length_map]
theorem editsR_ok (n : Int) (F : List Rn) (hn : 0 ≤ n ∧ n ≤ 1000000000000) (hF : ∀ r ∈ F, 0 ≤ r.at_ ∧ r.at_ ≤ 1000000000 ∧ r.at_ + r.long ≤ 1000000000 ∧ 0 ≤ r.long ∧ r.text.length ≤ 1000000) (hFl : F.length ≤ 1000000000) (s : AHeap) :
    ACall Try.prog 112 [.int .i64 n, rnv F] s fun r t => r = edv (rGo n 0 [] F) ∧ t = s := by
  refine gob112 (by simp) ?_
  intro tm hlen harg
  have hpu : Pu (rnv F) := rnv_pu F
  simp +contextual only [go_sem, L112, hlen, harg, rnv_len, lcondB_decide, lcondB_not, lguardB_decide_true, lguardB_decide_false, ldguardB_decide, Nat.reduceLT, Nat.reduceEqDiff, Nat.reduceAdd, Nat.reduceLeDiff, reduceIte, reduceCtorEq]
  refine ⟨Nat × Int × List UInt8 × List Ed, fun a => [(0, .int .i64 n), (5, .ptr (nm s.nx 0) 0), (6, .ptr (nm s.nx 1) 0), (7, .ptr (nm s.nx 2) 0), (8, .func (.func 144) [] [.ptr (nm s.nx 1) 0, .ptr (nm s.nx 2) 0, .ptr (nm s.nx 0) 0]), (12, rnv F), (13, .int .i64 F.length), (14, .int .i64 a.1)],
    fun a => loc s 4 [(0, some (.cells [gsv 3 (nm s.nx 3) a.2.2.2.length] (some 27))), (1, some (.cells [.int .i64 a.2.1] (some 3))), (2, some (.cells [.str a.2.2.1] (some 9))), (3, gso 35 (edc a.2.2.2))],
    fun a => a.1 ≤ F.length ∧ a.2.2.2.length ≤ a.1 ∧ a.2.2.1.length ≤ a.1 * 1000000 ∧ 0 ≤ a.2.1 ∧ a.2.1 ≤ 1000000000 ∧ a.2.2.2 ++ rGo n a.2.1 a.2.2.1 (F.drop a.1) = rGo n 0 [] F, fun a => F.length - a.1, (0, 0, [], []), ⟨by simp, by simp, by simp, by simp, by simp, by simp⟩, ?_, ?_⟩
  · refine To.go [0, 1, 2, 9] [(0, some (.cells [.nils] (some 27))), (1, some (.cells [.int .i64 0] (some 3))), (2, some (.cells [.str []] (some 9))), (3, none)] (by simp only [edc, List.map_nil, List.flatMap_nil, gso_nil, List.length_nil, gsv_zero]; rfl) (.refl s) (by decide) (by simp) ?_ ?_
    · simp +contextual only [go_sem, hlen, harg, pu_ren hpu, gsv_zero, lcondB_decide, lcondB_not, lguardB_decide_true, lguardB_decide_false, ldguardB_decide, Nat.reduceLT, Nat.reduceEqDiff, Nat.reduceAdd, Nat.reduceLeDiff, reduceIte, reduceCtorEq]
      rfl
    · simp only [go_sem, pu_ren hpu, lcondB_decide, lcondB_not, lguardB_decide_true, lguardB_decide_false, ldguardB_decide, Nat.reduceLT, Nat.reduceEqDiff, Nat.reduceAdd, Nat.reduceLeDiff, reduceIte, reduceCtorEq]
  · rintro ⟨j, a, w, L⟩ tm1 ⟨hj, hL, hw, ha0, ha1, hE⟩ hlen1 hlv
    simp only [go_sem, hlen, lcondB_decide, lcondB_not, lguardB_decide_true, lguardB_decide_false, ldguardB_decide, Nat.reduceLT, Nat.reduceEqDiff, Nat.reduceAdd, Nat.reduceLeDiff, reduceIte, reduceCtorEq] at hlen1 hlv hj hL hw ha0 ha1 hE
    simp +contextual only [go_sem, hlen, hlen1, hlv, lcondB_decide, lcondB_not, lguardB_decide_true, lguardB_decide_false, ldguardB_decide, Nat.reduceLT, Nat.reduceEqDiff, Nat.reduceAdd, Nat.reduceLeDiff, reduceIte, reduceCtorEq]
    refine ⟨fun hlt => ?_, fun hge => ?_⟩
    · have hj2 : j < F.length := by omega
      have he := List.getElem?_eq_getElem hj2
      have hmem : F[j] ∈ F := List.getElem_mem hj2
      have hdrop := List.drop_eq_getElem_cons hj2
      generalize F[j] = r at he hmem hdrop
      obtain ⟨b1, b2, b3, b4, b5⟩ := hF r hmem
      rw [hdrop, rGo] at hE
      have hw3 : IntKind.i64.wrap ((j : Int) + 1) = ((j + 1 : Nat) : Int) := by rw [wrap_id (by omega)]; rfl
      have hw4 : IntKind.i64.wrap (r.at_ + r.long) = r.at_ + r.long := wrap_id (by omega)
      have hadd := abin_sadd (T := tab) (t := 9) (x := w) (y := r.text) (by omega)
      simp +contextual only [go_sem, hlen1, hlv, rn_at F he, hadd, hw3, hw4, lcondB_decide, lcondB_not, lguardB_decide_true, lguardB_decide_false, ldguardB_decide, Nat.reduceLT, Nat.reduceEqDiff, Nat.reduceAdd, Nat.reduceLeDiff, reduceIte, reduceCtorEq]
      refine ⟨fun ht => ?_, fun ht => ⟨fun hl => ?_, fun hl => ?_⟩⟩
      · rw [if_pos ht] at hE
        refine ⟨(j + 1, a, w ++ r.text, L), ⟨by simp only; omega, by simp only; omega, by simp only [List.length_append]; omega, ha0, ha1, hE⟩, by simp only; omega, ?_⟩
        refine To.go [0, 1, 2, 3] _ rfl (.refl s) (by decide) (by simp) ?_ ?_
        · simp +contextual only [go_sem, hlen1, hlv, pu_ren hpu, lcondB_decide, lcondB_not, lguardB_decide_true, lguardB_decide_false, ldguardB_decide, Nat.reduceLT, Nat.reduceEqDiff, Nat.reduceAdd, Nat.reduceLeDiff, reduceIte, reduceCtorEq]
        · simp only [go_sem, map_gso_pu (edc_pul _), ren_gsv, lcondB_decide, lcondB_not, lguardB_decide_true, lguardB_decide_false, ldguardB_decide, Nat.reduceLT, Nat.reduceEqDiff, Nat.reduceAdd, Nat.reduceLeDiff, reduceIte, reduceCtorEq]
      · rw [if_neg (by simpa using ht), if_pos hl] at hE
        refine lfunG_eqc' rfl (pushR (by omega) (by omega) (by omega) (by omega) (by omega)) ?_
        rintro _ t ⟨rfl, h | ⟨e, h⟩⟩
        · obtain ⟨hpe, rfl⟩ := h
          simp +contextual only [go_sem, hlen1, hlv, hw3, hw4, lcondB_decide, lcondB_not, lguardB_decide_true, lguardB_decide_false, ldguardB_decide, Nat.reduceLT, Nat.reduceEqDiff, Nat.reduceAdd, Nat.reduceLeDiff, reduceIte, reduceCtorEq]
          refine ⟨(j + 1, r.at_ + r.long, [], L), ⟨by simp only; omega, by simp only; omega, Nat.zero_le _, by simp only; omega, by simp only; omega, ?_⟩, by simp only; omega, ?_⟩
          · rw [← hE, hpe, List.nil_append]
          · refine To.go [0, 1, 2, 3] _ rfl (.refl s) (by decide) (by simp) ?_ ?_
            · simp +contextual only [go_sem, hlen1, hlv, pu_ren hpu, lcondB_decide, lcondB_not, lguardB_decide_true, lguardB_decide_false, ldguardB_decide, Nat.reduceLT, Nat.reduceEqDiff, Nat.reduceAdd, Nat.reduceLeDiff, reduceIte, reduceCtorEq]
            · simp only [go_sem, map_gso_pu (edc_pul _), ren_gsv, lcondB_decide, lcondB_not, lguardB_decide_true, lguardB_decide_false, ldguardB_decide, Nat.reduceLT, Nat.reduceEqDiff, Nat.reduceAdd, Nat.reduceLeDiff, reduceIte, reduceCtorEq]
        · obtain ⟨hpe, rfl⟩ := h
          simp +contextual only [go_sem, hlen1, hlv, hw3, hw4, lcondB_decide, lcondB_not, lguardB_decide_true, lguardB_decide_false, ldguardB_decide, Nat.reduceLT, Nat.reduceEqDiff, Nat.reduceAdd, Nat.reduceLeDiff, reduceIte, reduceCtorEq]
          refine ⟨(j + 1, r.at_ + r.long, [], L ++ [e]), ⟨by simp only; omega, by simp only [List.length_append, List.length_singleton]; omega, Nat.zero_le _, by simp only; omega, by simp only; omega, ?_⟩, by simp only; omega, ?_⟩
          · rw [← hE, hpe, List.append_assoc]
          · refine To.go [0, 1, 2, 6] _ rfl (.refl s) (by decide) (by simp) ?_ ?_
            · simp +contextual only [go_sem, hlen1, hlv, pu_ren hpu, lcondB_decide, lcondB_not, lguardB_decide_true, lguardB_decide_false, ldguardB_decide, Nat.reduceLT, Nat.reduceEqDiff, Nat.reduceAdd, Nat.reduceLeDiff, reduceIte, reduceCtorEq]
            · simp only [go_sem, map_gso_pu (edc_pul _), ren_gsv, lcondB_decide, lcondB_not, lguardB_decide_true, lguardB_decide_false, ldguardB_decide, Nat.reduceLT, Nat.reduceEqDiff, Nat.reduceAdd, Nat.reduceLeDiff, reduceIte, reduceCtorEq]
      · rw [if_neg (by simpa using ht), if_neg hl] at hE
        have hw1 : w.length ≤ (j + 1) * 1000000 := by
          rw [Nat.succ_mul]; exact Nat.le_trans hw (Nat.le_add_right _ _)
        refine ⟨(j + 1, a, w, L), ⟨by simp only; omega, by simp only; omega, hw1, ha0, ha1, hE⟩, by simp only; omega, ?_⟩
        refine To.go [0, 1, 2, 3] _ rfl (.refl s) (by decide) (by simp) ?_ ?_
        · simp +contextual only [go_sem, hlen1, hlv, pu_ren hpu, lcondB_decide, lcondB_not, lguardB_decide_true, lguardB_decide_false, ldguardB_decide, Nat.reduceLT, Nat.reduceEqDiff, Nat.reduceAdd, Nat.reduceLeDiff, reduceIte, reduceCtorEq]
        · simp only [go_sem, map_gso_pu (edc_pul _), ren_gsv, lcondB_decide, lcondB_not, lguardB_decide_true, lguardB_decide_false, ldguardB_decide, Nat.reduceLT, Nat.reduceEqDiff, Nat.reduceAdd, Nat.reduceLeDiff, reduceIte, reduceCtorEq]
    · have hj2 : j = F.length := by omega
      rw [hj2, List.drop_length, rGo] at hE
      refine lfunG_to (lv := [(5, .ptr (nm s.nx 0) 0), (40, .func (.func 144) [] [.ptr (nm s.nx 1) 0, .ptr (nm s.nx 2) 0, .ptr (nm s.nx 0) 0]), (41, .int .i64 n)])
        (h := loc s 5 [(0, some (.cells [gsv 3 (nm s.nx 3) L.length] (some 27))), (1, some (.cells [.int .i64 a] (some 3))), (2, some (.cells [.str w] (some 9))), (3, gso 35 (edc L)), (4, none)]) (To.go [0, 1, 2, 3, 9] _ rfl (.refl s) (by decide) (by simp) ?_ ?_) ?_
      · simp +contextual only [go_sem, hlen1, hlv, lcondB_decide, lcondB_not, lguardB_decide_true, lguardB_decide_false, ldguardB_decide, Nat.reduceLT, Nat.reduceEqDiff, Nat.reduceAdd, Nat.reduceLeDiff, reduceIte, reduceCtorEq]
      · simp only [go_sem, map_gso_pu (edc_pul _), ren_gsv, lcondB_decide, lcondB_not, lguardB_decide_true, lguardB_decide_false, ldguardB_decide, Nat.reduceLT, Nat.reduceEqDiff, Nat.reduceAdd, Nat.reduceLeDiff, reduceIte, reduceCtorEq]
      · intro tm2 hlen2 hlv2
        simp only [go_sem, hlen1, lcondB_decide, lcondB_not, lguardB_decide_true, lguardB_decide_false, ldguardB_decide, Nat.reduceLT, Nat.reduceEqDiff, Nat.reduceAdd, Nat.reduceLeDiff, reduceIte, reduceCtorEq] at hlen2 hlv2
        simp +contextual only [go_sem, hlen2, hlv2, lcondB_decide, lcondB_not, lguardB_decide_true, lguardB_decide_false, ldguardB_decide, Nat.reduceLT, Nat.reduceEqDiff, Nat.reduceAdd, Nat.reduceLeDiff, reduceIte, reduceCtorEq]
        refine lfunG_eqc' rfl (pushR (by omega) (by omega) (by omega) (by omega) (by omega)) ?_
        rintro _ t ⟨rfl, h | ⟨e, h⟩⟩
        · obtain ⟨hpe, rfl⟩ := h
          rw [hpe, List.append_nil] at hE
          simp +contextual only [go_sem, hlen2, hlv2, lcondB_decide, lcondB_not, lguardB_decide_true, lguardB_decide_false, ldguardB_decide, Nat.reduceLT, Nat.reduceEqDiff, Nat.reduceAdd, Nat.reduceLeDiff, reduceIte, reduceCtorEq]
          refine lexit_freezeG 3 3 (L.map Ed.enc) (by simp only [go_sem, lcondB_decide, lcondB_not, lguardB_decide_true, lguardB_decide_false, ldguardB_decide, Nat.reduceLT, Nat.reduceEqDiff, Nat.reduceAdd, Nat.reduceLeDiff, reduceIte, reduceCtorEq]; rfl) (enc_len L) (by decide) ?_
          simp only [go_sem, len_fz, hE, lcondB_decide, lcondB_not, lguardB_decide_true, lguardB_decide_false, ldguardB_decide, Nat.reduceLT, Nat.reduceEqDiff, Nat.reduceAdd, Nat.reduceLeDiff, reduceIte, reduceCtorEq]
          exact lexit_pure (.refl s) (low.mono (Nat.zero_le _) (edv_pu _)) ⟨rfl, rfl⟩
        · obtain ⟨hpe, rfl⟩ := h
          rw [hpe] at hE
          simp +contextual only [go_sem, hlen2, hlv2, lcondB_decide, lcondB_not, lguardB_decide_true, lguardB_decide_false, ldguardB_decide, Nat.reduceLT, Nat.reduceEqDiff, Nat.reduceAdd, Nat.reduceLeDiff, reduceIte, reduceCtorEq]
          refine lexit_freezeG 6 3 ((L ++ [e]).map Ed.enc) (by simp only [go_sem, lcondB_decide, lcondB_not, lguardB_decide_true, lguardB_decide_false, ldguardB_decide, Nat.reduceLT, Nat.reduceEqDiff, Nat.reduceAdd, Nat.reduceLeDiff, reduceIte, reduceCtorEq]; rfl) (enc_len _) (by decide) ?_
          simp only [go_sem, len_fz, hE, lcondB_decide, lcondB_not, lguardB_decide_true, lguardB_decide_false, ldguardB_decide, Nat.reduceLT, Nat.reduceEqDiff, Nat.reduceAdd, Nat.reduceLeDiff, reduceIte, reduceCtorEq]
          exact lexit_pure (.refl s) (low.mono (Nat.zero_le _) (edv_pu _)) ⟨rfl, rfl⟩
end Go.S1N
end
