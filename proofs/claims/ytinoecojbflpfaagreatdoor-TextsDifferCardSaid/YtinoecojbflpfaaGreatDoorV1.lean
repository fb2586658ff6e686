/- Part 1 of a proof: texts of this work, put together. -/
import Derived.Test.YtinoecojbflpfaaGreatDoorW3
import Derived.Test.YtinoecojbflpfaaGreatDoorAm8
import Derived.Test.YtinoecojbflpfaaGreatDoorRows
import Derived.WalkKit
import Derived.ProofKit
import Derived.OpenShut
import Derived.ShutString
import Derived.ChangeOld
import Derived.Below
import Derived.SizedLaws
import Derived.Lay
import Derived.LaidOnce
import Derived.LaidMore
import Derived.Lib.LaidU8
import Derived.SevenTiedAt
import Derived.Stop.Joined
import Derived.KernelRfl
import Derived.Shelf.Lay
import Derived.Ground.NamesProg
import Derived.Shelf.Strconv.Itoa3
set_option linter.unusedVariables false
set_option linter.unusedSimpArgs false
section
namespace Go.S1N
open Go Go.Am Go.Proofs Go.S1
set_option maxRecDepth 100000
theorem ty3 : tab.ty 3 = some { td := .int .i64, size := 1, bytes := 8, zero := .int .i64 0, eqok := false } := by kernel_rfl
theorem ty4 : tab.ty 4 = some { td := .bool, size := 1, bytes := 1, zero := .bool false, eqok := false } := by kernel_rfl
theorem ty5 : tab.ty 5 = some { td := .int .u8, size := 1, bytes := 1, zero := .int .u8 0, eqok := false } := by kernel_rfl
theorem ty9 : tab.ty 9 = some { td := .str, size := 1, bytes := 16, zero := .string ⟨#[]⟩, eqok := false } := by kernel_rfl
theorem ty22 : tab.ty 22 = some { td := .slice 3, size := 1, bytes := 24, zero := .slice none 0 0, eqok := false } := by kernel_rfl
theorem ty25 : tab.ty 25 = some { td := .struct [(22, 0, true), (3, 1, true)], size := 2, bytes := 32, zero := .agg #[.slice none 0 0, .int .i64 0], eqok := false } := by kernel_rfl
theorem ty28 : tab.ty 28 = some { td := .slice 44, size := 1, bytes := 24, zero := .slice none 0 0, eqok := false } := by kernel_rfl
theorem ty44 : tab.ty 44 = some { td := .struct [(3, 0, true), (3, 1, true), (9, 2, true)], size := 3, bytes := 32, zero := .agg #[.int .i64 0, .int .i64 0, .string ⟨#[]⟩], eqok := true } := by kernel_rfl
theorem ty118 : tab.ty 118 = some { td := .slice 5, size := 1, bytes := 24, zero := .slice none 0 0, eqok := false } := by kernel_rfl
theorem ty120 : tab.ty 120 = some { td := .struct [(117, 0, true), (118, 1, true)], size := 2, bytes := 32, zero := .agg #[.pointer none, .slice none 0 0], eqok := false } := by kernel_rfl
theorem ty121 : tab.ty 121 = some { td := .slice 126, size := 1, bytes := 24, zero := .slice none 0 0, eqok := false } := by kernel_rfl
theorem ty123 : tab.ty 123 = some { td := .struct [(3, 0, true), (121, 1, true)], size := 2, bytes := 32, zero := .agg #[.int .i64 0, .slice none 0 0], eqok := false } := by kernel_rfl
theorem ty126 : tab.ty 126 = some { td := .struct [(3, 0, true), (5, 1, true)], size := 2, bytes := 16, zero := .agg #[.int .i64 0, .int .u8 0], eqok := false } := by kernel_rfl
theorem ty132 : tab.ty 132 = some { td := .slice 135, size := 1, bytes := 24, zero := .slice none 0 0, eqok := false } := by kernel_rfl
theorem ty135 : tab.ty 135 = some { td := .struct [(3, 0, true), (3, 1, true), (9, 2, true)], size := 3, bytes := 32, zero := .agg #[.int .i64 0, .int .i64 0, .string ⟨#[]⟩], eqok := false } := by kernel_rfl
theorem ty189 : tab.ty 189 = some { td := .slice 9, size := 1, bytes := 24, zero := .slice none 0 0, eqok := false } := by kernel_rfl
@[go_sem] theorem al3 {P : Program} {s0 : AHeap} {N : List AV → AHeap → Prop} {d : Option Nat} {tm : List AV} {s : AHeap} : lstepB P tab s0 N (.alloc 3) d tm s = N (aput tm d (.ptr s.nx 0)) (s.new (.cells [.int .i64 0] (some 3))) := by rw [lstepB_alloc, ty3]; rfl
@[go_sem] theorem al9 {P : Program} {s0 : AHeap} {N : List AV → AHeap → Prop} {d : Option Nat} {tm : List AV} {s : AHeap} : lstepB P tab s0 N (.alloc 9) d tm s = N (aput tm d (.ptr s.nx 0)) (s.new (.cells [.str []] (some 9))) := by rw [lstepB_alloc, ty9]; rfl
@[go_sem] theorem al28 {P : Program} {s0 : AHeap} {N : List AV → AHeap → Prop} {d : Option Nat} {tm : List AV} {s : AHeap} : lstepB P tab s0 N (.alloc 28) d tm s = N (aput tm d (.ptr s.nx 0)) (s.new (.cells [.nils] (some 28))) := by rw [lstepB_alloc, ty28]; rfl
@[go_sem] theorem al44 {P : Program} {s0 : AHeap} {N : List AV → AHeap → Prop} {d : Option Nat} {tm : List AV} {s : AHeap} : lstepB P tab s0 N (.alloc 44) d tm s = N (aput tm d (.ptr s.nx 0)) (s.new (.cells [.int .i64 0, .int .i64 0, .str []] (some 44))) := by rw [lstepB_alloc, ty44]; rfl
@[go_sem] theorem al120 {P : Program} {s0 : AHeap} {N : List AV → AHeap → Prop} {d : Option Nat} {tm : List AV} {s : AHeap} : lstepB P tab s0 N (.alloc 120) d tm s = N (aput tm d (.ptr s.nx 0)) (s.new (.cells [.nilp, .nils] (some 120))) := by rw [lstepB_alloc, ty120]; rfl
@[go_sem] theorem al123 {P : Program} {s0 : AHeap} {N : List AV → AHeap → Prop} {d : Option Nat} {tm : List AV} {s : AHeap} : lstepB P tab s0 N (.alloc 123) d tm s = N (aput tm d (.ptr s.nx 0)) (s.new (.cells [.int .i64 0, .nils] (some 123))) := by rw [lstepB_alloc, ty123]; rfl
@[go_sem] theorem al126 {P : Program} {s0 : AHeap} {N : List AV → AHeap → Prop} {d : Option Nat} {tm : List AV} {s : AHeap} : lstepB P tab s0 N (.alloc 126) d tm s = N (aput tm d (.ptr s.nx 0)) (s.new (.cells [.int .i64 0, .int .u8 0] (some 126))) := by rw [lstepB_alloc, ty126]; rfl
@[go_sem] theorem al135 {P : Program} {s0 : AHeap} {N : List AV → AHeap → Prop} {d : Option Nat} {tm : List AV} {s : AHeap} : lstepB P tab s0 N (.alloc 135) d tm s = N (aput tm d (.ptr s.nx 0)) (s.new (.cells [.int .i64 0, .int .i64 0, .str []] (some 135))) := by rw [lstepB_alloc, ty135]; rfl
@[go_sem] theorem ld3 {x : AV} {s : AHeap} : aload tab 3 x s = (acellsAt s x).bind fun cs => cs[0]? := by rw [aload_one ty3 rfl]
@[go_sem] theorem st3 {b o : Nat} {v : AV} {s : AHeap} : astore tab 3 (.ptr b o) v s = astoreAt s b o 1 v := by rw [astore_ptr ty3]
@[go_sem] theorem ld4 {x : AV} {s : AHeap} : aload tab 4 x s = (acellsAt s x).bind fun cs => cs[0]? := by rw [aload_one ty4 rfl]
@[go_sem] theorem st4 {b o : Nat} {v : AV} {s : AHeap} : astore tab 4 (.ptr b o) v s = astoreAt s b o 1 v := by rw [astore_ptr ty4]
@[go_sem] theorem ld5 {x : AV} {s : AHeap} : aload tab 5 x s = (acellsAt s x).bind fun cs => cs[0]? := by rw [aload_one ty5 rfl]
@[go_sem] theorem ld9 {x : AV} {s : AHeap} : aload tab 9 x s = (acellsAt s x).bind fun cs => cs[0]? := by rw [aload_one ty9 rfl]
@[go_sem] theorem st9 {b o : Nat} {v : AV} {s : AHeap} : astore tab 9 (.ptr b o) v s = astoreAt s b o 1 v := by rw [astore_ptr ty9]
@[go_sem] theorem len9 {l : List UInt8} : alen tab 9 (.str l) = some (.int .i64 l.length) := by simp [alen, ty9]
@[go_sem] theorem ld22 {x : AV} {s : AHeap} : aload tab 22 x s = (acellsAt s x).bind fun cs => cs[0]? := by rw [aload_one ty22 rfl]
@[go_sem] theorem st22 {b o : Nat} {v : AV} {s : AHeap} : astore tab 22 (.ptr b o) v s = astoreAt s b o 1 v := by rw [astore_ptr ty22]
@[go_sem] theorem len22r {z b o n : Nat} : alen tab 22 (.rs z b o n) = some (.int .i64 n) := by simp [alen, ty22]
@[go_sem] theorem bs22 {s : AHeap} {n : Nat} {parts : List (Nat × AV)} (hn : n = parts.length) (hs : seqp 1 0 parts) (hb : n ≤ 1000) : abuildSlice tab false 22 n parts s = some (.rs 1 s.nx 0 n, s.new (.cells ((parts.map (·.2)).flatMap AV.cells) (some 3))) := abuildSlice_seq ty22 rfl ty3 rfl rfl hn hs (show n * 1 ≤ 16777216 by omega)
theorem ix22r {b o m : Nat} {n : Int} (h0 : 0 ≤ n) (h1 : n < m) : aindexAddr tab 22 (.rs 1 b o m) (.int .i64 n) = some (.ptr b (o + n.toNat * 1)) := by
  simp [aindexAddr, ty22, Tab.size, ty3, h0, h1]
@[go_sem] theorem fa25_0p {b o : Nat} : afieldAddr tab 25 (.ptr b o) 0 = some (.ptr b (o + 0)) := by simp [afieldAddr, ty25, Tab.size, ty22]
@[go_sem] theorem fa25_1p {b o : Nat} : afieldAddr tab 25 (.ptr b o) 1 = some (.ptr b (o + 1)) := by simp [afieldAddr, ty25, Tab.size, ty3]
@[go_sem] theorem bd25 {parts : List (Nat × AV)} : abuild tab 25 parts = if parts.any (·.2.israw) = true then none else (afill (fun i => ([(0, 1), (1, 1)] : List (Nat × Nat))[i]?) [.nils, .int .i64 0] parts).map .agg := abuild_struct ty25 rfl rfl (by simp [Tab.size, ty22, ty3])
@[go_sem] theorem ld28 {x : AV} {s : AHeap} : aload tab 28 x s = (acellsAt s x).bind fun cs => cs[0]? := by rw [aload_one ty28 rfl]
@[go_sem] theorem st28 {b o : Nat} {v : AV} {s : AHeap} : astore tab 28 (.ptr b o) v s = astoreAt s b o 1 v := by rw [astore_ptr ty28]
theorem ap28 {x y : AV} {s : AHeap} : lappend tab 28 28 x y s = aappend tab 44 s x y := by simp [lappend, ty28]
theorem app28 {s : AHeap} {n j len m : Nat} {l : List (Nat × Option AObj)} {y : AV} {c new : List AV} (hy : acellsOf (loc s n l) 3 y = some (new, m)) (hm : m ≠ 0) (hn : new.all AV.one = true) (hl : lget l j = gso 44 c) (hc : c.length = len * 3) (hb : (2 * (len + m) + 512) * 32 ≤ 281474976710656) {mm : Nat} (hmm : s.nx = mm) : lappend tab 28 28 (gsv 3 (nm mm j) len) y (loc s n l) = some (.rs 3 (nm mm n) 0 (len + m), loc s (n + 1) (lput (ldel l j) n (.cells (c ++ new) (some 44)))) := ap28.trans (aappend_gs ty44 (by decide) (by decide) hy hm hn hl hc hb hmm)
@[go_sem] theorem bs28 {s : AHeap} {n : Nat} {parts : List (Nat × AV)} (hn : n = parts.length) (hs : seqp 3 0 parts) (hb : n ≤ 1000) : abuildSlice tab false 28 n parts s = some (.rs 3 s.nx 0 n, s.new (.cells ((parts.map (·.2)).flatMap AV.cells) (some 44))) := abuildSlice_seq ty28 rfl ty44 rfl rfl hn hs (show n * 3 ≤ 16777216 by omega)
@[go_sem] theorem fa44_0p {b o : Nat} : afieldAddr tab 44 (.ptr b o) 0 = some (.ptr b (o + 0)) := by simp [afieldAddr, ty44, Tab.size, ty3]
@[go_sem] theorem fa44_1p {b o : Nat} : afieldAddr tab 44 (.ptr b o) 1 = some (.ptr b (o + 1)) := by simp [afieldAddr, ty44, Tab.size, ty3]
@[go_sem] theorem fa44_2p {b o : Nat} : afieldAddr tab 44 (.ptr b o) 2 = some (.ptr b (o + 2)) := by simp [afieldAddr, ty44, Tab.size, ty9]
@[go_sem] theorem bd44 {parts : List (Nat × AV)} : abuild tab 44 parts = if parts.any (·.2.israw) = true then none else (afill (fun i => ([(0, 1), (1, 1), (2, 1)] : List (Nat × Nat))[i]?) [.int .i64 0, .int .i64 0, .str []] parts).map .agg := abuild_struct ty44 rfl rfl (by simp [Tab.size, ty3, ty9])
@[go_sem] theorem ld44 {x : AV} {s : AHeap} : aload tab 44 x s = (acellsAt s x).bind fun cs => if 3 ≤ cs.length then some (.agg (cs.take 3)) else none := by rw [aload_agg ty44 rfl]
@[go_sem] theorem st44 {b o : Nat} {v : AV} {s : AHeap} : astore tab 44 (.ptr b o) v s = astoreAt s b o 3 v := by rw [astore_ptr ty44]
@[go_sem] theorem ld118 {x : AV} {s : AHeap} : aload tab 118 x s = (acellsAt s x).bind fun cs => cs[0]? := by rw [aload_one ty118 rfl]
@[go_sem] theorem st118 {b o : Nat} {v : AV} {s : AHeap} : astore tab 118 (.ptr b o) v s = astoreAt s b o 1 v := by rw [astore_ptr ty118]
@[go_sem] theorem len118r {z b o n : Nat} : alen tab 118 (.rs z b o n) = some (.int .i64 n) := by simp [alen, ty118]
@[go_sem] theorem bs118 {s : AHeap} {n : Nat} {parts : List (Nat × AV)} (hn : n = parts.length) (hs : seqp 1 0 parts) (hb : n ≤ 1000) : abuildSlice tab false 118 n parts s = some (.rs 1 s.nx 0 n, s.new (.cells ((parts.map (·.2)).flatMap AV.cells) (some 5))) := abuildSlice_seq ty118 rfl ty5 rfl rfl hn hs (show n * 1 ≤ 16777216 by omega)
@[go_sem] theorem fa120_1p {b o : Nat} : afieldAddr tab 120 (.ptr b o) 1 = some (.ptr b (o + 1)) := by simp [afieldAddr, ty120, Tab.size, ty118]
@[go_sem] theorem ld121 {x : AV} {s : AHeap} : aload tab 121 x s = (acellsAt s x).bind fun cs => cs[0]? := by rw [aload_one ty121 rfl]
@[go_sem] theorem st121 {b o : Nat} {v : AV} {s : AHeap} : astore tab 121 (.ptr b o) v s = astoreAt s b o 1 v := by rw [astore_ptr ty121]
theorem ap121 {x y : AV} {s : AHeap} : lappend tab 121 121 x y s = aappend tab 126 s x y := by simp [lappend, ty121]
theorem app121 {s : AHeap} {n j len m : Nat} {l : List (Nat × Option AObj)} {y : AV} {c new : List AV} (hy : acellsOf (loc s n l) 2 y = some (new, m)) (hm : m ≠ 0) (hn : new.all AV.one = true) (hl : lget l j = gso 126 c) (hc : c.length = len * 2) (hb : (2 * (len + m) + 512) * 16 ≤ 281474976710656) {mm : Nat} (hmm : s.nx = mm) : lappend tab 121 121 (gsv 2 (nm mm j) len) y (loc s n l) = some (.rs 2 (nm mm n) 0 (len + m), loc s (n + 1) (lput (ldel l j) n (.cells (c ++ new) (some 126)))) := ap121.trans (aappend_gs ty126 (by decide) (by decide) hy hm hn hl hc hb hmm)
@[go_sem] theorem bs121 {s : AHeap} {n : Nat} {parts : List (Nat × AV)} (hn : n = parts.length) (hs : seqp 2 0 parts) (hb : n ≤ 1000) : abuildSlice tab false 121 n parts s = some (.rs 2 s.nx 0 n, s.new (.cells ((parts.map (·.2)).flatMap AV.cells) (some 126))) := abuildSlice_seq ty121 rfl ty126 rfl rfl hn hs (show n * 2 ≤ 16777216 by omega)
theorem ix121f {xs : List AV} {n : Int} {v : AV} (h0 : 0 ≤ n) (hv : xs[n.toNat]? = some v) (hr : v.israw = false) : aindexAddr tab 121 (fsv 2 xs) (.int .i64 n) = some (.rptr v.cells) := by
  rw [fsv_pos (by rintro rfl; simp at hv)]
  simp [aindexAddr, ty121, Tab.size, ty126, h0, hv, hr]
@[go_sem] theorem len121f {xs : List AV} : alen tab 121 (fsv 2 xs) = some (.int .i64 xs.length) := by unfold fsv; split <;> simp_all [alen, ty121]
@[go_sem] theorem fa123_0p {b o : Nat} : afieldAddr tab 123 (.ptr b o) 0 = some (.ptr b (o + 0)) := by simp [afieldAddr, ty123, Tab.size, ty3]
@[go_sem] theorem fa123_1p {b o : Nat} : afieldAddr tab 123 (.ptr b o) 1 = some (.ptr b (o + 1)) := by simp [afieldAddr, ty123, Tab.size, ty121]
@[go_sem] theorem bd123 {parts : List (Nat × AV)} : abuild tab 123 parts = if parts.any (·.2.israw) = true then none else (afill (fun i => ([(0, 1), (1, 1)] : List (Nat × Nat))[i]?) [.int .i64 0, .nils] parts).map .agg := abuild_struct ty123 rfl rfl (by simp [Tab.size, ty121, ty3])
@[go_sem] theorem ld123 {x : AV} {s : AHeap} : aload tab 123 x s = (acellsAt s x).bind fun cs => if 2 ≤ cs.length then some (.agg (cs.take 2)) else none := by rw [aload_agg ty123 rfl]
@[go_sem] theorem st123 {b o : Nat} {v : AV} {s : AHeap} : astore tab 123 (.ptr b o) v s = astoreAt s b o 2 v := by rw [astore_ptr ty123]
@[go_sem] theorem fa126_0p {b o : Nat} : afieldAddr tab 126 (.ptr b o) 0 = some (.ptr b (o + 0)) := by simp [afieldAddr, ty126, Tab.size, ty3]
@[go_sem] theorem fa126_1p {b o : Nat} : afieldAddr tab 126 (.ptr b o) 1 = some (.ptr b (o + 1)) := by simp [afieldAddr, ty126, Tab.size, ty5]
@[go_sem] theorem ld126 {x : AV} {s : AHeap} : aload tab 126 x s = (acellsAt s x).bind fun cs => if 2 ≤ cs.length then some (.agg (cs.take 2)) else none := by rw [aload_agg ty126 rfl]
@[go_sem] theorem st126 {b o : Nat} {v : AV} {s : AHeap} : astore tab 126 (.ptr b o) v s = astoreAt s b o 2 v := by rw [astore_ptr ty126]
theorem ap132 {x y : AV} {s : AHeap} : lappend tab 132 132 x y s = aappend tab 135 s x y := by simp [lappend, ty132]
theorem app132 {s : AHeap} {n j len m : Nat} {l : List (Nat × Option AObj)} {y : AV} {c new : List AV} (hy : acellsOf (loc s n l) 3 y = some (new, m)) (hm : m ≠ 0) (hn : new.all AV.one = true) (hl : lget l j = gso 135 c) (hc : c.length = len * 3) (hb : (2 * (len + m) + 512) * 32 ≤ 281474976710656) {mm : Nat} (hmm : s.nx = mm) : lappend tab 132 132 (gsv 3 (nm mm j) len) y (loc s n l) = some (.rs 3 (nm mm n) 0 (len + m), loc s (n + 1) (lput (ldel l j) n (.cells (c ++ new) (some 135)))) := ap132.trans (aappend_gs ty135 (by decide) (by decide) hy hm hn hl hc hb hmm)
@[go_sem] theorem bs132 {s : AHeap} {n : Nat} {parts : List (Nat × AV)} (hn : n = parts.length) (hs : seqp 3 0 parts) (hb : n ≤ 1000) : abuildSlice tab false 132 n parts s = some (.rs 3 s.nx 0 n, s.new (.cells ((parts.map (·.2)).flatMap AV.cells) (some 135))) := abuildSlice_seq ty132 rfl ty135 rfl rfl hn hs (show n * 3 ≤ 16777216 by omega)
theorem ix132f {xs : List AV} {n : Int} {v : AV} (h0 : 0 ≤ n) (hv : xs[n.toNat]? = some v) (hr : v.israw = false) : aindexAddr tab 132 (fsv 3 xs) (.int .i64 n) = some (.rptr v.cells) := by
  rw [fsv_pos (by rintro rfl; simp at hv)]
  simp [aindexAddr, ty132, Tab.size, ty135, h0, hv, hr]
@[go_sem] theorem len132f {xs : List AV} : alen tab 132 (fsv 3 xs) = some (.int .i64 xs.length) := by unfold fsv; split <;> simp_all [alen, ty132]
@[go_sem] theorem fa135_0p {b o : Nat} : afieldAddr tab 135 (.ptr b o) 0 = some (.ptr b (o + 0)) := by simp [afieldAddr, ty135, Tab.size, ty3]
@[go_sem] theorem fa135_1p {b o : Nat} : afieldAddr tab 135 (.ptr b o) 1 = some (.ptr b (o + 1)) := by simp [afieldAddr, ty135, Tab.size, ty3]
@[go_sem] theorem fa135_2p {b o : Nat} : afieldAddr tab 135 (.ptr b o) 2 = some (.ptr b (o + 2)) := by simp [afieldAddr, ty135, Tab.size, ty9]
@[go_sem] theorem bd135 {parts : List (Nat × AV)} : abuild tab 135 parts = if parts.any (·.2.israw) = true then none else (afill (fun i => ([(0, 1), (1, 1), (2, 1)] : List (Nat × Nat))[i]?) [.int .i64 0, .int .i64 0, .str []] parts).map .agg := abuild_struct ty135 rfl rfl (by simp [Tab.size, ty3, ty9])
@[go_sem] theorem ld135 {x : AV} {s : AHeap} : aload tab 135 x s = (acellsAt s x).bind fun cs => if 3 ≤ cs.length then some (.agg (cs.take 3)) else none := by rw [aload_agg ty135 rfl]
@[go_sem] theorem st135 {b o : Nat} {v : AV} {s : AHeap} : astore tab 135 (.ptr b o) v s = astoreAt s b o 3 v := by rw [astore_ptr ty135]
@[go_sem] theorem len189r {z b o n : Nat} : alen tab 189 (.rs z b o n) = some (.int .i64 n) := by simp [alen, ty189]
@[go_sem] theorem bs189 {s : AHeap} {n : Nat} {parts : List (Nat × AV)} (hn : n = parts.length) (hs : seqp 1 0 parts) (hb : n ≤ 1000) : abuildSlice tab false 189 n parts s = some (.rs 1 s.nx 0 n, s.new (.cells ((parts.map (·.2)).flatMap AV.cells) (some 9))) := abuildSlice_seq ty189 rfl ty9 rfl rfl hn hs (show n * 1 ≤ 16777216 by omega)
end Go.S1N
end
section
namespace Go.S1N
open Go Go.Am Go.Proofs Go.S1
set_option maxRecDepth 100000
abbrev _root_.Go.Am.Gob (f n : Nat) (c : LCode) (r : List ResultVar) : Prop := ∀ {args : List AV} {s : AHeap} {R : AV → AHeap → Prop}, args.length ≤ n → (∀ tm, tm.length = n → (∀ i, aev tm (.tmp i) = args.getD i aundef) → lvb Tryz.prog tab s c (lpostB tab s r R) tm (loc s 0 [])) → ACall Tryz.prog f args s R
theorem gob9 : Gob 9 18 L9 [.tmp 4] := fun hl h => ACall.goB tab_ok mixed Tryz.func9 l9 nm9 (by kernel_rfl) (by kernel_rfl) hl h
theorem gob13 : Gob 13 61 L13 [.tmp 4] := fun hl h => ACall.goB tab_ok mixed Tryz.func13 l13 nm13 (by kernel_rfl) (by kernel_rfl) hl h
theorem gob33 : Gob 33 19 L33 [.tmp 6] := fun hl h => ACall.goB tab_ok mixed Tryz.func33 l33 nm33 (by kernel_rfl) (by kernel_rfl) hl h
theorem gob10 : Gob 10 9 L10 [.tmp 4] := fun hl h => ACall.goB tab_ok mixed Tryz.func10 l10 nm10 (by kernel_rfl) (by kernel_rfl) hl h
theorem gob18 : Gob 18 12 L18 [.tmp 4] := fun hl h => ACall.goB tab_ok mixed Tryz.func18 l18 nm18 (by kernel_rfl) (by kernel_rfl) hl h
theorem gob39 : Gob 39 12 L39 [.tmp 4] := fun hl h => ACall.goB tab_ok mixed Tryz.func39 l39 nm39 (by kernel_rfl) (by kernel_rfl) hl h
theorem gob50 : Gob 50 39 L50 [.cell 4 44] := fun hl h => ACall.goB tab_ok mixed Tryz.func50 l50 nm50 (by kernel_rfl) (by kernel_rfl) hl h
theorem gob75 : Gob 75 64 L75 [.tmp 4] := fun hl h => ACall.goB tab_ok mixed Tryz.func75 l75 nm75 (by kernel_rfl) (by kernel_rfl) hl h
theorem gob78 : Gob 78 17 L78 [.tmp 4] := fun hl h => ACall.goB tab_ok mixed Tryz.func78 l78 nm78 (by kernel_rfl) (by kernel_rfl) hl h
theorem gob86 : Gob 86 19 L86 [.tmp 4, .tmp 5] := fun hl h => ACall.goB tab_ok mixed Tryz.func86 l86 nm86 (by kernel_rfl) (by kernel_rfl) hl h
end Go.S1N
end
section
namespace Go.S1N
open Go Go.Am Go.Proofs Go.S1
set_option maxRecDepth 100000
theorem exact_of {P : Program} {f : FuncId} {args : List AV} {s : AHeap} {v : AV} (hv : Pu v) (h : ACall P f args s fun r t => r = v ∧ Sub s t) : ACall P f args s fun r t => r = v ∧ t = s := by
  refine h.clean ?_
  rintro r t ⟨rfl, ht⟩ B hB K w us hw hvs hx
  have hlt : ∀ b o, s.get b = some o → b < s.nx := by
    intro b o h
    obtain ⟨rfl, hBw, _⟩ := hB
    obtain ⟨g, base, q1, _⟩ := hBw.own b o h
    exact (hBw.bnd _ _ _ q1).1
  obtain ⟨K', h1, h2, h3⟩ := rename_core (s' := s) hB hw hx (f := fun b => if b < s.nx then b else b + t.nx) (fun b hb => if_pos hb) (by intro b hb; rw [if_neg (by omega)]; omega) (Nat.le_refl _)
    (fun b o h => .inr ⟨hlt b o h, ht.2 b o (hlt b o h) h, h⟩)
    (by intro b b' o o' h h' e; rwa [if_pos (hlt b o h), if_pos (hlt b' o' h')] at e)
  cases hvs with
  | cons _ u _ us hu hs' =>
    cases hs'
    refine ⟨K', [r], s, h1, .cons _ _ _ _ (h3 _ _ ?_) .nil, h2, r, rfl, rfl, rfl⟩
    rw [ren_pu hv]
    exact hu
theorem _root_.Go.S1.Ed.pu (e : Ed) : Pu e.enc := by simp only [Pu, Ed.enc, low, lowL, and_self]
theorem _root_.Go.S1.SlE.pu {v : AV} {l : List Ed} (h : SlE v l) : Pu v := by
  rcases h with ⟨f, rfl⟩ | ⟨rfl, rfl⟩
  · simp only [Pu, low, lowL_iff, List.mem_map]
    rintro x ⟨e, _, rfl⟩
    exact Ed.pu e
  · simp only [Pu, low]
end Go.S1N
end
section
namespace Go.S1N
open Go Go.Am Go.Proofs Go.S1
open Go.Proofs.YtinoecojbflpfaaGreatDoor
open Go.ChangeShapes Go.WideShapes Go.ChangeAt Go.RowKit
open Go.ChangeMaps (open_string shut_string)
set_option maxRecDepth 100000
theorem own : ownKnob Tryz.prog.godebug = none := by kernel_rfl
theorem laidOut : laidOutB Tryz.prog = true := by kernel_rfl
def IsRow (w : World) (a : Option Addr) (len cap : Nat) (zs : List Int) : Prop :=
  (a = none ∧ len = 0 ∧ cap = 0) ∨
  ∃ x, a = some x ∧ len ≤ cap ∧ cap ≤ maxLen ∧ zs.length = cap ∧ (∀ i, i < zs.length → w.cell? (x.add i) = some (.int .i64 (zs.getD i 0)))
def GlobW (W : World) : Prop := ∀ g l, globAt globs g = some l → (∀ i k n, l[i]? = some (.int k n) → W.cell? ⟨g, i, none⟩ = some (.int k n)) ∧ ∃ arr T fz, W.heap[g]? = some (.cells arr T fz) ∧ arr.size = l.length
def IsAv (v : AV) (l : List Int) : Prop := (∃ g, v = .av g l) ∨ ((v = .nils ∨ v = .vs 1 false []) ∧ l = [])
theorem IsAv.ints {v : AV} {l : List Int} (h : IsAv v l) : IsInts v l := by
  rcases h with ⟨g, rfl⟩ | ⟨rfl | rfl, rfl⟩
  · exact .inr (.inr ⟨g, rfl⟩)
  · exact .inr (.inl ⟨rfl, rfl⟩)
  · exact .inl ⟨false, rfl⟩
theorem law_callsA {n : Nat} {fn : Func} {c : Code} (hf : Tryz.prog.funcs[n]? = some fn) (hb : fn.body = some c) (hn : (fn.name == "runtime.NumGoroutine") = false)
    (h : ∀ v L, IsAv v L → L.length < 4611686018427387904 → ∀ s, ACall Tryz.prog n [v] s fun r t => r = .bool true ∧ t = s) {W : World} (hG : GlobW W) {a : Option Addr} {len cap : Nat} {zs : List Int} (hr : IsRow W a len cap zs) (hlen : len < 4611686018427387904) :
    Calls Tryz.prog n #[.slice a len cap] W fun e W' => e = .returned (.bool true) ∧ Below W.heap.size W W' := by
  have key : ∀ (K : Know) (v : AV) (L : List Int), (∀ b, K.phi b = none) → GlobK K → WR K .empty W → RV K v (.slice a len cap) → IsAv v L → L.length < 4611686018427387904 →
      Calls Tryz.prog n #[.slice a len cap] W fun e W' => e = .returned (.bool true) ∧ Below W.heap.size W W' := by
    intro K v L hphi hGK hw hv hi hl
    have := h v L hi hl .empty K W [.slice a len cap] hGK hw (.cons _ _ _ _ hv .nil)
    have hrun : (callFunc n [Value.slice a len cap].toArray).run Tryz.prog W = .ok (.enter n #[.slice a len cap]) W := by
      have hn' : ¬ fn.name = "runtime.NumGoroutine" := by simpa using hn
      simp [callFunc, hf, hb, hn']
    rw [hrun] at this
    simp only at this
    refine this.mono ?_
    rintro e w' ⟨u, r, K', s', rfl, q1, q2, q3, rfl, q5⟩
    cases q1
    refine ⟨rfl, q3.os, q3.tape, q3.output, q3.size, fun g hg => q3.block g hg ?_⟩
    rintro ⟨b, o, base, e, _⟩
    rw [AHeap.get_empty] at e
    cases e
  have he : ∀ {x : Nat} {o : AObj} {p : Prop}, AHeap.empty.get x = some o → p := by
    intro x o p e
    rw [AHeap.get_empty] at e
    cases e
  have hGK : GlobK ⟨fun _ => none, fun g o => W.cell? ⟨g, o, none⟩, fun g => (globAt globs g).map List.length⟩ := fun g l e => ⟨(hG g l e).1, by show Option.map List.length (globAt globs g) = _; rw [e]; rfl⟩
  have hW : WR ⟨fun _ => none, fun g o => W.cell? ⟨g, o, none⟩, fun g => (globAt globs g).map List.length⟩ .empty W :=
    ⟨fun _ _ _ e => e, fun g n e => (by
      obtain ⟨l, e1, rfl⟩ := Option.map_eq_some_iff.1 e
      exact (hG g l e1).2), fun _ _ e => he e, fun _ _ _ _ _ _ _ e => he e, fun _ _ _ _ e => he e, fun _ _ _ e => (by cases e)⟩
  rcases hr with ⟨rfl, rfl, rfl⟩ | ⟨x, rfl, h1, h2, h3, h4⟩
  · exact key _ .nils [] (fun _ => rfl) hGK hW .nils (.inr ⟨.inl rfl, rfl⟩) (by simp)
  · by_cases h0 : len = 0
    · subst h0
      exact key _ (.vs 1 false []) [] (fun _ => rfl) hGK hW (.vs _ _ _ x 0 cap [] rfl .nil (fun _ q => by cases q) (Nat.zero_le _) (fun q => by cases q) (fun i u q => by simp at q)) (.inr ⟨.inr rfl, rfl⟩) (by simp)
    · have hsp : x.spot = none := by
        have h0 := h4 0 (by omega)
        unfold World.cell? Addr.add at h0
        rw [if_pos rfl] at h0
        cases hs : x.spot with
        | none => rfl
        | some y =>
          exfalso
          split at h0
          · simp [hs] at h0
          · cases h0
      obtain ⟨b, o, sp⟩ := x
      simp only at hsp
      subst hsp
      refine key _ (.av b (zs.take len)) (zs.take len) (fun _ => rfl) hGK hW (.av _ _ o len cap (by simp; omega) h1 ?_) (.inl ⟨b, rfl⟩) (by simp only [List.length_take]; omega)
      intro i z q1
      rw [List.getElem?_take] at q1
      split at q1
      · have hc := h4 i (by omega)
        show W.cell? ⟨b, o + i, none⟩ = _
        have hz : zs.getD i 0 = z := by rw [List.getD_eq_getElem?_getD, q1]; rfl
        rw [hz] at hc
        rw [← hc]
        congr 1
        unfold Addr.add
        split
        · rename_i hi0
          subst hi0
          rfl
        · rfl
      · cases q1
theorem law_calls {n : Nat} {fn : Func} {c : Code} (hf : Tryz.prog.funcs[n]? = some fn) (hb : fn.body = some c) (hn : (fn.name == "runtime.NumGoroutine") = false)
    (h : ∀ v L, IsInts v L → L.length < 4611686018427387904 → ∀ s, ACall Tryz.prog n [v] s fun r t => r = .bool true ∧ t = s) {W : World} (hG : GlobW W) {a : Option Addr} {len cap : Nat} {zs : List Int} (hr : IsRow W a len cap zs) (hlen : len < 4611686018427387904) :
    Calls Tryz.prog n #[.slice a len cap] W fun e W' => e = .returned (.bool true) ∧ Below W.heap.size W W' :=
  law_callsA hf hb hn (fun v L q => h v L q.ints) hG hr hlen
theorem ints_small {H : Type} {enc : TypeId × Value → H} {W : World} {base : Nat} {spare : Nat → Bool} {held : Bool} {a : Option Addr} {len cap : Nat} {d : DataW H} {ps : List MemPlace} {ts : List TypeId} {ds : List (DataW H)}
    (hsz : (DataW.weightsEach Tryz.prog ts ds).all (· ≤ reachBytes) = true) (ht : ts[0]? = some 22) (hd : ds[0]? = some d) (h : DataW.Trod enc Tryz.prog W base spare held 22 (.slice a len cap) d ps) : len < 4611686018427387904 := by
  have hB : Tryz.prog.bytesOf 3 = 8 := by kernel_rfl
  obtain ⟨fuel, hf⟩ := h
  rcases open_ints Tryz.underlying22 Tryz.underlying3 (by kernel_rfl) hf with ⟨hcs, _⟩ | ⟨x, l, c, zs, hcs, _, hl, _, hz, hx, _, _⟩
  · simp [Value.cells] at hcs
    omega
  · simp [Value.cells] at hcs
    obtain ⟨_, hle, hce⟩ := hcs
    obtain ⟨hx1, _⟩ := Prod.mk.inj hx
    subst hx1
    have hw := sized_slice hsz ht hd Tryz.underlying22
    have hlz : len ≤ zs.length := by
      rw [hz, hle]
      split <;> omega
    have hsum : (lits (H := H) .i64 (zs.take l)).length + (lits (H := H) .i64 (zs.drop l)).length = zs.length := by
      simp only [lits, List.length_map, List.length_take, List.length_drop]
      omega
    rw [hB, hsum] at hw
    have := reachBytes_lt
    omega
end Go.S1N
end
section
namespace Go.S1N
open Go Go.Am Go.Proofs Go.S1
open Go.Proofs.YtinoecojbflpfaaGreatDoor
open Go.ChangeShapes Go.WideShapes Go.ChangeAt Go.RowKit
set_option maxRecDepth 100000
theorem glob_one {W : World} {laid : List (String × DataW Unit)} (hL : laidMet Tryz.prog laid W) {x : String} {g0 t0 e n : Nat} {k : IntKind} {zs : List Int} (hm : (x, Lib.tabData k zs) ∈ laid)
    (hg0 : Tryz.prog.globalNamed x = some g0) (ht0 : (Tryz.prog.globals[g0]?).map (·.type) = some t0) (hu : Tryz.prog.underlying t0 = some (.array n e)) (he : Tryz.prog.underlying e = some (.int k)) (hce : Tryz.prog.cellsOf e = 1) (hct : Tryz.prog.cellsOf t0 = n) :
    (∀ i k' z, (zs.map (AV.int k))[i]? = some (.int k' z) → W.cell? ⟨g0, i, none⟩ = some (.int k' z)) ∧ ∃ arr T fz, W.heap[g0]? = some (.cells arr T fz) ∧ arr.size = (zs.map (AV.int k)).length := by
  obtain ⟨g, t, cs, fuel, p, h1, h2, h3, h4⟩ := Lib.laidMet.reads hL hm
  obtain rfl := Option.some.inj (hg0.symm.trans h1)
  obtain rfl := Option.some.inj (ht0.symm.trans h2)
  have ht := Lib.cells_of_tab hu he hce hct h4
  refine ⟨fun i k' z hi => ?_, ?_⟩
  · have hcell := World.var?_cell h1 h3 i
    rw [hcell, ← Array.getElem?_toList, ht]
    rw [List.getElem?_map] at hi ⊢
    obtain ⟨q, hz, hz2⟩ := Option.map_eq_some_iff.1 hi
    cases hz2
    rw [hz]; rfl
  · simp only [World.var?, h1, Option.bind_some] at h3
    split at h3
    · rename_i c T fr hb
      cases h3
      refine ⟨_, _, _, hb, ?_⟩
      have := congrArg List.length ht
      simpa using this
    · cases h3
theorem gTab : Tryz.prog.globalNamed "math/bits.deBruijn64tab" = some 1 := by kernel_rfl
theorem tTab : (Tryz.prog.globals[1]?).map (·.type) = some 285 := by kernel_rfl
theorem gPow : Tryz.prog.globalNamed "internal/strconv.uint64pow10" = some 2 := by kernel_rfl
theorem tPow : (Tryz.prog.globals[2]?).map (·.type) = some 288 := by kernel_rfl
theorem glob_of_laid {W : World} {laid : List (String × DataW Unit)} (hL : laidMet Tryz.prog laid W) (hm : ("math/bits.deBruijn64tab", Rows.laid_math_bits_deBruijn64tab) ∈ laid) (hm2 : ("internal/strconv.uint64pow10", Rows.laid_internal_strconv_uint64pow10) ∈ laid) : GlobW W := by
  intro g l hl
  unfold globs at hl
  simp only [globAt] at hl
  split at hl
  · rename_i hb
    have e := Nat.eq_of_beq_eq_true hb
    subst e
    cases hl
    exact glob_one hL hm gTab tTab Tryz.underlying285 Tryz.underlying5 (by kernel_rfl) (by kernel_rfl)
  · split at hl
    · rename_i hb
      have e := Nat.eq_of_beq_eq_true hb
      subst e
      cases hl
      exact glob_one hL hm2 gPow tPow Tryz.underlying288 Tryz.underlying246 (by kernel_rfl) (by kernel_rfl)
    · cases hl
theorem goes_none {P : Program} (h : (P.funcs.toList.all fun fn => !fn.goes) = true) (c : OpenClaim) (hs : c.start = .entering) : false = c.goesBy P := by
  have hf : ∀ fn ∈ P.funcs, fn.goes = false := fun fn hm => by simpa using List.all_eq_true.1 h fn (by simpa using hm)
  have hg : ∀ g : Nat, (P.funcs[g]?).any Func.goes = false := fun g => by
    cases e : P.funcs[g]? with
    | none => rfl
    | some fn => exact hf fn (Array.mem_of_getElem? e)
  have h1 : ∀ f, P.goes f = false := fun f => by
    unfold Program.goes
    have a : P.funcs.any Func.goes = false := by
      rw [Bool.eq_false_iff]
      intro hc
      obtain ⟨i, hi, hx⟩ := Array.any_eq_true.1 hc
      rw [hf _ (Array.getElem_mem hi)] at hx
      cases hx
    simp only [hg, a, Bool.and_false, Bool.or_false]
    simp
  unfold OpenClaim.goesBy Program.goesAt Program.goesFrom
  rw [hs]
  cases e : P.funcNamed c.func with
  | none => rfl
  | some f => simp [h1]
theorem nobody_goes : (Tryz.prog.funcs.toList.all fun fn => !fn.goes) = true := by kernel_rfl
end Go.S1N
end
section
namespace Go.S1N
open Go Go.Am Go.Proofs Go.S1
set_option maxRecDepth 100000
attribute [local go_sem] Nat.reduceLT Nat.reduceEqDiff Nat.reduceAdd Nat.reduceLeDiff reduceIte reduceCtorEq
attribute [local irreducible] lopsB lvb lstepB lfunG lcondB lguardB lguardU ldguardU ldrawB ldrunB ldstepB ldguardB lmem lval ldmem ldval ldfun lexit ldloadB ldlenB lpostB athen ablock
def strm (Lv : AV) (at_ : Int) : AObj := .cells [Lv, .int .i64 at_] (some 25)
theorem _root_.Go.S1.IsInts.pu {v : AV} {l : List Int} (h : IsInts v l) : Pu v := by
  rcases h with ⟨f, rfl⟩ | ⟨rfl, rfl⟩ | ⟨g, rfl⟩
  · simp only [Pu, low, lowL_iff, List.mem_map]
    rintro x ⟨e, _, rfl⟩
    simp only [low]
  · simp only [Pu, low]
  · simp only [Pu, low]
structure Sm (s : AHeap) (b : Nat) (Lv : AV) (L : List Int) (at_ : Int) : Prop where
  ints : IsInts Lv L
  len : L.length < 4611686018427387904
  at0 : 0 ≤ at_
  at1 : at_ < 4000000000000000000
  lt : b < s.nx
  get : s.get b = some (strm Lv at_)
theorem Sm.lowO {s : AHeap} {b : Nat} {Lv : AV} {L : List Int} {at_ : Int} (h : Sm s b Lv L at_) {n : Nat} {a : Int} : lowO n (strm Lv a) := by
  simp only [strm, Am.lowO, lowL, low, and_true]
  exact low.mono (Nat.zero_le _) h.ints.pu
theorem Sm.upd {s : AHeap} {b : Nat} {Lv : AV} {L : List Int} {at_ a : Int} (h : Sm s b Lv L at_) (h0 : 0 ≤ a) (h1 : a < 4000000000000000000) : Sm (s.upd b (strm Lv a)) b Lv L a :=
  ⟨h.ints, h.len, h0, h1, by rw [AHeap.nx_upd]; exact h.lt, get_upd_same⟩
theorem Sm.loc {s : AHeap} {b : Nat} {Lv : AV} {L : List Int} {at_ : Int} (h : Sm s b Lv L at_) {n : Nat} {l : List (Nat × Option AObj)} : Sm (loc s n l) b Lv L at_ :=
  ⟨h.ints, h.len, h.at0, h.at1, by rw [nx_loc]; exact lt_nm h.lt, by rw [get_loc_out h.lt]; exact h.get⟩
theorem nextS {s : AHeap} {b : Nat} {Lv : AV} {L : List Int} {at_ : Int} (h : Sm s b Lv L at_) (n : Int) :
    ACall Tryz.prog 75 [.ptr b 0, .int .i64 n] s fun v t => v = .int .i64 (nextOf L at_ n) ∧ t = s.upd b (strm Lv (at_ + 1)) := by
  refine gob75 (by simp) ?_
  intro tm hlen harg
  have hb := h.lt
  have hg := h.get
  have hlow := h.lowO (n := s.nx) (a := at_ + 1)
  have hL := h.ints
  have h0 := h.at0
  have e1 : IntKind.i64.wrap (at_ + 1) = at_ + 1 := wrap_id (by have := h.at1; omega)
  have hll := h.len
  rw [strm] at hg
  simp only [strm] at hlow ⊢
  simp +contextual only [go_sem, L75, hlen, harg, hb, hg, e1, hL.len, cdD, cdN, gdT, gdF, gdD]
  refine ⟨fun hz => ?_, fun hz => ?_⟩
  · have hL0 : L = [] := List.eq_nil_of_length_eq_zero (by omega)
    refine lfunG_eq (below_ok _ _ _) ?_
    simp +contextual only [go_sem, hlen, cdD, cdN, gdT, gdF, gdD]
    subst hL0
    refine lexit_pure ((OKo.refl s).upd hb hlow) (by simp only [low]) ⟨?_, rfl⟩
    simp [nextOf, e1, wr]
  · have hL0 : L ≠ [] := by rintro rfl; simp at hz
    have hlz : (L.length : Int) ≠ 0 := hz
    have e2 : IntKind.i64.wrap (at_ + 1 - 1) = at_ := by rw [wrap_id (by have := h.at1; omega)]; omega
    refine ldrawB_go [] [] 10 (by decide) ?_
    simp +contextual only [go_sem, hlen, harg, hb, hg, e1, e2, hL.len, abin_rem hlz, cdD, cdN, gdT, gdF, gdD]
    refine ⟨by kernel_rfl, ?_⟩
    refine ldrawB_go [] [] 10 (by decide) ?_
    simp +contextual only [go_sem, hlen, harg, hb, hg, e1, e2, hL.len, abin_quo hlz, cdD, cdN, gdT, gdF, gdD]
    refine ⟨by kernel_rfl, ?_⟩
    have hi0 : 0 ≤ at_.tmod L.length := Int.tmod_nonneg _ h0
    have hi1 : at_.tmod L.length < L.length := Int.tmod_lt_of_pos _ (by omega)
    obtain ⟨x, hx⟩ : ∃ x, L[(at_.tmod L.length).toNat]? = some x := ⟨_, List.getElem?_eq_getElem (by omega)⟩
    simp +contextual only [go_sem, hlen, harg, hb, hg, e1, e2, hL.len, hL.at hi0 hx, cdD, cdN, gdT, gdF, gdD]
    refine lfunG_eq (below_ok _ _ _) ?_
    simp +contextual only [go_sem, hlen, harg, cdD, cdN, gdT, gdF, gdD]
    refine lfunG_eq (below_ok _ _ _) ?_
    simp +contextual only [go_sem, hlen, cdD, cdN, gdT, gdF, gdD]
    refine lexit_pure ((OKo.refl s).upd hb hlow) (by simp only [low]) ⟨?_, rfl⟩
    have hx' : L.getD (at_.tmod L.length).toNat 0 = x := by rw [List.getD_eq_getElem?_getD, hx]; rfl
    simp only [nextOf, if_neg hL0, wr, e1, e2, hx']
theorem flipS {s : AHeap} {b : Nat} {Lv : AV} {L : List Int} {at_ : Int} (h : Sm s b Lv L at_) (n : Int) :
    ACall Tryz.prog 10 [.ptr b 0, .int .i64 n] s fun v t => v = .bool (decide (nextOf L at_ n = 0)) ∧ t = s.upd b (strm Lv (at_ + 1)) := by
  refine gob10 (by simp) ?_
  intro tm hlen harg
  have hb := h.lt
  simp +contextual only [go_sem, L10, hlen, harg, cdD, cdN, gdT, gdF, gdD]
  refine lfunG_eq (nextS h.loc _) ?_
  simp +contextual only [go_sem, hlen, hb, cdD, cdN, gdT, gdF, gdD]
  exact lexit_pure ((OKo.refl s).upd hb h.lowO) (by simp only [low]) ⟨rfl, rfl⟩
theorem rangeS {s : AHeap} {b : Nat} {Lv : AV} {L : List Int} {at_ : Int} (h : Sm s b Lv L at_) (lo hi : Int) (hlh : lo ≤ hi) (hhi : hi < 2000000000000000000) (hl2 : -2000000000000000000 < lo) :
    ACall Tryz.prog 33 [.ptr b 0, .int .i64 lo, .int .i64 hi] s fun v t => v = .int .i64 (lo + nextOf L at_ (hi - lo + 1)) ∧ t = s.upd b (strm Lv (at_ + 1)) := by
  refine gob33 (by simp) ?_
  intro tm hlen harg
  have hb := h.lt
  have e1 : IntKind.i64.wrap (hi - lo) = hi - lo := wrap_id (by omega)
  have e2 : IntKind.i64.wrap (hi - lo + 1) = hi - lo + 1 := wrap_id (by omega)
  have hbd := nextOf_lt L at_ (show 1 ≤ hi - lo + 1 by omega) (by omega)
  have e3 : IntKind.i64.wrap (lo + nextOf L at_ (hi - lo + 1)) = lo + nextOf L at_ (hi - lo + 1) := wrap_id (by omega)
  have hlt : ¬ hi < lo := by omega
  simp +contextual only [go_sem, L33, hlen, harg, e1, e2, hlt, cdD, cdN, gdT, gdF, gdD]
  refine lfunG_eq (nextS h.loc _) ?_
  simp +contextual only [go_sem, hlen, harg, hb, e3, cdD, cdN, gdT, gdF, gdD]
  exact lexit_pure ((OKo.refl s).upd hb h.lowO) (by simp only [low]) ⟨rfl, rfl⟩
theorem pickS {s : AHeap} {b : Nat} {Lv : AV} {L : List Int} {at_ : Int} (h : Sm s b Lv L at_) (c : Nat) (l : List Int) (To : Option TypeId) (hl : l ≠ []) (hl2 : l.length < 1000) (hc : s.get c = some (.cells (l.map (AV.int .i64)) To)) (hne : c ≠ b) (hcn : c < s.nx) :
    ACall Tryz.prog 18 [.ptr b 0, .rs 1 c 0 l.length] s fun v t => v = .int .i64 (l.getD (nextOf L at_ l.length).toNat 0) ∧ t = s.upd b (strm Lv (at_ + 1)) := by
  refine gob18 (by simp) ?_
  intro tm hlen harg
  have hb := h.lt
  have hpos : 0 < l.length := List.length_pos_iff.2 hl
  have hbd := nextOf_lt L at_ (n := l.length) (by omega) (by omega)
  obtain ⟨x, hx⟩ : ∃ x, l[(nextOf L at_ l.length).toNat]? = some x := ⟨_, List.getElem?_eq_getElem (by omega)⟩
  have hgc : (s.upd b (strm Lv (at_ + 1))).get c = some (.cells (l.map (AV.int .i64)) To) := by rw [AHeap.get_upd, if_neg hne, hc]
  have hd : (List.drop (nextOf L at_ l.length).toNat (l.map (AV.int .i64)))[0]? = some (.int .i64 x) := by simp [hx]
  simp +contextual only [go_sem, L18, hlen, harg, cdD, cdN, gdT, gdF, gdD]
  refine lfunG_eq (nextS h.loc _) ?_
  simp +contextual only [go_sem, hlen, harg, hb, hcn, rs_at hbd.1 hbd.2, hgc, hd, cdD, cdN, gdT, gdF, gdD]
  refine lexit_pure ((OKo.refl s).upd hb h.lowO) (by simp only [low]) ⟨?_, rfl⟩
  rw [List.getD_eq_getElem?_getD, hx]
  rfl
theorem someS {s : AHeap} {b : Nat} {Lv : AV} {L : List Int} {at_ : Int} (h : Sm s b Lv L at_) (c : Nat) (l : List (List UInt8)) (To : Option TypeId) (hl : l ≠ []) (hl2 : l.length < 1000) (hc : s.get c = some (.cells (l.map AV.str) To)) (hne : c ≠ b) (hcn : c < s.nx) :
    ACall Tryz.prog 39 [.ptr b 0, .rs 1 c 0 l.length] s fun v t => v = .str (l.getD (nextOf L at_ l.length).toNat []) ∧ t = s.upd b (strm Lv (at_ + 1)) := by
  refine gob39 (by simp) ?_
  intro tm hlen harg
  have hb := h.lt
  have hpos : 0 < l.length := List.length_pos_iff.2 hl
  have hbd := nextOf_lt L at_ (n := l.length) (by omega) (by omega)
  obtain ⟨x, hx⟩ : ∃ x, l[(nextOf L at_ l.length).toNat]? = some x := ⟨_, List.getElem?_eq_getElem (by omega)⟩
  have hgc : (s.upd b (strm Lv (at_ + 1))).get c = some (.cells (l.map AV.str) To) := by rw [AHeap.get_upd, if_neg hne, hc]
  have hd : (List.drop (nextOf L at_ l.length).toNat (l.map AV.str))[0]? = some (.str x) := by simp [hx]
  simp +contextual only [go_sem, L39, hlen, harg, cdD, cdN, gdT, gdF, gdD]
  refine lfunG_eq (nextS h.loc _) ?_
  simp +contextual only [go_sem, hlen, harg, hb, hcn, rs_at63 hbd.1 hbd.2, hgc, hd, cdD, cdN, gdT, gdF, gdD]
  refine lexit_pure ((OKo.refl s).upd hb h.lowO) (by simp only [low]) ⟨?_, rfl⟩
  rw [List.getD_eq_getElem?_getD, hx]
  rfl
end Go.S1N
end
section
namespace Go.S1N
open Go Go.Am Go.Proofs Go.S1
set_option maxRecDepth 100000
attribute [local go_sem] Nat.reduceLT Nat.reduceEqDiff Nat.reduceAdd Nat.reduceLeDiff reduceIte reduceCtorEq
attribute [local irreducible] lopsB lvb lstepB lfunG lcondB lguardB lguardU ldguardU ldrawB ldrunB ldstepB ldguardB lmem lval ldmem ldval ldfun lexit ldloadB ldlenB lpostB athen ablock
theorem lettersS {s : AHeap} {b : Nat} {Lv : AV} {L : List Int} {at_ : Int} (h : Sm s b Lv L at_) (h1 : at_ < 3000000000000000000) (most : Int) (hm0 : 0 ≤ most) (hm : most ≤ 1000) :
    ACall Tryz.prog 9 [.ptr b 0, .int .i64 most] s fun v t => ∃ (x : List UInt8) (k : Nat), v = .str x ∧ x.length ≤ most ∧ k ≤ most + 1 ∧ t = s.upd b (strm Lv (at_ + k)) := by
  refine gob9 (by simp) ?_
  intro tm hlen harg
  have hb := h.lt
  simp +contextual only [go_sem, L9, hlen, harg, cdD, cdN, gdT, gdF, gdD]
  refine lfunG_eq (rangeS h.loc 0 most hm0 (by omega) (by omega)) ?_
  have hN := nextOf_lt L at_ (show 1 ≤ most - 0 + 1 by omega) (by omega)
  generalize nextOf L at_ (most - 0 + 1) = N at hN
  simp +contextual only [go_sem, hlen, harg, hb, Int.zero_add, cdD, cdN, gdT, gdF, gdD]
  refine ⟨Nat × List UInt8, fun a => [(0, .ptr b 0), (5, .str a.2), (8, .int .i64 N), (9, .int .i64 a.1)], fun a => loc (s.upd b (strm Lv (at_ + 1 + a.1))) 0 [], fun a => (a.1 : Int) ≤ N ∧ a.2.length ≤ a.1, fun a => N.toNat - a.1, (0, []),
    ⟨by simp; omega, by simp⟩, ?_, ?_⟩
  · refine To.go [] [] (by simp) ((OKo.refl s).upd hb h.lowO) (by decide) (by simp) ?_ trivial
    simp +contextual only [go_sem, hlen, harg, rnm_low hb, cdD, cdN, gdT, gdF, gdD]
    simp
  · rintro ⟨i, x⟩ tm1 ⟨hi, hx⟩ hlen1 hlv
    simp only [go_sem, hlen, cdD, cdN, gdT, gdF, gdD] at hlen1 hlv hi hx
    have hS := (h.upd (a := at_ + 1 + i) (by have := h.at0; omega) (by omega)).loc (n := 1) (l := [(0, some (.cells [.str [97], .str [98], .str [99], .str [97], .str [10]] (some 9)))])
    simp +contextual only [go_sem, hlen, hlen1, hlv, cdD, cdN, gdT, gdF, gdD]
    refine ⟨fun hlt => ?_, fun hge => ?_⟩
    · refine lfunG_eq (someS hS (nm s.nx 0) [[97], [98], [99], [97], [10]] (some 9) (by simp) (by simp) (by simp only [go_sem, List.map_cons, cdD, cdN, gdT, gdF, gdD]) (by rw [ne_eq, nm_ne hb]; simp) (by simp only [go_sem, cdD, cdN, gdT, gdF, gdD])) ?_
      have hy : ∀ j, ([[97], [98], [99], [97], [10]].getD j ([] : List UInt8)).length ≤ 1 := by
        intro j
        rcases j with _ | _ | _ | _ | _ | j <;> simp
      generalize (nextOf L (at_ + 1 + i) _).toNat = j
      have hyj := hy j
      generalize [[97], [98], [99], [97], [10]].getD j ([] : List UInt8) = y at hyj
      have hw : IntKind.i64.wrap ((i : Int) + 1) = ((i + 1 : Nat) : Int) := by rw [wrap_id (by omega)]; rfl
      simp +contextual only [go_sem, hlen, hlen1, hlv, hb, hw, abin_sadd (show x.length + y.length ≤ 9000000000000000000 by omega), cdD, cdN, gdT, gdF, gdD]
      refine ⟨(i + 1, x ++ y), ⟨by simp only; omega, by simp only [List.length_append]; omega⟩, by simp only; omega, ?_⟩
      refine To.go [] [] (by show loc (s.upd b (strm Lv (at_ + 1 + ((i + 1 : Nat) : Int)))) 0 [] = _; rw [show at_ + 1 + ((i + 1 : Nat) : Int) = at_ + 1 + i + 1 from by omega]; rfl) ((OKo.refl s).upd hb h.lowO) (by decide) (by simp) ?_ trivial
      simp +contextual only [go_sem, hlen1, hlv, rnm_low hb, cdD, cdN, gdT, gdF, gdD]
    · refine lexit_pure ((OKo.refl s).upd hb h.lowO) (by simp only [low]) ⟨x, i + 1, rfl, by omega, by omega, ?_⟩
      congr 2
      omega
end Go.S1N
end
section
namespace Go.S1N
open Go Go.Am Go.Proofs Go.S1
set_option maxRecDepth 100000
attribute [local go_sem] Nat.reduceLT Nat.reduceEqDiff Nat.reduceAdd Nat.reduceLeDiff reduceIte reduceCtorEq
attribute [local irreducible] lopsB lvb lstepB lfunG lcondB lguardB lguardU ldguardU ldrawB ldrunB ldstepB ldguardB lmem lval ldmem ldval ldfun lexit ldloadB ldlenB lpostB athen ablock
theorem getD_le {l : List (List UInt8)} {k : Nat} (h : ∀ x ∈ l, x.length ≤ k) (j : Nat) : (l.getD j []).length ≤ k := by
  rw [List.getD_eq_getElem?_getD]
  cases hj : l[j]? with
  | none => simp
  | some x => exact h x (List.mem_of_getElem? hj)
theorem anEditS {s : AHeap} {b : Nat} {Lv : AV} {L : List Int} {at_ : Int} (h : Sm s b Lv L at_) (h1 : at_ < 3900000000000000000) (n : Int) :
    ACall Tryz.prog 50 [.ptr b 0, .int .i64 n] s fun v t => ∃ (e : Ed) (k : Nat), v = e.enc ∧ e.new.length ≤ 4 ∧ k ≤ 6 ∧ t = s.upd b (strm Lv (at_ + k)) := by
  refine gob50 (by simp) ?_
  intro tm hlen harg
  have hb := h.lt
  have h0 := h.at0
  simp +contextual only [go_sem, L50, hlen, harg, cdD, cdN, gdT, gdF, gdD]
  refine lfunG_eq (nextS h.loc _) ?_
  simp +contextual only [go_sem, hlen, harg, hb, cdD, cdN, gdT, gdF, gdD]
  refine lfunG_eq (pickS ((h.upd (by omega) (by omega)).loc) (nm s.nx 1) [0, 0, 1, 2, 5] (some 3) (by simp) (by simp) (by simp only [go_sem, List.map_cons, cdD, cdN, gdT, gdF, gdD]) (by rw [ne_eq, nm_ne hb]; simp) (by simp only [go_sem, cdD, cdN, gdT, gdF, gdD])) ?_
  simp +contextual only [go_sem, hlen, harg, hb, cdD, cdN, gdT, gdF, gdD]
  refine lfunG_eq (someS ((h.upd (by omega) (by omega)).loc) (nm s.nx 2) [[], [97], [32], [49], [43], [41], [35], [34], [97, 98, 32, 49], [46]] (some 9) (by simp) (by simp) (by simp only [go_sem, List.map_cons, cdD, cdN, gdT, gdF, gdD]) (by rw [ne_eq, nm_ne hb]; simp) (by simp only [go_sem, cdD, cdN, gdT, gdF, gdD])) ?_
  simp +contextual only [go_sem, hlen, harg, hb, cdD, cdN, gdT, gdF, gdD]
  refine lfunG_eq (flipS ((h.upd (by omega) (by omega)).loc) _) ?_
  have hS := getD_le (l := [[], [97], [32], [49], [43], [41], [35], [34], [97, 98, 32, 49], [46]]) (k := 4) (by simp) (nextOf L (at_ + 1 + 1) (([[], [97], [32], [49], [43], [41], [35], [34], [97, 98, 32, 49], [46]] : List (List UInt8)).length)).toNat
  generalize ([[], [97], [32], [49], [43], [41], [35], [34], [97, 98, 32, 49], [46]] : List (List UInt8)).getD _ [] = y at hS ⊢
  simp +contextual only [go_sem, hlen, harg, hb, cdD, cdN, gdT, gdF, gdD]
  refine ⟨fun hf => ?_, fun hf => ?_⟩
  · refine lfunG_eq (pickS ((h.upd (by omega) (by omega)).loc) (nm s.nx 4) [-1, _, _] (some 3) (by simp) (by simp) (by simp only [go_sem, List.map_cons, cdD, cdN, gdT, gdF, gdD]; rfl) (by rw [ne_eq, nm_ne hb]; simp) (by simp only [go_sem, cdD, cdN, gdT, gdF, gdD])) ?_
    simp +contextual only [go_sem, hlen, harg, hb, cdD, cdN, gdT, gdF, gdD]
    refine lfunG_eq (pickS ((h.upd (by omega) (by omega)).loc) (nm s.nx 5) [0, -1, _] (some 3) (by simp) (by simp) (by simp only [go_sem, List.map_cons, cdD, cdN, gdT, gdF, gdD]; rfl) (by rw [ne_eq, nm_ne hb]; simp) (by simp only [go_sem, cdD, cdN, gdT, gdF, gdD])) ?_
    simp +contextual only [go_sem, hlen, harg, hb, cdD, cdN, gdT, gdF, gdD]
    refine lexit_pure ((OKo.refl s).upd hb h.lowO) (by simp only [low, lowL, and_self]) ⟨⟨_, _, y⟩, 6, rfl, hS, by omega, ?_⟩
    congr 2
    omega
  · refine lexit_pure ((OKo.refl s).upd hb h.lowO) (by simp only [low, lowL, and_self]) ⟨⟨_, _, y⟩, 4, rfl, hS, by omega, ?_⟩
    congr 2
    omega
end Go.S1N
end
section
namespace Go.S1N
open Go Go.Am Go.Proofs Go.S1
set_option maxRecDepth 100000
attribute [local go_sem] Nat.reduceLT Nat.reduceEqDiff Nat.reduceAdd Nat.reduceLeDiff reduceIte reduceCtorEq
attribute [local irreducible] lopsB lvb lstepB lfunG lcondB lguardB lguardU ldguardU ldrawB ldrunB ldstepB ldguardB lmem lval ldmem ldval ldfun lexit ldloadB ldlenB lpostB athen ablock
def edc (l : List Ed) : List AV := (l.map Ed.enc).flatMap AV.cells
theorem edc_len (l : List Ed) : (edc l).length = l.length * 3 := by
  unfold edc
  induction l with
  | nil => rfl
  | cons e l ih => simp only [List.map_cons, List.flatMap_cons, List.length_append, ih, List.length_cons, Ed.enc, AV.cells, List.length_nil]; omega
theorem edc_snoc (l : List Ed) (e : Ed) : edc (l ++ [e]) = edc l ++ [.int .i64 e.at_, .int .i64 e.cut, .str e.new] := by
  simp [edc, Ed.enc, AV.cells]
theorem edc_pul (l : List Ed) : PuL (edc l) := by
  unfold edc
  induction l with
  | nil => simp only [List.map_nil, List.flatMap_nil, PuL, lowL]
  | cons e l ih =>
    rw [List.map_cons, List.flatMap_cons, PuL, lowL_append]
    exact ⟨by simp only [Ed.enc, AV.cells, lowL, low, and_self], ih⟩
def edv (l : List Ed) : AV := fsv 3 (l.map Ed.enc)
theorem edv_sl (l : List Ed) : SlE (edv l) l := by
  unfold edv
  cases l with
  | nil => exact .inr ⟨rfl, rfl⟩
  | cons e l => exact .inl ⟨false, fsv_pos (by simp)⟩
theorem edv_pu (l : List Ed) : Pu (edv l) := (edv_sl l).pu
theorem enc_len (l : List Ed) : ∀ x ∈ l.map Ed.enc, x.cells.length = 3 := by
  intro x hx
  obtain ⟨e, _, rfl⟩ := List.mem_map.1 hx
  rfl
theorem len_fz {b : Nat} {l : List Ed} : fz b 3 (l.map Ed.enc) (gsv 3 b l.length) = edv l := by
  rw [show l.length = (l.map Ed.enc).length from (List.length_map ..).symm, fz_gsv]; rfl
theorem len_fz1 {b : Nat} {l : List Ed} {e : Ed} : fz b 3 ((l ++ [e]).map Ed.enc) (.rs 3 b 0 (l.length + 1)) = edv (l ++ [e]) := by
  simp only [fz, List.length_map, List.length_append, List.length_cons, List.length_nil, Nat.zero_add, and_self, if_true, edv]
  rw [fsv_pos (by simp)]
theorem loc_at {s : AHeap} {b : Nat} {Lv : AV} {a a' : Int} {n : Nat} {l : List (Nat × Option AObj)} (h : a = a') : loc (s.upd b (strm Lv a)) n l = loc (s.upd b (strm Lv a')) n l := by rw [h]
theorem getI_le {l : List Int} {lo hi : Int} (h0 : lo ≤ 0 ∧ 0 ≤ hi) (h : ∀ x ∈ l, lo ≤ x ∧ x ≤ hi) (j : Nat) : lo ≤ l.getD j 0 ∧ l.getD j 0 ≤ hi := by
  rw [List.getD_eq_getElem?_getD]
  cases hj : l[j]? with
  | none => simpa using h0
  | some x => exact h x (List.mem_of_getElem? hj)
theorem changeS {s : AHeap} {b : Nat} {Lv : AV} {L : List Int} {at_ : Int} (h : Sm s b Lv L at_) (h1 : at_ < 3800000000000000000) (n : Int) :
    ACall Tryz.prog 13 [.ptr b 0, .int .i64 n] s fun v t => ∃ (l : List Ed) (k : Nat), v = edv l ∧ l.length ≤ 4 ∧ (∀ e ∈ l, e.new.length ≤ 4) ∧ k ≤ 20 ∧ t = s.upd b (strm Lv (at_ + k)) := by
  refine gob13 (by simp) ?_
  intro tm hlen harg
  have hb := h.lt
  have h0 := h.at0
  simp +contextual only [go_sem, L13, hlen, harg, cdD, cdN, gdT, gdF, gdD]
  refine lfunG_eq (rangeS h.loc 0 3 (by omega) (by omega) (by omega)) ?_
  simp +contextual only [go_sem, hlen, harg, hb, cdD, cdN, gdT, gdF, gdD]
  refine lfunG_eq (pickS ((h.upd (by omega) (by omega)).loc) (nm s.nx 0) [0, 1, 1, 2, 3] (some 3) (by simp) (by simp) (by simp only [go_sem, List.map_cons, cdD, cdN, gdT, gdF, gdD]) (by rw [ne_eq, nm_ne hb]; simp) (by simp only [go_sem, cdD, cdN, gdT, gdF, gdD])) ?_
  have hN := getI_le (l := [0, 1, 1, 2, 3]) (lo := 0) (hi := 3) (by omega) (by simp) (nextOf L (at_ + 1) (([0, 1, 1, 2, 3] : List Int).length)).toNat
  generalize ([0, 1, 1, 2, 3] : List Int).getD _ 0 = N at hN ⊢
  simp +contextual only [go_sem, hlen, harg, hb, cdD, cdN, gdT, gdF, gdD]
  refine ⟨Nat × Int × Nat × List Ed, fun a => [(0, .ptr b 0), (1, .int .i64 n), (5, gsv 3 (nm s.nx 0) a.2.2.2.length), (6, .int .i64 a.2.1), (12, .int .i64 N), (13, .int .i64 a.1)],
    fun a => loc (s.upd b (strm Lv (at_ + a.2.2.1))) 1 [(0, gso 44 (edc a.2.2.2))], fun a => (a.1 : Int) ≤ N ∧ a.2.2.1 ≤ 2 + 3 * a.1 ∧ a.2.2.2.length ≤ a.1 ∧ ∀ e ∈ a.2.2.2, e.new.length ≤ 4, fun a => N.toNat - a.1, (0, 0 + nextOf L at_ (3 - 0 + 1), 2, []),
    ⟨by simp only; omega, by simp only; omega, by simp, by simp⟩, ?_, ?_⟩
  · refine To.go [9] [(0, none)] (by simp only [edc, List.map_nil, List.flatMap_nil, gso_nil]; congr 3; omega) ((OKo.refl s).upd hb h.lowO) (by decide) (by simp) ?_ ?_
    · simp +contextual only [go_sem, hlen, harg, gsv_zero, rnm_low hb, cdD, cdN, gdT, gdF, gdD]
      simp
    · simp only [go_sem, cdD, cdN, gdT, gdF, gdD]
  · rintro ⟨i, at1, k, l⟩ tm1 ⟨hi, hk, hl, hnew⟩ hlen1 hlv
    simp only [go_sem, hlen, cdD, cdN, gdT, gdF, gdD] at hlen1 hlv hi hk hl hnew
    simp +contextual only [go_sem, hlen, hlen1, hlv, cdD, cdN, gdT, gdF, gdD]
    refine ⟨fun hlt => ⟨fun hbr => ?_, fun hnb => ?_⟩, fun hge => ?_⟩
    rotate_left
    · refine lfunG_eq (pickS ((h.upd (by omega) (by omega)).loc) (nm s.nx 1) [0, 1, 1, 2, 4] (some 3) (by simp) (by simp) (by simp only [go_sem, List.map_cons, cdD, cdN, gdT, gdF, gdD]) (by rw [ne_eq, nm_ne hb]; simp) (by simp only [go_sem, cdD, cdN, gdT, gdF, gdD])) ?_
      simp +contextual only [go_sem, hlen1, hlv, hb, cdD, cdN, gdT, gdF, gdD]
      refine lfunG_eq (someS ((h.upd (by omega) (by omega)).loc) (nm s.nx 2) [[], [120], [121, 122], [120], [195, 169]] (some 9) (by simp) (by simp) (by simp only [go_sem, List.map_cons, cdD, cdN, gdT, gdF, gdD]) (by rw [ne_eq, nm_ne hb]; simp) (by simp only [go_sem, cdD, cdN, gdT, gdF, gdD])) ?_
      have hS := getD_le (l := [[], [120], [121, 122], [120], [195, 169]]) (k := 4) (by simp) (nextOf L (at_ + k + 1) (([[], [120], [121, 122], [120], [195, 169]] : List (List UInt8)).length)).toNat
      generalize ([[], [120], [121, 122], [120], [195, 169]] : List (List UInt8)).getD _ [] = y at hS ⊢
      generalize ([0, 1, 1, 2, 4] : List Int).getD _ 0 = z
      simp +contextual only [go_sem, hlen1, hlv, hb, cdD, cdN, gdT, gdF, gdD]
      generalize (if IntKind.i64.wrap (n - at1) < z then IntKind.i64.wrap (n - at1) else z) = w
      have hw : IntKind.i64.wrap ((i : Int) + 1) = ((i + 1 : Nat) : Int) := by rw [wrap_id (by omega)]; rfl
      refine ⟨fun c1 => ⟨fun c2 => ?_, fun c2 => ?_⟩, fun c1 => ?_⟩
      all_goals
        refine lmem_eq (app28 (acellsOf_rs (by simp only [go_sem, cdD, cdN, gdT, gdF, gdD]; rfl) (by rfl) (AHeap.nx_upd _ _ _)) (by decide) (by simp only [go_sem, cdD, cdN, gdT, gdF, gdD]) (by simp only [go_sem, cdD, cdN, gdT, gdF, gdD]) (edc_len l) (by omega) (AHeap.nx_upd _ _ _)) ?_
        simp +contextual only [go_sem, hlen1, hlv, hb, cdD, cdN, gdT, gdF, gdD]
        refine ldrawB_go [] [(2, 1), (2, 2)] 7 (by decide) ?_
        simp +contextual only [go_sem, hlen1, hlv, hb, cdD, cdN, gdT, gdF, gdD]
        refine ldfun_eff _ _ (pickS ((h.upd (by omega) (by omega)).loc) _ [1, 1, 2, 5] (some 3) (by simp) (by simp) (by simp only [go_sem, List.map_cons, cdD, cdN, gdT, gdF, gdD]) (by rw [ne_eq, nm_ne hb]; simp) (by simp only [go_sem, cdD, cdN, gdT, gdF, gdD])) ?_
        simp +contextual only [go_sem, hlen1, hlv, hb, cdD, cdN, gdT, gdF, gdD]
        generalize ([1, 1, 2, 5] : List Int).getD _ 0 = p
      · refine ⟨by kernel_rfl, (i + 1, IntKind.i64.wrap (at1 + IntKind.i64.wrap (0 + p)), k + 3, l ++ [⟨at1, 0, [119]⟩]), ⟨by simp only; omega, by simp only; omega, by simp only [List.length_append, List.length_cons, List.length_nil]; omega, ?_⟩, by simp only; omega, ?_⟩
        · intro e he
          rcases List.mem_append.1 he with he | he
          · exact hnew e he
          · rw [List.mem_singleton.1 he]; simp
        · refine To.go [5] [(0, gso 44 (edc (l ++ [⟨at1, 0, [119]⟩])))] (loc_at (by simp only; omega)) ((OKo.refl s).upd hb h.lowO) (by decide) (by simp) ?_ ?_
          · simp +contextual only [go_sem, hlen1, hlv, hw, rnm_low hb, List.length_append, gsv_pos (Nat.succ_ne_zero l.length), cdD, cdN, gdT, gdF, gdD]
          · simp only [go_sem, map_gso_pu (edc_pul _), cdD, cdN, gdT, gdF, gdD]
            simp only [edc_snoc, gso_pos (List.append_ne_nil_of_right_ne_nil (edc l) (List.cons_ne_nil _ _))]
      · refine ⟨by kernel_rfl, (i + 1, IntKind.i64.wrap (at1 + IntKind.i64.wrap (0 + p)), k + 3, l ++ [⟨at1, 0, y⟩]), ⟨by simp only; omega, by simp only; omega, by simp only [List.length_append, List.length_cons, List.length_nil]; omega, ?_⟩, by simp only; omega, ?_⟩
        · intro e he
          rcases List.mem_append.1 he with he | he
          · exact hnew e he
          · rw [List.mem_singleton.1 he]; exact hS
        · refine To.go [5] [(0, gso 44 (edc (l ++ [⟨at1, 0, y⟩])))] (loc_at (by simp only; omega)) ((OKo.refl s).upd hb h.lowO) (by decide) (by simp) ?_ ?_
          · simp +contextual only [go_sem, hlen1, hlv, hw, rnm_low hb, List.length_append, gsv_pos (Nat.succ_ne_zero l.length), cdD, cdN, gdT, gdF, gdD]
          · simp only [go_sem, map_gso_pu (edc_pul _), cdD, cdN, gdT, gdF, gdD]
            simp only [edc_snoc, gso_pos (List.append_ne_nil_of_right_ne_nil (edc l) (List.cons_ne_nil _ _))]
      · refine ⟨by kernel_rfl, (i + 1, IntKind.i64.wrap (at1 + IntKind.i64.wrap (w + p)), k + 3, l ++ [⟨at1, w, y⟩]), ⟨by simp only; omega, by simp only; omega, by simp only [List.length_append, List.length_cons, List.length_nil]; omega, ?_⟩, by simp only; omega, ?_⟩
        · intro e he
          rcases List.mem_append.1 he with he | he
          · exact hnew e he
          · rw [List.mem_singleton.1 he]; exact hS
        · refine To.go [5] [(0, gso 44 (edc (l ++ [⟨at1, w, y⟩])))] (loc_at (by simp only; omega)) ((OKo.refl s).upd hb h.lowO) (by decide) (by simp) ?_ ?_
          · simp +contextual only [go_sem, hlen1, hlv, hw, rnm_low hb, List.length_append, gsv_pos (Nat.succ_ne_zero l.length), cdD, cdN, gdT, gdF, gdD]
          · simp only [go_sem, map_gso_pu (edc_pul _), cdD, cdN, gdT, gdF, gdD]
            simp only [edc_snoc, gso_pos (List.append_ne_nil_of_right_ne_nil (edc l) (List.cons_ne_nil _ _))]
    all_goals
      refine lfunG_eq (flipS ((h.upd (by omega) (by omega)).loc) _) ?_
      simp +contextual only [go_sem, hlen1, hlv, hb, cdD, cdN, gdT, gdF, gdD]
      refine ⟨fun hf => ?_, fun hf => ?_⟩
      · refine lfunG_of (anEditS ((h.upd (by omega) (by omega)).loc) (by omega) _) ?_
        rintro _ _ ⟨e, m, rfl, he, hm, rfl⟩
        simp +contextual only [go_sem, hlen1, hlv, hb, Ed.enc, cdD, cdN, gdT, gdF, gdD]
        refine lmem_eq (app28 (acellsOf_rs (by simp only [go_sem, cdD, cdN, gdT, gdF, gdD]; rfl) (by rfl) (AHeap.nx_upd _ _ _)) (by decide) (by simp only [go_sem, cdD, cdN, gdT, gdF, gdD]) (by simp only [go_sem, cdD, cdN, gdT, gdF, gdD]) (edc_len l) (by omega) (AHeap.nx_upd _ _ _)) ?_
        simp +contextual only [go_sem, hlen1, hlv, hb, cdD, cdN, gdT, gdF, gdD]
        refine lexit_freeze 2 3 ((l ++ [e]).map Ed.enc) (by simp only [go_sem, cdD, cdN, gdT, gdF, gdD]; exact congrArg (fun c => some (AObj.cells c (some 44))) (edc_snoc l e).symm) (enc_len _) ?_
        simp only [AHeap.nx_upd, len_fz1]
        refine lexit_pure ((OKo.refl s).upd hb h.lowO) (low.mono (Nat.zero_le _) (edv_pu _)) ⟨_, k + 1 + m, rfl, by simp only [List.length_append, List.length_cons, List.length_nil]; omega, ?_, by omega, by congr 2; omega⟩
        intro x hx
        rcases List.mem_append.1 hx with hx | hx
        · exact hnew x hx
        · rw [List.mem_singleton.1 hx]; exact he
      · refine lexit_freezeG 0 3 (l.map Ed.enc) (by simp only [go_sem, cdD, cdN, gdT, gdF, gdD]; rfl) (enc_len l) (by decide) ?_
        simp only [AHeap.nx_upd, len_fz]
        exact lexit_pure ((OKo.refl s).upd hb h.lowO) (low.mono (Nat.zero_le _) (edv_pu _)) ⟨_, k + 1, rfl, by omega, hnew, by omega, by congr 2; omega⟩
end Go.S1N
end
section
namespace Go.S1N
open Go Go.Am Go.Proofs Go.S1
set_option maxRecDepth 100000
attribute [local irreducible] lopsB lvb lstepB lfunG lcondB lguardB lguardU ldguardU ldrawB ldrunB ldstepB ldguardB lmem lval ldmem ldval ldfun lexit ldloadB ldlenB lpostB athen ablock
theorem applyOf_exact (x : List UInt8) (v : AV) (l : List Ed) (hv : SlE v l) (hl : l.length ≤ 2000) (hx : x.length ≤ 20000) (hnew : ∀ e ∈ l, e.new.length ≤ 100000) (hsc : scan x.length (-1) l = 0) (s : AHeap) :
    ACall Tryz.prog 12 [.str x, v] s fun r t => r = .str (applyFrom x 0 l) ∧ t = s := exact_of (by simp only [Pu, low]) (applyOf_ok x v l hv hl hx hnew hsc s)
theorem scan_range {n : Int} : ∀ (l : List Ed) (B : Int), scan n B l = 0 → ∀ z ∈ l, 0 ≤ z.at_ ∧ 0 ≤ z.cut ∧ z.at_ ≤ n ∧ z.cut ≤ n
  | [], B, _, z, hz => by cases hz
  | a :: l, B, h, z, hz => by
    obtain ⟨d1, d2, d3, d4, d5, d6⟩ := scan_cons h
    rcases List.mem_cons.1 hz with rfl | hz
    · omega
    · exact scan_range l _ d6 z hz
end Go.S1N
end
section
namespace Go.S1
open Go Go.Am Go.Proofs
set_option maxRecDepth 100000
noncomputable def L22 : LCode := .seq (.ops [⟨.assign (.const (.bool false)), some 4, none⟩]) (.seq (.seq (.ops [⟨.move (.tmp 0), some 6, none⟩, ⟨.call ⟨.builtin .len, ⟨[.tmp 6]⟩, ⟨[28]⟩⟩, some 7, none⟩, ⟨.move (.tmp 1), some 8, none⟩, ⟨.call ⟨.builtin .len, ⟨[.tmp 8]⟩, ⟨[28]⟩⟩, some 9, none⟩, ⟨.binOp .neq 3 (.tmp 7) (.tmp 9) 3, some 10, none⟩]) (.cond (.tmp 10) (.seq (.ops [⟨.assign (.const (.bool false)), some 4, none⟩]) .ret) .skip)) (.seq (.seq (.ops [⟨.move (.tmp 0), some 11, none⟩, ⟨.call ⟨.builtin .len, ⟨[.tmp 11]⟩, ⟨[28]⟩⟩, some 12, none⟩, ⟨.move (.const (.int .i64 0)), some 13, none⟩]) (.block 0 (.loop (.seq (.ops [⟨.binOp .lss 3 (.tmp 13) (.tmp 12) 3, some 14, none⟩]) (.seq (.cond (.tmp 14) .skip (.exit 0)) (.seq (.block 1 (.seq (.ops [⟨.move (.tmp 13), some 15, none⟩, ⟨.assign (.tmp 15), some 5, none⟩]) (.seq (.draw [0, 0, 3, 7, 0, 0, 48, 112, 255] [⟨.move (.tmp 0), some 16, none⟩, ⟨.move (.tmp 5), some 17, none⟩, ⟨.indexAddr 28 (.tmp 16) (.tmp 17), some 18, none⟩, ⟨.load 44 (.tmp 18), some 19, none⟩, ⟨.move (.tmp 1), some 20, none⟩, ⟨.move (.tmp 5), some 21, none⟩, ⟨.indexAddr 28 (.tmp 20) (.tmp 21), some 22, none⟩, ⟨.load 44 (.tmp 22), some 23, none⟩, ⟨.binOp .neq 44 (.tmp 19) (.tmp 23) 44, some 24, none⟩]) (.cond (.tmp 24) (.seq (.ops [⟨.assign (.const (.bool false)), some 4, none⟩]) .ret) .skip)))) (.ops [⟨.binOp .add 3 (.tmp 13) (.const (.int .i64 1)) 3, some 25, none⟩, ⟨.move (.tmp 25), some 13, none⟩]))))))) (.seq (.ops [⟨.assign (.const (.bool true)), some 4, none⟩]) .ret)))
theorem l22 : Tryz.f22.body.map lighten = some L22 := by kernel_rfl
theorem gob22 : Gob 22 26 L22 [.tmp 4] := fun hl h => ACall.goB tab_ok mixed Tryz.func22 l22 nm22 (by kernel_rfl) (by kernel_rfl) hl h
noncomputable def L97 : LCode := .seq (.ops [⟨.box 123 (.tmp 0), some 1, none⟩, ⟨.assign (.const (.slice none 0 0)), some 2, none⟩]) (.seq (.ops [⟨.alloc 28, some 3, none⟩]) (.seq (.ops [⟨.alloc 3, some 4, none⟩, ⟨.store 3 (.tmp 4) (.const (.int .i64 0)), none, none⟩]) (.seq (.ops [⟨.alloc 9, some 5, none⟩, ⟨.store 9 (.tmp 5) (.const (.string ⟨⟨[]⟩⟩)), none, none⟩]) (.seq (.ops [⟨.makeFunc (Fn.func 150) ⟨[]⟩ ⟨[.tmp 4, .tmp 5, .tmp 3]⟩, some 9, none⟩, ⟨.assign (.tmp 9), some 6, none⟩]) (.seq (.seq (.ops [⟨.fieldAddr 123 (.tmp 1) 1, some 10, none⟩, ⟨.load 121 (.tmp 10), some 11, none⟩, ⟨.call ⟨.builtin .len, ⟨[.tmp 11]⟩, ⟨[121]⟩⟩, some 12, none⟩, ⟨.move (.const (.int .i64 0)), some 13, none⟩]) (.block 0 (.loop (.seq (.ops [⟨.binOp .lss 3 (.tmp 13) (.tmp 12) 3, some 14, none⟩]) (.seq (.cond (.tmp 14) .skip (.exit 0)) (.seq (.block 1 (.seq (.ops [⟨.indexAddr 121 (.tmp 11) (.tmp 13), some 15, none⟩, ⟨.load 126 (.tmp 15), some 16, none⟩, ⟨.alloc 126, some 8, none⟩, ⟨.store 126 (.tmp 8) (.tmp 16), none, none⟩]) (.seq (.seq (.ops [⟨.fieldAddr 126 (.tmp 8) 0, some 17, none⟩, ⟨.load 3 (.tmp 17), some 18, none⟩, ⟨.binOp .lss 3 (.tmp 18) (.const (.int .i64 0)) 3, some 19, none⟩]) (.cond (.tmp 19) (.seq (.ops [⟨.load 9 (.tmp 5), some 20, none⟩, ⟨.fieldAddr 126 (.tmp 8) 1, some 21, none⟩, ⟨.load 5 (.tmp 21), some 22, none⟩, ⟨.buildSlice 118 1 ⟨[(0, .tmp 22)]⟩, some 23, none⟩, ⟨.convert 118 9 (.tmp 23), some 24, none⟩, ⟨.binOp .add 9 (.tmp 20) (.tmp 24) 9, some 25, none⟩, ⟨.store 9 (.tmp 5) (.tmp 25), none, none⟩]) (.exit 1)) .skip)) (.seq (.ops [⟨.move (.tmp 6), some 26, none⟩, ⟨.fieldAddr 126 (.tmp 8) 0, some 27, none⟩, ⟨.load 3 (.tmp 27), some 28, none⟩, ⟨.call ⟨.value (.tmp 26), ⟨[.tmp 28]⟩, ⟨[3]⟩⟩, some 29, none⟩]) (.ops [⟨.fieldAddr 126 (.tmp 8) 0, some 30, none⟩, ⟨.load 3 (.tmp 30), some 31, none⟩, ⟨.binOp .add 3 (.tmp 31) (.const (.int .i64 1)) 3, some 32, none⟩, ⟨.store 3 (.tmp 4) (.tmp 32), none, none⟩]))))) (.ops [⟨.binOp .add 3 (.tmp 13) (.const (.int .i64 1)) 3, some 33, none⟩, ⟨.move (.tmp 33), some 13, none⟩]))))))) (.seq (.ops [⟨.move (.tmp 6), some 34, none⟩, ⟨.fieldAddr 123 (.tmp 1) 0, some 35, none⟩, ⟨.load 3 (.tmp 35), some 36, none⟩, ⟨.call ⟨.value (.tmp 34), ⟨[.tmp 36]⟩, ⟨[3]⟩⟩, some 37, none⟩]) (.seq (.ops [⟨.load 28 (.tmp 3), some 38, none⟩, ⟨.assign (.tmp 38), some 2, none⟩]) .ret)))))))
theorem l97 : Tryz.f97.body.map lighten = some L97 := by kernel_rfl
theorem gob97 : Gob 97 39 L97 [.tmp 2] := fun hl h => ACall.goB tab_ok mixed Tryz.func97 l97 nm97 (by kernel_rfl) (by kernel_rfl) hl h
noncomputable def L83 : LCode := .seq (.ops [⟨.alloc 135, some 4, none⟩]) (.seq (.ops [⟨.move (.tmp 0), some 5, none⟩, ⟨.move (.tmp 1), some 6, none⟩, ⟨.build 135 ⟨[(0, .tmp 5), (1, .tmp 6)]⟩, some 7, none⟩, ⟨.store 135 (.tmp 4) (.tmp 7), none, none⟩]) .ret)
theorem l83 : Tryz.f83.body.map lighten = some L83 := by kernel_rfl
theorem gob83 : Gob 83 8 L83 [.cell 4 135] := fun hl h => ACall.goB tab_ok mixed Tryz.func83 l83 nm83 (by kernel_rfl) (by kernel_rfl) hl h
noncomputable def L82 : LCode := .seq (.ops [⟨.alloc 135, some 2, none⟩]) (.seq (.ops [⟨.move (.tmp 0), some 3, none⟩, ⟨.build 135 ⟨[(2, .tmp 3)]⟩, some 4, none⟩, ⟨.store 135 (.tmp 2) (.tmp 4), none, none⟩]) .ret)
theorem l82 : Tryz.f82.body.map lighten = some L82 := by kernel_rfl
theorem gob82 : Gob 82 5 L82 [.cell 2 135] := fun hl h => ACall.goB tab_ok mixed Tryz.func82 l82 nm82 (by kernel_rfl) (by kernel_rfl) hl h
noncomputable def L150 : LCode := .seq (.seq (.ops [⟨.move (.tmp 0), some 5, none⟩, ⟨.load 3 (.tmp 1), some 6, none⟩, ⟨.binOp .gtr 3 (.tmp 5) (.tmp 6) 3, some 7, none⟩, ⟨.move (.tmp 7), some 8, none⟩, ⟨.load 9 (.tmp 2), some 9, some (8, false)⟩, ⟨.binOp .neq 9 (.tmp 9) (.const (.string ⟨⟨[]⟩⟩)) 9, some 10, some (8, false)⟩, ⟨.pick (.tmp 8) (.const (.bool true)) (.tmp 10), some 11, none⟩]) (.cond (.tmp 11) (.ops [⟨.load 28 (.tmp 3), some 12, none⟩, ⟨.load 3 (.tmp 1), some 13, none⟩, ⟨.move (.tmp 0), some 14, none⟩, ⟨.load 3 (.tmp 1), some 15, none⟩, ⟨.binOp .sub 3 (.tmp 14) (.tmp 15) 3, some 16, none⟩, ⟨.load 9 (.tmp 2), some 17, none⟩, ⟨.build 44 ⟨[(0, .tmp 13), (1, .tmp 16), (2, .tmp 17)]⟩, some 18, none⟩, ⟨.buildSlice 28 1 ⟨[(0, .tmp 18)]⟩, some 19, none⟩, ⟨.call ⟨.builtin .append, ⟨[.tmp 12, .tmp 19]⟩, ⟨[28, 28]⟩⟩, some 20, none⟩, ⟨.store 28 (.tmp 3) (.tmp 20), none, none⟩]) .skip)) (.ops [⟨.store 9 (.tmp 2) (.const (.string ⟨⟨[]⟩⟩)), none, none⟩])
theorem l150 : Tryz.f150.body.map lighten = some L150 := by kernel_rfl
theorem gob150 : Gob 150 21 L150 [] := fun hl h => ACall.goB tab_ok mixed Tryz.func150 l150 nm150 (by kernel_rfl) (by kernel_rfl) hl h
end Go.S1
end
section
namespace Go.S1N
open Go Go.Am Go.Proofs Go.S1
set_option maxRecDepth 100000
attribute [local irreducible] lopsB lvb lstepB lfunG lcondB lguardB lguardU ldguardU ldrawB ldrunB ldstepB ldguardB lmem lval ldmem ldval ldfun lexit ldloadB ldlenB lpostB athen ablock
def ltv (L : List (Int × UInt8)) : List AV := L.map fun p => .agg [.int .i64 p.1, .int .u8 p.2.toNat]
theorem ltv_letters (L : List (Int × UInt8)) : (ltv L).flatMap AV.cells = letters L := by
  unfold ltv letters
  rw [List.flatMap_map]
  rfl
theorem ltv_len (L : List (Int × UInt8)) : ∀ x ∈ ltv L, x.cells.length = 2 := by
  intro x hx
  obtain ⟨p, _, rfl⟩ := List.mem_map.1 hx
  rfl
theorem ltv_pu (L : List (Int × UInt8)) : PuL (ltv L) := by
  simp only [PuL, lowL_iff]
  intro x hx
  obtain ⟨p, _, rfl⟩ := List.mem_map.1 hx
  simp only [low, lowL, and_self]
def flv (n : Int) (L : List (Int × UInt8)) : AV := .agg [.int .i64 n, fsv 2 (ltv L)]
end Go.S1N
end
section
namespace Go.S1N
open Go Go.Am Go.Proofs Go.S1
set_option maxRecDepth 100000
attribute [local irreducible] lopsB lvb lstepB lfunG lcondB lguardB lguardU ldguardU ldrawB ldrunB ldstepB ldguardB lmem lval ldmem ldval ldfun lexit ldloadB ldlenB lpostB athen ablock
theorem gso_ed {O : List Ed} {z : Ed} : gso 44 (edc (O ++ [z])) = some (.cells (edc (O ++ [z])) (some 44)) := gso_pos (by simp [edc_snoc])
end Go.S1N
end
section
namespace Go.S1N
open Go Go.Am Go.Proofs Go.S1
set_option maxRecDepth 100000
attribute [local irreducible] lopsB lvb lstepB lfunG lcondB lguardB lguardU ldguardU ldrawB ldrunB ldstepB ldguardB lmem lval ldmem ldval ldfun lexit ldloadB ldlenB lpostB athen ablock
structure Rn where
  at_ : Int
  long : Int
  text : List UInt8
def Rn.enc (e : Rn) : AV := .agg [.int .i64 e.at_, .int .i64 e.long, .str e.text]
def rnc (l : List Rn) : List AV := (l.map Rn.enc).flatMap AV.cells
def rnv (l : List Rn) : AV := fsv 3 (l.map Rn.enc)
theorem rnc_len (l : List Rn) : (rnc l).length = l.length * 3 := by
  unfold rnc
  induction l with
  | nil => rfl
  | cons e l ih => simp only [List.map_cons, List.flatMap_cons, List.length_append, ih, List.length_cons, Rn.enc, AV.cells, List.length_nil]; omega
theorem rnc_snoc (l : List Rn) (e : Rn) : rnc (l ++ [e]) = rnc l ++ [.int .i64 e.at_, .int .i64 e.long, .str e.text] := by
  simp [rnc, Rn.enc, AV.cells]
theorem rnc_pul (l : List Rn) : PuL (rnc l) := by
  unfold rnc
  induction l with
  | nil => simp only [List.map_nil, List.flatMap_nil, PuL, lowL]
  | cons e l ih =>
    rw [List.map_cons, List.flatMap_cons, PuL, lowL_append]
    exact ⟨by simp only [Rn.enc, AV.cells, lowL, low, and_self], ih⟩
theorem rn_len (l : List Rn) : ∀ x ∈ l.map Rn.enc, x.cells.length = 3 := by
  intro x hx
  obtain ⟨e, _, rfl⟩ := List.mem_map.1 hx
  rfl
theorem rnv_pu (l : List Rn) : Pu (rnv l) := pu_fsv (by
  simp only [PuL, lowL_iff]
  intro x hx
  obtain ⟨e, _, rfl⟩ := List.mem_map.1 hx
  simp only [Rn.enc, low, lowL, and_self])
theorem kept_ok (a n : Int) (s : AHeap) : ACall Tryz.prog 83 [.int .i64 a, .int .i64 n] s fun r t => r = Rn.enc ⟨a, n, []⟩ ∧ t = s := by
  refine gob83 (by simp) ?_
  intro tm hlen harg
  simp +contextual only [go_sem, L83, hlen, harg, cdD, cdN, gdT, gdF, gdD, Nat.reduceLT, Nat.reduceEqDiff, Nat.reduceAdd, Nat.reduceLeDiff, reduceIte, reduceCtorEq]
  exact lexit_pure (.refl s) (by simp only [low, lowL, and_self]) ⟨rfl, rfl⟩
theorem fresh_ok (x : List UInt8) (s : AHeap) : ACall Tryz.prog 82 [.str x] s fun r t => r = Rn.enc ⟨0, 0, x⟩ ∧ t = s := by
  refine gob82 (by simp) ?_
  intro tm hlen harg
  simp +contextual only [go_sem, L82, hlen, harg, cdD, cdN, gdT, gdF, gdD, Nat.reduceLT, Nat.reduceEqDiff, Nat.reduceAdd, Nat.reduceLeDiff, reduceIte, reduceCtorEq]
  exact lexit_pure (.refl s) (by simp only [low, lowL, and_self]) ⟨rfl, rfl⟩
end Go.S1N
end
section
namespace Go.S1N
open Go Go.Am Go.Proofs Go.S1
set_option maxRecDepth 100000
attribute [local irreducible] lopsB lvb lstepB lfunG lcondB lguardB lguardU ldguardU ldrawB ldrunB ldstepB ldguardB lmem lval ldmem ldval ldfun lexit ldloadB ldlenB lpostB athen ablock
theorem rn_at (RS : List Rn) {j : Nat} {r : Rn} (h : RS[j]? = some r) : aindexAddr tab 132 (rnv RS) (.int .i64 j) = some (.rptr [.int .i64 r.at_, .int .i64 r.long, .str r.text]) :=
  ix132f (v := r.enc) (by omega) (by rw [List.getElem?_map, Int.toNat_natCast, h]; rfl) rfl
theorem flow_at (L : List (Int × UInt8)) {j : Nat} {p : Int × UInt8} (h : L[j]? = some p) : aindexAddr tab 121 (fsv 2 (ltv L)) (.int .i64 j) = some (.rptr [.int .i64 p.1, .int .u8 p.2.toNat]) :=
  ix121f (v := .agg [.int .i64 p.1, .int .u8 p.2.toNat]) (by omega) (by rw [ltv, List.getElem?_map, Int.toNat_natCast, h]; rfl) rfl
end Go.S1N
end
section
namespace Go.S1N
open Go Go.Am Go.Proofs Go.S1
set_option maxRecDepth 100000
attribute [local go_sem] Nat.reduceLT Nat.reduceEqDiff Nat.reduceAdd Nat.reduceLeDiff reduceIte reduceCtorEq
theorem lfunG_eqc' {P : Program} {s0 s : AHeap} {N : List AV → AHeap → Prop} {f : Operand} {args : List Operand} {d : Option Nat} {tm : List AV} {g : FuncId} {av fi ca av' : List AV} {R : AV → AHeap → Prop} (he : fi ++ av ++ ca = av') (h : ACall P g av' s R) (k : ∀ v t, R v t → N (aput tm d v) t) :
    lfunG P s0 N f args d tm s (.func (.func g) fi ca) av := by
  intro hf ha
  refine .now ?_
  rw [← hf, ← ha]
  show lcall P N g (fi ++ av ++ ca) s d tm
  rw [he]
  exact lcall_of h k
theorem lexit_now {s0 s : AHeap} {R : AV → AHeap → Prop} {v : AV} (h : R v s) : lexit s0 R (some v) s := Gh.now ⟨v, rfl, h⟩
attribute [local irreducible] lopsB lvb lstepB lfunG lcondB lguardB lguardU ldguardU ldrawB ldrunB ldstepB ldguardB lmem lval ldmem ldval ldfun lexit ldloadB ldlenB lpostB athen ablock
theorem loc_loc {s : AHeap} {n : Nat} {l : List (Nat × Option AObj)} (h : ∀ j, n ≤ j → lget l j = none) : loc (loc s n l) 0 [] = loc s n l := by
  unfold loc
  congr 1
  funext b
  have e : ∀ b, AHeap.get (⟨s.nx + n, true, .nil, fun b => if b < s.nx then s.get b else lget l (b - s.nx)⟩ : AHeap) b = if b < s.nx then s.get b else lget l (b - s.nx) := fun b => rfl
  by_cases hb : b < s.nx + n
  · rw [if_pos hb, e]
  · rw [if_neg hb, if_neg (by omega), h _ (by omega)]; rfl
theorem cv113 {ev : Operand → AV} {x : Operand} {b : Nat} {s : AHeap} {c : UInt8} (hx : ev x = .rs 1 b 0 1) (hg : s.get b = some (.cells [.int .u8 c.toNat] (some 5))) : lop tab ev (.convert 118 9 x) s = some (.str [c], s) := by
  simp [lop, aop, apure, aconv, amem, ty118, ty9, ty5, hx, acellsOf, hg, AObj.cells?, abytes]
def pushE (a : Int) (w : List UInt8) (to : Int) : List Ed := if a < to ∨ w ≠ [] then [⟨a, to - a, w⟩] else []
def edGo (n : Int) : Int → List UInt8 → List (Int × UInt8) → List Ed
  | a, w, [] => pushE a w n
  | a, w, p :: r => if p.1 < 0 then edGo n a (w ++ [p.2]) r else pushE a w p.1 ++ edGo n (p.1 + 1) [] r
theorem push5 {s : AHeap} {o0 : Option AObj} {a to : Int} {w : List UInt8} {L : List Ed} (ha : -1 ≤ a) (ha2 : a ≤ 1000000000000) (ht : -1 ≤ to) (ht2 : to ≤ 1000000000000) (hL : L.length ≤ 1000000000) :
    ACall Tryz.prog 150 [.int .i64 to, .ptr (nm s.nx 2) 0, .ptr (nm s.nx 3) 0, .ptr (nm s.nx 1) 0]
      (loc s 5 [(0, o0), (1, some (.cells [gsv 3 (nm s.nx 4) L.length] (some 28))), (2, some (.cells [.int .i64 a] (some 3))), (3, some (.cells [.str w] (some 9))), (4, gso 44 (edc L))])
      fun v t => v = .tuple [] ∧ ((pushE a w to = [] ∧ t = loc s 5 [(0, o0), (1, some (.cells [gsv 3 (nm s.nx 4) L.length] (some 28))), (2, some (.cells [.int .i64 a] (some 3))), (3, some (.cells [.str []] (some 9))), (4, gso 44 (edc L))]) ∨
        ∃ e, pushE a w to = [e] ∧ t = loc s 7 [(0, o0), (1, some (.cells [gsv 3 (nm s.nx 6) (L ++ [e]).length] (some 28))), (2, some (.cells [.int .i64 a] (some 3))), (3, some (.cells [.str []] (some 9))), (5, some (.cells [.int .i64 a, .int .i64 (to - a), .str w] (some 44))), (6, gso 44 (edc (L ++ [e])))]) := by
  refine gob150 (by simp) ?_
  intro tm hlen harg
  rw [loc_loc (by intro j hj; simp only [lget]; rw [if_neg (by omega), if_neg (by omega), if_neg (by omega), if_neg (by omega), if_neg (by omega)])]
  simp +contextual only [go_sem, L150, hlen, harg, cdD, cdN, gdT, gdF, gdD]
  have hw : IntKind.i64.wrap (to - a) = to - a := wrap_id (by omega)
  have fin : ∀ e : Ed, e = ⟨a, to - a, w⟩ → pushE a w to = [e] →
      pushE a w to = [e] ∧ loc s 7 [(0, o0), (1, some (AObj.cells [AV.rs 3 (nm s.nx 6) 0 (L.length + 1)] (some 28))), (2, some (AObj.cells [AV.int IntKind.i64 a] (some 3))), (3, some (AObj.cells [AV.str []] (some 9))), (5, some (.cells [.int .i64 a, .int .i64 (to - a), .str w] (some 44))), (6, some (.cells (edc L ++ [.int .i64 a, .int .i64 (to - a), .str w]) (some 44)))] =
        loc s 7 [(0, o0), (1, some (.cells [gsv 3 (nm s.nx 6) (L ++ [e]).length] (some 28))), (2, some (.cells [.int .i64 a] (some 3))), (3, some (.cells [.str []] (some 9))), (5, some (.cells [.int .i64 a, .int .i64 (to - a), .str w] (some 44))), (6, gso 44 (edc (L ++ [e])))] := by
    rintro e rfl h
    refine ⟨h, ?_⟩
    rw [gso_ed, List.length_append, List.length_singleton, gsv_pos (Nat.succ_ne_zero _), edc_snoc]
  refine ⟨fun c => ?_, fun c => ⟨fun c2 => ?_, fun c2 => ?_⟩⟩
  · refine lmem_eq (app28 (acellsOf_rs (by simp only [go_sem, cdD, cdN, gdT, gdF, gdD]; rfl) (by rfl) rfl) (by decide) (by simp only [go_sem, cdD, cdN, gdT, gdF, gdD]) (by simp only [go_sem, cdD, cdN, gdT, gdF, gdD]) (edc_len L) (by omega) rfl) ?_
    simp +contextual only [go_sem, hlen, harg, hw, cdD, cdN, gdT, gdF, gdD]
    exact lexit_now ⟨rfl, .inr ⟨_, fin _ rfl (if_pos (.inl c))⟩⟩
  · refine lmem_eq (app28 (acellsOf_rs (by simp only [go_sem, cdD, cdN, gdT, gdF, gdD]; rfl) (by rfl) rfl) (by decide) (by simp only [go_sem, cdD, cdN, gdT, gdF, gdD]) (by simp only [go_sem, cdD, cdN, gdT, gdF, gdD]) (edc_len L) (by omega) rfl) ?_
    simp +contextual only [go_sem, hlen, harg, hw, cdD, cdN, gdT, gdF, gdD]
    exact lexit_now ⟨rfl, .inr ⟨_, fin _ rfl (if_pos (.inr c2))⟩⟩
  · subst c2
    exact lexit_now ⟨rfl, .inl ⟨if_neg (by rintro (h | h); exact c h; exact h rfl), rfl⟩⟩
theorem push6 {s : AHeap} {o0 o5 : Option AObj} {a to : Int} {w : List UInt8} {L : List Ed} (ha : -1 ≤ a) (ha2 : a ≤ 1000000000000) (ht : -1 ≤ to) (ht2 : to ≤ 1000000000000) (hL : L.length ≤ 1000000000) :
    ACall Tryz.prog 150 [.int .i64 to, .ptr (nm s.nx 2) 0, .ptr (nm s.nx 3) 0, .ptr (nm s.nx 1) 0]
      (loc s 6 [(0, o0), (1, some (.cells [gsv 3 (nm s.nx 4) L.length] (some 28))), (2, some (.cells [.int .i64 a] (some 3))), (3, some (.cells [.str w] (some 9))), (4, gso 44 (edc L)), (5, o5)])
      fun v t => v = .tuple [] ∧ ((pushE a w to = [] ∧ t = loc s 6 [(0, o0), (1, some (.cells [gsv 3 (nm s.nx 4) L.length] (some 28))), (2, some (.cells [.int .i64 a] (some 3))), (3, some (.cells [.str []] (some 9))), (4, gso 44 (edc L)), (5, o5)]) ∨
        ∃ e, pushE a w to = [e] ∧ t = loc s 8 [(0, o0), (1, some (.cells [gsv 3 (nm s.nx 7) (L ++ [e]).length] (some 28))), (2, some (.cells [.int .i64 a] (some 3))), (3, some (.cells [.str []] (some 9))), (5, o5), (6, some (.cells [.int .i64 a, .int .i64 (to - a), .str w] (some 44))), (7, gso 44 (edc (L ++ [e])))]) := by
  refine gob150 (by simp) ?_
  intro tm hlen harg
  rw [loc_loc (by intro j hj; simp only [lget]; rw [if_neg (by omega), if_neg (by omega), if_neg (by omega), if_neg (by omega), if_neg (by omega), if_neg (by omega)])]
  simp +contextual only [go_sem, L150, hlen, harg, cdD, cdN, gdT, gdF, gdD]
  have hw : IntKind.i64.wrap (to - a) = to - a := wrap_id (by omega)
  have fin : ∀ e : Ed, e = ⟨a, to - a, w⟩ → pushE a w to = [e] →
      pushE a w to = [e] ∧ loc s 8 [(0, o0), (1, some (AObj.cells [AV.rs 3 (nm s.nx 7) 0 (L.length + 1)] (some 28))), (2, some (AObj.cells [AV.int IntKind.i64 a] (some 3))), (3, some (AObj.cells [AV.str []] (some 9))), (5, o5), (6, some (.cells [.int .i64 a, .int .i64 (to - a), .str w] (some 44))), (7, some (.cells (edc L ++ [.int .i64 a, .int .i64 (to - a), .str w]) (some 44)))] =
        loc s 8 [(0, o0), (1, some (.cells [gsv 3 (nm s.nx 7) (L ++ [e]).length] (some 28))), (2, some (.cells [.int .i64 a] (some 3))), (3, some (.cells [.str []] (some 9))), (5, o5), (6, some (.cells [.int .i64 a, .int .i64 (to - a), .str w] (some 44))), (7, gso 44 (edc (L ++ [e])))] := by
    rintro e rfl h
    refine ⟨h, ?_⟩
    rw [gso_ed, List.length_append, List.length_singleton, gsv_pos (Nat.succ_ne_zero _), edc_snoc]
  refine ⟨fun c => ?_, fun c => ⟨fun c2 => ?_, fun c2 => ?_⟩⟩
  · refine lmem_eq (app28 (acellsOf_rs (by simp only [go_sem, cdD, cdN, gdT, gdF, gdD]; rfl) (by rfl) rfl) (by decide) (by simp only [go_sem, cdD, cdN, gdT, gdF, gdD]) (by simp only [go_sem, cdD, cdN, gdT, gdF, gdD]) (edc_len L) (by omega) rfl) ?_
    simp +contextual only [go_sem, hlen, harg, hw, cdD, cdN, gdT, gdF, gdD]
    exact lexit_now ⟨rfl, .inr ⟨_, fin _ rfl (if_pos (.inl c))⟩⟩
  · refine lmem_eq (app28 (acellsOf_rs (by simp only [go_sem, cdD, cdN, gdT, gdF, gdD]; rfl) (by rfl) rfl) (by decide) (by simp only [go_sem, cdD, cdN, gdT, gdF, gdD]) (by simp only [go_sem, cdD, cdN, gdT, gdF, gdD]) (edc_len L) (by omega) rfl) ?_
    simp +contextual only [go_sem, hlen, harg, hw, cdD, cdN, gdT, gdF, gdD]
    exact lexit_now ⟨rfl, .inr ⟨_, fin _ rfl (if_pos (.inr c2))⟩⟩
  · subst c2
    exact lexit_now ⟨rfl, .inl ⟨if_neg (by rintro (h | h); exact c h; exact h rfl), rfl⟩⟩
theorem flow_len' (F : List (Int × UInt8)) : alen tab 121 (fsv 2 (ltv F)) = some (.int .i64 F.length) := by rw [len121f, ltv, List.length_map]
theorem edits_ok (n : Int) (F : List (Int × UInt8)) (hn : 0 ≤ n ∧ n ≤ 1000000000000) (hF : ∀ p ∈ F, -1 ≤ p.1 ∧ p.1 < 1000000000) (hFl : F.length ≤ 1000000000) (s : AHeap) :
    ACall Tryz.prog 97 [flv n F] s fun r t => r = edv (edGo n 0 [] F) ∧ t = s := by
  refine gob97 (by simp) ?_
  intro tm hlen harg
  have hpu : Pu (fsv 2 (ltv F)) := pu_fsv (ltv_pu F)
  simp +contextual only [go_sem, L97, hlen, harg, flv, flow_len', cdD, cdN, gdT, gdF, gdD]
  refine ⟨Nat × Int × List UInt8 × List Ed, fun a => [(1, .ptr (nm s.nx 0) 0), (3, .ptr (nm s.nx 1) 0), (4, .ptr (nm s.nx 2) 0), (5, .ptr (nm s.nx 3) 0), (6, .func (.func 150) [] [.ptr (nm s.nx 2) 0, .ptr (nm s.nx 3) 0, .ptr (nm s.nx 1) 0]), (11, fsv 2 (ltv F)), (12, .int .i64 F.length), (13, .int .i64 a.1)],
    fun a => loc s 5 [(0, some (.cells [.int .i64 n, fsv 2 (ltv F)] (some 123))), (1, some (.cells [gsv 3 (nm s.nx 4) a.2.2.2.length] (some 28))), (2, some (.cells [.int .i64 a.2.1] (some 3))), (3, some (.cells [.str a.2.2.1] (some 9))), (4, gso 44 (edc a.2.2.2))],
    fun a => a.1 ≤ F.length ∧ a.2.2.2.length ≤ a.1 ∧ a.2.2.1.length ≤ a.1 ∧ 0 ≤ a.2.1 ∧ a.2.1 ≤ 1000000000 ∧ a.2.2.2 ++ edGo n a.2.1 a.2.2.1 (F.drop a.1) = edGo n 0 [] F, fun a => F.length - a.1, (0, 0, [], []), ⟨by simp, by simp, by simp, by simp, by simp, by simp⟩, ?_, ?_⟩
  · refine To.go [0, 1, 2, 3, 9] [(0, some (.cells [.int .i64 n, fsv 2 (ltv F)] (some 123))), (1, some (.cells [.nils] (some 28))), (2, some (.cells [.int .i64 0] (some 3))), (3, some (.cells [.str []] (some 9))), (4, none)] (by simp only [edc, List.map_nil, List.flatMap_nil, gso_nil, List.length_nil, gsv_zero]; rfl) (.refl s) (by decide) (by simp) ?_ ?_
    · simp +contextual only [go_sem, hlen, harg, pu_ren hpu, gsv_zero, cdD, cdN, gdT, gdF, gdD]
      rfl
    · simp only [go_sem, pu_ren hpu, cdD, cdN, gdT, gdF, gdD]
  · rintro ⟨j, a, w, L⟩ tm1 ⟨hj, hL, hw, ha0, ha1, hE⟩ hlen1 hlv
    simp only [go_sem, hlen, cdD, cdN, gdT, gdF, gdD] at hlen1 hlv hj hL hw ha0 ha1 hE
    simp +contextual only [go_sem, hlen, hlen1, hlv, cdD, cdN, gdT, gdF, gdD]
    refine ⟨fun hlt => ?_, fun hge => ?_⟩
    · have hj2 : j < F.length := by omega
      have he := List.getElem?_eq_getElem hj2
      have hmem : F[j] ∈ F := List.getElem_mem hj2
      have hdrop := List.drop_eq_getElem_cons hj2
      generalize F[j] = p at he hmem hdrop
      have hp := hF p hmem
      rw [hdrop] at hE
      have hw3 : IntKind.i64.wrap ((j : Int) + 1) = ((j + 1 : Nat) : Int) := by rw [wrap_id (by omega)]; rfl
      have hw4 : IntKind.i64.wrap (p.1 + 1) = p.1 + 1 := wrap_id (by omega)
      have hadd := abin_sadd (t := 9) (a := w) (b := [p.2]) (by simp; omega)
      simp +contextual only [go_sem, hlen1, hlv, flow_at F he, cdD, cdN, gdT, gdF, gdD]
      refine ⟨fun hneg => ?_, fun hpos => ?_⟩
      · rw [lstepB_convert]
        refine lmem_eq (cv113 (c := p.2) (by simp only [go_sem, hlen1, cdD, cdN, gdT, gdF, gdD]; rfl) (by simp only [go_sem, cdD, cdN, gdT, gdF, gdD])) ?_
        simp +contextual only [go_sem, hlen1, hlv, hadd, hw3, cdD, cdN, gdT, gdF, gdD]
        refine ⟨(j + 1, a, w ++ [p.2], L), ⟨by simp only; omega, by simp only; omega, by simp only [List.length_append, List.length_singleton]; omega, ha0, ha1, ?_⟩, by simp only; omega, ?_⟩
        · rw [← hE, edGo, if_pos hneg]
        · refine To.go [0, 1, 2, 3, 4] _ rfl (.refl s) (by decide) (by simp) ?_ ?_
          · simp +contextual only [go_sem, hlen1, hlv, pu_ren hpu, cdD, cdN, gdT, gdF, gdD]
          · simp only [go_sem, pu_ren hpu, map_gso_pu (edc_pul _), cdD, cdN, gdT, gdF, gdD]
      · refine lfunG_eqc' rfl (push6 (by omega) (by omega) (by omega) (by omega) (by omega)) ?_
        rintro _ t ⟨rfl, h | ⟨e, h⟩⟩
        · obtain ⟨hpe, rfl⟩ := h
          simp +contextual only [go_sem, hlen1, hlv, hw3, hw4, cdD, cdN, gdT, gdF, gdD]
          refine ⟨(j + 1, p.1 + 1, [], L), ⟨by simp only; omega, by simp only; omega, by simp, by simp only; omega, by simp only; omega, ?_⟩, by simp only; omega, ?_⟩
          · rw [← hE, edGo, if_neg hpos, hpe, List.nil_append]
          · refine To.go [0, 1, 2, 3, 4] _ rfl (.refl s) (by decide) (by simp) ?_ ?_
            · simp +contextual only [go_sem, hlen1, hlv, pu_ren hpu, cdD, cdN, gdT, gdF, gdD]
            · simp only [go_sem, pu_ren hpu, map_gso_pu (edc_pul _), cdD, cdN, gdT, gdF, gdD]
        · obtain ⟨hpe, rfl⟩ := h
          simp +contextual only [go_sem, hlen1, hlv, hw3, hw4, cdD, cdN, gdT, gdF, gdD]
          refine ⟨(j + 1, p.1 + 1, [], L ++ [e]), ⟨by simp only; omega, by simp only [List.length_append, List.length_singleton]; omega, by simp, by simp only; omega, by simp only; omega, ?_⟩, by simp only; omega, ?_⟩
          · rw [← hE, edGo, if_neg hpos, hpe, List.append_assoc]
          · refine To.go [0, 1, 2, 3, 7] _ rfl (.refl s) (by decide) (by simp) ?_ ?_
            · simp +contextual only [go_sem, hlen1, hlv, pu_ren hpu, cdD, cdN, gdT, gdF, gdD]
            · simp only [go_sem, pu_ren hpu, map_gso_pu (edc_pul _), cdD, cdN, gdT, gdF, gdD]
    · have hj2 : j = F.length := by omega
      rw [hj2, List.drop_length, edGo] at hE
      refine lfunG_eqc' rfl (push5 (by omega) (by omega) (by omega) (by omega) (by omega)) ?_
      rintro _ t ⟨rfl, h | ⟨e, h⟩⟩
      · obtain ⟨hpe, rfl⟩ := h
        rw [hpe, List.append_nil] at hE
        simp +contextual only [go_sem, hlen1, hlv, cdD, cdN, gdT, gdF, gdD]
        refine lexit_freezeG 4 3 (L.map Ed.enc) (by simp only [go_sem, cdD, cdN, gdT, gdF, gdD]; rfl) (enc_len L) (by decide) ?_
        simp only [go_sem, len_fz, hE, cdD, cdN, gdT, gdF, gdD]
        exact lexit_pure (.refl s) (low.mono (Nat.zero_le _) (edv_pu _)) ⟨rfl, rfl⟩
      · obtain ⟨hpe, rfl⟩ := h
        rw [hpe] at hE
        simp +contextual only [go_sem, hlen1, hlv, cdD, cdN, gdT, gdF, gdD]
        refine lexit_freezeG 6 3 ((L ++ [e]).map Ed.enc) (by simp only [go_sem, cdD, cdN, gdT, gdF, gdD]; rfl) (enc_len _) (by decide) ?_
        simp only [go_sem, len_fz, hE, cdD, cdN, gdT, gdF, gdD]
        exact lexit_pure (.refl s) (low.mono (Nat.zero_le _) (edv_pu _)) ⟨rfl, rfl⟩
end Go.S1N
end
section
namespace Go.S1N
open Go Go.Am Go.Proofs Go.S1
set_option maxRecDepth 100000
theorem build118 {n : Int} : abuild tab 123 [(0, .int .i64 n)] = some (.agg [.int .i64 n, .nils]) := by
  simp [abuild, ty123, Tab.size, ty3, ty121, AV.ofV, AV.ofOne, afill, AV.israw, AV.cells, splice]
attribute [local irreducible] lopsB lvb lstepB lfunG lcondB lguardB lguardU ldguardU ldrawB ldrunB ldstepB ldguardB lmem lval ldmem ldval ldfun lexit ldloadB ldlenB lpostB athen ablock
theorem letters_pul (L : List (Int × UInt8)) : PuL (letters L) := by
  rw [← ltv_letters]
  have := ltv_pu L
  simp only [PuL, lowL_iff] at this ⊢
  intro c hc
  obtain ⟨v, hv, hcv⟩ := List.mem_flatMap.1 hc
  obtain ⟨p, _, rfl⟩ := List.mem_map.1 hv
  simp only [AV.cells, List.mem_cons, List.not_mem_nil, or_false] at hcv
  rcases hcv with rfl | rfl <;> simp only [low]
theorem letters_snoc (L : List (Int × UInt8)) (a : Int) (c : UInt8) : letters (L ++ [(a, c)]) = letters L ++ [.int .i64 a, .int .u8 c.toNat] := by rw [letters_append]; rfl
theorem gso_let {O : List (Int × UInt8)} {z : Int × UInt8} : gso 126 (letters (O ++ [z])) = some (.cells (letters (O ++ [z])) (some 126)) := gso_pos (by simp [letters])
end Go.S1N
end
section
namespace Go.S1N
open Go Go.Am Go.Proofs Go.S1
set_option maxRecDepth 100000
attribute [local go_sem] Nat.reduceLT Nat.reduceEqDiff Nat.reduceAdd Nat.reduceLeDiff reduceIte reduceCtorEq
attribute [local irreducible] lopsB lvb lstepB lfunG lcondB lguardB lguardU ldguardU ldrawB ldrunB ldstepB ldguardB lmem lval ldmem ldval ldfun lexit ldloadB ldlenB lpostB athen ablock
theorem eq_of_take {α : Type} {a b : List α} {i : Nat} (h : a.take i = b.take i) (hi : i = a.length) (hl : a.length = b.length) : a = b := by
  subst hi
  rw [List.take_length, hl, List.take_length] at h
  exact h
theorem take_snoc {α : Type} {a b : List α} {i : Nat} {x : α} (h : a.take i = b.take i) (ha : a[i]? = some x) (hb : b[i]? = some x) : a.take (i + 1) = b.take (i + 1) := by
  rw [List.take_add_one, List.take_add_one, h, ha, hb]
theorem Ed.ext' {a b : Ed} (h1 : a.at_ = b.at_) (h2 : a.cut = b.cut) (h3 : a.new = b.new) : a = b := by cases a; cases b; simp_all
theorem beqd {α : Type} [BEq α] [LawfulBEq α] [DecidableEq α] {a b : α} : (a == b) = decide (a = b) := by
  by_cases h : a = b <;> simp [h]
theorem neq35 {a b a' b' : Int} {c c' : List UInt8} : abin tab .neq 44 (.agg [.int .i64 a, .int .i64 b, .str c]) (.agg [.int .i64 a', .int .i64 b', .str c']) = some (.bool (decide (¬ (a = a' ∧ b = b' ∧ c = c')))) := by
  simp [abin, abin1, aeq, ty44, ty3, ty9, aeqFields, apart, TD.isAgg, beqd]
  by_cases h1 : a = a' <;> by_cases h2 : b = b' <;> by_cases h3 : c = c' <;> simp [h1, h2, h3]
theorem equalEds_ok {v w : AV} {a b : List Ed} (hv : SlE v a) (hw : SlE w b) (ha : a.length < 4611686018427387904) (s : AHeap) [Decidable (a = b)] :
    ACall Tryz.prog 22 [v, w] s fun r t => r = .bool (decide (a = b)) ∧ t = s := by
  refine gob22 (by simp) ?_
  intro tm hlen harg
  simp +contextual only [go_sem, L22, hlen, harg, hv.len, hw.len, cdD, cdN, gdT, gdF, gdD]
  refine ⟨fun c => ?_, fun c => ?_⟩
  · refine lexit_pure (.refl s) (by simp only [low]) ⟨?_, rfl⟩
    have : a ≠ b := by rintro rfl; exact c rfl
    simp [this]
  · have hl : a.length = b.length := by omega
    refine ⟨Nat, fun i => [(0, v), (1, w), (12, .int .i64 a.length), (13, .int .i64 i)], fun i => loc s 0 [], fun i => i ≤ a.length ∧ a.take i = b.take i, fun i => a.length - i, 0, by simp, ?_, ?_⟩
    · refine To.go [] [] rfl (.refl s) (by decide) (by simp) ?_ trivial
      simp +contextual only [go_sem, hlen, harg, pu_ren hv.pu, pu_ren hw.pu, cdD, cdN, gdT, gdF, gdD]
      simp [hl]
    · rintro i tm1 ⟨hi, ht⟩ hlen1 hlv
      simp only [go_sem, hlen, cdD, cdN, gdT, gdF, gdD] at hlen1 hlv
      simp +contextual only [go_sem, hlen, hlen1, hlv, cdD, cdN, gdT, gdF, gdD]
      refine ⟨fun hlt => ?_, fun hge => ?_⟩
      · have hea := List.getElem?_eq_getElem (show i < a.length by omega)
        have heb := List.getElem?_eq_getElem (show i < b.length by omega)
        generalize a[i] = x at hea
        generalize b[i] = y at heb
        have hw1 : IntKind.i64.wrap ((i : Int) + 1) = ((i + 1 : Nat) : Int) := by rw [wrap_id (by omega)]; rfl
        refine ldrawB_go [] [] 8 (by decide) ?_
        simp only [go_sem, hlen1, hlv, hv.at hea, hw.at heb, neq35, hw1, cdD]
        refine ⟨by kernel_rfl, fun hne => ?_, fun he => ?_⟩
        · refine lexit_pure (.refl s) (by simp only [low]) ⟨?_, rfl⟩
          have : a ≠ b := by rintro rfl; rw [hea] at heb; cases heb; exact hne ⟨rfl, rfl, rfl⟩
          simp [this]
        · have he : _ ∧ _ ∧ _ := he
          have hxy : y = x := (Ed.ext' he.1 he.2.1 he.2.2).symm
          refine ⟨i + 1, ⟨by omega, take_snoc ht hea (by rw [heb, hxy])⟩, by omega, ?_⟩
          refine To.go [] [] rfl (.refl s) (by decide) (by simp) ?_ trivial
          simp +contextual only [go_sem, hlen1, hlv, pu_ren hv.pu, pu_ren hw.pu, cdD, cdN, gdT, gdF, gdD]
      · refine lexit_pure (.refl s) (by simp only [low]) ⟨?_, rfl⟩
        simp [eq_of_take ht (by omega) hl]
end Go.S1N
end
section
namespace Go.S1N
open Go Go.Am Go.Proofs Go.S1
set_option maxRecDepth 100000
attribute [local irreducible] lopsB lvb lstepB lfunG lcondB lguardB lguardU ldguardU ldrawB ldrunB ldstepB ldguardB lmem lval ldmem ldval ldfun lexit ldloadB ldlenB lpostB athen ablock
end Go.S1N
end
section
namespace Go.S1N
open Go Go.Am Go.Proofs Go.S1
set_option maxRecDepth 100000
attribute [local irreducible] lopsB lvb lstepB lfunG lcondB lguardB lguardU ldguardU ldrawB ldrunB ldstepB ldguardB lmem lval ldmem ldval ldfun lexit ldloadB ldlenB lpostB athen ablock
end Go.S1N
end
section
namespace Go.S1N
open Go Go.Am Go.Proofs Go.S1
set_option maxRecDepth 100000
def dl : List Ed → Int
  | [] => 0
  | e :: r => (e.new.length - e.cut) + dl r
theorem run_len (a k : Nat) : (runOf a k).length = k := by simp [runOf]
theorem flow_dl (n : Nat) : ∀ (l : List Ed) (a : Nat) (B : Int), (B = a ∨ (B = -1 ∧ a = 0)) → a ≤ n → scan n B l = 0 → ((flowFrom n a l).length : Int) = (n - a) + dl l
  | [], a, B, _, ha, _ => by simp only [flowFrom, run_len, dl]; omega
  | e :: r, a, B, hB, ha, h => by
    obtain ⟨c1, c2, c3, c4, c5, c6⟩ := scan_cons h
    have := flow_dl n r (e.at_ + e.cut).toNat (e.at_ + e.cut) (.inl (by omega)) (by omega) c6
    simp only [flowFrom, List.length_append, run_len, List.length_map, dl]
    omega
def negL (w : List UInt8) : List (Int × UInt8) := w.map fun c => ((-1 : Int), c)
theorem push_same {p : Int} : pushE p [] p = [] := if_neg (by rintro (h | h); omega; exact h rfl)
theorem ed_neg (N : Int) : ∀ (u : List UInt8) (q : Int) (w : List UInt8) (t : List (Int × UInt8)), edGo N q w (negL u ++ t) = edGo N q (w ++ u) t
  | [], q, w, t => by simp [negL]
  | c :: u, q, w, t => by
    have ih := ed_neg N u q (w ++ [c]) t
    simp only [negL, List.map_cons, List.cons_append] at ih ⊢
    rw [edGo, if_pos (by simp only; omega), ih, List.append_assoc]; rfl
theorem runOf_cons (a k : Nat) : runOf a (k + 1) = ((a : Int), 0) :: runOf (a + 1) k := rfl
theorem run_mem {a k : Nat} {q : Int × UInt8} (h : q ∈ runOf a k) : (a : Int) ≤ q.1 ∧ q.1 < a + k := by
  obtain ⟨i, hi, rfl⟩ := List.mem_map.1 h
  have := List.mem_range'_1.1 hi
  simp only; omega
end Go.S1N
end
section
namespace Go.S1
open Go Go.Am Go.Proofs
set_option maxRecDepth 100000
noncomputable def run (n : Nat) := afun tab (fun _ => {}) ov 100 n
theorem t19 : (run 12 24 [] .empty).map Prod.fst = some (.bool true) := by kernel_rfl
end Go.S1
end
section
namespace Go.S1N
open Go Go.Am Go.Proofs Go.S1
set_option maxRecDepth 100000
theorem ACall.closed {P : Program} {f : FuncId} {b : Bool} (h : ACall P f [] .empty fun v _ => v = .bool b) (s : AHeap) : ACall P f [] s fun v t => v = .bool b ∧ t = s := by
  intro K w vals hG hw hv
  cases hv
  have hlt : ∀ {g o u}, K.frz g o = some u → g < w.heap.size := fun h => hw.frz_lt h
  have hdl : ∀ {g n}, K.dim g = some n → g < w.heap.size := fun h => hw.dim_lt h
  let K0 : Know := ⟨fun _ => none, K.frz, K.dim⟩
  have he : ∀ {x : Nat} {o : AObj} {p : Prop}, AHeap.empty.get x = some o → p := by
    intro x o p e
    rw [AHeap.get_empty] at e
    cases e
  have h0 : WR K0 .empty w := ⟨hw.frz, hw.dim, fun _ _ e => he e, fun _ _ _ _ _ _ _ e => he e, fun _ _ _ _ e => he e, fun _ _ _ e => nomatch e⟩
  have fin : ∀ {v : AV} {u : Value} {K' : Know} {s' : AHeap} {w' : World}, RV K' v u → Ext K0 .empty w K' s' w' → v = .bool b → ∃ v' K2 s2, RV K2 v' u ∧ WR K2 s2 w' ∧ Ext K s w K2 s2 w' ∧ v' = .bool b ∧ s2 = s := by
    intro v u K' s' w' hr hx hv
    subst hv
    have hno : ∀ g, ¬ owned K0 .empty g := by
      rintro g ⟨x, o, base, e, _⟩
      rw [AHeap.get_empty] at e; cases e
    have hbl : ∀ g, g < w.heap.size → w'.heap[g]? = w.heap[g]? := fun g hg => hx.block g hg (hno g)
    refine ⟨.bool b, K, s, ?_, ?_, ?_, rfl, rfl⟩
    · cases hr; exact .bool b
    · refine ⟨?_, ?_, ?_, hw.inj, hw.sep, fun b g i e => ⟨(hw.bnd b g i e).1, Nat.lt_of_lt_of_le (hw.bnd b g i e).2 hx.size⟩⟩
      · intro g o u e
        have := hw.frz g o u e
        unfold World.cell? at this ⊢
        rw [show (⟨g, o, none⟩ : Addr).block = g from rfl] at this ⊢
        rw [hbl g (hlt e)]; exact this
      · intro g n e
        rw [hbl g (hdl e)]; exact hw.dim g n e
      · intro x o e
        obtain ⟨g, base, q1, q2⟩ := hw.own x o e
        exact ⟨g, base, q1, q2.of_block (hbl g (hw.bnd _ _ _ q1).2)⟩
    · exact ⟨.refl K, fun _ _ => rfl, Nat.le_refl _, hx.os, hx.tape, hx.output, hx.size, fun g hg _ => hbl g hg, fun g ho => .inl ho, fun _ _ _ _ => rfl⟩
  have := h K0 w [] hG h0 .nil
  generalize (callFunc f ([] : List Value).toArray).run P w = r at *
  cases r with
  | halt _ _ => exact this
  | ok n w' =>
    cases n <;> simp only at this ⊢
    · obtain ⟨v, K', s', h1, h2, h3, h4⟩ := this
      obtain ⟨v', K2, s2, q1, q2, q3, q4, q5⟩ := fin h1 h3 h4
      exact ⟨v', K2, s2, q1, q2, q3, q4, q5⟩
    · refine Calls.mono this ?_
      rintro e w'' ⟨u, v, K', s', h0, h1, h2, h3, h4⟩
      obtain ⟨v', K2, s2, q1, q2, q3, q4, q5⟩ := fin h1 h3 h4
      exact ⟨u, v', K2, s2, h0, q1, q2, q3, q4, q5⟩
theorem run_bool {n f : Nat} {b : Bool} (h : (run n f [] .empty).map Prod.fst = some (.bool b)) (s : AHeap) : ACall Tryz.prog f [] s fun v t => v = .bool b ∧ t = s := by
  obtain ⟨⟨v, t⟩, h1, h2⟩ := Option.map_eq_some_iff.1 h
  refine ACall.closed ((afun_ok tab_ok mixed ov_ok _ n f [] .empty v t h1).mono ?_) s
  rintro v' t' ⟨rfl, _⟩
  exact h2
theorem edited_ok (s : AHeap) : ACall Tryz.prog 24 [] s fun v t => v = .bool true ∧ t = s := run_bool t19 s
end Go.S1N
end
section
namespace Go.S1N
open Go Go.Am Go.Proofs Go.S1
set_option maxRecDepth 100000
attribute [local irreducible] lopsB lvb lstepB lfunG lcondB lguardB lguardU ldguardU ldrawB ldrunB ldstepB ldguardB lmem lval ldmem ldval ldfun lexit ldloadB ldlenB lpostB athen ablock
theorem ints_cells {v : AV} {l : List Int} (h : IsInts v l) : v.cells = [v] := by rcases h with ⟨f, rfl⟩ | ⟨rfl, rfl⟩ | ⟨g, rfl⟩ <;> rfl
theorem ints_israw {v : AV} {l : List Int} (h : IsInts v l) : v.israw = false := by rcases h with ⟨f, rfl⟩ | ⟨rfl, rfl⟩ | ⟨g, rfl⟩ <;> rfl
theorem faultOf_zero {n : Int} {l : List Ed} (h : faultOf n l = 0) : 0 ≤ n ∧ n ≤ 20000 ∧ l.length ≤ 2000 ∧ scan n (-1) l = 0 := by
  rw [faultOf] at h
  split at h
  · cases h
  · rename_i h1
    have h1 := Classical.not_not.1 h1
    split at h
    · cases h
    · split at h
      · rename_i h3; exact absurd h h3
      · rename_i h2 h3
        exact ⟨h1.1, h1.2, by omega, Classical.not_not.1 h3⟩
theorem same33 (l : List Ed) (h : l.length < 4611686018427387904) (s : AHeap) : ACall Tryz.prog 22 [edv l, edv l] s fun r t => r = .bool true ∧ t = s := by
  classical
  have := equalEds_ok (edv_sl l) (edv_sl l) h s
  simpa using this
end Go.S1N
end
section
namespace Go.S1
open Go Go.Am Go.Proofs
set_option maxRecDepth 100000
noncomputable def L84 : LCode := .seq (.ops [⟨.assign (.const (.slice none 0 0)), some 4, none⟩]) (.seq (.ops [⟨.alloc 28, some 5, none⟩]) (.seq (.ops [⟨.alloc 3, some 6, none⟩, ⟨.alloc 9, some 7, none⟩, ⟨.store 3 (.tmp 6) (.const (.int .i64 0)), none, none⟩, ⟨.store 9 (.tmp 7) (.const (.string ⟨⟨[]⟩⟩)), none, none⟩]) (.seq (.ops [⟨.makeFunc (Fn.func 139) ⟨[]⟩ ⟨[.tmp 6, .tmp 7, .tmp 5]⟩, some 11, none⟩, ⟨.assign (.tmp 11), some 8, none⟩]) (.seq (.seq (.ops [⟨.move (.tmp 1), some 12, none⟩, ⟨.call ⟨.builtin .len, ⟨[.tmp 12]⟩, ⟨[132]⟩⟩, some 13, none⟩, ⟨.move (.const (.int .i64 0)), some 14, none⟩]) (.block 0 (.loop (.seq (.ops [⟨.binOp .lss 3 (.tmp 14) (.tmp 13) 3, some 15, none⟩]) (.seq (.cond (.tmp 15) .skip (.exit 0)) (.seq (.block 1 (.seq (.ops [⟨.indexAddr 132 (.tmp 12) (.tmp 14), some 16, none⟩, ⟨.load 135 (.tmp 16), some 17, none⟩, ⟨.alloc 135, some 10, none⟩, ⟨.store 135 (.tmp 10) (.tmp 17), none, none⟩]) (.block 2 (.seq (.ops [⟨.fieldAddr 135 (.tmp 10) 2, some 19, none⟩, ⟨.load 9 (.tmp 19), some 20, none⟩, ⟨.binOp .neq 9 (.tmp 20) (.const (.string ⟨⟨[]⟩⟩)) 9, some 21, none⟩, ⟨.assign (.tmp 21), some 18, none⟩]) (.cond (.tmp 18) (.ops [⟨.load 9 (.tmp 7), some 22, none⟩, ⟨.fieldAddr 135 (.tmp 10) 2, some 23, none⟩, ⟨.load 9 (.tmp 23), some 24, none⟩, ⟨.binOp .add 9 (.tmp 22) (.tmp 24) 9, some 25, none⟩, ⟨.store 9 (.tmp 7) (.tmp 25), none, none⟩]) (.seq (.ops [⟨.fieldAddr 135 (.tmp 10) 1, some 27, none⟩, ⟨.load 3 (.tmp 27), some 28, none⟩, ⟨.binOp .gtr 3 (.tmp 28) (.const (.int .i64 0)) 3, some 29, none⟩, ⟨.assign (.tmp 29), some 26, none⟩]) (.cond (.tmp 26) (.seq (.ops [⟨.move (.tmp 8), some 30, none⟩, ⟨.fieldAddr 135 (.tmp 10) 0, some 31, none⟩, ⟨.load 3 (.tmp 31), some 32, none⟩, ⟨.call ⟨.value (.tmp 30), ⟨[.tmp 32]⟩, ⟨[3]⟩⟩, some 33, none⟩]) (.ops [⟨.fieldAddr 135 (.tmp 10) 0, some 34, none⟩, ⟨.load 3 (.tmp 34), some 35, none⟩, ⟨.fieldAddr 135 (.tmp 10) 1, some 36, none⟩, ⟨.load 3 (.tmp 36), some 37, none⟩, ⟨.binOp .add 3 (.tmp 35) (.tmp 37) 3, some 38, none⟩, ⟨.store 3 (.tmp 6) (.tmp 38), none, none⟩, ⟨.store 9 (.tmp 7) (.const (.string ⟨⟨[]⟩⟩)), none, none⟩])) .skip))))))) (.ops [⟨.binOp .add 3 (.tmp 14) (.const (.int .i64 1)) 3, some 39, none⟩, ⟨.move (.tmp 39), some 14, none⟩]))))))) (.seq (.ops [⟨.move (.tmp 8), some 40, none⟩, ⟨.move (.tmp 0), some 41, none⟩, ⟨.call ⟨.value (.tmp 40), ⟨[.tmp 41]⟩, ⟨[3]⟩⟩, some 42, none⟩]) (.seq (.ops [⟨.load 28 (.tmp 5), some 43, none⟩, ⟨.assign (.tmp 43), some 4, none⟩]) .ret))))))
theorem l84 : Tryz.f84.body.map lighten = some L84 := by kernel_rfl
theorem gob84 : Gob 84 44 L84 [.tmp 4] := fun hl h => ACall.goB tab_ok mixed Tryz.func84 l84 nm84 (by kernel_rfl) (by kernel_rfl) hl h
noncomputable def L139 : LCode := .seq (.ops [⟨.move (.tmp 0), some 5, none⟩, ⟨.load 3 (.tmp 1), some 6, none⟩, ⟨.binOp .gtr 3 (.tmp 5) (.tmp 6) 3, some 7, none⟩, ⟨.move (.tmp 7), some 8, none⟩, ⟨.load 9 (.tmp 2), some 9, some (8, false)⟩, ⟨.binOp .neq 9 (.tmp 9) (.const (.string ⟨⟨[]⟩⟩)) 9, some 10, some (8, false)⟩, ⟨.pick (.tmp 8) (.const (.bool true)) (.tmp 10), some 11, none⟩]) (.cond (.tmp 11) (.ops [⟨.load 28 (.tmp 3), some 12, none⟩, ⟨.load 3 (.tmp 1), some 13, none⟩, ⟨.move (.tmp 0), some 14, none⟩, ⟨.load 3 (.tmp 1), some 15, none⟩, ⟨.binOp .sub 3 (.tmp 14) (.tmp 15) 3, some 16, none⟩, ⟨.load 9 (.tmp 2), some 17, none⟩, ⟨.build 44 ⟨[(0, .tmp 13), (1, .tmp 16), (2, .tmp 17)]⟩, some 18, none⟩, ⟨.buildSlice 28 1 ⟨[(0, .tmp 18)]⟩, some 19, none⟩, ⟨.call ⟨.builtin .append, ⟨[.tmp 12, .tmp 19]⟩, ⟨[28, 28]⟩⟩, some 20, none⟩, ⟨.store 28 (.tmp 3) (.tmp 20), none, none⟩]) .skip)
theorem l139 : Tryz.f139.body.map lighten = some L139 := by kernel_rfl
theorem gob139 : Gob 139 21 L139 [] := fun hl h => ACall.goB tab_ok mixed Tryz.func139 l139 nm139 (by kernel_rfl) (by kernel_rfl) hl h
end Go.S1
end
section
namespace Go.S1N
open Go Go.Am Go.Proofs Go.S1
set_option maxRecDepth 100000
attribute [local irreducible] lopsB lvb lstepB lfunG lcondB lguardB lguardU ldguardU ldrawB ldrunB ldstepB ldguardB lmem lval ldmem ldval ldfun lexit ldloadB ldlenB lpostB athen ablock
end Go.S1N
end
section
namespace Go.S1N
open Go Go.Am Go.Proofs Go.S1
set_option maxRecDepth 100000
def okF (n : Nat) : Nat → List (Int × UInt8) → Prop
  | _, [] => True
  | a, p :: F => (p.1 = -1 ∧ okF n a F) ∨ ∃ o : Nat, p = ((o : Int), 0) ∧ a ≤ o ∧ o < n ∧ okF n (o + 1) F
theorem okF_mono {n : Nat} : ∀ {F : List (Int × UInt8)} {a b : Nat}, b ≤ a → okF n a F → okF n b F
  | [], _, _, _, _ => trivial
  | p :: F, a, b, hb, h => by
    rcases h with ⟨hp, h⟩ | ⟨o, hp, h1, h2, h3⟩
    · exact .inl ⟨hp, okF_mono hb h⟩
    · exact .inr ⟨o, hp, by omega, h2, h3⟩
theorem ok_run {n : Nat} {F : List (Int × UInt8)} : ∀ (k a : Nat), a + k ≤ n → okF n (a + k) F → okF n a (runOf a k ++ F)
  | 0, a, _, h => h
  | k + 1, a, hk, h => by
    rw [runOf_cons, List.cons_append]
    exact .inr ⟨a, rfl, Nat.le_refl _, by omega, ok_run k (a + 1) (by omega) (by rwa [show a + 1 + k = a + (k + 1) by omega])⟩
theorem ok_neg {n a : Nat} {F : List (Int × UInt8)} (h : okF n a F) : ∀ w : List UInt8, okF n a (negL w ++ F)
  | [] => h
  | c :: w => .inl ⟨rfl, ok_neg h w⟩
end Go.S1N
end
section
namespace Go.S1N
open Go Go.Am Go.Proofs Go.S1
set_option maxRecDepth 100000
end Go.S1N
end
section
namespace Go.S1N
open Go Go.Am Go.Proofs Go.S1
set_option maxRecDepth 100000
end Go.S1N
end
section
namespace Go.S1N
open Go Go.Am Go.Proofs Go.S1
set_option maxRecDepth 100000
end Go.S1N
end
section
namespace Go.S1N
open Go Go.Am Go.Proofs Go.S1
set_option maxRecDepth 100000
attribute [local irreducible] lopsB lvb lstepB lfunG lcondB lguardB lguardU ldguardU ldrawB ldrunB ldstepB ldguardB lmem lval ldmem ldval ldfun lexit ldloadB ldlenB lpostB athen ablock
structure IsEds (v : AV) (l : List (List Ed)) : Prop where
  len : alen tab 987650060 v = some (.int .i64 l.length)
  at_ : ∀ {j : Nat} {c : List Ed}, l[j]? = some c → aindexAddr tab 987650060 v (.int .i64 j) = some (.rptr [edv c])
  pu : Pu v
end Go.S1N
end
section
namespace Go.S1N
open Go Go.Am Go.Proofs Go.S1
set_option maxRecDepth 100000
def rfl1 (r : Rn) : List (Int × UInt8) := if r.text ≠ [] then negL r.text else (List.range r.long.toNat).map fun (i : Nat) => (r.at_ + (i : Int), (0 : UInt8))
def rflow (l : List Rn) : List (Int × UInt8) := l.flatMap rfl1
def rGo (n : Int) : Int → List UInt8 → List Rn → List Ed
  | a, w, [] => pushE a w n
  | a, w, r :: l => if r.text ≠ [] then rGo n a (w ++ r.text) l else if 0 < r.long then pushE a w r.at_ ++ rGo n (r.at_ + r.long) [] l else rGo n a w l
theorem ed_kept (N : Int) (t : List (Int × UInt8)) : ∀ (k : Nat) (o q : Int) (w : List UInt8), 0 ≤ o → edGo N q w ((List.range (k + 1)).map (fun (i : Nat) => (o + (i : Int), (0 : UInt8))) ++ t) = pushE q w o ++ edGo N (o + (k + 1 : Nat)) [] t
  | 0, o, q, w, h => by
    simp only [List.range_succ, List.range_zero, List.nil_append, List.map_cons, List.map_nil, List.cons_append, edGo]
    rw [if_neg (by omega)]
    simp
  | k + 1, o, q, w, h => by
    have ih := ed_kept N t k (o + 1) (o + 1) [] (by omega)
    rw [List.range_succ_eq_map, List.map_cons, List.map_map, List.cons_append, edGo, if_neg (by simp only; omega)]
    have e : (List.range (k + 1)).map ((fun (i : Nat) => (o + (i : Int), (0 : UInt8))) ∘ Nat.succ) = (List.range (k + 1)).map (fun (i : Nat) => (o + 1 + (i : Int), (0 : UInt8))) := by
      refine List.map_congr_left fun i _ => ?_
      simp only [Function.comp_apply, Nat.succ_eq_add_one, Prod.mk.injEq, and_true]
      omega
    rw [e]
    simp only [Int.natCast_zero, Int.add_zero] at ih ⊢
    rw [ih, push_same, List.nil_append]
    congr 2; omega
theorem rGo_flow (n : Int) : ∀ (l : List Rn) (a : Int) (w : List UInt8), (∀ r ∈ l, 0 ≤ r.at_) → rGo n a w l = edGo n a w (rflow l)
  | [], a, w, _ => rfl
  | r :: l, a, w, h => by
    have ih := fun a w => rGo_flow n l a w fun x hx => h x (List.mem_cons_of_mem _ hx)
    have hr := h r (List.mem_cons_self ..)
    have hf : rflow (r :: l) = rfl1 r ++ rflow l := List.flatMap_cons
    rw [rGo, hf, rfl1]
    split
    · rw [ed_neg, ih]
    · split
      · rename_i h0
        obtain ⟨k, hk⟩ : ∃ k, r.long.toNat = k + 1 := ⟨r.long.toNat - 1, by omega⟩
        rw [hk, ed_kept _ _ _ _ _ _ hr, ih]
        congr 2; omega
      · rename_i h0
        rw [show r.long.toNat = 0 by omega, ih]; rfl
theorem rfl1_kept {a k : Nat} : rfl1 ⟨a, k, []⟩ = runOf a k := by
  simp only [rfl1, ne_eq, not_true_eq_false, if_false, runOf, Int.toNat_natCast]
  rw [List.range'_eq_map_range, List.map_map]
  refine List.map_congr_left fun i _ => ?_
  simp
theorem rfl1_fresh {w : List UInt8} : rfl1 ⟨0, 0, w⟩ = negL w := by
  unfold rfl1
  split
  · rfl
  · rename_i h
    have : w = [] := Classical.not_not.1 h
    subst this; rfl
def rsize (r : Rn) : Nat := max r.long.toNat r.text.length
def okR (r : Rn) : Prop := 0 ≤ r.at_ ∧ 0 ≤ r.long ∧ (r.text = [] ∨ r.long = 0)
end Go.S1N
end
section
namespace Go.S1N
open Go Go.Am Go.Proofs Go.S1
set_option maxRecDepth 100000
end Go.S1N
end
section
namespace Go.S1N
open Go Go.Am Go.Proofs Go.S1
set_option maxRecDepth 100000
attribute [local irreducible] lopsB lvb lstepB lfunG lcondB lguardB lguardU ldguardU ldrawB ldrunB ldstepB ldguardB lmem lval ldmem ldval ldfun lexit ldloadB ldlenB lpostB athen ablock
def Rn.emp (r : Rn) : Prop := r.long = 0 ∧ r.text = []
instance (r : Rn) : Decidable r.emp := inferInstanceAs (Decidable (_ ∧ _))
theorem rnc_cons (r : Rn) (l : List Rn) : rnc (r :: l) = .int .i64 r.at_ :: .int .i64 r.long :: .str r.text :: rnc l := rfl
structure LB (C : List AV) (off : Nat) (R : List Rn) : Prop where
  pu : PuL C
  rest : ∃ J, C.drop off = rnc R ++ J
theorem LB.head {C : List AV} {off : Nat} {r : Rn} {R : List Rn} (h : LB C off (r :: R)) : ∃ T, C.drop off = .int .i64 r.at_ :: .int .i64 r.long :: .str r.text :: T := by
  obtain ⟨J, hJ⟩ := h.rest
  exact ⟨rnc R ++ J, by rw [hJ, rnc_cons]; rfl⟩
theorem LB.le {C : List AV} {off : Nat} {r : Rn} {R : List Rn} (h : LB C off (r :: R)) : off + 3 ≤ C.length := by
  obtain ⟨T, hT⟩ := h.head
  have := congrArg List.length hT
  simp only [List.length_drop, List.length_cons] at this
  omega
theorem LB.tail {C : List AV} {off : Nat} {r : Rn} {R : List Rn} (h : LB C off (r :: R)) : LB C (off + 3) R := by
  obtain ⟨J, hJ⟩ := h.rest
  refine ⟨h.pu, J, ?_⟩
  rw [show off + 3 = off + 3 from rfl, ← List.drop_drop, hJ, rnc_cons]
  rfl
theorem pul_set {C : List AV} (h : PuL C) (i : Nat) {v : AV} (hv : low 0 v) : PuL (C.set i v) := by
  unfold PuL at *
  rw [lowL_iff] at *
  intro x hx
  rcases List.mem_or_eq_of_mem_set hx with q | rfl
  · exact h x q
  · exact hv
theorem drop_set_at {C : List AV} (off k : Nat) (v : AV) : (C.set (off + k) v).drop off = (C.drop off).set k v := by
  rw [List.drop_set, if_neg (by omega), Nat.add_sub_cancel_left]
theorem LB.text {C : List AV} {off : Nat} {r : Rn} {R : List Rn} (h : LB C off (r :: R)) (x : List UInt8) : LB (C.set (off + 2) (.str x)) off (⟨r.at_, r.long, x⟩ :: R) := by
  obtain ⟨J, hJ⟩ := h.rest
  refine ⟨pul_set h.pu _ (by simp only [low]), J, ?_⟩
  rw [drop_set_at, hJ, rnc_cons, rnc_cons]
  rfl
theorem LB.set {C : List AV} {off : Nat} {r : Rn} {R : List Rn} (h : LB C off (r :: R)) (a b : Int) (x : List UInt8) : LB (((C.set off (.int .i64 a)).set (off + 1) (.int .i64 b)).set (off + 1 + 1) (.str x)) off (⟨a, b, x⟩ :: R) := by
  obtain ⟨J, hJ⟩ := h.rest
  refine ⟨pul_set (pul_set (pul_set h.pu _ (by simp only [low])) _ (by simp only [low])) _ (by simp only [low]), J, ?_⟩
  rw [show off + 1 + 1 = off + 2 from rfl, drop_set_at, drop_set_at, show C.set off (.int .i64 a) = C.set (off + 0) (.int .i64 a) from rfl, drop_set_at, hJ, rnc_cons, rnc_cons]
  rfl
end Go.S1N
end
section
namespace Go.S1N
open Go Go.Am Go.Proofs Go.S1
set_option maxRecDepth 100000
attribute [local irreducible] lopsB lvb lstepB lfunG lcondB lguardB lguardU ldguardU ldrawB ldrunB ldstepB ldguardB lmem lval ldmem ldval ldfun lexit ldloadB ldlenB lpostB athen ablock
end Go.S1N
end
section
namespace Go.S1N
open Go Go.Am Go.Proofs Go.S1
set_option maxRecDepth 100000
attribute [local irreducible] lopsB lvb lstepB lfunG lcondB lguardB lguardU ldguardU ldrawB ldrunB ldstepB ldguardB lmem lval ldmem ldval ldfun lexit ldloadB ldlenB lpostB athen ablock
structure RB (r : Rn) : Prop where
  ok : okR r
  pos : 0 < rsize r
  lo : 0 ≤ r.at_
  hi : r.at_ + r.long ≤ 1000000000
end Go.S1N
end
section
namespace Go.S1N
open Go Go.Am Go.Proofs Go.S1
set_option maxRecDepth 100000
attribute [local irreducible] lopsB lvb lstepB lfunG lcondB lguardB lguardU ldguardU ldrawB ldrunB ldstepB ldguardB lmem lval ldmem ldval ldfun lexit ldloadB ldlenB lpostB athen ablock
end Go.S1N
end
section
namespace Go.S1N
open Go Go.Am Go.Proofs Go.S1
set_option maxRecDepth 100000
attribute [local go_sem] Nat.reduceLT Nat.reduceEqDiff Nat.reduceAdd Nat.reduceLeDiff reduceIte reduceCtorEq
attribute [local irreducible] lopsB lvb lstepB lfunG lcondB lguardB lguardU ldguardU ldrawB ldrunB ldstepB ldguardB lmem lval ldmem ldval ldfun lexit ldloadB ldlenB lpostB athen ablock
theorem pushR {s : AHeap} {o4 : Option AObj} {a to : Int} {w : List UInt8} {L : List Ed} (ha : -1 ≤ a) (ha2 : a ≤ 1000000000000) (ht : -1 ≤ to) (ht2 : to ≤ 1000000000000) (hL : L.length ≤ 1000000000) :
    ACall Tryz.prog 139 [.int .i64 to, .ptr (nm s.nx 1) 0, .ptr (nm s.nx 2) 0, .ptr (nm s.nx 0) 0]
      (loc s 5 [(0, some (.cells [gsv 3 (nm s.nx 3) L.length] (some 28))), (1, some (.cells [.int .i64 a] (some 3))), (2, some (.cells [.str w] (some 9))), (3, gso 44 (edc L)), (4, o4)])
      fun v t => v = .tuple [] ∧ ((pushE a w to = [] ∧ t = loc s 5 [(0, some (.cells [gsv 3 (nm s.nx 3) L.length] (some 28))), (1, some (.cells [.int .i64 a] (some 3))), (2, some (.cells [.str w] (some 9))), (3, gso 44 (edc L)), (4, o4)]) ∨
        ∃ e, pushE a w to = [e] ∧ t = loc s 7 [(0, some (.cells [gsv 3 (nm s.nx 6) (L ++ [e]).length] (some 28))), (1, some (.cells [.int .i64 a] (some 3))), (2, some (.cells [.str w] (some 9))), (4, o4), (5, some (.cells [.int .i64 a, .int .i64 (to - a), .str w] (some 44))), (6, gso 44 (edc (L ++ [e])))]) := by
  refine gob139 (by simp) ?_
  intro tm hlen harg
  rw [loc_flat (by intro j hj; simp only [lget]; rw [if_neg (by omega), if_neg (by omega), if_neg (by omega), if_neg (by omega), if_neg (by omega)])]
  have hw : IntKind.i64.wrap (to - a) = to - a := wrap_id (by omega)
  have fin : ∀ e : Ed, e = ⟨a, to - a, w⟩ → pushE a w to = [e] →
      pushE a w to = [e] ∧ loc s 7 [(0, some (AObj.cells [AV.rs 3 (nm s.nx 6) 0 (L.length + 1)] (some 28))), (1, some (AObj.cells [AV.int IntKind.i64 a] (some 3))), (2, some (AObj.cells [AV.str w] (some 9))), (4, o4), (5, some (.cells [.int .i64 a, .int .i64 (to - a), .str w] (some 44))), (6, some (.cells (edc L ++ [.int .i64 a, .int .i64 (to - a), .str w]) (some 44)))] =
        loc s 7 [(0, some (.cells [gsv 3 (nm s.nx 6) (L ++ [e]).length] (some 28))), (1, some (.cells [.int .i64 a] (some 3))), (2, some (.cells [.str w] (some 9))), (4, o4), (5, some (.cells [.int .i64 a, .int .i64 (to - a), .str w] (some 44))), (6, gso 44 (edc (L ++ [e])))] := by
    rintro e rfl h
    refine ⟨h, ?_⟩
    rw [gso_ed, List.length_append, List.length_singleton, gsv_pos (Nat.succ_ne_zero _), edc_snoc]
  by_cases c : a < to
  · simp +contextual only [go_sem, L139, hlen, harg, hw, build35_3, c, cdD, cdN, gdT, gdF, gdD]
    refine lmem_eq (app28 (acellsOf_rs (by simp only [go_sem, cdD, cdN, gdT, gdF, gdD]; rfl) (by rfl) rfl) (by decide) (by simp only [go_sem, cdD, cdN, gdT, gdF, gdD]) (by simp only [go_sem, cdD, cdN, gdT, gdF, gdD]) (edc_len L) (by omega) rfl) ?_
    simp +contextual only [go_sem, hlen, harg, hw, cdD, cdN, gdT, gdF, gdD]
    exact lexit_now ⟨rfl, .inr ⟨_, fin _ rfl (if_pos (.inl c))⟩⟩
  · by_cases c2 : w = []
    · subst c2
      simp +contextual only [go_sem, L139, hlen, harg, hw, c, cdD, cdN, gdT, gdF, gdD]
      exact lexit_now ⟨rfl, .inl ⟨if_neg (by rintro (h | h); exact c h; exact h rfl), rfl⟩⟩
    · simp +contextual only [go_sem, L139, hlen, harg, hw, build35_3, c, c2, cdD, cdN, gdT, gdF, gdD]
      refine lmem_eq (app28 (acellsOf_rs (by simp only [go_sem, cdD, cdN, gdT, gdF, gdD]; rfl) (by rfl) rfl) (by decide) (by simp only [go_sem, cdD, cdN, gdT, gdF, gdD]) (by simp only [go_sem, cdD, cdN, gdT, gdF, gdD]) (edc_len L) (by omega) rfl) ?_
      simp +contextual only [go_sem, hlen, harg, hw, cdD, cdN, gdT, gdF, gdD]
      exact lexit_now ⟨rfl, .inr ⟨_, fin _ rfl (if_pos (.inr c2))⟩⟩
theorem rnv_len (F : List Rn) : alen tab 132 (rnv F) = some (.int .i64 F.length) := by rw [rnv, len132f, List.length_map]
theorem editsR_ok (n : Int) (F : List Rn) (hn : 0 ≤ n ∧ n ≤ 1000000000000) (hF : ∀ r ∈ F, 0 ≤ r.at_ ∧ r.at_ ≤ 1000000000 ∧ r.at_ + r.long ≤ 1000000000 ∧ 0 ≤ r.long ∧ r.text.length ≤ 1000000) (hFl : F.length ≤ 1000000000) (s : AHeap) :
    ACall Tryz.prog 84 [.int .i64 n, rnv F] s fun r t => r = edv (rGo n 0 [] F) ∧ t = s := by
  refine gob84 (by simp) ?_
  intro tm hlen harg
  have hpu : Pu (rnv F) := rnv_pu F
  simp +contextual only [go_sem, L84, hlen, harg, rnv_len, cdD, cdN, gdT, gdF, gdD]
  refine ⟨Nat × Int × List UInt8 × List Ed, fun a => [(0, .int .i64 n), (5, .ptr (nm s.nx 0) 0), (6, .ptr (nm s.nx 1) 0), (7, .ptr (nm s.nx 2) 0), (8, .func (.func 139) [] [.ptr (nm s.nx 1) 0, .ptr (nm s.nx 2) 0, .ptr (nm s.nx 0) 0]), (12, rnv F), (13, .int .i64 F.length), (14, .int .i64 a.1)],
    fun a => loc s 4 [(0, some (.cells [gsv 3 (nm s.nx 3) a.2.2.2.length] (some 28))), (1, some (.cells [.int .i64 a.2.1] (some 3))), (2, some (.cells [.str a.2.2.1] (some 9))), (3, gso 44 (edc a.2.2.2))],
    fun a => a.1 ≤ F.length ∧ a.2.2.2.length ≤ a.1 ∧ a.2.2.1.length ≤ a.1 * 1000000 ∧ 0 ≤ a.2.1 ∧ a.2.1 ≤ 1000000000 ∧ a.2.2.2 ++ rGo n a.2.1 a.2.2.1 (F.drop a.1) = rGo n 0 [] F, fun a => F.length - a.1, (0, 0, [], []), ⟨by simp, by simp, by simp, by simp, by simp, by simp⟩, ?_, ?_⟩
  · refine To.go [0, 1, 2, 9] [(0, some (.cells [.nils] (some 28))), (1, some (.cells [.int .i64 0] (some 3))), (2, some (.cells [.str []] (some 9))), (3, none)] (by simp only [edc, List.map_nil, List.flatMap_nil, gso_nil, List.length_nil, gsv_zero]; rfl) (.refl s) (by decide) (by simp) ?_ ?_
    · simp +contextual only [go_sem, hlen, harg, pu_ren hpu, gsv_zero, cdD, cdN, gdT, gdF, gdD]
      rfl
    · simp only [go_sem, pu_ren hpu, cdD, cdN, gdT, gdF, gdD]
  · rintro ⟨j, a, w, L⟩ tm1 ⟨hj, hL, hw, ha0, ha1, hE⟩ hlen1 hlv
    simp only [go_sem, hlen, cdD, cdN, gdT, gdF, gdD] at hlen1 hlv hj hL hw ha0 ha1 hE
    simp +contextual only [go_sem, hlen, hlen1, hlv, cdD, cdN, gdT, gdF, gdD]
    refine ⟨fun hlt => ?_, fun hge => ?_⟩
    · have hj2 : j < F.length := by omega
      have he := List.getElem?_eq_getElem hj2
      have hmem : F[j] ∈ F := List.getElem_mem hj2
      have hdrop := List.drop_eq_getElem_cons hj2
      generalize F[j] = r at he hmem hdrop
      obtain ⟨b1, b2, b3, b4, b5⟩ := hF r hmem
      rw [hdrop, rGo] at hE
      have hw3 : IntKind.i64.wrap ((j : Int) + 1) = ((j + 1 : Nat) : Int) := by rw [wrap_id (by omega)]; rfl
      have hw4 : IntKind.i64.wrap (r.at_ + r.long) = r.at_ + r.long := wrap_id (by omega)
      have hadd := abin_sadd (T := tab) (t := 9) (x := w) (y := r.text) (by omega)
      simp +contextual only [go_sem, hlen1, hlv, rn_at F he, hadd, hw3, hw4, cdD, cdN, gdT, gdF, gdD]
      refine ⟨fun ht => ?_, fun ht => ⟨fun hl => ?_, fun hl => ?_⟩⟩
      · rw [if_pos ht] at hE
        refine ⟨(j + 1, a, w ++ r.text, L), ⟨by simp only; omega, by simp only; omega, by simp only [List.length_append]; omega, ha0, ha1, hE⟩, by simp only; omega, ?_⟩
        refine To.go [0, 1, 2, 3] _ rfl (.refl s) (by decide) (by simp) ?_ ?_
        · simp +contextual only [go_sem, hlen1, hlv, pu_ren hpu, cdD, cdN, gdT, gdF, gdD]
        · simp only [go_sem, map_gso_pu (edc_pul _), ren_gsv, cdD, cdN, gdT, gdF, gdD]
      · rw [if_neg (by simpa using ht), if_pos hl] at hE
        refine lfunG_eqc' rfl (pushR (by omega) (by omega) (by omega) (by omega) (by omega)) ?_
        rintro _ t ⟨rfl, h | ⟨e, h⟩⟩
        · obtain ⟨hpe, rfl⟩ := h
          simp +contextual only [go_sem, hlen1, hlv, hw3, hw4, cdD, cdN, gdT, gdF, gdD]
          refine ⟨(j + 1, r.at_ + r.long, [], L), ⟨by simp only; omega, by simp only; omega, Nat.zero_le _, by simp only; omega, by simp only; omega, ?_⟩, by simp only; omega, ?_⟩
          · rw [← hE, hpe, List.nil_append]
          · refine To.go [0, 1, 2, 3] _ rfl (.refl s) (by decide) (by simp) ?_ ?_
            · simp +contextual only [go_sem, hlen1, hlv, pu_ren hpu, cdD, cdN, gdT, gdF, gdD]
            · simp only [go_sem, map_gso_pu (edc_pul _), ren_gsv, cdD, cdN, gdT, gdF, gdD]
        · obtain ⟨hpe, rfl⟩ := h
          simp +contextual only [go_sem, hlen1, hlv, hw3, hw4, cdD, cdN, gdT, gdF, gdD]
          refine ⟨(j + 1, r.at_ + r.long, [], L ++ [e]), ⟨by simp only; omega, by simp only [List.length_append, List.length_singleton]; omega, Nat.zero_le _, by simp only; omega, by simp only; omega, ?_⟩, by simp only; omega, ?_⟩
          · rw [← hE, hpe, List.append_assoc]
          · refine To.go [0, 1, 2, 6] _ rfl (.refl s) (by decide) (by simp) ?_ ?_
            · simp +contextual only [go_sem, hlen1, hlv, pu_ren hpu, cdD, cdN, gdT, gdF, gdD]
            · simp only [go_sem, map_gso_pu (edc_pul _), ren_gsv, cdD, cdN, gdT, gdF, gdD]
      · rw [if_neg (by simpa using ht), if_neg hl] at hE
        have hw1 : w.length ≤ (j + 1) * 1000000 := by
          rw [Nat.succ_mul]; exact Nat.le_trans hw (Nat.le_add_right _ _)
        refine ⟨(j + 1, a, w, L), ⟨by simp only; omega, by simp only; omega, hw1, ha0, ha1, hE⟩, by simp only; omega, ?_⟩
        refine To.go [0, 1, 2, 3] _ rfl (.refl s) (by decide) (by simp) ?_ ?_
        · simp +contextual only [go_sem, hlen1, hlv, pu_ren hpu, cdD, cdN, gdT, gdF, gdD]
        · simp only [go_sem, map_gso_pu (edc_pul _), ren_gsv, cdD, cdN, gdT, gdF, gdD]
    · have hj2 : j = F.length := by omega
      rw [hj2, List.drop_length, rGo] at hE
      refine lfunG_to (lv := [(5, .ptr (nm s.nx 0) 0), (40, .func (.func 139) [] [.ptr (nm s.nx 1) 0, .ptr (nm s.nx 2) 0, .ptr (nm s.nx 0) 0]), (41, .int .i64 n)])
        (h := loc s 5 [(0, some (.cells [gsv 3 (nm s.nx 3) L.length] (some 28))), (1, some (.cells [.int .i64 a] (some 3))), (2, some (.cells [.str w] (some 9))), (3, gso 44 (edc L)), (4, none)]) (To.go [0, 1, 2, 3, 9] _ rfl (.refl s) (by decide) (by simp) ?_ ?_) ?_
      · simp +contextual only [go_sem, hlen1, hlv, cdD, cdN, gdT, gdF, gdD]
      · simp only [go_sem, map_gso_pu (edc_pul _), ren_gsv, cdD, cdN, gdT, gdF, gdD]
      · intro tm2 hlen2 hlv2
        simp only [go_sem, hlen1, cdD, cdN, gdT, gdF, gdD] at hlen2 hlv2
        simp +contextual only [go_sem, hlen2, hlv2, cdD, cdN, gdT, gdF, gdD]
        refine lfunG_eqc' rfl (pushR (by omega) (by omega) (by omega) (by omega) (by omega)) ?_
        rintro _ t ⟨rfl, h | ⟨e, h⟩⟩
        · obtain ⟨hpe, rfl⟩ := h
          rw [hpe, List.append_nil] at hE
          simp +contextual only [go_sem, hlen2, hlv2, cdD, cdN, gdT, gdF, gdD]
          refine lexit_freezeG 3 3 (L.map Ed.enc) (by simp only [go_sem, cdD, cdN, gdT, gdF, gdD]; rfl) (enc_len L) (by decide) ?_
          simp only [go_sem, len_fz, hE, cdD, cdN, gdT, gdF, gdD]
          exact lexit_pure (.refl s) (low.mono (Nat.zero_le _) (edv_pu _)) ⟨rfl, rfl⟩
        · obtain ⟨hpe, rfl⟩ := h
          rw [hpe] at hE
          simp +contextual only [go_sem, hlen2, hlv2, cdD, cdN, gdT, gdF, gdD]
          refine lexit_freezeG 6 3 ((L ++ [e]).map Ed.enc) (by simp only [go_sem, cdD, cdN, gdT, gdF, gdD]; rfl) (enc_len _) (by decide) ?_
          simp only [go_sem, len_fz, hE, cdD, cdN, gdT, gdF, gdD]
          exact lexit_pure (.refl s) (low.mono (Nat.zero_le _) (edv_pu _)) ⟨rfl, rfl⟩
end Go.S1N
end
section
namespace Go.S1N
open Go Go.Am Go.Proofs Go.S1
set_option maxRecDepth 100000
attribute [local irreducible] lopsB lvb lstepB lfunG lcondB lguardB lguardU ldguardU ldrawB ldrunB ldstepB ldguardB lmem lval ldmem ldval ldfun lexit ldloadB ldlenB lpostB athen ablock
end Go.S1N
end
section
namespace Go.S1N
open Go Go.Am Go.Proofs Go.S1
set_option maxRecDepth 100000
theorem rflow_cons (r : Rn) (l : List Rn) : rflow (r :: l) = rfl1 r ++ rflow l := List.flatMap_cons
end Go.S1N
end
section
namespace Go.S1N
open Go Go.Am Go.Proofs Go.S1
set_option maxRecDepth 100000
theorem push_len (a : Int) (w : List UInt8) (to : Int) : (pushE a w to).length ≤ 1 := by unfold pushE; split <;> simp
theorem ed_len (n : Int) : ∀ (F : List (Int × UInt8)) (a : Int) (w : List UInt8), (edGo n a w F).length ≤ F.length + 1
  | [], a, w => by rw [edGo]; have := push_len a w n; simpa using this
  | p :: F, a, w => by
    rw [edGo, List.length_cons]
    split
    · have := ed_len n F a (w ++ [p.2]); omega
    · rw [List.length_append]
      have := ed_len n F (p.1 + 1) []
      have := push_len a w p.1
      omega
end Go.S1N
end
section
namespace Go.S1
open Go Go.Am Go.Proofs
set_option maxRecDepth 100000
end Go.S1
end
section
namespace Go.S1N
open Go Go.Am Go.Proofs Go.S1
set_option maxRecDepth 100000
end Go.S1N
end
section
namespace Go.S1N
open Go Go.Am Go.Proofs Go.S1
set_option maxRecDepth 100000
attribute [local irreducible] lopsB lvb lstepB lfunG lcondB lguardB lguardU ldguardU ldrawB ldrunB ldstepB ldguardB lmem lval ldmem ldval ldfun lexit ldloadB ldlenB lpostB athen ablock
def Ed.covers (e : Ed) (p : Int) : Prop := e.at_ ≤ p ∧ p < e.at_ + e.cut
instance (e : Ed) (p : Int) : Decidable (Ed.covers e p) := inferInstanceAs (Decidable (_ ∧ _))
def goneB (l : List Ed) (p : Int) : Bool := l.any fun e => decide (Ed.covers e p)
end Go.S1N
end
section
namespace Go.S1N
open Go Go.Am Go.Proofs Go.S1
set_option maxRecDepth 100000
attribute [local irreducible] lopsB lvb lstepB lfunG lcondB lguardB lguardU ldguardU ldrawB ldrunB ldstepB ldguardB lmem lval ldmem ldval ldfun lexit ldloadB ldlenB lpostB athen ablock
structure RS (n : Int) (l : List Ed) : Prop where
  each : ∀ e ∈ l, 0 ≤ e.at_ ∧ 0 ≤ e.cut ∧ e.at_ + e.cut ≤ n
  pair : l.Pairwise fun x y => x.at_ + x.cut < y.at_
theorem RS.tail {n : Int} {e : Ed} {l : List Ed} (h : RS n (e :: l)) : RS n l := ⟨fun x hx => h.each x (List.mem_cons_of_mem e hx), (List.pairwise_cons.1 h.pair).2⟩
def hasAt (l : List Ed) (p : Int) : Bool := l.any fun e => decide (e.at_ = p)
def insAt (l : List Ed) (p : Int) : List UInt8 := match l.find? fun e => decide (e.at_ = p) with
  | some e => e.new
  | none => []
end Go.S1N
end
section
namespace Go.S1N
open Go Go.Am Go.Proofs Go.S1
set_option maxRecDepth 100000
attribute [local irreducible] lopsB lvb lstepB lfunG lcondB lguardB lguardU ldguardU ldrawB ldrunB ldstepB ldguardB lmem lval ldmem ldval ldfun lexit ldloadB ldlenB lpostB athen ablock
end Go.S1N
end
section
namespace Go.Proofs
open Go.Shelf
end Go.Proofs
namespace Go.S1N
open Go Go.Am Go.Proofs Go.S1
set_option maxRecDepth 100000
attribute [local irreducible] lopsB lvb lstepB lfunG lcondB lguardB lguardU ldguardU ldrawB ldrunB ldstepB ldguardB lmem lval ldmem ldval ldfun lexit ldloadB ldlenB lpostB athen ablock
end Go.S1N
end
section
namespace Go.S1N
open Go Go.Am Go.Proofs Go.S1
set_option maxRecDepth 100000
attribute [local irreducible] lopsB lvb lstepB lfunG lcondB lguardB lguardU ldguardU ldrawB ldrunB ldstepB ldguardB lmem lval ldmem ldval ldfun lexit ldloadB ldlenB lpostB athen ablock
def compact : List Int → List Int
  | [] => []
  | [a] => [a]
  | a :: b :: r => if a = b then compact (b :: r) else a :: compact (b :: r)
end Go.S1N
end
section
namespace Go.S1N
open Go Go.Am Go.Proofs Go.S1
set_option maxRecDepth 100000
attribute [local irreducible] lopsB lvb lstepB lfunG lcondB lguardB lguardU ldguardU ldrawB ldrunB ldstepB ldguardB lmem lval ldmem ldval ldfun lexit ldloadB ldlenB lpostB athen ablock
def ends (l : List Ed) : List Int := l.flatMap fun e => [e.at_, e.at_ + e.cut]
def placesL (n : Int) (a b : List Ed) : List Int := compact ((0 :: n :: ends (a ++ b)).mergeSort fun x y => decide (x ≤ y))
end Go.S1N
end
section
namespace Go.S1N
open Go Go.Am Go.Proofs Go.S1
set_option maxRecDepth 100000
attribute [local irreducible] lopsB lvb lstepB lfunG lcondB lguardB lguardU ldguardU ldrawB ldrunB ldstepB ldguardB lmem lval ldmem ldval ldfun lexit ldloadB ldlenB lpostB athen ablock
structure Mt where
  both : List Rn
  first : List Rn
  second : List Rn
  long : Int
def Mt.app (m k : Mt) : Mt := ⟨m.both ++ k.both, m.first ++ k.first, m.second ++ k.second, m.long + k.long⟩
def Mt.nil : Mt := ⟨[], [], [], 0⟩
def mtA (a : List Ed) (p x : Int) : Mt := if hasAt a p then ⟨[⟨0, 0, insAt a p⟩], [⟨x, (insAt a p).length, []⟩], [⟨0, 0, insAt a p⟩], (insAt a p).length⟩ else .nil
def mtB (b : List Ed) (p y : Int) : Mt := if hasAt b p then ⟨[⟨0, 0, insAt b p⟩], [⟨0, 0, insAt b p⟩], [⟨y, (insAt b p).length, []⟩], (insAt b p).length⟩ else .nil
def mtK (k : Bool) (p x y z : Int) : Mt := if k then ⟨[⟨p, z, []⟩], [⟨x, z, []⟩], [⟨y, z, []⟩], z⟩ else .nil
def meetGo (a b : List Ed) : List Int → Int → Int → Mt
  | [], _, _ => .nil
  | [p], x, y => (mtA a p x).app (mtB b p y)
  | p :: q :: r, x, y => ((mtA a p x).app (mtB b p y)).app ((mtK (!goneB a p && !goneB b p) p (x + (insAt a p).length) (y + (insAt b p).length) (q - p)).app
      (meetGo a b (q :: r) (x + (insAt a p).length + if goneB a p then 0 else q - p) (y + (insAt b p).length + if goneB b p then 0 else q - p)))
def Mt.enc (m : Mt) : AV := .agg [rnv m.both, rnv m.first, rnv m.second, .int .i64 m.long]
theorem mtK_false {p x y z : Int} : mtK false p x y z = .nil := rfl
end Go.S1N
end
section
namespace Go.S1N
open Go Go.Am Go.Proofs Go.S1
set_option maxRecDepth 100000
attribute [local irreducible] lopsB lvb lstepB lfunG lcondB lguardB lguardU ldguardU ldrawB ldrunB ldstepB ldguardB lmem lval ldmem ldval ldfun lexit ldloadB ldlenB lpostB athen ablock
end Go.S1N
end
section
namespace Go.S1N
open Go Go.Am Go.Proofs Go.S1
set_option maxRecDepth 100000
attribute [local irreducible] lopsB lvb lstepB lfunG lcondB lguardB lguardU ldguardU ldrawB ldrunB ldstepB ldguardB lmem lval ldmem ldval ldfun lexit ldloadB ldlenB lpostB athen ablock
def rnB (l : List Rn) : Prop := (∀ r ∈ l, 0 ≤ r.at_ ∧ r.at_ ≤ 1000000000 ∧ r.at_ + r.long ≤ 1000000000 ∧ 0 ≤ r.long ∧ r.text.length ≤ 1000000) ∧ l.length ≤ 1000000000
structure MOk (n : Int) (a b : List Ed) : Prop where
  hn : 0 ≤ n ∧ n ≤ 1000000
  ha : a.length ≤ 2000
  hb : b.length ≤ 2000
  ra : RS n a
  rb : RS n b
  ia : ∀ p, (insAt a p).length ≤ 100000
  ib : ∀ p, (insAt b p).length ≤ 100000
  pl : ∀ p ∈ placesL n a b, 0 ≤ p ∧ p ≤ 1000000
  pl2 : (placesL n a b).length ≤ 10000
  mono : ∀ (i : Nat) (p q : Int), (placesL n a b)[i]? = some p → (placesL n a b)[i + 1]? = some q → p ≤ q
  la : 0 ≤ longOf n a ∧ longOf n a ≤ 1000000
  lb : 0 ≤ longOf n b ∧ longOf n b ≤ 1000000
  b1 : rnB (meetGo a b (placesL n a b) 0 0).both
  b2 : rnB (meetGo a b (placesL n a b) 0 0).first
  b3 : rnB (meetGo a b (placesL n a b) 0 0).second
def touch (x y : Ed) : Prop := x.at_ ≤ y.at_ + y.cut ∧ y.at_ ≤ x.at_ + x.cut
instance (x y : Ed) : Decidable (touch x y) := inferInstanceAs (Decidable (_ ∧ _))
end Go.S1N
end
section
namespace Go.S1N
open Go Go.Am Go.Proofs Go.S1
set_option maxRecDepth 100000
attribute [local irreducible] lopsB lvb lstepB lfunG lcondB lguardB lguardU ldguardU ldrawB ldrunB ldstepB ldguardB lmem lval ldmem ldval ldfun lexit ldloadB ldlenB lpostB athen ablock
end Go.S1N
end
section
namespace Go.S1N
open Go Go.Am Go.Proofs Go.S1
set_option maxRecDepth 100000
abbrev LT := Int × UInt8
def runI (x : Int) (k : Nat) : List LT := (List.range k).map fun (i : Nat) => (x + (i : Int), (0 : UInt8))
theorem runI_zero (x : Int) : runI x 0 = [] := rfl
section
variable (a b : List Ed)
def keepAB (p : Int) : Bool := !goneB a p && !goneB b p
def stepA (p : Int) : Int := ((insAt a p).length : Int) + if goneB a p then 0 else 1
def g1 : Nat → Int → Int → List LT
  | 0, _, _ => []
  | k + 1, p, x => runI x (insAt a p).length ++ (negL (insAt b p) ++ ((if keepAB a b p then [(x + (insAt a p).length, 0)] else []) ++ g1 k (p + 1) (x + stepA a p)))
def g2 : Nat → Int → Int → List LT
  | 0, _, _ => []
  | k + 1, p, y => negL (insAt a p) ++ (runI y (insAt b p).length ++ ((if keepAB a b p then [(y + (insAt b p).length, 0)] else []) ++ g2 k (p + 1) (y + stepA b p)))
end
section
variable {a b : List Ed}
structure Calm (a b : List Ed) (p : Int) (k : Nat) (ga gb : Bool) : Prop where
  ins : ∀ r, p ≤ r → r < p + k → insAt a r = [] ∧ insAt b r = [] ∧ goneB a r = ga ∧ goneB b r = gb
theorem Calm.tail {p : Int} {k : Nat} {ga gb : Bool} (h : Calm a b p (k + 1) ga gb) : Calm a b (p + 1) k ga gb := ⟨fun r h1 h2 => h.ins r (by omega) (by omega)⟩
end
end Go.S1N
end
section

end
section
namespace Go.S1N
open Go Go.Am Go.Proofs Go.S1
set_option maxRecDepth 100000
def lcopy (T : Tab) (t : TypeId) (x y : AV) (s : AHeap) : Option (AV × AHeap) := match T.ty t with
  | some i => match i.td with
    | .slice e => acopy T e s x y
    | _ => none
  | none => none
theorem lstepB_copy {P : Program} {T : Tab} {s0 s : AHeap} {N : List AV → AHeap → Prop} {d : Option Nat} {tm : List AV} {t u : TypeId} {x y : Operand} : lstepB P T s0 N (.call { callee := .builtin .copy, args := ⟨[x, y]⟩, argTypes := ⟨[t, u]⟩ }) d tm s = lmem N (lcopy T t (aev tm x) (aev tm y) s) d tm := rfl
attribute [local irreducible] lopsB lvb lstepB lfunG lcondB lguardB lguardU ldguardU ldrawB ldrunB ldstepB ldguardB lmem lval ldmem ldval ldfun lexit ldloadB ldlenB lpostB athen ablock
end Go.S1N
end
section
namespace Go.S1N
open Go Go.Am Go.Proofs Go.S1
set_option maxRecDepth 100000
attribute [local irreducible] lopsB lvb lstepB lfunG lcondB lguardB lguardU ldguardU ldrawB ldrunB ldstepB ldguardB lmem lval ldmem ldval ldfun lexit ldloadB ldlenB lpostB athen ablock
def ownOf : Nat → List (Int × UInt8) → List Int
  | _, [] => []
  | i, p :: r => if p.1 < 0 then (i : Int) :: ownOf (i + 1) r else ownOf (i + 1) r
def need : List (Int × UInt8) → List Bool → Nat
  | p :: F, b :: bs => (if p.1 < 0 ∧ b = true then 1 else 0) + need F bs
  | _, _ => 0
def pastGo (old : List Int) : List Int → List (Int × UInt8) → List Bool → List (Int × UInt8)
  | own, p :: F, b :: bs => if 0 ≤ p.1 then (old.getD p.1.toNat 0, p.2) :: pastGo old own F bs else if b then (own.headD 0, p.2) :: pastGo old own.tail F bs else p :: pastGo old own F bs
  | _, _, _ => []
end Go.S1N
end
section
namespace Go.S1N
open Go Go.Am Go.Proofs Go.S1
set_option maxRecDepth 100000
attribute [local irreducible] lopsB lvb lstepB lfunG lcondB lguardB lguardU ldguardU ldrawB ldrunB ldstepB ldguardB lmem lval ldmem ldval ldfun lexit ldloadB ldlenB lpostB athen ablock
abbrev ML := (Int × UInt8) × Bool × Bool
end Go.S1N
end
section
namespace Go.S1N
open Go Go.Am Go.Proofs Go.S1
set_option maxRecDepth 100000
attribute [local irreducible] lopsB lvb lstepB lfunG lcondB lguardB lguardU ldguardU ldrawB ldrunB ldstepB ldguardB lmem lval ldmem ldval ldfun lexit ldloadB ldlenB lpostB athen ablock
def newM (e : Ed) (f : Bool × Bool) (i : Nat) : List ML := (e.new.take i).map fun c => ((-1, c), f)
def insM (l : List Ed) (p : Int) (f : Bool × Bool) : List ML := l.flatMap fun e => if e.at_ = p then newM e f e.new.length else []
def keptM (a b : List Ed) (n p : Int) : List ML := if p < n ∧ goneB a p = false ∧ goneB b p = false then [((p, 0), false, false)] else []
def mixAt (a b : List Ed) (n p : Int) : List ML := insM a p (true, false) ++ insM b p (false, true) ++ keptM a b n p
def mixL (a b : List Ed) (n : Int) (k : Nat) : List ML := (List.range k).flatMap fun p : Nat => mixAt a b n (p : Int)
def totN (l : List Ed) : Nat := (l.flatMap Ed.new).length
end Go.S1N
end
section
namespace Go.S1N
open Go Go.Am Go.Proofs Go.S1
set_option maxRecDepth 100000
attribute [local irreducible] lopsB lvb lstepB lfunG lcondB lguardB lguardU ldguardU ldrawB ldrunB ldstepB ldguardB lmem lval ldmem ldval ldfun lexit ldloadB ldlenB lpostB athen ablock
structure POk (n : Nat) (a b : List Ed) : Prop where
  hn : n ≤ 1000
  ha : a.length ≤ 2000
  hb : b.length ≤ 2000
  hta : totN a ≤ 1000
  htb : totN b ≤ 1000
  hea : ∀ e ∈ a, -1000000000000 ≤ e.at_ + e.cut ∧ e.at_ + e.cut ≤ 1000000000000
  heb : ∀ e ∈ b, -1000000000000 ≤ e.at_ + e.cut ∧ e.at_ + e.cut ≤ 1000000000000
  hsa : scan n (-1) a = 0
  hsb : scan n (-1) b = 0
  hga : ∀ p ∈ flowFrom n 0 a, p.1 < n
  hgb : ∀ p ∈ flowFrom n 0 b, p.1 < n
  hm : ∀ x ∈ mixL a b n (n + 1), -1 ≤ x.1.1 ∧ x.1.1 < n
  hda : need ((mixL a b n (n + 1)).map (·.1)) ((mixL a b n (n + 1)).map (·.2.1)) ≤ (ownOf 0 (flowFrom n 0 a)).length
  hdb : need ((mixL a b n (n + 1)).map (·.1)) ((mixL a b n (n + 1)).map (·.2.2)) ≤ (ownOf 0 (flowFrom n 0 b)).length
end Go.S1N
end
section
namespace Go.S1N
open Go Go.Am Go.Proofs Go.S1
set_option maxRecDepth 100000
theorem insAt_nil (p : Int) : insAt [] p = [] := rfl
theorem goneB_nil (p : Int) : goneB [] p = false := rfl
section
variable (a b : List Ed)
end
section
variable {a b : List Ed}
end
end Go.S1N
end
section
namespace Go.S1N
open Go Go.Am Go.Proofs Go.S1
set_option maxRecDepth 100000
section
variable (a : List Ed)
end
def pastM (old own : List Int) (T : List ML) (sel : Bool × Bool → Bool) : List LT := pastGo old own (T.map (·.1)) (T.map fun x => sel x.2)
theorem pastM_nil (old own : List Int) (sel : Bool × Bool → Bool) : pastM old own [] sel = [] := rfl
end Go.S1N
end
section
namespace Go.S1N
open Go Go.Am Go.Proofs Go.S1
set_option maxRecDepth 100000
section
variable (a b : List Ed) (p : Int)
end
section
variable {a b : List Ed} {p q : Int}
end
end Go.S1N
end
section
namespace Go.S1N
open Go Go.Am Go.Proofs Go.S1
set_option maxRecDepth 100000
end Go.S1N
end
section
namespace Go.S1N
open Go Go.Am Go.Proofs Go.S1
set_option maxRecDepth 100000
structure Pre (n : Nat) (a b : List Ed) : Prop where
  hn : n ≤ 1000
  ta : totN a ≤ 1000
  tb : totN b ≤ 1000
section
variable {n : Nat} {a b : List Ed}
end
end Go.S1N
end
section
namespace Go.S1N
open Go Go.Am Go.Proofs Go.S1
set_option maxRecDepth 100000
section
variable {a b : List Ed} {F : List LT} {s t : List UInt8}
end
section
variable {n : Nat} {a b : List Ed}
end
end Go.S1N
end
section
namespace Go.S1N
open Go Go.Am Go.Proofs Go.S1
set_option maxRecDepth 100000
theorem apply_len (x : List UInt8) {l : List Ed} (hs : scan x.length (-1) l = 0) : (applyFrom x 0 l).length = (flowFrom x.length 0 l).length := by
  rw [← say_flow x l 0 (-1) (.inr ⟨rfl, rfl⟩) (Nat.zero_le _) hs, List.length_map]
end Go.S1N
end
section
namespace Go.S1
open Go Go.Am Go.Proofs
set_option maxRecDepth 100000
noncomputable def L80 : LCode := .seq (.ops [⟨.assign (.const (.slice none 0 0)), some 4, none⟩]) (.seq (.ops [⟨.move (.tmp 0), some 8, none⟩, ⟨.call ⟨.builtin .len, ⟨[.tmp 8]⟩, ⟨[9]⟩⟩, some 9, none⟩, ⟨.binOp .add 3 (.tmp 9) (.const (.int .i64 1)) 3, some 10, none⟩, ⟨.makeSlice 130 (.tmp 10) (.tmp 10), some 11, none⟩, ⟨.assign (.tmp 11), some 5, none⟩]) (.seq (.ops [⟨.move (.tmp 5), some 12, none⟩, ⟨.move (.tmp 0), some 13, none⟩, ⟨.call ⟨.builtin .len, ⟨[.tmp 13]⟩, ⟨[9]⟩⟩, some 14, none⟩, ⟨.move (.tmp 1), some 15, none⟩, ⟨.call ⟨.builtin .len, ⟨[.tmp 15]⟩, ⟨[9]⟩⟩, some 16, none⟩, ⟨.binOp .add 3 (.tmp 16) (.const (.int .i64 1)) 3, some 17, none⟩, ⟨.makeSlice 22 (.tmp 17) (.tmp 17), some 18, none⟩, ⟨.indexAddr 130 (.tmp 12) (.tmp 14), some 19, none⟩, ⟨.store 22 (.tmp 19) (.tmp 18), none, none⟩]) (.seq (.seq (.ops [⟨.move (.tmp 0), some 20, none⟩, ⟨.call ⟨.builtin .len, ⟨[.tmp 20]⟩, ⟨[9]⟩⟩, some 21, none⟩, ⟨.binOp .sub 3 (.tmp 21) (.const (.int .i64 1)) 3, some 22, none⟩, ⟨.assign (.tmp 22), some 6, none⟩]) (.block 0 (.loop (.seq (.seq (.ops [⟨.move (.tmp 6), some 23, none⟩, ⟨.binOp .geq 3 (.tmp 23) (.const (.int .i64 0)) 3, some 24, none⟩]) (.cond (.tmp 24) .skip (.exit 0))) (.seq (.block 1 (.seq (.ops [⟨.move (.tmp 5), some 27, none⟩, ⟨.move (.tmp 6), some 28, none⟩, ⟨.move (.tmp 1), some 29, none⟩, ⟨.call ⟨.builtin .len, ⟨[.tmp 29]⟩, ⟨[9]⟩⟩, some 30, none⟩, ⟨.binOp .add 3 (.tmp 30) (.const (.int .i64 1)) 3, some 31, none⟩, ⟨.makeSlice 22 (.tmp 31) (.tmp 31), some 32, none⟩, ⟨.indexAddr 130 (.tmp 27) (.tmp 28), some 33, none⟩, ⟨.store 22 (.tmp 33) (.tmp 32), none, none⟩]) (.seq (.ops [⟨.move (.tmp 1), some 34, none⟩, ⟨.call ⟨.builtin .len, ⟨[.tmp 34]⟩, ⟨[9]⟩⟩, some 35, none⟩, ⟨.binOp .sub 3 (.tmp 35) (.const (.int .i64 1)) 3, some 36, none⟩, ⟨.assign (.tmp 36), some 7, none⟩]) (.block 2 (.loop (.seq (.seq (.ops [⟨.move (.tmp 7), some 37, none⟩, ⟨.binOp .geq 3 (.tmp 37) (.const (.int .i64 0)) 3, some 38, none⟩]) (.cond (.tmp 38) .skip (.exit 2))) (.seq (.block 3 (.seq (.draw [0, 0, 3, 0, 0, 24, 63] [⟨.move (.tmp 0), some 41, none⟩, ⟨.move (.tmp 6), some 42, none⟩, ⟨.index 9 (.tmp 41) (.tmp 42), some 43, none⟩, ⟨.move (.tmp 1), some 44, none⟩, ⟨.move (.tmp 7), some 45, none⟩, ⟨.index 9 (.tmp 44) (.tmp 45), some 46, none⟩, ⟨.binOp .eql 5 (.tmp 43) (.tmp 46) 5, some 47, none⟩]) (.cond (.tmp 47) (.draw [0, 0, 3, 7, 0, 0, 0, 64, 224, 480, 0, 1024, 4064, 8160, 16352, 32767, 65535] [⟨.move (.tmp 5), some 48, none⟩, ⟨.move (.tmp 6), some 49, none⟩, ⟨.indexAddr 130 (.tmp 48) (.tmp 49), some 50, none⟩, ⟨.load 22 (.tmp 50), some 51, none⟩, ⟨.move (.tmp 7), some 52, none⟩, ⟨.move (.tmp 5), some 53, none⟩, ⟨.move (.tmp 6), some 54, none⟩, ⟨.binOp .add 3 (.tmp 54) (.const (.int .i64 1)) 3, some 55, none⟩, ⟨.indexAddr 130 (.tmp 53) (.tmp 55), some 56, none⟩, ⟨.load 22 (.tmp 56), some 57, none⟩, ⟨.move (.tmp 7), some 58, none⟩, ⟨.binOp .add 3 (.tmp 58) (.const (.int .i64 1)) 3, some 59, none⟩, ⟨.indexAddr 22 (.tmp 57) (.tmp 59), some 60, none⟩, ⟨.load 3 (.tmp 60), some 61, none⟩, ⟨.binOp .add 3 (.tmp 61) (.const (.int .i64 1)) 3, some 62, none⟩, ⟨.indexAddr 22 (.tmp 51) (.tmp 52), some 63, none⟩, ⟨.store 3 (.tmp 63) (.tmp 62), none, none⟩]) (.draw [0, 0, 3, 7, 0, 0, 0, 64, 224, 480, 0, 2016, 4064, 0, 0, 24576, 57344, 0, 131072, 516096, 1040384, 2097120, 4194303, 8388607] [⟨.move (.tmp 5), some 64, none⟩, ⟨.move (.tmp 6), some 65, none⟩, ⟨.indexAddr 130 (.tmp 64) (.tmp 65), some 66, none⟩, ⟨.load 22 (.tmp 66), some 67, none⟩, ⟨.move (.tmp 7), some 68, none⟩, ⟨.move (.tmp 5), some 69, none⟩, ⟨.move (.tmp 6), some 70, none⟩, ⟨.binOp .add 3 (.tmp 70) (.const (.int .i64 1)) 3, some 71, none⟩, ⟨.indexAddr 130 (.tmp 69) (.tmp 71), some 72, none⟩, ⟨.load 22 (.tmp 72), some 73, none⟩, ⟨.move (.tmp 7), some 74, none⟩, ⟨.indexAddr 22 (.tmp 73) (.tmp 74), some 75, none⟩, ⟨.load 3 (.tmp 75), some 76, none⟩, ⟨.move (.tmp 5), some 77, none⟩, ⟨.move (.tmp 6), some 78, none⟩, ⟨.indexAddr 130 (.tmp 77) (.tmp 78), some 79, none⟩, ⟨.load 22 (.tmp 79), some 80, none⟩, ⟨.move (.tmp 7), some 81, none⟩, ⟨.binOp .add 3 (.tmp 81) (.const (.int .i64 1)) 3, some 82, none⟩, ⟨.indexAddr 22 (.tmp 80) (.tmp 82), some 83, none⟩, ⟨.load 3 (.tmp 83), some 84, none⟩, ⟨.call ⟨.builtin .max, ⟨[.tmp 76, .tmp 84]⟩, ⟨[3, 3]⟩⟩, some 85, none⟩, ⟨.indexAddr 22 (.tmp 67) (.tmp 68), some 86, none⟩, ⟨.store 3 (.tmp 86) (.tmp 85), none, none⟩])))) (.ops [⟨.move (.tmp 7), some 39, none⟩, ⟨.binOp .sub 3 (.tmp 39) (.const (.int .i64 1)) 3, some 40, none⟩, ⟨.assign (.tmp 40), some 7, none⟩])))))))) (.ops [⟨.move (.tmp 6), some 25, none⟩, ⟨.binOp .sub 3 (.tmp 25) (.const (.int .i64 1)) 3, some 26, none⟩, ⟨.assign (.tmp 26), some 6, none⟩])))))) (.seq (.ops [⟨.move (.tmp 5), some 87, none⟩, ⟨.assign (.tmp 87), some 4, none⟩]) .ret))))
theorem l80 : Tryz.f80.body.map lighten = some L80 := by kernel_rfl
theorem gob80 : Gob 80 88 L80 [.tmp 4] := fun hl h => ACall.goB tab_ok mixed Tryz.func80 l80 nm80 (by kernel_rfl) (by kernel_rfl) hl h
noncomputable def L14 : LCode := .seq (.ops [⟨.assign (.const (.slice none 0 0)), some 4, none⟩, ⟨.assign (.const (.int .i64 0)), some 5, none⟩]) (.seq (.seq (.ops [⟨.move (.tmp 0), some 11, none⟩, ⟨.call ⟨.builtin .len, ⟨[.tmp 11]⟩, ⟨[9]⟩⟩, some 12, none⟩, ⟨.binOp .gtr 3 (.tmp 12) (.const (.int .i64 1000)) 3, some 13, none⟩, ⟨.move (.tmp 13), some 14, none⟩, ⟨.move (.tmp 1), some 15, some (14, false)⟩, ⟨.call ⟨.builtin .len, ⟨[.tmp 15]⟩, ⟨[9]⟩⟩, some 16, some (14, false)⟩, ⟨.binOp .gtr 3 (.tmp 16) (.const (.int .i64 1000)) 3, some 17, some (14, false)⟩, ⟨.pick (.tmp 14) (.const (.bool true)) (.tmp 17), some 18, none⟩]) (.cond (.tmp 18) (.seq (.ops [⟨.assign (.const (.slice none 0 0)), some 4, none⟩, ⟨.assign (.const (.int .i64 2)), some 5, none⟩]) .ret) .skip)) (.seq (.ops [⟨.move (.tmp 0), some 19, none⟩, ⟨.move (.tmp 1), some 20, none⟩, ⟨.call ⟨.value (.func 80), ⟨[.tmp 19, .tmp 20]⟩, ⟨[9, 9]⟩⟩, some 21, none⟩, ⟨.assign (.tmp 21), some 6, none⟩]) (.seq (.ops [⟨.assign (.const (.slice none 0 0)), some 7, none⟩]) (.seq (.ops [⟨.assign (.const (.int .i64 0)), some 8, none⟩, ⟨.assign (.const (.int .i64 0)), some 9, none⟩]) (.seq (.block 0 (.loop (.seq (.seq (.ops [⟨.move (.tmp 6), some 22, none⟩, ⟨.move (.tmp 8), some 23, none⟩, ⟨.indexAddr 130 (.tmp 22) (.tmp 23), some 24, none⟩, ⟨.load 22 (.tmp 24), some 25, none⟩, ⟨.move (.tmp 9), some 26, none⟩, ⟨.indexAddr 22 (.tmp 25) (.tmp 26), some 27, none⟩, ⟨.load 3 (.tmp 27), some 28, none⟩, ⟨.binOp .gtr 3 (.tmp 28) (.const (.int .i64 0)) 3, some 29, none⟩]) (.cond (.tmp 29) .skip (.exit 0))) (.block 1 (.seq (.draw [0, 0, 3, 0, 0, 24, 63, 127] [⟨.move (.tmp 1), some 30, none⟩, ⟨.move (.tmp 9), some 31, none⟩, ⟨.slice 9 (.tmp 30) (some (.tmp 31)) none none, some 32, none⟩, ⟨.move (.tmp 0), some 33, none⟩, ⟨.move (.tmp 8), some 34, none⟩, ⟨.index 9 (.tmp 33) (.tmp 34), some 35, none⟩, ⟨.call ⟨.value (.func 81), ⟨[.tmp 32, .tmp 35]⟩, ⟨[9, 5]⟩⟩, some 36, none⟩, ⟨.assign (.tmp 36), some 10, none⟩]) (.seq (.seq (.draw [0, 1, 3, 7, 7, 23, 63, 127, 7, 7, 775, 1799, 4095, 8191, 7, 7, 49159, 114695, 7, 507911, 1032199, 2080775, 4194303, 8388607] [⟨.move (.tmp 10), some 37, none⟩, ⟨.binOp .lss 3 (.tmp 37) (.const (.int .i64 0)) 3, some 38, none⟩, ⟨.move (.tmp 38), some 39, none⟩, ⟨.move (.tmp 6), some 40, some (39, false)⟩, ⟨.move (.tmp 8), some 41, some (39, false)⟩, ⟨.binOp .add 3 (.tmp 41) (.const (.int .i64 1)) 3, some 42, some (39, false)⟩, ⟨.indexAddr 130 (.tmp 40) (.tmp 42), some 43, some (39, false)⟩, ⟨.load 22 (.tmp 43), some 44, some (39, false)⟩, ⟨.move (.tmp 9), some 45, some (39, false)⟩, ⟨.move (.tmp 10), some 46, some (39, false)⟩, ⟨.binOp .add 3 (.tmp 45) (.tmp 46) 3, some 47, some (39, false)⟩, ⟨.binOp .add 3 (.tmp 47) (.const (.int .i64 1)) 3, some 48, some (39, false)⟩, ⟨.indexAddr 22 (.tmp 44) (.tmp 48), some 49, some (39, false)⟩, ⟨.load 3 (.tmp 49), some 50, some (39, false)⟩, ⟨.move (.tmp 6), some 51, some (39, false)⟩, ⟨.move (.tmp 8), some 52, some (39, false)⟩, ⟨.indexAddr 130 (.tmp 51) (.tmp 52), some 53, some (39, false)⟩, ⟨.load 22 (.tmp 53), some 54, some (39, false)⟩, ⟨.move (.tmp 9), some 55, some (39, false)⟩, ⟨.indexAddr 22 (.tmp 54) (.tmp 55), some 56, some (39, false)⟩, ⟨.load 3 (.tmp 56), some 57, some (39, false)⟩, ⟨.binOp .sub 3 (.tmp 57) (.const (.int .i64 1)) 3, some 58, some (39, false)⟩, ⟨.binOp .neq 3 (.tmp 50) (.tmp 58) 3, some 59, some (39, false)⟩, ⟨.pick (.tmp 39) (.const (.bool true)) (.tmp 59), some 60, none⟩]) (.cond (.tmp 60) (.seq (.ops [⟨.move (.tmp 8), some 61, none⟩, ⟨.binOp .add 3 (.tmp 61) (.const (.int .i64 1)) 3, some 62, none⟩, ⟨.assign (.tmp 62), some 8, none⟩]) (.exit 1)) .skip)) (.seq (.ops [⟨.move (.tmp 7), some 63, none⟩, ⟨.move (.tmp 1), some 64, none⟩, ⟨.move (.tmp 9), some 65, none⟩, ⟨.move (.tmp 9), some 66, none⟩, ⟨.move (.tmp 10), some 67, none⟩, ⟨.binOp .add 3 (.tmp 66) (.tmp 67) 3, some 68, none⟩, ⟨.slice 9 (.tmp 64) (some (.tmp 65)) (some (.tmp 68)) none, some 69, none⟩, ⟨.call ⟨.value (.func 82), ⟨[.tmp 69]⟩, ⟨[9]⟩⟩, some 70, none⟩, ⟨.move (.tmp 8), some 71, none⟩, ⟨.call ⟨.value (.func 83), ⟨[.tmp 71, .const (.int .i64 1)]⟩, ⟨[3, 3]⟩⟩, some 72, none⟩, ⟨.buildSlice 132 2 ⟨[(0, .tmp 70), (1, .tmp 72)]⟩, some 73, none⟩, ⟨.call ⟨.builtin .append, ⟨[.tmp 63, .tmp 73]⟩, ⟨[132, 132]⟩⟩, some 74, none⟩, ⟨.assign (.tmp 74), some 7, none⟩]) (.ops [⟨.move (.tmp 8), some 75, none⟩, ⟨.binOp .add 3 (.tmp 75) (.const (.int .i64 1)) 3, some 76, none⟩, ⟨.move (.tmp 9), some 77, none⟩, ⟨.move (.tmp 10), some 78, none⟩, ⟨.binOp .add 3 (.tmp 77) (.tmp 78) 3, some 79, none⟩, ⟨.binOp .add 3 (.tmp 79) (.const (.int .i64 1)) 3, some 80, none⟩, ⟨.assign (.tmp 76), some 8, none⟩, ⟨.assign (.tmp 80), some 9, none⟩])))))))) (.seq (.ops [⟨.move (.tmp 0), some 81, none⟩, ⟨.call ⟨.builtin .len, ⟨[.tmp 81]⟩, ⟨[9]⟩⟩, some 82, none⟩, ⟨.move (.tmp 7), some 83, none⟩, ⟨.move (.tmp 1), some 84, none⟩, ⟨.move (.tmp 9), some 85, none⟩, ⟨.slice 9 (.tmp 84) (some (.tmp 85)) none none, some 86, none⟩, ⟨.call ⟨.value (.func 82), ⟨[.tmp 86]⟩, ⟨[9]⟩⟩, some 87, none⟩, ⟨.buildSlice 132 1 ⟨[(0, .tmp 87)]⟩, some 88, none⟩, ⟨.call ⟨.builtin .append, ⟨[.tmp 83, .tmp 88]⟩, ⟨[132, 132]⟩⟩, some 89, none⟩, ⟨.call ⟨.value (.func 84), ⟨[.tmp 82, .tmp 89]⟩, ⟨[3, 132]⟩⟩, some 90, none⟩, ⟨.assign (.tmp 90), some 4, none⟩, ⟨.assign (.const (.int .i64 0)), some 5, none⟩]) .ret))))))
theorem l14 : Tryz.f14.body.map lighten = some L14 := by kernel_rfl
theorem gob14 : Gob 14 91 L14 [.tmp 4, .tmp 5] := fun hl h => ACall.goB tab_ok mixed Tryz.func14 l14 nm14 (by kernel_rfl) (by kernel_rfl) hl h
noncomputable def L81 : LCode := .seq (.ops [⟨.assign (.const (.int .i64 0)), some 4, none⟩]) (.seq (.ops [⟨.move (.tmp 0), some 5, none⟩, ⟨.move (.tmp 1), some 6, none⟩, ⟨.call ⟨.value (.func 138), ⟨[.tmp 5, .tmp 6]⟩, ⟨[9, 5]⟩⟩, some 7, none⟩, ⟨.assign (.tmp 7), some 4, none⟩]) .ret)
theorem l81 : Tryz.f81.body.map lighten = some L81 := by kernel_rfl
theorem gob81 : Gob 81 8 L81 [.tmp 4] := fun hl h => ACall.goB tab_ok mixed Tryz.func81 l81 nm81 (by kernel_rfl) (by kernel_rfl) hl h
noncomputable def L138 : LCode := .seq (.ops [⟨.assign (.const (.int .i64 0)), some 4, none⟩]) (.seq (.ops [⟨.move (.tmp 0), some 5, none⟩, ⟨.move (.tmp 1), some 6, none⟩, ⟨.call ⟨.value (.func 184), ⟨[.tmp 5, .tmp 6]⟩, ⟨[9, 5]⟩⟩, some 7, none⟩, ⟨.assign (.tmp 7), some 4, none⟩]) .ret)
theorem l138 : Tryz.f138.body.map lighten = some L138 := by kernel_rfl
theorem gob138 : Gob 138 8 L138 [.tmp 4] := fun hl h => ACall.goB tab_ok mixed Tryz.func138 l138 nm138 (by kernel_rfl) (by kernel_rfl) hl h
noncomputable def L3 : LCode := .seq (.ops [⟨.assign (.const (.bool false)), some 2, none⟩]) (.seq (.ops [⟨.move (.tmp 0), some 21, none⟩, ⟨.build 25 ⟨[(0, .tmp 21)]⟩, some 22, none⟩, ⟨.box 25 (.tmp 22), some 23, none⟩, ⟨.assign (.tmp 23), some 3, none⟩]) (.seq (.ops [⟨.move (.tmp 3), some 24, none⟩, ⟨.call ⟨.value (.func 9), ⟨[.tmp 24, .const (.int .i64 9)]⟩, ⟨[23, 3]⟩⟩, some 25, none⟩, ⟨.move (.tmp 3), some 26, none⟩, ⟨.call ⟨.value (.func 9), ⟨[.tmp 26, .const (.int .i64 9)]⟩, ⟨[23, 3]⟩⟩, some 27, none⟩, ⟨.assign (.tmp 25), some 4, none⟩, ⟨.assign (.tmp 27), some 5, none⟩]) (.seq (.seq (.ops [⟨.move (.tmp 3), some 28, none⟩, ⟨.call ⟨.value (.func 10), ⟨[.tmp 28, .const (.int .i64 2)]⟩, ⟨[23, 3]⟩⟩, some 29, none⟩]) (.cond (.tmp 29) (.seq (.ops [⟨.move (.tmp 3), some 30, none⟩, ⟨.move (.tmp 4), some 31, none⟩, ⟨.call ⟨.builtin .len, ⟨[.tmp 31]⟩, ⟨[9]⟩⟩, some 32, none⟩, ⟨.call ⟨.value (.func 11), ⟨[.tmp 30, .tmp 32]⟩, ⟨[23, 3]⟩⟩, some 33, none⟩, ⟨.assign (.tmp 33), some 6, none⟩]) (.seq (.ops [⟨.move (.tmp 6), some 34, none⟩, ⟨.call ⟨.builtin .len, ⟨[.tmp 34]⟩, ⟨[28]⟩⟩, some 35, none⟩, ⟨.binOp .gtr 3 (.tmp 35) (.const (.int .i64 0)) 3, some 36, none⟩]) (.cond (.tmp 36) (.ops [⟨.move (.tmp 4), some 37, none⟩, ⟨.move (.tmp 6), some 38, none⟩, ⟨.call ⟨.value (.func 12), ⟨[.tmp 37, .tmp 38]⟩, ⟨[9, 28]⟩⟩, some 39, none⟩, ⟨.assign (.tmp 39), some 5, none⟩]) .skip))) .skip)) (.seq (.ops [⟨.move (.tmp 3), some 40, none⟩, ⟨.call ⟨.value (.func 13), ⟨[.tmp 40, .const (.int .i64 12)]⟩, ⟨[23, 3]⟩⟩, some 41, none⟩, ⟨.assign (.tmp 41), some 7, none⟩]) (.seq (.ops [⟨.move (.tmp 4), some 43, none⟩, ⟨.move (.tmp 5), some 44, none⟩, ⟨.call ⟨.value (.func 14), ⟨[.tmp 43, .tmp 44]⟩, ⟨[9, 9]⟩⟩, some 45, none⟩, ⟨.move (.tmp 45), some 42, none⟩, ⟨.extract (.tmp 42) 0, some 46, none⟩, ⟨.extract (.tmp 42) 1, some 47, none⟩, ⟨.assign (.tmp 46), some 8, none⟩, ⟨.assign (.tmp 47), some 9, none⟩]) (.seq (.ops [⟨.move (.tmp 7), some 49, none⟩, ⟨.call ⟨.value (.func 15), ⟨[.tmp 49]⟩, ⟨[28]⟩⟩, some 50, none⟩, ⟨.move (.tmp 50), some 48, none⟩, ⟨.extract (.tmp 48) 0, some 51, none⟩, ⟨.extract (.tmp 48) 1, some 52, none⟩, ⟨.assign (.tmp 51), some 10, none⟩, ⟨.assign (.tmp 52), some 11, none⟩]) (.seq (.ops [⟨.move (.tmp 7), some 53, none⟩, ⟨.call ⟨.value (.func 16), ⟨[.tmp 53]⟩, ⟨[28]⟩⟩, some 54, none⟩, ⟨.assign (.tmp 54), some 12, none⟩, ⟨.assign (.const (.string ⟨⟨[]⟩⟩)), some 13, none⟩]) (.seq (.seq (.ops [⟨.move (.tmp 12), some 55, none⟩, ⟨.binOp .eql 31 (.tmp 55) (.const (.int .i64 0)) 31, some 56, none⟩]) (.cond (.tmp 56) (.ops [⟨.move (.tmp 7), some 57, none⟩, ⟨.call ⟨.value (.func 17), ⟨[.tmp 57]⟩, ⟨[28]⟩⟩, some 58, none⟩, ⟨.assign (.tmp 58), some 13, none⟩]) .skip)) (.seq (.ops [⟨.move (.tmp 3), some 59, none⟩, ⟨.call ⟨.value (.func 11), ⟨[.tmp 59, .const (.int .i64 9)]⟩, ⟨[23, 3]⟩⟩, some 60, none⟩, ⟨.call ⟨.value (.func 17), ⟨[.tmp 60]⟩, ⟨[28]⟩⟩, some 61, none⟩, ⟨.assign (.tmp 61), some 14, none⟩]) (.seq (.seq (.ops [⟨.move (.tmp 3), some 62, none⟩, ⟨.buildSlice 22 3 ⟨[(0, .const (.int .i64 0)), (1, .const (.int .i64 1)), (2, .const (.int .i64 2))]⟩, some 63, none⟩, ⟨.call ⟨.value (.func 18), ⟨[.tmp 62, .tmp 63]⟩, ⟨[23, 22]⟩⟩, some 64, none⟩, ⟨.move (.const (.int .i64 0)), some 65, none⟩]) (.block 0 (.loop (.seq (.ops [⟨.binOp .lss 3 (.tmp 65) (.tmp 64) 3, some 66, none⟩]) (.seq (.cond (.tmp 66) .skip (.exit 0)) (.seq (.block 1 (.ops [⟨.move (.tmp 3), some 67, none⟩, ⟨.move (.tmp 14), some 68, none⟩, ⟨.call { callee := .value (.func 19), args := { toList := [.tmp 67, .tmp 68, .const (.string ⟨⟨[32, 10, 48, 45, 57, 34, 92, 97]⟩⟩)] }, argTypes := ⟨[23, 9, 9]⟩ }, some 69, none⟩, ⟨.assign (.tmp 69), some 14, none⟩])) (.ops [⟨.binOp .add 3 (.tmp 65) (.const (.int .i64 1)) 3, some 70, none⟩, ⟨.move (.tmp 70), some 65, none⟩]))))))) (.seq (.ops [⟨.move (.tmp 14), some 72, none⟩, ⟨.call ⟨.value (.func 20), ⟨[.tmp 72]⟩, ⟨[9]⟩⟩, some 73, none⟩, ⟨.move (.tmp 73), some 71, none⟩, ⟨.extract (.tmp 71) 0, some 74, none⟩, ⟨.extract (.tmp 71) 1, some 75, none⟩, ⟨.extract (.tmp 71) 2, some 76, none⟩, ⟨.assign (.tmp 74), some 15, none⟩, ⟨.assign (.tmp 75), some 16, none⟩, ⟨.assign (.tmp 76), some 17, none⟩]) (.seq (.ops [⟨.move (.tmp 14), some 78, none⟩, ⟨.call ⟨.value (.func 21), ⟨[.tmp 78]⟩, ⟨[9]⟩⟩, some 79, none⟩, ⟨.move (.tmp 79), some 77, none⟩, ⟨.extract (.tmp 77) 0, some 80, none⟩, ⟨.extract (.tmp 77) 1, some 81, none⟩, ⟨.extract (.tmp 77) 2, some 82, none⟩, ⟨.assign (.tmp 80), some 18, none⟩, ⟨.assign (.tmp 81), some 19, none⟩, ⟨.assign (.tmp 82), some 20, none⟩]) (.seq (.ops [⟨.move (.tmp 9), some 83, none⟩, ⟨.binOp .eql 31 (.tmp 83) (.const (.int .i64 0)) 31, some 84, none⟩, ⟨.move (.tmp 84), some 85, none⟩, ⟨.move (.tmp 8), some 86, some (85, true)⟩, ⟨.move (.tmp 4), some 87, some (85, true)⟩, ⟨.move (.tmp 5), some 88, some (85, true)⟩, ⟨.call ⟨.value (.func 23), ⟨[.tmp 87, .tmp 88]⟩, ⟨[9, 9]⟩⟩, some 89, some (85, true)⟩, ⟨.call ⟨.value (.func 22), ⟨[.tmp 86, .tmp 89]⟩, ⟨[28, 28]⟩⟩, some 90, some (85, true)⟩, ⟨.pick (.tmp 85) (.tmp 90) (.const (.bool false)), some 91, none⟩, ⟨.move (.tmp 91), some 92, none⟩, ⟨.move (.tmp 11), some 93, some (92, true)⟩, ⟨.move (.tmp 12), some 94, some (92, true)⟩, ⟨.binOp .eql 31 (.tmp 93) (.tmp 94) 31, some 95, some (92, true)⟩, ⟨.pick (.tmp 92) (.tmp 95) (.const (.bool false)), some 96, none⟩, ⟨.move (.tmp 96), some 97, none⟩, ⟨.move (.tmp 10), some 98, some (97, true)⟩, ⟨.move (.tmp 13), some 99, some (97, true)⟩, ⟨.binOp .eql 9 (.tmp 98) (.tmp 99) 9, some 100, some (97, true)⟩, ⟨.pick (.tmp 97) (.tmp 100) (.const (.bool false)), some 101, none⟩, ⟨.move (.tmp 101), some 102, none⟩, ⟨.move (.tmp 15), some 103, some (102, true)⟩, ⟨.move (.tmp 18), some 104, some (102, true)⟩, ⟨.call ⟨.value (.func 22), ⟨[.tmp 103, .tmp 104]⟩, ⟨[28, 28]⟩⟩, some 105, some (102, true)⟩, ⟨.pick (.tmp 102) (.tmp 105) (.const (.bool false)), some 106, none⟩, ⟨.move (.tmp 106), some 107, none⟩, ⟨.move (.tmp 16), some 108, some (107, true)⟩, ⟨.move (.tmp 19), some 109, some (107, true)⟩, ⟨.binOp .eql 3 (.tmp 108) (.tmp 109) 3, some 110, some (107, true)⟩, ⟨.pick (.tmp 107) (.tmp 110) (.const (.bool false)), some 111, none⟩, ⟨.move (.tmp 111), some 112, none⟩, ⟨.move (.tmp 17), some 113, some (112, true)⟩, ⟨.move (.tmp 20), some 114, some (112, true)⟩, ⟨.binOp .eql 31 (.tmp 113) (.tmp 114) 31, some 115, some (112, true)⟩, ⟨.pick (.tmp 112) (.tmp 115) (.const (.bool false)), some 116, none⟩, ⟨.move (.tmp 116), some 117, none⟩, ⟨.call ⟨.value (.func 24), ⟨[]⟩, ⟨[]⟩⟩, some 118, some (117, true)⟩, ⟨.pick (.tmp 117) (.tmp 118) (.const (.bool false)), some 119, none⟩, ⟨.assign (.tmp 119), some 2, none⟩]) .ret)))))))))))))
theorem l3 : Tryz.f3.body.map lighten = some L3 := by kernel_rfl
theorem gob3 : Gob 3 120 L3 [.tmp 2] := fun hl h => ACall.goB tab_ok mixed Tryz.func3 l3 nm3 (by kernel_rfl) (by kernel_rfl) hl h
noncomputable def L11 : LCode := .seq (.ops [⟨.assign (.const (.slice none 0 0)), some 4, none⟩]) (.seq (.seq (.ops [⟨.move (.const (.int .i64 0)), some 6, none⟩]) (.block 0 (.loop (.seq (.ops [⟨.binOp .lss 3 (.tmp 6) (.const (.int .i64 5)) 3, some 7, none⟩]) (.seq (.cond (.tmp 7) .skip (.exit 0)) (.seq (.block 1 (.seq (.ops [⟨.move (.tmp 0), some 8, none⟩, ⟨.move (.tmp 1), some 9, none⟩, ⟨.call ⟨.value (.func 13), ⟨[.tmp 8, .tmp 9]⟩, ⟨[23, 3]⟩⟩, some 10, none⟩, ⟨.assign (.tmp 10), some 5, none⟩]) (.seq (.ops [⟨.move (.tmp 1), some 11, none⟩, ⟨.move (.tmp 5), some 12, none⟩, ⟨.call ⟨.value (.func 76), ⟨[.tmp 11, .tmp 12]⟩, ⟨[3, 28]⟩⟩, some 13, none⟩, ⟨.binOp .eql 31 (.tmp 13) (.const (.int .i64 0)) 31, some 14, none⟩]) (.cond (.tmp 14) (.seq (.ops [⟨.move (.tmp 5), some 15, none⟩, ⟨.assign (.tmp 15), some 4, none⟩]) .ret) .skip)))) (.ops [⟨.binOp .add 3 (.tmp 6) (.const (.int .i64 1)) 3, some 16, none⟩, ⟨.move (.tmp 16), some 6, none⟩]))))))) (.seq (.ops [⟨.assign (.const (.slice none 0 0)), some 4, none⟩]) .ret))
theorem l11 : Tryz.f11.body.map lighten = some L11 := by kernel_rfl
theorem gob11 : Gob 11 17 L11 [.tmp 4] := fun hl h => ACall.goB tab_ok mixed Tryz.func11 l11 nm11 (by kernel_rfl) (by kernel_rfl) hl h
end Go.S1
end
section

end
section
namespace Go.S1N
open Go Go.Am Go.Proofs Go.S1
set_option maxRecDepth 100000
attribute [local go_sem] Nat.reduceLT Nat.reduceEqDiff Nat.reduceAdd Nat.reduceLeDiff reduceIte reduceCtorEq
attribute [local irreducible] lopsB lvb lstepB lfunG lcondB lguardB lguardU ldguardU ldrawB ldrunB ldstepB ldguardB lmem lval ldmem ldval ldfun lexit ldloadB ldlenB lpostB athen ablock
theorem rfault_nil {n : Nat} (hn : n ≤ 20000) : faultOf n [] = 0 := by
  have e : longOf (n : Int) [] = n := rfl
  have e2 : scan (n : Int) (-1) [] = 0 := rfl
  rw [faultOf, e, e2, if_neg (by omega), if_neg (by simp), if_neg (by simp), if_neg (by omega)]
theorem rightS {s : AHeap} {b : Nat} {Lv : AV} {L : List Int} {at_ : Int} (h : Sm s b Lv L at_) (h1 : at_ < 3700000000000000000) (n : Nat) (hn : n ≤ 20000) :
    ACall Tryz.prog 11 [.ptr b 0, .int .i64 n] s fun v t => ∃ (l : List Ed) (k : Nat), v = edv l ∧ l.length ≤ 4 ∧ (∀ e ∈ l, e.new.length ≤ 4) ∧ faultOf n l = 0 ∧ k ≤ 100 ∧ t = s.upd b (strm Lv (at_ + k)) := by
  refine gob11 (by simp) ?_
  intro tm hlen harg
  have hb := h.lt
  have h0 := h.at0
  simp +contextual only [go_sem, L11, hlen, harg, hb, cdD, cdN, gdT, gdF, gdD]
  refine ⟨Nat × Nat × AHeap, fun a => [(0, .ptr b 0), (1, .int .i64 n), (6, .int .i64 a.1)], fun a => loc a.2.2 0 [],
    fun a => a.1 ≤ 5 ∧ a.2.1 ≤ 20 * a.1 ∧ ((a.1 = 0 ∧ a.2.2 = s) ∨ a.2.2 = s.upd b (strm Lv (at_ + a.2.1))) ∧ (∀ o, a.2.2.upd b o = s.upd b o) ∧ Sm a.2.2 b Lv L (at_ + a.2.1) ∧ a.2.2.nx = s.nx, fun a => 5 - a.1, (0, 0, s),
    ⟨by simp, by simp, .inl ⟨rfl, rfl⟩, fun _ => rfl, by simpa using h, rfl⟩, ?_, ?_⟩
  · refine To.go [] [] rfl (OKo.refl s) (by decide) (by simp) ?_ trivial
    simp +contextual only [go_sem, hlen, harg, rnm_low hb, cdD, cdN, gdT, gdF, gdD]
    simp
  · rintro ⟨i, k, S⟩ tm1 ⟨hi, hk, hS, hup, hSm, hnx⟩ hlen1 hlv
    simp only [go_sem, hlen, cdD, cdN, gdT, gdF, gdD] at hlen1 hlv hi hk hS hup hSm hnx
    have hbS : b < S.nx := hSm.lt
    simp +contextual only [go_sem, hlen, hlen1, hlv, cdD, cdN, gdT, gdF, gdD]
    refine ⟨fun hlt => ?_, fun hge => ?_⟩
    · refine lfunG_of (changeS hSm.loc (by omega) n) ?_
      rintro _ _ ⟨l, k1, rfl, hl, hnl, hk1, rfl⟩
      simp +contextual only [go_sem, hlen, hlen1, hlv, hb, hbS, hup, cdD, cdN, gdT, gdF, gdD]
      refine lfunG_eq (exact_of (by simp only [Pu, low, lowL, and_self]) (fault_ok _ _ l (edv_sl l) (by omega) _)) ?_
      have hw : IntKind.i64.wrap ((i : Int) + 1) = ((i + 1 : Nat) : Int) := by rw [wrap_id (by omega)]; rfl
      simp +contextual only [go_sem, hlen, hlen1, hlv, hb, hbS, hup, hw, cdD, cdN, gdT, gdF, gdD]
      refine ⟨fun hf => ?_, fun hf => ?_⟩
      · exact lexit_pure ((OKo.refl s).upd hb h.lowO) (low.mono (Nat.zero_le _) (edv_pu _)) ⟨l, k + k1, rfl, hl, hnl, hf, by omega, by congr 2; omega⟩
      · refine ⟨(i + 1, k + k1, s.upd b (strm Lv (at_ + ((k + k1 : Nat) : Int)))), ⟨by simp only; omega, by simp only; omega, .inr rfl, ?_, ?_, AHeap.nx_upd _ _ _⟩, by simp only; omega, ?_⟩
        · intro o; simp only [go_sem]
        · exact h.upd (by omega) (by omega)
        · refine To.go [] [] (by simp only; congr 3; omega) ((OKo.refl s).upd hb h.lowO) (by decide) (by simp) ?_ trivial
          simp +contextual only [go_sem, hlen1, hlv, rnm_low hb, cdD, cdN, gdT, gdF, gdD]
    · have hS2 : S = s.upd b (strm Lv (at_ + k)) := by
        rcases hS with ⟨q, _⟩ | q
        · omega
        · exact q
      subst hS2
      refine lexit_pure ((OKo.refl s).upd hb h.lowO) (by simp only [low]) ⟨[], k, rfl, by simp, by simp, rfault_nil hn, by omega, rfl⟩
end Go.S1N
end
section
namespace Go.Proofs
open Go.Shelf
def Tryz.lays243_ren : Go.Shelf.Ren := ⟨fun | 129 => 246 | 243 => 142 | 246 => 187 | 283 => 221 | 284 => 222 | 285 => 223 | 286 => 224 | 317 => 245 | 318 => 247 | 319 => 248 | 320 => 249 | 337 => 263 | 338 => 213 | n => n, fun | 0 => 0 | 2 => 2 | 3 => 3 | 4 => 4 | 5 => 5 | 9 => 9 | 20 => 20 | 37 => 118 | 46 => 270 | 51 => 289 | 53 => 246 | 171 => 274 | 173 => 276 | 212 => 288 | 213 => 290 | 232 => 310 | 233 => 285 | n => n, fun | 17 => 2 | 18 => 3 | 19 => 1 | n => n⟩
theorem Tryz.lays243 : Go.Proofs.LaysM.n243 Tryz.prog Tryz.lays243_ren := {
  mixed := by kernel_rfl
  f129 := Tryz.func246.trans (congrArg some (by kernel_rfl))
  f243 := Tryz.func142.trans (congrArg some (by kernel_rfl))
  f246 := Tryz.func187.trans (congrArg some (by kernel_rfl))
  f283 := Tryz.func221.trans (congrArg some (by kernel_rfl))
  f284 := Tryz.func222.trans (congrArg some (by kernel_rfl))
  f285 := Tryz.func223.trans (congrArg some (by kernel_rfl))
  f286 := Tryz.func224.trans (congrArg some (by kernel_rfl))
  f317 := Tryz.func245.trans (congrArg some (by kernel_rfl))
  f318 := Tryz.func247.trans (congrArg some (by kernel_rfl))
  f319 := Tryz.func248.trans (congrArg some (by kernel_rfl))
  f320 := Tryz.func249.trans (congrArg some (by kernel_rfl))
  f337 := Tryz.func263.trans (congrArg some (by kernel_rfl))
  f338 := Tryz.func213.trans (congrArg some (by kernel_rfl))
  t0 := Tryz.underlying0
  a0 := Tryz.isAgg0
  z0 := Tryz.sizeOf0
  v0 := Tryz.zeroValue0
  t2 := Tryz.underlying2
  a2 := Tryz.isAgg2
  z2 := Tryz.sizeOf2
  v2 := Tryz.zeroValue2
  t3 := Tryz.underlying3
  a3 := Tryz.isAgg3
  z3 := Tryz.sizeOf3
  v3 := Tryz.zeroValue3
  t4 := Tryz.underlying4
  a4 := Tryz.isAgg4
  z4 := Tryz.sizeOf4
  v4 := Tryz.zeroValue4
  t5 := Tryz.underlying5
  a5 := Tryz.isAgg5
  z5 := Tryz.sizeOf5
  v5 := Tryz.zeroValue5
  t9 := Tryz.underlying9
  a9 := Tryz.isAgg9
  z9 := Tryz.sizeOf9
  v9 := Tryz.zeroValue9
  t20 := Tryz.underlying20
  a20 := Tryz.isAgg20
  z20 := Tryz.sizeOf20
  v20 := Tryz.zeroValue20
  t37 := Tryz.underlying118
  a37 := Tryz.isAgg118
  z37 := Tryz.sizeOf118
  v37 := Tryz.zeroValue118
  t46 := Tryz.underlying270
  a46 := Tryz.isAgg270
  z46 := Tryz.sizeOf270
  v46 := Tryz.zeroValue270
  t51 := Tryz.underlying289
  a51 := Tryz.isAgg289
  z51 := Tryz.sizeOf289
  v51 := Tryz.zeroValue289
  t53 := Tryz.underlying246
  a53 := Tryz.isAgg246
  z53 := Tryz.sizeOf246
  v53 := Tryz.zeroValue246
  t171 := Tryz.underlying274
  a171 := Tryz.isAgg274
  z171 := Tryz.sizeOf274
  v171 := Tryz.zeroValue274
  t173 := Tryz.underlying276
  a173 := Tryz.isAgg276
  z173 := Tryz.sizeOf276
  v173 := Tryz.zeroValue276
  t212 := Tryz.underlying288
  a212 := Tryz.isAgg288
  z212 := Tryz.sizeOf288
  v212 := Tryz.zeroValue288
  t213 := Tryz.underlying290
  a213 := Tryz.isAgg290
  z213 := Tryz.sizeOf290
  t232 := Tryz.underlying310
  a232 := Tryz.isAgg310
  z232 := Tryz.sizeOf310
  v232 := Tryz.zeroValue310
  t233 := Tryz.underlying285
  a233 := Tryz.isAgg285
  z233 := Tryz.sizeOf285
  v233 := Tryz.zeroValue285
  g17 := by kernel_rfl
  g18 := by kernel_rfl
  g19 := by kernel_rfl
  i0 := by kernel_rfl
  i2 := by kernel_rfl
  i3 := by kernel_rfl
  i4 := by kernel_rfl
  i5 := by kernel_rfl
  i9 := by kernel_rfl
  i20 := by kernel_rfl
  i37 := by kernel_rfl
  i46 := by kernel_rfl
  i51 := by kernel_rfl
  i53 := by kernel_rfl
  i171 := by kernel_rfl
  i173 := by kernel_rfl
  i212 := by kernel_rfl
  i232 := by kernel_rfl
  i233 := by kernel_rfl
  m17 := by kernel_rfl
  m18 := by kernel_rfl
  m19 := by kernel_rfl }
end Go.Proofs
end
section
namespace Go.S1N
open Go Go.Am Go.Proofs Go.S1
set_option maxRecDepth 100000
def plainN (n : Nat) : Bool := decide (32 ≤ n) && decide (n ≤ 126) && decide (n ≠ 34) && decide (n ≠ 92)
def plainC (c : UInt8) : Bool := plainN c.toNat
def hexs : List UInt8 := [48, 49, 50, 51, 52, 53, 54, 55, 56, 57, 97, 98, 99, 100, 101, 102]
def hexD (n : Nat) : UInt8 := hexs.getD n 0
def qc (c : UInt8) : List UInt8 := if plainC c then [c] else [92, hexD (c.toNat / 16), hexD (c.toNat % 16)]
def quoteB (l : List UInt8) : List UInt8 := 34 :: (l.flatMap qc ++ [34])
def cutB (c : UInt8) : List UInt8 → List UInt8 × List UInt8 × Bool
  | [] => ([], [], false)
  | b :: l => if c = b then ([], l, true) else (b :: (cutB c l).1, (cutB c l).2.1, (cutB c l).2.2)
def hexV (c : UInt8) : Int := Lib.indexByte hexs c
def escB (h l : UInt8) : Option UInt8 :=
  if 0 ≤ hexV h ∧ 0 ≤ hexV l ∧ plainN (16 * hexV h + hexV l).toNat = false then some (UInt8.ofNat (16 * hexV h + hexV l).toNat) else none
def escT : List UInt8 → Option (UInt8 × List UInt8)
  | h :: l :: r => (escB h l).map fun e => (e, r)
  | _ => none
def qsF : Nat → List UInt8 → Option (List UInt8 × List UInt8)
  | 0, _ => none
  | _ + 1, [] => none
  | k + 1, c :: r => if c = 34 then some ([], r) else if plainC c then (qsF k r).map fun x => (c :: x.1, x.2)
    else if c = 92 then match escT r with
      | some (e, r') => (qsF k r').map fun x => (e :: x.1, x.2)
      | none => none
    else none
def qs (S : List UInt8) : Option (List UInt8 × List UInt8) := qsF S.length S
theorem escT_len {r r' : List UInt8} {e : UInt8} (h : escT r = some (e, r')) : r'.length + 2 = r.length := by
  match r, h with
  | a :: b :: r, h =>
    simp only [escT] at h
    cases he : escB a b with
    | none => rw [he] at h; cases h
    | some e => rw [he] at h; cases h; simp
theorem qsF_fuel : ∀ (k j : Nat) (S : List UInt8), S.length ≤ k → S.length ≤ j → qsF k S = qsF j S
  | 0, 0, _, _, _ => rfl
  | 0, j + 1, [], _, _ => rfl
  | 0, j + 1, c :: r, h, _ => by simp at h
  | k + 1, 0, [], _, _ => rfl
  | k + 1, 0, c :: r, _, h => by simp at h
  | k + 1, j + 1, [], _, _ => rfl
  | k + 1, j + 1, c :: r, h1, h2 => by
    simp only [List.length_cons] at h1 h2
    rw [qsF, qsF, qsF_fuel k j r (by omega) (by omega)]
    cases he : escT r with
    | none => rfl
    | some x =>
      have := escT_len he
      simp only
      rw [qsF_fuel k j x.2 (by omega) (by omega)]
theorem qs_nil : qs [] = none := rfl
theorem qs_cons (c : UInt8) (r : List UInt8) : qs (c :: r) = if c = 34 then some ([], r) else if plainC c then (qs r).map fun x => (c :: x.1, x.2)
    else if c = 92 then match escT r with
      | some (e, r') => (qs r').map fun x => (e :: x.1, x.2)
      | none => none
    else none := by
  show qsF (r.length + 1) (c :: r) = _
  rw [qsF]
  cases he : escT r with
  | none => rfl
  | some x =>
    have := escT_len he
    simp only
    rw [qsF_fuel r.length x.2.length x.2 (by omega) (Nat.le_refl _)]
    rfl
def quoteP (s : List UInt8) : Option (List UInt8) := match s with
  | c :: r => if c = 34 then match qs r with
      | some (t, []) => some t
      | _ => none
    else none
  | [] => none
def digC (c : UInt8) : Bool := decide (48 ≤ c.toNat) && decide (c.toNat ≤ 57)
def digN (t : List UInt8) : Nat := t.foldl (fun n c => 10 * n + (c.toNat - 48)) 0
def minusB (s : List UInt8) : Bool := decide (s.take 1 = [45])
def unMinus (s : List UInt8) : List UInt8 := if minusB s then s.drop 1 else s
def numP (s : List UInt8) : Option Int :=
  if unMinus s = [] ∨ 15 < (unMinus s).length ∨ ((unMinus s).getD 0 0 = 48 ∧ (1 < (unMinus s).length ∨ minusB s = true)) then none
  else if (unMinus s).all digC then some (if minusB s then -(digN (unMinus s) : Int) else digN (unMinus s)) else none
def edP (s : List UInt8) : Option Ed :=
  match numP (cutB 32 s).1, numP (cutB 32 (cutB 32 s).2.1).1, quoteP (cutB 32 (cutB 32 s).2.1).2.1 with
  | some n, some m, some t => if (cutB 32 s).2.2 ∧ (cutB 32 (cutB 32 s).2.1).2.2 then some ⟨n, m, t⟩ else none
  | _, _, _ => none
def rdG : Nat → List UInt8 → Bool × List Ed
  | 0, _ => (true, [])
  | k + 1, t => if t = [] then (true, []) else
    match (cutB 10 t).2.2, edP (cutB 10 t).1 with
    | true, some x => ((rdG k (cutB 10 t).2.1).1, x :: (rdG k (cutB 10 t).2.1).2)
    | _, _ => (false, [])
def inR (n : Int) : Prop := 0 ≤ n ∧ n ≤ 20000
instance (n : Int) : Decidable (inR n) := inferInstanceAs (Decidable (0 ≤ n ∧ n ≤ 20000))
def lineE (e : Ed) : List UInt8 := Lib.itoa e.at_ ++ [32] ++ Lib.itoa e.cut ++ [32] ++ quoteB e.new ++ [10]
def linesE (l : List Ed) : List UInt8 := l.flatMap lineE
def linesFault (l : List Ed) : Int :=
  if 2000 < l.length then 2 else if l.all (fun e => decide (inR e.at_) && decide (inR e.cut)) = false then 1 else if 20000 < (linesE l).length then 2 else 0
def textVal (l : List Ed) : List UInt8 × Int := if linesFault l ≠ 0 then ([], linesFault l) else (linesE l, 0)
def readVal (t : List UInt8) : List Ed × Int × Int :=
  if 20000 < t.length then ([], 0, 2)
  else if (rdG t.length t).1 = false then ([], (rdG t.length t).2.length, 9)
  else if linesFault (rdG t.length t).2 ≠ 0 then ([], 0, linesFault (rdG t.length t).2)
  else ((rdG t.length t).2, 0, 0)
theorem cut_len (c : UInt8) : ∀ l, (cutB c l).1.length ≤ l.length ∧ (cutB c l).2.1.length ≤ l.length ∧ ((cutB c l).2.2 = true → (cutB c l).2.1.length < l.length)
  | [] => by simp [cutB]
  | b :: l => by
    obtain ⟨h1, h2, h3⟩ := cut_len c l
    rw [cutB]
    split
    · simp
    · simp only [List.length_cons]
      exact ⟨by omega, by omega, fun h => by have := h3 h; omega⟩
theorem rdG_fuel : ∀ (k j : Nat) (t : List UInt8), t.length ≤ k → t.length ≤ j → rdG k t = rdG j t
  | 0, j, t, h, _ => by
    have : t = [] := List.eq_nil_of_length_eq_zero (by omega)
    subst this
    cases j <;> simp [rdG]
  | k + 1, 0, t, _, h => by
    have : t = [] := List.eq_nil_of_length_eq_zero (by omega)
    subst this
    simp [rdG]
  | k + 1, j + 1, t, hk, hj => by
    rw [rdG, rdG]
    split
    · rfl
    · cases he : (cutB 10 t).2.2 with
      | false => rfl
      | true =>
        have := (cut_len 10 t).2.2 he
        rw [rdG_fuel k j (cutB 10 t).2.1 (by omega) (by omega)]
theorem rdG_nil (k : Nat) : rdG k [] = (true, []) := by cases k <;> simp [rdG]
theorem rdG_step {t : List UInt8} (h : t ≠ []) {x : Ed} (he : (cutB 10 t).2.2 = true) (hx : edP (cutB 10 t).1 = some x) :
    rdG t.length t = ((rdG (cutB 10 t).2.1.length (cutB 10 t).2.1).1, x :: (rdG (cutB 10 t).2.1.length (cutB 10 t).2.1).2) := by
  have hl := (cut_len 10 t).2.2 he
  obtain ⟨k, hk⟩ : ∃ k, t.length = k + 1 := ⟨t.length - 1, by omega⟩
  rw [hk, rdG, if_neg h, he, hx]
  simp only
  rw [rdG_fuel k (cutB 10 t).2.1.length _ (by omega) (Nat.le_refl _)]
theorem rdG_stop {t : List UInt8} (h : t ≠ []) (he : ¬ ((cutB 10 t).2.2 = true ∧ (edP (cutB 10 t).1).isSome)) : rdG t.length t = (false, []) := by
  obtain ⟨k, hk⟩ : ∃ k, t.length = k + 1 := ⟨t.length - 1, by have := List.length_pos_iff.2 h; omega⟩
  rw [hk, rdG, if_neg h]
  cases h1 : (cutB 10 t).2.2 with
  | false => rfl
  | true => cases h2 : edP (cutB 10 t).1 with
    | none => rfl
    | some x => exact absurd ⟨h1, by rw [h2]; rfl⟩ he
theorem digN_snoc (t : List UInt8) (c : UInt8) : digN (t ++ [c]) = 10 * digN t + (c.toNat - 48) := by simp [digN, List.foldl_append]
theorem digN_lt (t : List UInt8) (h : t.all digC = true) : ∀ i, i ≤ t.length → digN (t.take i) < 10 ^ i := by
  intro i
  induction i with
  | zero => intro _; simp [digN]
  | succ i ih =>
    intro hi
    have h1 := ih (by omega)
    have h2 : digC t[i] = true := List.all_eq_true.1 h _ (List.getElem_mem (by omega))
    simp only [digC, Bool.and_eq_true, decide_eq_true_eq] at h2
    rw [List.take_add_one, List.getElem?_eq_getElem (by omega), Option.toList_some, digN_snoc, Nat.pow_succ]
    omega
end Go.S1N
end
section
namespace Go.S1N
open Go Go.Am Go.Proofs Go.S1
set_option maxRecDepth 100000
theorem pow10_glob : globAt globs 2 = some (Lib.pow10Tab.map (AV.int .u64)) := by rfl
theorem tab_of {K : Know} {w : World} (hG : GlobK K) (hf : ∀ g o u, K.frz g o = some u → w.cell? ⟨g, o, none⟩ = some u) (hd : ∀ g n, K.dim g = some n → ∃ arr T fz, w.heap[g]? = some (.cells arr T fz) ∧ arr.size = n) :
    Lib.TabIs Tryz.prog w "internal/strconv.uint64pow10" .u64 Lib.pow10Tab := by
  obtain ⟨h1, h2⟩ := hG _ _ pow10_glob
  obtain ⟨arr, T, fz, h3, h4⟩ := hd _ _ h2
  have hg : Tryz.prog.globalNamed "internal/strconv.uint64pow10" = some 2 := by kernel_rfl
  unfold Lib.TabIs World.var?
  rw [hg]
  simp only [Option.bind_some, h3]
  congr 1
  rw [List.length_map] at h4
  apply Array.ext
  · simpa using h4
  · intro i h5 h6
    have hi : i < Lib.pow10Tab.length := by simpa using h6
    have e := hf _ _ _ (h1 i .u64 Lib.pow10Tab[i] (by rw [List.getElem?_map, List.getElem?_eq_getElem hi]; rfl))
    unfold World.cell? at e
    simp only [h3] at e
    have e : arr[i]? = some (.int .u64 Lib.pow10Tab[i]) := e
    rw [Array.getElem?_eq_getElem h5] at e
    rw [Option.some.inj e]
    simp
theorem WR.drewN {K : Know} {s : AHeap} {w : World} (h : WR K s w) (k : Nat) : WR K s (w.drewN k) ∧ Ext K s w K s (w.drewN k) := by
  exact ⟨h.like rfl, .like ⟨rfl, rfl, rfl⟩ rfl⟩
theorem itoaI_ok (n : Int) (h0 : -9223372036854775808 ≤ n) (h1 : n ≤ 9223372036854775807) (s : AHeap) :
    ACall Tryz.prog 142 [.int .i64 n] s fun v t => v = .str (Lib.itoa n) ∧ t = s := by
  intro K w vals hG hw ha
  have hen : ∀ args w, (callFunc 142 args).run Tryz.prog w = .ok (.enter 142 args) w := enters_of Tryz.func142 (by kernel_rfl) rfl
  rw [hen]
  cases ha with
  | cons _ u _ us hx hs =>
  cases hs
  have := hx.int_inv
  subst this
  refine Calls.mono (Any.internal_strconv_Itoa Tryz.lays243 n h0 h1 w (tab_of hG (fun g o u e => hw.frz g o u e) hw.dim)) ?_
  rintro e w' ⟨rfl, k, os, rfl⟩
  obtain ⟨q1, q2⟩ := WR.drewN hw k
  obtain ⟨q3, q4⟩ := q1.grow os
  exact ⟨_, _, K, s, rfl, .str _ _ (by simp), q3, q2.trans q4, rfl, rfl⟩
end Go.S1N
end
