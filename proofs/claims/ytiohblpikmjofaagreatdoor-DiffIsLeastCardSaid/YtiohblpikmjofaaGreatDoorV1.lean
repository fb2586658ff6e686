/- Part 1 of a proof: texts of this work, put together. -/
import Derived.Test.YtiohblpikmjofaaGreatDoorW3
import Derived.Test.YtiohblpikmjofaaGreatDoorAm8
import Derived.Test.YtiohblpikmjofaaGreatDoorRows
import Derived.WalkKit
import Derived.ProofKit
import Derived.OpenShut
import Derived.ShutString
import Derived.ChangeOld
import Derived.Below
import Derived.SizedLaws
import Derived.Lay
import Derived.LaidOnce
import Derived.LaidMore
import Derived.Lib.LaidU8
import Derived.SevenTiedAt
import Derived.Stop.Joined
set_option linter.unusedVariables false
set_option linter.unusedSimpArgs false
section
namespace Go.S1N
open Go Go.Am Go.Proofs Go.S1
set_option maxRecDepth 100000
theorem ty3 : tab.ty 3 = some { td := .int .i64, size := 1, bytes := 8, zero := .int .i64 0, eqok := false } := by kernel_rfl
theorem ty9 : tab.ty 9 = some { td := .str, size := 1, bytes := 16, zero := .string ⟨#[]⟩, eqok := false } := by kernel_rfl
theorem ty22 : tab.ty 22 = some { td := .slice 3, size := 1, bytes := 24, zero := .slice none 0 0, eqok := false } := by kernel_rfl
theorem ty25 : tab.ty 25 = some { td := .struct [(22, 0, true), (3, 1, true)], size := 2, bytes := 32, zero := .agg #[.slice none 0 0, .int .i64 0], eqok := false } := by kernel_rfl
theorem ty27 : tab.ty 27 = some { td := .slice 37, size := 1, bytes := 24, zero := .slice none 0 0, eqok := false } := by kernel_rfl
theorem ty29 : tab.ty 29 = some { td := .int .i64, size := 1, bytes := 8, zero := .int .i64 0, eqok := false } := by kernel_rfl
theorem ty37 : tab.ty 37 = some { td := .struct [(3, 0, true), (3, 1, true), (9, 2, true)], size := 3, bytes := 32, zero := .agg #[.int .i64 0, .int .i64 0, .string ⟨#[]⟩], eqok := true } := by kernel_rfl
theorem ty58 : tab.ty 58 = some { td := .slice 29, size := 1, bytes := 24, zero := .slice none 0 0, eqok := false } := by kernel_rfl
theorem ty75 : tab.ty 75 = some { td := .slice 9, size := 1, bytes := 24, zero := .slice none 0 0, eqok := false } := by kernel_rfl
theorem ty89 : tab.ty 89 = some { td := .slice 98, size := 1, bytes := 24, zero := .slice none 0 0, eqok := false } := by kernel_rfl
theorem ty98 : tab.ty 98 = some { td := .struct [(3, 0, true), (3, 1, true), (9, 2, true)], size := 3, bytes := 32, zero := .agg #[.int .i64 0, .int .i64 0, .string ⟨#[]⟩], eqok := false } := by kernel_rfl
@[go_sem] theorem al3 {P : Program} {s0 : AHeap} {N : List AV → AHeap → Prop} {d : Option Nat} {tm : List AV} {s : AHeap} : lstepB P tab s0 N (.alloc 3) d tm s = N (aput tm d (.ptr s.nx 0)) (s.new (.cells [.int .i64 0] (some 3))) := by rw [lstepB_alloc, ty3]; rfl
@[go_sem] theorem al9 {P : Program} {s0 : AHeap} {N : List AV → AHeap → Prop} {d : Option Nat} {tm : List AV} {s : AHeap} : lstepB P tab s0 N (.alloc 9) d tm s = N (aput tm d (.ptr s.nx 0)) (s.new (.cells [.str []] (some 9))) := by rw [lstepB_alloc, ty9]; rfl
@[go_sem] theorem al27 {P : Program} {s0 : AHeap} {N : List AV → AHeap → Prop} {d : Option Nat} {tm : List AV} {s : AHeap} : lstepB P tab s0 N (.alloc 27) d tm s = N (aput tm d (.ptr s.nx 0)) (s.new (.cells [.nils] (some 27))) := by rw [lstepB_alloc, ty27]; rfl
@[go_sem] theorem al37 {P : Program} {s0 : AHeap} {N : List AV → AHeap → Prop} {d : Option Nat} {tm : List AV} {s : AHeap} : lstepB P tab s0 N (.alloc 37) d tm s = N (aput tm d (.ptr s.nx 0)) (s.new (.cells [.int .i64 0, .int .i64 0, .str []] (some 37))) := by rw [lstepB_alloc, ty37]; rfl
@[go_sem] theorem al98 {P : Program} {s0 : AHeap} {N : List AV → AHeap → Prop} {d : Option Nat} {tm : List AV} {s : AHeap} : lstepB P tab s0 N (.alloc 98) d tm s = N (aput tm d (.ptr s.nx 0)) (s.new (.cells [.int .i64 0, .int .i64 0, .str []] (some 98))) := by rw [lstepB_alloc, ty98]; rfl
@[go_sem] theorem ld3 {x : AV} {s : AHeap} : aload tab 3 x s = (acellsAt s x).bind fun cs => cs[0]? := by rw [aload_one ty3 rfl]
@[go_sem] theorem st3 {b o : Nat} {v : AV} {s : AHeap} : astore tab 3 (.ptr b o) v s = astoreAt s b o 1 v := by rw [astore_ptr ty3]
@[go_sem] theorem ld9 {x : AV} {s : AHeap} : aload tab 9 x s = (acellsAt s x).bind fun cs => cs[0]? := by rw [aload_one ty9 rfl]
@[go_sem] theorem st9 {b o : Nat} {v : AV} {s : AHeap} : astore tab 9 (.ptr b o) v s = astoreAt s b o 1 v := by rw [astore_ptr ty9]
@[go_sem] theorem len9 {l : List UInt8} : alen tab 9 (.str l) = some (.int .i64 l.length) := by simp [alen, ty9]
@[go_sem] theorem ld22 {x : AV} {s : AHeap} : aload tab 22 x s = (acellsAt s x).bind fun cs => cs[0]? := by rw [aload_one ty22 rfl]
@[go_sem] theorem st22 {b o : Nat} {v : AV} {s : AHeap} : astore tab 22 (.ptr b o) v s = astoreAt s b o 1 v := by rw [astore_ptr ty22]
@[go_sem] theorem len22r {z b o n : Nat} : alen tab 22 (.rs z b o n) = some (.int .i64 n) := by simp [alen, ty22]
@[go_sem] theorem bs22 {s : AHeap} {n : Nat} {parts : List (Nat × AV)} (hn : n = parts.length) (hs : seqp 1 0 parts) (hb : n ≤ 1000) : abuildSlice tab false 22 n parts s = some (.rs 1 s.nx 0 n, s.new (.cells ((parts.map (·.2)).flatMap AV.cells) (some 3))) := abuildSlice_seq ty22 rfl ty3 rfl rfl hn hs (show n * 1 ≤ 16777216 by omega)
theorem ix22r {b o m : Nat} {n : Int} (h0 : 0 ≤ n) (h1 : n < m) : aindexAddr tab 22 (.rs 1 b o m) (.int .i64 n) = some (.ptr b (o + n.toNat * 1)) := by
  simp [aindexAddr, ty22, Tab.size, ty3, h0, h1]
@[go_sem] theorem fa25_0p {b o : Nat} : afieldAddr tab 25 (.ptr b o) 0 = some (.ptr b (o + 0)) := by simp [afieldAddr, ty25, Tab.size, ty22]
@[go_sem] theorem fa25_1p {b o : Nat} : afieldAddr tab 25 (.ptr b o) 1 = some (.ptr b (o + 1)) := by simp [afieldAddr, ty25, Tab.size, ty3]
@[go_sem] theorem bd25 {parts : List (Nat × AV)} : abuild tab 25 parts = if parts.any (·.2.israw) = true then none else (afill (fun i => ([(0, 1), (1, 1)] : List (Nat × Nat))[i]?) [.nils, .int .i64 0] parts).map .agg := abuild_struct ty25 rfl rfl (by simp [Tab.size, ty22, ty3])
@[go_sem] theorem ld27 {x : AV} {s : AHeap} : aload tab 27 x s = (acellsAt s x).bind fun cs => cs[0]? := by rw [aload_one ty27 rfl]
@[go_sem] theorem st27 {b o : Nat} {v : AV} {s : AHeap} : astore tab 27 (.ptr b o) v s = astoreAt s b o 1 v := by rw [astore_ptr ty27]
theorem ap27 {x y : AV} {s : AHeap} : lappend tab 27 27 x y s = aappend tab 37 s x y := by simp [lappend, ty27]
theorem app27 {s : AHeap} {n j len m : Nat} {l : List (Nat × Option AObj)} {y : AV} {c new : List AV} (hy : acellsOf (loc s n l) 3 y = some (new, m)) (hm : m ≠ 0) (hn : new.all AV.one = true) (hl : lget l j = gso 37 c) (hc : c.length = len * 3) (hb : (2 * (len + m) + 512) * 32 ≤ 281474976710656) {mm : Nat} (hmm : s.nx = mm) : lappend tab 27 27 (gsv 3 (nm mm j) len) y (loc s n l) = some (.rs 3 (nm mm n) 0 (len + m), loc s (n + 1) (lput (ldel l j) n (.cells (c ++ new) (some 37)))) := ap27.trans (aappend_gs ty37 (by decide) (by decide) hy hm hn hl hc hb hmm)
@[go_sem] theorem bs27 {s : AHeap} {n : Nat} {parts : List (Nat × AV)} (hn : n = parts.length) (hs : seqp 3 0 parts) (hb : n ≤ 1000) : abuildSlice tab false 27 n parts s = some (.rs 3 s.nx 0 n, s.new (.cells ((parts.map (·.2)).flatMap AV.cells) (some 37))) := abuildSlice_seq ty27 rfl ty37 rfl rfl hn hs (show n * 3 ≤ 16777216 by omega)
@[go_sem] theorem fa37_0p {b o : Nat} : afieldAddr tab 37 (.ptr b o) 0 = some (.ptr b (o + 0)) := by simp [afieldAddr, ty37, Tab.size, ty3]
@[go_sem] theorem fa37_1p {b o : Nat} : afieldAddr tab 37 (.ptr b o) 1 = some (.ptr b (o + 1)) := by simp [afieldAddr, ty37, Tab.size, ty3]
@[go_sem] theorem fa37_2p {b o : Nat} : afieldAddr tab 37 (.ptr b o) 2 = some (.ptr b (o + 2)) := by simp [afieldAddr, ty37, Tab.size, ty9]
@[go_sem] theorem bd37 {parts : List (Nat × AV)} : abuild tab 37 parts = if parts.any (·.2.israw) = true then none else (afill (fun i => ([(0, 1), (1, 1), (2, 1)] : List (Nat × Nat))[i]?) [.int .i64 0, .int .i64 0, .str []] parts).map .agg := abuild_struct ty37 rfl rfl (by simp [Tab.size, ty3, ty9])
@[go_sem] theorem ld37 {x : AV} {s : AHeap} : aload tab 37 x s = (acellsAt s x).bind fun cs => if 3 ≤ cs.length then some (.agg (cs.take 3)) else none := by rw [aload_agg ty37 rfl]
@[go_sem] theorem st37 {b o : Nat} {v : AV} {s : AHeap} : astore tab 37 (.ptr b o) v s = astoreAt s b o 3 v := by rw [astore_ptr ty37]
@[go_sem] theorem bs58 {s : AHeap} {n : Nat} {parts : List (Nat × AV)} (hn : n = parts.length) (hs : seqp 1 0 parts) (hb : n ≤ 1000) : abuildSlice tab false 58 n parts s = some (.rs 1 s.nx 0 n, s.new (.cells ((parts.map (·.2)).flatMap AV.cells) (some 29))) := abuildSlice_seq ty58 rfl ty29 rfl rfl hn hs (show n * 1 ≤ 16777216 by omega)
@[go_sem] theorem len75r {z b o n : Nat} : alen tab 75 (.rs z b o n) = some (.int .i64 n) := by simp [alen, ty75]
@[go_sem] theorem bs75 {s : AHeap} {n : Nat} {parts : List (Nat × AV)} (hn : n = parts.length) (hs : seqp 1 0 parts) (hb : n ≤ 1000) : abuildSlice tab false 75 n parts s = some (.rs 1 s.nx 0 n, s.new (.cells ((parts.map (·.2)).flatMap AV.cells) (some 9))) := abuildSlice_seq ty75 rfl ty9 rfl rfl hn hs (show n * 1 ≤ 16777216 by omega)
theorem ap89 {x y : AV} {s : AHeap} : lappend tab 89 89 x y s = aappend tab 98 s x y := by simp [lappend, ty89]
theorem app89 {s : AHeap} {n j len m : Nat} {l : List (Nat × Option AObj)} {y : AV} {c new : List AV} (hy : acellsOf (loc s n l) 3 y = some (new, m)) (hm : m ≠ 0) (hn : new.all AV.one = true) (hl : lget l j = gso 98 c) (hc : c.length = len * 3) (hb : (2 * (len + m) + 512) * 32 ≤ 281474976710656) {mm : Nat} (hmm : s.nx = mm) : lappend tab 89 89 (gsv 3 (nm mm j) len) y (loc s n l) = some (.rs 3 (nm mm n) 0 (len + m), loc s (n + 1) (lput (ldel l j) n (.cells (c ++ new) (some 98)))) := ap89.trans (aappend_gs ty98 (by decide) (by decide) hy hm hn hl hc hb hmm)
@[go_sem] theorem bs89 {s : AHeap} {n : Nat} {parts : List (Nat × AV)} (hn : n = parts.length) (hs : seqp 3 0 parts) (hb : n ≤ 1000) : abuildSlice tab false 89 n parts s = some (.rs 3 s.nx 0 n, s.new (.cells ((parts.map (·.2)).flatMap AV.cells) (some 98))) := abuildSlice_seq ty89 rfl ty98 rfl rfl hn hs (show n * 3 ≤ 16777216 by omega)
theorem ix89f {xs : List AV} {n : Int} {v : AV} (h0 : 0 ≤ n) (hv : xs[n.toNat]? = some v) (hr : v.israw = false) : aindexAddr tab 89 (fsv 3 xs) (.int .i64 n) = some (.rptr v.cells) := by
  rw [fsv_pos (by rintro rfl; simp at hv)]
  simp [aindexAddr, ty89, Tab.size, ty98, h0, hv, hr]
@[go_sem] theorem len89f {xs : List AV} : alen tab 89 (fsv 3 xs) = some (.int .i64 xs.length) := by unfold fsv; split <;> simp_all [alen, ty89]
@[go_sem] theorem fa98_0p {b o : Nat} : afieldAddr tab 98 (.ptr b o) 0 = some (.ptr b (o + 0)) := by simp [afieldAddr, ty98, Tab.size, ty3]
@[go_sem] theorem fa98_1p {b o : Nat} : afieldAddr tab 98 (.ptr b o) 1 = some (.ptr b (o + 1)) := by simp [afieldAddr, ty98, Tab.size, ty3]
@[go_sem] theorem fa98_2p {b o : Nat} : afieldAddr tab 98 (.ptr b o) 2 = some (.ptr b (o + 2)) := by simp [afieldAddr, ty98, Tab.size, ty9]
@[go_sem] theorem bd98 {parts : List (Nat × AV)} : abuild tab 98 parts = if parts.any (·.2.israw) = true then none else (afill (fun i => ([(0, 1), (1, 1), (2, 1)] : List (Nat × Nat))[i]?) [.int .i64 0, .int .i64 0, .str []] parts).map .agg := abuild_struct ty98 rfl rfl (by simp [Tab.size, ty3, ty9])
@[go_sem] theorem ld98 {x : AV} {s : AHeap} : aload tab 98 x s = (acellsAt s x).bind fun cs => if 3 ≤ cs.length then some (.agg (cs.take 3)) else none := by rw [aload_agg ty98 rfl]
@[go_sem] theorem st98 {b o : Nat} {v : AV} {s : AHeap} : astore tab 98 (.ptr b o) v s = astoreAt s b o 3 v := by rw [astore_ptr ty98]
end Go.S1N
end
section
namespace Go.S1N
open Go Go.Am Go.Proofs Go.S1
set_option maxRecDepth 100000
theorem gob9 {args : List AV} {s : AHeap} {R : AV → AHeap → Prop} (hl : args.length ≤ 18) (h : ∀ tm, tm.length = 18 → (∀ i, aev tm (.tmp i) = args.getD i aundef) → lvb Tryz.prog tab s L9 (lpostB tab s [ResultVar.tmp 4] R) tm (loc s 0 [])) : ACall Tryz.prog 9 args s R := ACall.goB tab_ok mixed Tryz.func9 l9 nm9 rs9 nt9 hl h
theorem gob29 {args : List AV} {s : AHeap} {R : AV → AHeap → Prop} (hl : args.length ≤ 61) (h : ∀ tm, tm.length = 61 → (∀ i, aev tm (.tmp i) = args.getD i aundef) → lvb Tryz.prog tab s L29 (lpostB tab s [ResultVar.tmp 4] R) tm (loc s 0 [])) : ACall Tryz.prog 29 args s R := ACall.goB tab_ok mixed Tryz.func29 l29 nm29 rs29 nt29 hl h
theorem gob19 {args : List AV} {s : AHeap} {R : AV → AHeap → Prop} (hl : args.length ≤ 19) (h : ∀ tm, tm.length = 19 → (∀ i, aev tm (.tmp i) = args.getD i aundef) → lvb Tryz.prog tab s L19 (lpostB tab s [ResultVar.tmp 6] R) tm (loc s 0 [])) : ACall Tryz.prog 19 args s R := ACall.goB tab_ok mixed Tryz.func19 l19 nm19 rs19 nt19 hl h
theorem gob50 {args : List AV} {s : AHeap} {R : AV → AHeap → Prop} (hl : args.length ≤ 9) (h : ∀ tm, tm.length = 9 → (∀ i, aev tm (.tmp i) = args.getD i aundef) → lvb Tryz.prog tab s L50 (lpostB tab s [ResultVar.tmp 4] R) tm (loc s 0 [])) : ACall Tryz.prog 50 args s R := ACall.goB tab_ok mixed Tryz.func50 l50 nm50 rs50 nt50 hl h
theorem gob49 {args : List AV} {s : AHeap} {R : AV → AHeap → Prop} (hl : args.length ≤ 12) (h : ∀ tm, tm.length = 12 → (∀ i, aev tm (.tmp i) = args.getD i aundef) → lvb Tryz.prog tab s L49 (lpostB tab s [ResultVar.tmp 4] R) tm (loc s 0 [])) : ACall Tryz.prog 49 args s R := ACall.goB tab_ok mixed Tryz.func49 l49 nm49 rs49 nt49 hl h
theorem gob11 {args : List AV} {s : AHeap} {R : AV → AHeap → Prop} (hl : args.length ≤ 16) (h : ∀ tm, tm.length = 16 → (∀ i, aev tm (.tmp i) = args.getD i aundef) → lvb Tryz.prog tab s L11 (lpostB tab s [ResultVar.tmp 4, ResultVar.tmp 5] R) tm (loc s 0 [])) : ACall Tryz.prog 11 args s R := ACall.goB tab_ok mixed Tryz.func11 l11 nm11 rs11 nt11 hl h
theorem gob28 {args : List AV} {s : AHeap} {R : AV → AHeap → Prop} (hl : args.length ≤ 12) (h : ∀ tm, tm.length = 12 → (∀ i, aev tm (.tmp i) = args.getD i aundef) → lvb Tryz.prog tab s L28 (lpostB tab s [ResultVar.tmp 4] R) tm (loc s 0 [])) : ACall Tryz.prog 28 args s R := ACall.goB tab_ok mixed Tryz.func28 l28 nm28 rs28 nt28 hl h
theorem gob51 {args : List AV} {s : AHeap} {R : AV → AHeap → Prop} (hl : args.length ≤ 39) (h : ∀ tm, tm.length = 39 → (∀ i, aev tm (.tmp i) = args.getD i aundef) → lvb Tryz.prog tab s L51 (lpostB tab s [ResultVar.cell 4 37] R) tm (loc s 0 [])) : ACall Tryz.prog 51 args s R := ACall.goB tab_ok mixed Tryz.func51 l51 nm51 rs51 nt51 hl h
theorem gob41 {args : List AV} {s : AHeap} {R : AV → AHeap → Prop} (hl : args.length ≤ 64) (h : ∀ tm, tm.length = 64 → (∀ i, aev tm (.tmp i) = args.getD i aundef) → lvb Tryz.prog tab s L41 (lpostB tab s [ResultVar.tmp 4] R) tm (loc s 0 [])) : ACall Tryz.prog 41 args s R := ACall.goB tab_ok mixed Tryz.func41 l41 nm41 rs41 nt41 hl h
end Go.S1N
end
section
namespace Go.S1N
open Go Go.Am Go.Proofs Go.S1
set_option maxRecDepth 100000
theorem exact_of {P : Program} {f : FuncId} {args : List AV} {s : AHeap} {v : AV} (hv : Pu v) (h : ACall P f args s fun r t => r = v ∧ Sub s t) : ACall P f args s fun r t => r = v ∧ t = s := by
  refine h.clean ?_
  rintro r t ⟨rfl, ht⟩ B hB K w us hw hvs hx
  have hlt : ∀ b o, s.get b = some o → b < s.nx := by
    intro b o h
    obtain ⟨rfl, hBw, _⟩ := hB
    obtain ⟨g, base, q1, _⟩ := hBw.own b o h
    exact (hBw.bnd _ _ _ q1).1
  obtain ⟨K', h1, h2, h3⟩ := rename_core (s' := s) hB hw hx (f := fun b => if b < s.nx then b else b + t.nx) (fun b hb => if_pos hb) (by intro b hb; rw [if_neg (by omega)]; omega) (Nat.le_refl _)
    (fun b o h => .inr ⟨hlt b o h, ht.2 b o (hlt b o h) h, h⟩)
    (by intro b b' o o' h h' e; rwa [if_pos (hlt b o h), if_pos (hlt b' o' h')] at e)
  cases hvs with
  | cons _ u _ us hu hs' =>
    cases hs'
    refine ⟨K', [r], s, h1, .cons _ _ _ _ (h3 _ _ ?_) .nil, h2, r, rfl, rfl, rfl⟩
    rw [ren_pu hv]
    exact hu
theorem _root_.Go.S1.Ed.pu (e : Ed) : Pu e.enc := by simp only [Pu, Ed.enc, low, lowL, and_self]
theorem _root_.Go.S1.SlE.pu {v : AV} {l : List Ed} (h : SlE v l) : Pu v := by
  rcases h with ⟨f, rfl⟩ | ⟨rfl, rfl⟩
  · simp only [Pu, low, lowL_iff, List.mem_map]
    rintro x ⟨e, _, rfl⟩
    exact Ed.pu e
  · simp only [Pu, low]
end Go.S1N
end
section
namespace Go.S1N
open Go Go.Am Go.Proofs Go.S1
open Go.Proofs.YtiohblpikmjofaaGreatDoor
open Go.ChangeShapes Go.WideShapes Go.ChangeAt Go.RowKit
open Go.ChangeMaps (open_string shut_string)
set_option maxRecDepth 100000
theorem own : ownKnob Tryz.prog.godebug = none := by kernel_rfl
theorem laidOut : laidOutB Tryz.prog = true := by kernel_rfl
def IsRow (w : World) (a : Option Addr) (len cap : Nat) (zs : List Int) : Prop :=
  (a = none ∧ len = 0 ∧ cap = 0) ∨
  ∃ x, a = some x ∧ len ≤ cap ∧ cap ≤ maxLen ∧ zs.length = cap ∧ (∀ i, i < zs.length → w.cell? (x.add i) = some (.int .i64 (zs.getD i 0)))
def GlobW (W : World) : Prop := ∀ g l, globAt globs g = some l → ∀ i k n, l[i]? = some (.int k n) → W.cell? ⟨g, i, none⟩ = some (.int k n)
theorem law_calls {n : Nat} {fn : Func} {c : Code} (hf : Tryz.prog.funcs[n]? = some fn) (hb : fn.body = some c) (hn : (fn.name == "runtime.NumGoroutine") = false)
    (h : ∀ v L, IsInts v L → L.length < 4611686018427387904 → ∀ s, ACall Tryz.prog n [v] s fun r t => r = .bool true ∧ t = s) {W : World} (hG : GlobW W) {a : Option Addr} {len cap : Nat} {zs : List Int} (hr : IsRow W a len cap zs) (hlen : len < 4611686018427387904) :
    Calls Tryz.prog n #[.slice a len cap] W fun e W' => e = .returned (.bool true) ∧ Below W.heap.size W W' := by
  have key : ∀ (K : Know) (v : AV) (L : List Int), (∀ b, K.phi b = none) → GlobK K → WR K .empty W → RV K v (.slice a len cap) → IsInts v L → L.length < 4611686018427387904 →
      Calls Tryz.prog n #[.slice a len cap] W fun e W' => e = .returned (.bool true) ∧ Below W.heap.size W W' := by
    intro K v L hphi hGK hw hv hi hl
    have := h v L hi hl .empty K W [.slice a len cap] hGK hw (.cons _ _ _ _ hv .nil)
    have hrun : (callFunc n [Value.slice a len cap].toArray).run Tryz.prog W = .ok (.enter n #[.slice a len cap]) W := by
      have hn' : ¬ fn.name = "runtime.NumGoroutine" := by simpa using hn
      simp [callFunc, hf, hb, hn']
    rw [hrun] at this
    simp only at this
    refine this.mono ?_
    rintro e w' ⟨u, r, K', s', rfl, q1, q2, q3, rfl, q5⟩
    cases q1
    refine ⟨rfl, q3.os, q3.tape, q3.output, q3.size, fun g hg => q3.block g hg ?_⟩
    rintro ⟨b, o, base, e, _⟩
    rw [AHeap.get_empty] at e
    cases e
  have he : ∀ {x : Nat} {o : AObj} {p : Prop}, AHeap.empty.get x = some o → p := by
    intro x o p e
    rw [AHeap.get_empty] at e
    cases e
  rcases hr with ⟨rfl, rfl, rfl⟩ | ⟨x, rfl, h1, h2, h3, h4⟩
  · exact key ⟨fun _ => none, fun g o => W.cell? ⟨g, o, none⟩, fun _ => none⟩ .nils [] (fun _ => rfl) hG ⟨fun _ _ _ e => e, fun _ _ e => (by cases e), fun _ _ e => he e, fun _ _ _ _ _ _ _ e => he e, fun _ _ _ _ e => he e, fun _ _ _ e => (by cases e)⟩ .nils (.inr ⟨rfl, rfl⟩) (by simp)
  · refine key ⟨fun _ => none, fun g o => W.cell? ⟨g, o, none⟩, fun _ => none⟩ (.vs 1 false ((zs.take len).map (AV.int .i64))) (zs.take len) (fun _ => rfl) hG ⟨?_, fun _ _ e => (by cases e), fun _ _ e => he e, fun _ _ _ _ _ _ _ e => he e, fun _ _ _ _ e => he e, fun _ _ _ e => (by cases e)⟩ ?_ (.inl ⟨false, rfl⟩) ?_
    · intro g o u e
      exact e
    · refine .vs _ _ _ x len cap ((zs.take len).map (Value.int .i64)) (by simp; omega) ?_ ?_ h1 (fun q => by cases q) ?_
      · have : ∀ zs : List Int, RVs ⟨fun _ => none, fun g o => W.cell? ⟨g, o, none⟩, fun _ => none⟩ ((zs.map (AV.int .i64)).flatMap AV.cells) (zs.map (Value.int .i64)) := by
          intro zs
          induction zs with
          | nil => exact .nil
          | cons z zs ih => exact .cons _ _ _ _ (.int .i64 z) ih
        exact this _
      · intro y hy
        obtain ⟨z, _, rfl⟩ := List.mem_map.1 hy
        rfl
      · intro i u hu
        rw [List.getElem?_map] at hu
        obtain ⟨z, q1, rfl⟩ := Option.map_eq_some_iff.1 hu
        rw [List.getElem?_take] at q1
        split at q1
        · rename_i hi
          have hc := h4 i (by omega)
          have hsp : x.spot = none := by
            have h0 := h4 0 (by omega)
            unfold World.cell? Addr.add at h0
            rw [if_pos rfl] at h0
            cases hs : x.spot with
            | none => rfl
            | some y =>
              exfalso
              split at h0
              · simp [hs] at h0
              · cases h0
          refine ⟨hsp, ?_⟩
          show W.cell? ⟨x.block, x.off + i, none⟩ = _
          have hz : zs.getD i 0 = z := by rw [List.getD_eq_getElem?_getD, q1]; rfl
          rw [hz] at hc
          rw [← hc]
          congr 1
          unfold Addr.add
          split
          · rename_i hi0
            subst hi0
            obtain ⟨b, o, sp⟩ := x
            simp only at hsp
            subst hsp
            rfl
          · rfl
        · cases q1
    · simp only [List.length_take]
      omega
theorem ints_small {H : Type} {enc : TypeId × Value → H} {W : World} {base : Nat} {spare : Nat → Bool} {held : Bool} {a : Option Addr} {len cap : Nat} {d : DataW H} {ps : List MemPlace} {ts : List TypeId} {ds : List (DataW H)}
    (hsz : (DataW.weightsEach Tryz.prog ts ds).all (· ≤ reachBytes) = true) (ht : ts[0]? = some 22) (hd : ds[0]? = some d) (h : DataW.Trod enc Tryz.prog W base spare held 22 (.slice a len cap) d ps) : len < 4611686018427387904 := by
  have hB : Tryz.prog.bytesOf 3 = 8 := by kernel_rfl
  obtain ⟨fuel, hf⟩ := h
  rcases open_ints Tryz.underlying22 Tryz.underlying3 (by kernel_rfl) hf with ⟨hcs, _⟩ | ⟨x, l, c, zs, hcs, _, hl, _, hz, hx, _, _⟩
  · simp [Value.cells] at hcs
    omega
  · simp [Value.cells] at hcs
    obtain ⟨_, hle, hce⟩ := hcs
    obtain ⟨hx1, _⟩ := Prod.mk.inj hx
    subst hx1
    have hw := sized_slice hsz ht hd Tryz.underlying22
    have hlz : len ≤ zs.length := by
      rw [hz, hle]
      split <;> omega
    have hsum : (lits (H := H) .i64 (zs.take l)).length + (lits (H := H) .i64 (zs.drop l)).length = zs.length := by
      simp only [lits, List.length_map, List.length_take, List.length_drop]
      omega
    rw [hB, hsum] at hw
    have := reachBytes_lt
    omega
end Go.S1N
end
section
namespace Go.S1N
open Go Go.Am Go.Proofs Go.S1
open Go.Proofs.YtiohblpikmjofaaGreatDoor
open Go.ChangeShapes Go.WideShapes Go.ChangeAt Go.RowKit
set_option maxRecDepth 100000
theorem gTab : Tryz.prog.globalNamed "math/bits.deBruijn64tab" = some 1 := by kernel_rfl
theorem tTab : (Tryz.prog.globals[1]?).map (·.type) = some 368 := by kernel_rfl
theorem glob_of_laid {W : World} {laid : List (String × DataW Unit)} (hL : laidMet Tryz.prog laid W) (hm : ("math/bits.deBruijn64tab", Rows.laid_math_bits_deBruijn64tab) ∈ laid) : GlobW W := by
  obtain ⟨g, t, cs, fuel, p, h1, h2, h3, h4⟩ := Lib.laidMet.reads hL hm
  obtain rfl := Option.some.inj (gTab.symm.trans h1)
  obtain rfl := Option.some.inj (tTab.symm.trans h2)
  have hc : Tryz.prog.cellsOf 5 = 1 := by kernel_rfl
  have hct : Tryz.prog.cellsOf 368 = 64 := by kernel_rfl
  intro g l hl i k n hi
  unfold globs at hl
  simp only [globAt] at hl
  split at hl
  · rename_i hb
    have e := Nat.eq_of_beq_eq_true hb
    subst e
    have ht := Lib.cells_of_tab (zs := [0, 1, 56, 2, 57, 49, 28, 3, 61, 58, 42, 50, 38, 29, 17, 4, 62, 47, 59, 36, 45, 43, 51, 22, 53, 39, 33, 30, 24, 18, 12, 5, 63, 55, 48, 27, 60, 41, 37, 16, 46, 35, 44, 21, 52, 32, 23, 11, 54, 26, 40, 15, 34, 20, 31, 10, 25, 14, 19, 9, 13, 8, 7, 6]) (k := .u8) Tryz.underlying368 Tryz.underlying5 hc hct h4
    have hcell := World.var?_cell h1 h3 i
    rw [hcell, ← Array.getElem?_toList, ht]
    cases hl
    rw [List.getElem?_map] at hi ⊢
    obtain ⟨z, hz, hz2⟩ := Option.map_eq_some_iff.1 hi
    cases hz2
    rw [hz]; rfl
  · cases hl
theorem goes_none {P : Program} (h : (P.funcs.toList.all fun fn => !fn.goes) = true) (c : OpenClaim) (hs : c.start = .entering) : false = c.goesBy P := by
  have hf : ∀ fn ∈ P.funcs, fn.goes = false := fun fn hm => by simpa using List.all_eq_true.1 h fn (by simpa using hm)
  have hg : ∀ g : Nat, (P.funcs[g]?).any Func.goes = false := fun g => by
    cases e : P.funcs[g]? with
    | none => rfl
    | some fn => exact hf fn (Array.mem_of_getElem? e)
  have h1 : ∀ f, P.goes f = false := fun f => by
    unfold Program.goes
    have a : P.funcs.any Func.goes = false := by
      rw [Bool.eq_false_iff]
      intro hc
      obtain ⟨i, hi, hx⟩ := Array.any_eq_true.1 hc
      rw [hf _ (Array.getElem_mem hi)] at hx
      cases hx
    simp only [hg, a, Bool.and_false, Bool.or_false]
    simp
  unfold OpenClaim.goesBy Program.goesAt Program.goesFrom
  rw [hs]
  cases e : P.funcNamed c.func with
  | none => rfl
  | some f => simp [h1]
theorem nobody_goes : (Tryz.prog.funcs.toList.all fun fn => !fn.goes) = true := by kernel_rfl
end Go.S1N
end
section
namespace Go.S1
open Go Go.Am Go.Proofs
end Go.S1
end
section
namespace Go.S1N
open Go Go.Am Go.Proofs Go.S1
set_option maxRecDepth 100000
theorem ACall.closed {P : Program} {f : FuncId} {b : Bool} (h : ACall P f [] .empty fun v _ => v = .bool b) (s : AHeap) : ACall P f [] s fun v t => v = .bool b ∧ t = s := by
  intro K w vals hG hw hv
  cases hv
  have hlt : ∀ {g o u}, K.frz g o = some u → g < w.heap.size := fun h => hw.frz_lt h
  have hdl : ∀ {g n}, K.dim g = some n → g < w.heap.size := fun h => hw.dim_lt h
  let K0 : Know := ⟨fun _ => none, K.frz, K.dim⟩
  have he : ∀ {x : Nat} {o : AObj} {p : Prop}, AHeap.empty.get x = some o → p := by
    intro x o p e
    rw [AHeap.get_empty] at e
    cases e
  have h0 : WR K0 .empty w := ⟨hw.frz, hw.dim, fun _ _ e => he e, fun _ _ _ _ _ _ _ e => he e, fun _ _ _ _ e => he e, fun _ _ _ e => nomatch e⟩
  have fin : ∀ {v : AV} {u : Value} {K' : Know} {s' : AHeap} {w' : World}, RV K' v u → Ext K0 .empty w K' s' w' → v = .bool b → ∃ v' K2 s2, RV K2 v' u ∧ WR K2 s2 w' ∧ Ext K s w K2 s2 w' ∧ v' = .bool b ∧ s2 = s := by
    intro v u K' s' w' hr hx hv
    subst hv
    have hno : ∀ g, ¬ owned K0 .empty g := by
      rintro g ⟨x, o, base, e, _⟩
      rw [AHeap.get_empty] at e; cases e
    have hbl : ∀ g, g < w.heap.size → w'.heap[g]? = w.heap[g]? := fun g hg => hx.block g hg (hno g)
    refine ⟨.bool b, K, s, ?_, ?_, ?_, rfl, rfl⟩
    · cases hr; exact .bool b
    · refine ⟨?_, ?_, ?_, hw.inj, hw.sep, fun b g i e => ⟨(hw.bnd b g i e).1, Nat.lt_of_lt_of_le (hw.bnd b g i e).2 hx.size⟩⟩
      · intro g o u e
        have := hw.frz g o u e
        unfold World.cell? at this ⊢
        rw [show (⟨g, o, none⟩ : Addr).block = g from rfl] at this ⊢
        rw [hbl g (hlt e)]; exact this
      · intro g n e
        rw [hbl g (hdl e)]; exact hw.dim g n e
      · intro x o e
        obtain ⟨g, base, q1, q2⟩ := hw.own x o e
        exact ⟨g, base, q1, q2.of_block (hbl g (hw.bnd _ _ _ q1).2)⟩
    · exact ⟨.refl K, fun _ _ => rfl, Nat.le_refl _, hx.os, hx.tape, hx.output, hx.size, fun g hg _ => hbl g hg, fun g ho => .inl ho, fun _ _ _ _ => rfl⟩
  have := h K0 w [] hG h0 .nil
  generalize (callFunc f ([] : List Value).toArray).run P w = r at *
  cases r with
  | halt _ _ => exact this
  | ok n w' =>
    cases n <;> simp only at this ⊢
    · obtain ⟨v, K', s', h1, h2, h3, h4⟩ := this
      obtain ⟨v', K2, s2, q1, q2, q3, q4, q5⟩ := fin h1 h3 h4
      exact ⟨v', K2, s2, q1, q2, q3, q4, q5⟩
    · refine Calls.mono this ?_
      rintro e w'' ⟨u, v, K', s', h0, h1, h2, h3, h4⟩
      obtain ⟨v', K2, s2, q1, q2, q3, q4, q5⟩ := fin h1 h3 h4
      exact ⟨u, v', K2, s2, h0, q1, q2, q3, q4, q5⟩
end Go.S1N
end
