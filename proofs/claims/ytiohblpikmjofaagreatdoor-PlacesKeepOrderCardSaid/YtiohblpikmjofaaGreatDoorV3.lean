/- Part 3 of a proof: texts of this work, put together. -/
import Derived.Test.YtiohblpikmjofaaGreatDoorV2
import Derived.KernelRfl
import Derived.Shelf.Lay
import Derived.Ground.NamesProg
import Derived.Test.YtiohblpikmjofaaGreatDoorRows
section
set_option linter.unusedVariables false
set_option linter.unusedSimpArgs false
namespace Go.S1N
open Go Go.Am Go.Proofs Go.S1
set_option maxRecDepth 100000
set_option linter.unusedSimpArgs false
attribute [local irreducible] lopsB lvb lstepB lfunG lcondB lguardB ldrawB ldrunB ldstepB ldguardB lmem lval ldmem ldval ldfun lexit ldloadB ldlenB lpostB athen ablock
def strm (Lv : AV) (at_ : Int) : AObj := .cells [Lv, .int .i64 at_] (some 25)
theorem _root_.Go.S1.IsInts.pu {v : AV} {l : List Int} (h : IsInts v l) : Pu v := by
  rcases h with ⟨f, rfl⟩ | ⟨rfl, rfl⟩
  · simp only [Pu, low, lowL_iff, List.mem_map]
    rintro x ⟨e, _, rfl⟩
    simp only [low]
  · simp only [Pu, low]
structure Sm (s : AHeap) (b : Nat) (Lv : AV) (L : List Int) (at_ : Int) : Prop where
  ints : IsInts Lv L
  len : L.length < 4611686018427387904
  at0 : 0 ≤ at_
  at1 : at_ < 4000000000000000000
  lt : b < s.nx
  get : s.get b = some (strm Lv at_)
theorem Sm.lowO {s : AHeap} {b : Nat} {Lv : AV} {L : List Int} {at_ : Int} (h : Sm s b Lv L at_) {n : Nat} {a : Int} : lowO n (strm Lv a) := by
  simp only [strm, Am.lowO, lowL, low, and_true]
  exact low.mono (Nat.zero_le _) h.ints.pu
theorem Sm.upd {s : AHeap} {b : Nat} {Lv : AV} {L : List Int} {at_ a : Int} (h : Sm s b Lv L at_) (h0 : 0 ≤ a) (h1 : a < 4000000000000000000) : Sm (s.upd b (strm Lv a)) b Lv L a :=
  ⟨h.ints, h.len, h0, h1, by rw [AHeap.nx_upd]; exact h.lt, get_upd_same⟩
theorem Sm.loc {s : AHeap} {b : Nat} {Lv : AV} {L : List Int} {at_ : Int} (h : Sm s b Lv L at_) {n : Nat} {l : List (Nat × Option AObj)} : Sm (loc s n l) b Lv L at_ :=
  ⟨h.ints, h.len, h.at0, h.at1, by rw [nx_loc]; exact lt_nm h.lt, by rw [get_loc_out h.lt]; exact h.get⟩
theorem nextS {s : AHeap} {b : Nat} {Lv : AV} {L : List Int} {at_ : Int} (h : Sm s b Lv L at_) (n : Int) :
    ACall Tryz.prog 41 [.ptr b 0, .int .i64 n] s fun v t => v = .int .i64 (nextOf L at_ n) ∧ t = s.upd b (strm Lv (at_ + 1)) := by
  refine gob41 (by simp) ?_
  intro tm hlen harg
  have hb := h.lt
  have hg := h.get
  have hlow := h.lowO (n := s.nx) (a := at_ + 1)
  have hL := h.ints
  have h0 := h.at0
  have e1 : IntKind.i64.wrap (at_ + 1) = at_ + 1 := wrap_id (by have := h.at1; omega)
  have hll := h.len
  rw [strm] at hg
  simp only [strm] at hlow ⊢
  simp +contextual only [go_sem, L41, hlen, harg, hb, hg, e1, hL.len, lcondB_decide, lcondB_not, lguardB_decide_true, lguardB_decide_false, ldguardB_decide, Nat.reduceLT, Nat.reduceEqDiff, Nat.reduceAdd, Nat.reduceLeDiff, reduceIte, reduceCtorEq]
  refine ⟨fun hz => ?_, fun hz => ?_⟩
  · have hL0 : L = [] := List.eq_nil_of_length_eq_zero (by omega)
    refine lfunG_eq (below_ok _ _ _) ?_
    simp +contextual only [go_sem, hlen, lcondB_decide, lcondB_not, lguardB_decide_true, lguardB_decide_false, ldguardB_decide, Nat.reduceLT, Nat.reduceEqDiff, Nat.reduceAdd, Nat.reduceLeDiff, reduceIte, reduceCtorEq]
    subst hL0
    refine lexit_pure ((OKo.refl s).upd hb hlow) (by simp only [low]) ⟨?_, rfl⟩
    simp [nextOf, e1, wr]
  · have hL0 : L ≠ [] := by rintro rfl; simp at hz
    have hlz : (L.length : Int) ≠ 0 := hz
    have e2 : IntKind.i64.wrap (at_ + 1 - 1) = at_ := by rw [wrap_id (by have := h.at1; omega)]; omega
    refine ldrawB_go [] [] 10 (by decide) ?_
    simp +contextual only [go_sem, hlen, harg, hb, hg, e1, e2, hL.len, abin_rem hlz, lcondB_decide, lcondB_not, lguardB_decide_true, lguardB_decide_false, ldguardB_decide, Nat.reduceLT, Nat.reduceEqDiff, Nat.reduceAdd, Nat.reduceLeDiff, reduceIte, reduceCtorEq]
    refine ⟨by kernel_rfl, ?_⟩
    refine ldrawB_go [] [] 10 (by decide) ?_
    simp +contextual only [go_sem, hlen, harg, hb, hg, e1, e2, hL.len, abin_quo hlz, lcondB_decide, lcondB_not, lguardB_decide_true, lguardB_decide_false, ldguardB_decide, Nat.reduceLT, Nat.reduceEqDiff, Nat.reduceAdd, Nat.reduceLeDiff, reduceIte, reduceCtorEq]
    refine ⟨by kernel_rfl, ?_⟩
    have hi0 : 0 ≤ at_.tmod L.length := Int.tmod_nonneg _ h0
    have hi1 : at_.tmod L.length < L.length := Int.tmod_lt_of_pos _ (by omega)
    obtain ⟨x, hx⟩ : ∃ x, L[(at_.tmod L.length).toNat]? = some x := ⟨_, List.getElem?_eq_getElem (by omega)⟩
    simp +contextual only [go_sem, hlen, harg, hb, hg, e1, e2, hL.len, hL.at hi0 hx, lcondB_decide, lcondB_not, lguardB_decide_true, lguardB_decide_false, ldguardB_decide, Nat.reduceLT, Nat.reduceEqDiff, Nat.reduceAdd, Nat.reduceLeDiff, reduceIte, reduceCtorEq]
    refine lfunG_eq (below_ok _ _ _) ?_
    simp +contextual only [go_sem, hlen, harg, lcondB_decide, lcondB_not, lguardB_decide_true, lguardB_decide_false, ldguardB_decide, Nat.reduceLT, Nat.reduceEqDiff, Nat.reduceAdd, Nat.reduceLeDiff, reduceIte, reduceCtorEq]
    refine lfunG_eq (below_ok _ _ _) ?_
    simp +contextual only [go_sem, hlen, lcondB_decide, lcondB_not, lguardB_decide_true, lguardB_decide_false, ldguardB_decide, Nat.reduceLT, Nat.reduceEqDiff, Nat.reduceAdd, Nat.reduceLeDiff, reduceIte, reduceCtorEq]
    refine lexit_pure ((OKo.refl s).upd hb hlow) (by simp only [low]) ⟨?_, rfl⟩
    have hx' : L.getD (at_.tmod L.length).toNat 0 = x := by rw [List.getD_eq_getElem?_getD, hx]; rfl
    simp only [nextOf, if_neg hL0, wr, e1, e2, hx']
theorem flipS {s : AHeap} {b : Nat} {Lv : AV} {L : List Int} {at_ : Int} (h : Sm s b Lv L at_) (n : Int) :
    ACall Tryz.prog 50 [.ptr b 0, .int .i64 n] s fun v t => v = .bool (decide (nextOf L at_ n = 0)) ∧ t = s.upd b (strm Lv (at_ + 1)) := by
  refine gob50 (by simp) ?_
  intro tm hlen harg
  have hb := h.lt
  simp +contextual only [go_sem, L50, hlen, harg, lcondB_decide, lcondB_not, lguardB_decide_true, lguardB_decide_false, ldguardB_decide, Nat.reduceLT, Nat.reduceEqDiff, Nat.reduceAdd, Nat.reduceLeDiff, reduceIte, reduceCtorEq]
  refine lfunG_eq (nextS h.loc _) ?_
  simp +contextual only [go_sem, hlen, hb, lcondB_decide, lcondB_not, lguardB_decide_true, lguardB_decide_false, ldguardB_decide, Nat.reduceLT, Nat.reduceEqDiff, Nat.reduceAdd, Nat.reduceLeDiff, reduceIte, reduceCtorEq]
  exact lexit_pure ((OKo.refl s).upd hb h.lowO) (by simp only [low]) ⟨rfl, rfl⟩
theorem rangeS {s : AHeap} {b : Nat} {Lv : AV} {L : List Int} {at_ : Int} (h : Sm s b Lv L at_) (lo hi : Int) (hlh : lo ≤ hi) (hhi : hi < 2000000000000000000) (hl2 : -2000000000000000000 < lo) :
    ACall Tryz.prog 19 [.ptr b 0, .int .i64 lo, .int .i64 hi] s fun v t => v = .int .i64 (lo + nextOf L at_ (hi - lo + 1)) ∧ t = s.upd b (strm Lv (at_ + 1)) := by
  refine gob19 (by simp) ?_
  intro tm hlen harg
  have hb := h.lt
  have e1 : IntKind.i64.wrap (hi - lo) = hi - lo := wrap_id (by omega)
  have e2 : IntKind.i64.wrap (hi - lo + 1) = hi - lo + 1 := wrap_id (by omega)
  have hbd := nextOf_lt L at_ (show 1 ≤ hi - lo + 1 by omega) (by omega)
  have e3 : IntKind.i64.wrap (lo + nextOf L at_ (hi - lo + 1)) = lo + nextOf L at_ (hi - lo + 1) := wrap_id (by omega)
  have hlt : ¬ hi < lo := by omega
  simp +contextual only [go_sem, L19, hlen, harg, e1, e2, hlt, lcondB_decide, lcondB_not, lguardB_decide_true, lguardB_decide_false, ldguardB_decide, Nat.reduceLT, Nat.reduceEqDiff, Nat.reduceAdd, Nat.reduceLeDiff, reduceIte, reduceCtorEq]
  refine lfunG_eq (nextS h.loc _) ?_
  simp +contextual only [go_sem, hlen, harg, hb, e3, lcondB_decide, lcondB_not, lguardB_decide_true, lguardB_decide_false, ldguardB_decide, Nat.reduceLT, Nat.reduceEqDiff, Nat.reduceAdd, Nat.reduceLeDiff, reduceIte, reduceCtorEq]
  exact lexit_pure ((OKo.refl s).upd hb h.lowO) (by simp only [low]) ⟨rfl, rfl⟩
theorem pickS {s : AHeap} {b : Nat} {Lv : AV} {L : List Int} {at_ : Int} (h : Sm s b Lv L at_) (c : Nat) (l : List Int) (To : Option TypeId) (hl : l ≠ []) (hl2 : l.length < 1000) (hc : s.get c = some (.cells (l.map (AV.int .i64)) To)) (hne : c ≠ b) (hcn : c < s.nx) :
    ACall Tryz.prog 49 [.ptr b 0, .rs 1 c 0 l.length] s fun v t => v = .int .i64 (l.getD (nextOf L at_ l.length).toNat 0) ∧ t = s.upd b (strm Lv (at_ + 1)) := by
  refine gob49 (by simp) ?_
  intro tm hlen harg
  have hb := h.lt
  have hpos : 0 < l.length := List.length_pos_iff.2 hl
  have hbd := nextOf_lt L at_ (n := l.length) (by omega) (by omega)
  obtain ⟨x, hx⟩ : ∃ x, l[(nextOf L at_ l.length).toNat]? = some x := ⟨_, List.getElem?_eq_getElem (by omega)⟩
  have hgc : (s.upd b (strm Lv (at_ + 1))).get c = some (.cells (l.map (AV.int .i64)) To) := by rw [AHeap.get_upd, if_neg hne, hc]
  have hd : (List.drop (nextOf L at_ l.length).toNat (l.map (AV.int .i64)))[0]? = some (.int .i64 x) := by simp [hx]
  simp +contextual only [go_sem, L49, hlen, harg, lcondB_decide, lcondB_not, lguardB_decide_true, lguardB_decide_false, ldguardB_decide, Nat.reduceLT, Nat.reduceEqDiff, Nat.reduceAdd, Nat.reduceLeDiff, reduceIte, reduceCtorEq]
  refine lfunG_eq (nextS h.loc _) ?_
  simp +contextual only [go_sem, hlen, harg, hb, hcn, rs_at hbd.1 hbd.2, hgc, hd, lcondB_decide, lcondB_not, lguardB_decide_true, lguardB_decide_false, ldguardB_decide, Nat.reduceLT, Nat.reduceEqDiff, Nat.reduceAdd, Nat.reduceLeDiff, reduceIte, reduceCtorEq]
  refine lexit_pure ((OKo.refl s).upd hb h.lowO) (by simp only [low]) ⟨?_, rfl⟩
  rw [List.getD_eq_getElem?_getD, hx]
  rfl
theorem someS {s : AHeap} {b : Nat} {Lv : AV} {L : List Int} {at_ : Int} (h : Sm s b Lv L at_) (c : Nat) (l : List (List UInt8)) (To : Option TypeId) (hl : l ≠ []) (hl2 : l.length < 1000) (hc : s.get c = some (.cells (l.map AV.str) To)) (hne : c ≠ b) (hcn : c < s.nx) :
    ACall Tryz.prog 28 [.ptr b 0, .rs 1 c 0 l.length] s fun v t => v = .str (l.getD (nextOf L at_ l.length).toNat []) ∧ t = s.upd b (strm Lv (at_ + 1)) := by
  refine gob28 (by simp) ?_
  intro tm hlen harg
  have hb := h.lt
  have hpos : 0 < l.length := List.length_pos_iff.2 hl
  have hbd := nextOf_lt L at_ (n := l.length) (by omega) (by omega)
  obtain ⟨x, hx⟩ : ∃ x, l[(nextOf L at_ l.length).toNat]? = some x := ⟨_, List.getElem?_eq_getElem (by omega)⟩
  have hgc : (s.upd b (strm Lv (at_ + 1))).get c = some (.cells (l.map AV.str) To) := by rw [AHeap.get_upd, if_neg hne, hc]
  have hd : (List.drop (nextOf L at_ l.length).toNat (l.map AV.str))[0]? = some (.str x) := by simp [hx]
  simp +contextual only [go_sem, L28, hlen, harg, lcondB_decide, lcondB_not, lguardB_decide_true, lguardB_decide_false, ldguardB_decide, Nat.reduceLT, Nat.reduceEqDiff, Nat.reduceAdd, Nat.reduceLeDiff, reduceIte, reduceCtorEq]
  refine lfunG_eq (nextS h.loc _) ?_
  simp +contextual only [go_sem, hlen, harg, hb, hcn, rs_at63 hbd.1 hbd.2, hgc, hd, lcondB_decide, lcondB_not, lguardB_decide_true, lguardB_decide_false, ldguardB_decide, Nat.reduceLT, Nat.reduceEqDiff, Nat.reduceAdd, Nat.reduceLeDiff, reduceIte, reduceCtorEq]
  refine lexit_pure ((OKo.refl s).upd hb h.lowO) (by simp only [low]) ⟨?_, rfl⟩
  rw [List.getD_eq_getElem?_getD, hx]
  rfl
end Go.S1N
end
section
set_option linter.unusedVariables false
set_option linter.unusedSimpArgs false
namespace Go.S1N
open Go Go.Am Go.Proofs Go.S1
set_option maxRecDepth 100000
set_option linter.unusedSimpArgs false
attribute [local irreducible] lopsB lvb lstepB lfunG lcondB lguardB ldrawB ldrunB ldstepB ldguardB lmem lval ldmem ldval ldfun lexit ldloadB ldlenB lpostB athen ablock
end Go.S1N
end
section
set_option linter.unusedVariables false
set_option linter.unusedSimpArgs false
namespace Go.S1N
open Go Go.Am Go.Proofs Go.S1
set_option maxRecDepth 100000
set_option linter.unusedSimpArgs false
attribute [local irreducible] lopsB lvb lstepB lfunG lcondB lguardB ldrawB ldrunB ldstepB ldguardB lmem lval ldmem ldval ldfun lexit ldloadB ldlenB lpostB athen ablock
theorem getD_le {l : List (List UInt8)} {k : Nat} (h : ∀ x ∈ l, x.length ≤ k) (j : Nat) : (l.getD j []).length ≤ k := by
  rw [List.getD_eq_getElem?_getD]
  cases hj : l[j]? with
  | none => simp
  | some x => exact h x (List.mem_of_getElem? hj)
theorem anEditS {s : AHeap} {b : Nat} {Lv : AV} {L : List Int} {at_ : Int} (h : Sm s b Lv L at_) (h1 : at_ < 3900000000000000000) (n : Int) :
    ACall Tryz.prog 51 [.ptr b 0, .int .i64 n] s fun v t => ∃ (e : Ed) (k : Nat), v = e.enc ∧ e.new.length ≤ 4 ∧ k ≤ 6 ∧ t = s.upd b (strm Lv (at_ + k)) := by
  refine gob51 (by simp) ?_
  intro tm hlen harg
  have hb := h.lt
  have h0 := h.at0
  simp +contextual only [go_sem, L51, hlen, harg, lcondB_decide, lcondB_not, lguardB_decide_true, lguardB_decide_false, ldguardB_decide, Nat.reduceLT, Nat.reduceEqDiff, Nat.reduceAdd, Nat.reduceLeDiff, reduceIte, reduceCtorEq]
  refine lfunG_eq (nextS h.loc _) ?_
  simp +contextual only [go_sem, hlen, harg, hb, lcondB_decide, lcondB_not, lguardB_decide_true, lguardB_decide_false, ldguardB_decide, Nat.reduceLT, Nat.reduceEqDiff, Nat.reduceAdd, Nat.reduceLeDiff, reduceIte, reduceCtorEq]
  refine lfunG_eq (pickS ((h.upd (by omega) (by omega)).loc) (nm s.nx 1) [0, 0, 1, 2, 5] (some 3) (by simp) (by simp) (by simp only [go_sem, List.map_cons, lcondB_decide, lcondB_not, lguardB_decide_true, lguardB_decide_false, ldguardB_decide, Nat.reduceLT, Nat.reduceEqDiff, Nat.reduceAdd, Nat.reduceLeDiff, reduceIte, reduceCtorEq]) (by rw [ne_eq, nm_ne hb]; simp) (by simp only [go_sem, lcondB_decide, lcondB_not, lguardB_decide_true, lguardB_decide_false, ldguardB_decide, Nat.reduceLT, Nat.reduceEqDiff, Nat.reduceAdd, Nat.reduceLeDiff, reduceIte, reduceCtorEq])) ?_
  simp +contextual only [go_sem, hlen, harg, hb, lcondB_decide, lcondB_not, lguardB_decide_true, lguardB_decide_false, ldguardB_decide, Nat.reduceLT, Nat.reduceEqDiff, Nat.reduceAdd, Nat.reduceLeDiff, reduceIte, reduceCtorEq]
  refine lfunG_eq (someS ((h.upd (by omega) (by omega)).loc) (nm s.nx 2) [[], [97], [32], [49], [43], [41], [35], [34], [97, 98, 32, 49], [46]] (some 9) (by simp) (by simp) (by simp only [go_sem, List.map_cons, lcondB_decide, lcondB_not, lguardB_decide_true, lguardB_decide_false, ldguardB_decide, Nat.reduceLT, Nat.reduceEqDiff, Nat.reduceAdd, Nat.reduceLeDiff, reduceIte, reduceCtorEq]) (by rw [ne_eq, nm_ne hb]; simp) (by simp only [go_sem, lcondB_decide, lcondB_not, lguardB_decide_true, lguardB_decide_false, ldguardB_decide, Nat.reduceLT, Nat.reduceEqDiff, Nat.reduceAdd, Nat.reduceLeDiff, reduceIte, reduceCtorEq])) ?_
  simp +contextual only [go_sem, hlen, harg, hb, lcondB_decide, lcondB_not, lguardB_decide_true, lguardB_decide_false, ldguardB_decide, Nat.reduceLT, Nat.reduceEqDiff, Nat.reduceAdd, Nat.reduceLeDiff, reduceIte, reduceCtorEq]
  refine lfunG_eq (flipS ((h.upd (by omega) (by omega)).loc) _) ?_
  have hS := getD_le (l := [[], [97], [32], [49], [43], [41], [35], [34], [97, 98, 32, 49], [46]]) (k := 4) (by simp) (nextOf L (at_ + 1 + 1) (([[], [97], [32], [49], [43], [41], [35], [34], [97, 98, 32, 49], [46]] : List (List UInt8)).length)).toNat
  generalize ([[], [97], [32], [49], [43], [41], [35], [34], [97, 98, 32, 49], [46]] : List (List UInt8)).getD _ [] = y at hS ⊢
  simp +contextual only [go_sem, hlen, harg, hb, lcondB_decide, lcondB_not, lguardB_decide_true, lguardB_decide_false, ldguardB_decide, Nat.reduceLT, Nat.reduceEqDiff, Nat.reduceAdd, Nat.reduceLeDiff, reduceIte, reduceCtorEq]
  refine ⟨fun hf => ?_, fun hf => ?_⟩
  · refine lfunG_eq (pickS ((h.upd (by omega) (by omega)).loc) (nm s.nx 4) [-1, _, _] (some 3) (by simp) (by simp) (by simp only [go_sem, List.map_cons, lcondB_decide, lcondB_not, lguardB_decide_true, lguardB_decide_false, ldguardB_decide, Nat.reduceLT, Nat.reduceEqDiff, Nat.reduceAdd, Nat.reduceLeDiff, reduceIte, reduceCtorEq]; rfl) (by rw [ne_eq, nm_ne hb]; simp) (by simp only [go_sem, lcondB_decide, lcondB_not, lguardB_decide_true, lguardB_decide_false, ldguardB_decide, Nat.reduceLT, Nat.reduceEqDiff, Nat.reduceAdd, Nat.reduceLeDiff, reduceIte, reduceCtorEq])) ?_
    simp +contextual only [go_sem, hlen, harg, hb, lcondB_decide, lcondB_not, lguardB_decide_true, lguardB_decide_false, ldguardB_decide, Nat.reduceLT, Nat.reduceEqDiff, Nat.reduceAdd, Nat.reduceLeDiff, reduceIte, reduceCtorEq]
    refine lfunG_eq (pickS ((h.upd (by omega) (by omega)).loc) (nm s.nx 5) [0, -1, _] (some 3) (by simp) (by simp) (by simp only [go_sem, List.map_cons, lcondB_decide, lcondB_not, lguardB_decide_true, lguardB_decide_false, ldguardB_decide, Nat.reduceLT, Nat.reduceEqDiff, Nat.reduceAdd, Nat.reduceLeDiff, reduceIte, reduceCtorEq]; rfl) (by rw [ne_eq, nm_ne hb]; simp) (by simp only [go_sem, lcondB_decide, lcondB_not, lguardB_decide_true, lguardB_decide_false, ldguardB_decide, Nat.reduceLT, Nat.reduceEqDiff, Nat.reduceAdd, Nat.reduceLeDiff, reduceIte, reduceCtorEq])) ?_
    simp +contextual only [go_sem, hlen, harg, hb, lcondB_decide, lcondB_not, lguardB_decide_true, lguardB_decide_false, ldguardB_decide, Nat.reduceLT, Nat.reduceEqDiff, Nat.reduceAdd, Nat.reduceLeDiff, reduceIte, reduceCtorEq]
    refine lexit_pure ((OKo.refl s).upd hb h.lowO) (by simp only [low, lowL, and_self]) ⟨⟨_, _, y⟩, 6, rfl, hS, by omega, ?_⟩
    congr 2
    omega
  · refine lexit_pure ((OKo.refl s).upd hb h.lowO) (by simp only [low, lowL, and_self]) ⟨⟨_, _, y⟩, 4, rfl, hS, by omega, ?_⟩
    congr 2
    omega
end Go.S1N
end
section
set_option linter.unusedVariables false
set_option linter.unusedSimpArgs false
namespace Go.S1N
open Go Go.Am Go.Proofs Go.S1
set_option maxRecDepth 100000
set_option linter.unusedSimpArgs false
attribute [local irreducible] lopsB lvb lstepB lfunG lcondB lguardB ldrawB ldrunB ldstepB ldguardB lmem lval ldmem ldval ldfun lexit ldloadB ldlenB lpostB athen ablock
def edc (l : List Ed) : List AV := (l.map Ed.enc).flatMap AV.cells
theorem edc_len (l : List Ed) : (edc l).length = l.length * 3 := by
  unfold edc
  induction l with
  | nil => rfl
  | cons e l ih => simp only [List.map_cons, List.flatMap_cons, List.length_append, ih, List.length_cons, Ed.enc, AV.cells, List.length_nil]; omega
theorem edc_snoc (l : List Ed) (e : Ed) : edc (l ++ [e]) = edc l ++ [.int .i64 e.at_, .int .i64 e.cut, .str e.new] := by
  simp [edc, Ed.enc, AV.cells]
theorem edc_pul (l : List Ed) : PuL (edc l) := by
  unfold edc
  induction l with
  | nil => simp only [List.map_nil, List.flatMap_nil, PuL, lowL]
  | cons e l ih =>
    rw [List.map_cons, List.flatMap_cons, PuL, lowL_append]
    exact ⟨by simp only [Ed.enc, AV.cells, lowL, low, and_self], ih⟩
def edv (l : List Ed) : AV := fsv 3 (l.map Ed.enc)
theorem edv_sl (l : List Ed) : SlE (edv l) l := by
  unfold edv
  cases l with
  | nil => exact .inr ⟨rfl, rfl⟩
  | cons e l => exact .inl ⟨false, fsv_pos (by simp)⟩
theorem edv_pu (l : List Ed) : Pu (edv l) := (edv_sl l).pu
theorem enc_len (l : List Ed) : ∀ x ∈ l.map Ed.enc, x.cells.length = 3 := by
  intro x hx
  obtain ⟨e, _, rfl⟩ := List.mem_map.1 hx
  rfl
theorem len_fz {b : Nat} {l : List Ed} : fz b 3 (l.map Ed.enc) (gsv 3 b l.length) = edv l := by
  rw [show l.length = (l.map Ed.enc).length from (List.length_map ..).symm, fz_gsv]; rfl
theorem len_fz1 {b : Nat} {l : List Ed} {e : Ed} : fz b 3 ((l ++ [e]).map Ed.enc) (.rs 3 b 0 (l.length + 1)) = edv (l ++ [e]) := by
  simp only [fz, List.length_map, List.length_append, List.length_cons, List.length_nil, Nat.zero_add, and_self, if_true, edv]
  rw [fsv_pos (by simp)]
theorem loc_at {s : AHeap} {b : Nat} {Lv : AV} {a a' : Int} {n : Nat} {l : List (Nat × Option AObj)} (h : a = a') : loc (s.upd b (strm Lv a)) n l = loc (s.upd b (strm Lv a')) n l := by rw [h]
theorem getI_le {l : List Int} {lo hi : Int} (h0 : lo ≤ 0 ∧ 0 ≤ hi) (h : ∀ x ∈ l, lo ≤ x ∧ x ≤ hi) (j : Nat) : lo ≤ l.getD j 0 ∧ l.getD j 0 ≤ hi := by
  rw [List.getD_eq_getElem?_getD]
  cases hj : l[j]? with
  | none => simpa using h0
  | some x => exact h x (List.mem_of_getElem? hj)
theorem changeS {s : AHeap} {b : Nat} {Lv : AV} {L : List Int} {at_ : Int} (h : Sm s b Lv L at_) (h1 : at_ < 3800000000000000000) (n : Int) :
    ACall Tryz.prog 29 [.ptr b 0, .int .i64 n] s fun v t => ∃ (l : List Ed) (k : Nat), v = edv l ∧ l.length ≤ 4 ∧ (∀ e ∈ l, e.new.length ≤ 4) ∧ k ≤ 20 ∧ t = s.upd b (strm Lv (at_ + k)) := by
  refine gob29 (by simp) ?_
  intro tm hlen harg
  have hb := h.lt
  have h0 := h.at0
  simp +contextual only [go_sem, L29, hlen, harg, lcondB_decide, lcondB_not, lguardB_decide_true, lguardB_decide_false, ldguardB_decide, Nat.reduceLT, Nat.reduceEqDiff, Nat.reduceAdd, Nat.reduceLeDiff, reduceIte, reduceCtorEq]
  refine lfunG_eq (rangeS h.loc 0 3 (by omega) (by omega) (by omega)) ?_
  simp +contextual only [go_sem, hlen, harg, hb, lcondB_decide, lcondB_not, lguardB_decide_true, lguardB_decide_false, ldguardB_decide, Nat.reduceLT, Nat.reduceEqDiff, Nat.reduceAdd, Nat.reduceLeDiff, reduceIte, reduceCtorEq]
  refine lfunG_eq (pickS ((h.upd (by omega) (by omega)).loc) (nm s.nx 0) [0, 1, 1, 2, 3] (some 3) (by simp) (by simp) (by simp only [go_sem, List.map_cons, lcondB_decide, lcondB_not, lguardB_decide_true, lguardB_decide_false, ldguardB_decide, Nat.reduceLT, Nat.reduceEqDiff, Nat.reduceAdd, Nat.reduceLeDiff, reduceIte, reduceCtorEq]) (by rw [ne_eq, nm_ne hb]; simp) (by simp only [go_sem, lcondB_decide, lcondB_not, lguardB_decide_true, lguardB_decide_false, ldguardB_decide, Nat.reduceLT, Nat.reduceEqDiff, Nat.reduceAdd, Nat.reduceLeDiff, reduceIte, reduceCtorEq])) ?_
  have hN := getI_le (l := [0, 1, 1, 2, 3]) (lo := 0) (hi := 3) (by omega) (by simp) (nextOf L (at_ + 1) (([0, 1, 1, 2, 3] : List Int).length)).toNat
  generalize ([0, 1, 1, 2, 3] : List Int).getD _ 0 = N at hN ⊢
  simp +contextual only [go_sem, hlen, harg, hb, lcondB_decide, lcondB_not, lguardB_decide_true, lguardB_decide_false, ldguardB_decide, Nat.reduceLT, Nat.reduceEqDiff, Nat.reduceAdd, Nat.reduceLeDiff, reduceIte, reduceCtorEq]
  refine ⟨Nat × Int × Nat × List Ed, fun a => [(0, .ptr b 0), (1, .int .i64 n), (5, gsv 3 (nm s.nx 0) a.2.2.2.length), (6, .int .i64 a.2.1), (12, .int .i64 N), (13, .int .i64 a.1)],
    fun a => loc (s.upd b (strm Lv (at_ + a.2.2.1))) 1 [(0, gso 37 (edc a.2.2.2))], fun a => (a.1 : Int) ≤ N ∧ a.2.2.1 ≤ 2 + 3 * a.1 ∧ a.2.2.2.length ≤ a.1 ∧ ∀ e ∈ a.2.2.2, e.new.length ≤ 4, fun a => N.toNat - a.1, (0, 0 + nextOf L at_ (3 - 0 + 1), 2, []),
    ⟨by simp only; omega, by simp only; omega, by simp, by simp⟩, ?_, ?_⟩
  · refine To.go [9] [(0, none)] (by simp only [edc, List.map_nil, List.flatMap_nil, gso_nil]; congr 3; omega) ((OKo.refl s).upd hb h.lowO) (by decide) (by simp) ?_ ?_
    · simp +contextual only [go_sem, hlen, harg, gsv_zero, rnm_low hb, lcondB_decide, lcondB_not, lguardB_decide_true, lguardB_decide_false, ldguardB_decide, Nat.reduceLT, Nat.reduceEqDiff, Nat.reduceAdd, Nat.reduceLeDiff, reduceIte, reduceCtorEq]
      simp
    · simp only [go_sem, lcondB_decide, lcondB_not, lguardB_decide_true, lguardB_decide_false, ldguardB_decide, Nat.reduceLT, Nat.reduceEqDiff, Nat.reduceAdd, Nat.reduceLeDiff, reduceIte, reduceCtorEq]
  · rintro ⟨i, at1, k, l⟩ tm1 ⟨hi, hk, hl, hnew⟩ hlen1 hlv
    simp only [go_sem, hlen, lcondB_decide, lcondB_not, lguardB_decide_true, lguardB_decide_false, ldguardB_decide, Nat.reduceLT, Nat.reduceEqDiff, Nat.reduceAdd, Nat.reduceLeDiff, reduceIte, reduceCtorEq] at hlen1 hlv hi hk hl hnew
    simp +contextual only [go_sem, hlen, hlen1, hlv, lcondB_decide, lcondB_not, lguardB_decide_true, lguardB_decide_false, ldguardB_decide, Nat.reduceLT, Nat.reduceEqDiff, Nat.reduceAdd, Nat.reduceLeDiff, reduceIte, reduceCtorEq]
    refine ⟨fun hlt => ⟨fun hbr => ?_, fun hnb => ?_⟩, fun hge => ?_⟩
    rotate_left
    · refine lfunG_eq (pickS ((h.upd (by omega) (by omega)).loc) (nm s.nx 1) [0, 1, 1, 2, 4] (some 3) (by simp) (by simp) (by simp only [go_sem, List.map_cons, lcondB_decide, lcondB_not, lguardB_decide_true, lguardB_decide_false, ldguardB_decide, Nat.reduceLT, Nat.reduceEqDiff, Nat.reduceAdd, Nat.reduceLeDiff, reduceIte, reduceCtorEq]) (by rw [ne_eq, nm_ne hb]; simp) (by simp only [go_sem, lcondB_decide, lcondB_not, lguardB_decide_true, lguardB_decide_false, ldguardB_decide, Nat.reduceLT, Nat.reduceEqDiff, Nat.reduceAdd, Nat.reduceLeDiff, reduceIte, reduceCtorEq])) ?_
      simp +contextual only [go_sem, hlen1, hlv, hb, lcondB_decide, lcondB_not, lguardB_decide_true, lguardB_decide_false, ldguardB_decide, Nat.reduceLT, Nat.reduceEqDiff, Nat.reduceAdd, Nat.reduceLeDiff, reduceIte, reduceCtorEq]
      refine lfunG_eq (someS ((h.upd (by omega) (by omega)).loc) (nm s.nx 2) [[], [120], [121, 122], [120], [195, 169]] (some 9) (by simp) (by simp) (by simp only [go_sem, List.map_cons, lcondB_decide, lcondB_not, lguardB_decide_true, lguardB_decide_false, ldguardB_decide, Nat.reduceLT, Nat.reduceEqDiff, Nat.reduceAdd, Nat.reduceLeDiff, reduceIte, reduceCtorEq]) (by rw [ne_eq, nm_ne hb]; simp) (by simp only [go_sem, lcondB_decide, lcondB_not, lguardB_decide_true, lguardB_decide_false, ldguardB_decide, Nat.reduceLT, Nat.reduceEqDiff, Nat.reduceAdd, Nat.reduceLeDiff, reduceIte, reduceCtorEq])) ?_
      have hS := getD_le (l := [[], [120], [121, 122], [120], [195, 169]]) (k := 4) (by simp) (nextOf L (at_ + k + 1) (([[], [120], [121, 122], [120], [195, 169]] : List (List UInt8)).length)).toNat
      generalize ([[], [120], [121, 122], [120], [195, 169]] : List (List UInt8)).getD _ [] = y at hS ⊢
      generalize ([0, 1, 1, 2, 4] : List Int).getD _ 0 = z
      simp +contextual only [go_sem, hlen1, hlv, hb, lcondB_decide, lcondB_not, lguardB_decide_true, lguardB_decide_false, ldguardB_decide, Nat.reduceLT, Nat.reduceEqDiff, Nat.reduceAdd, Nat.reduceLeDiff, reduceIte, reduceCtorEq]
      generalize (if IntKind.i64.wrap (n - at1) < z then IntKind.i64.wrap (n - at1) else z) = w
      have hw : IntKind.i64.wrap ((i : Int) + 1) = ((i + 1 : Nat) : Int) := by rw [wrap_id (by omega)]; rfl
      refine ⟨fun c1 => ⟨fun c2 => ?_, fun c2 => ?_⟩, fun c1 => ?_⟩
      all_goals
        refine lmem_eq (app27 (acellsOf_rs (by simp only [go_sem, lcondB_decide, lcondB_not, lguardB_decide_true, lguardB_decide_false, ldguardB_decide, Nat.reduceLT, Nat.reduceEqDiff, Nat.reduceAdd, Nat.reduceLeDiff, reduceIte, reduceCtorEq]; rfl) (by rfl) (AHeap.nx_upd _ _ _)) (by decide) (by simp only [go_sem, lcondB_decide, lcondB_not, lguardB_decide_true, lguardB_decide_false, ldguardB_decide, Nat.reduceLT, Nat.reduceEqDiff, Nat.reduceAdd, Nat.reduceLeDiff, reduceIte, reduceCtorEq]) (by simp only [go_sem, lcondB_decide, lcondB_not, lguardB_decide_true, lguardB_decide_false, ldguardB_decide, Nat.reduceLT, Nat.reduceEqDiff, Nat.reduceAdd, Nat.reduceLeDiff, reduceIte, reduceCtorEq]) (edc_len l) (by omega) (AHeap.nx_upd _ _ _)) ?_
        simp +contextual only [go_sem, hlen1, hlv, hb, lcondB_decide, lcondB_not, lguardB_decide_true, lguardB_decide_false, ldguardB_decide, Nat.reduceLT, Nat.reduceEqDiff, Nat.reduceAdd, Nat.reduceLeDiff, reduceIte, reduceCtorEq]
        refine ldrawB_go [] [(2, 1), (2, 2)] 7 (by decide) ?_
        simp +contextual only [go_sem, hlen1, hlv, hb, lcondB_decide, lcondB_not, lguardB_decide_true, lguardB_decide_false, ldguardB_decide, Nat.reduceLT, Nat.reduceEqDiff, Nat.reduceAdd, Nat.reduceLeDiff, reduceIte, reduceCtorEq]
        refine ldfun_eff _ _ (pickS ((h.upd (by omega) (by omega)).loc) _ [1, 1, 2, 5] (some 3) (by simp) (by simp) (by simp only [go_sem, List.map_cons, lcondB_decide, lcondB_not, lguardB_decide_true, lguardB_decide_false, ldguardB_decide, Nat.reduceLT, Nat.reduceEqDiff, Nat.reduceAdd, Nat.reduceLeDiff, reduceIte, reduceCtorEq]) (by rw [ne_eq, nm_ne hb]; simp) (by simp only [go_sem, lcondB_decide, lcondB_not, lguardB_decide_true, lguardB_decide_false, ldguardB_decide, Nat.reduceLT, Nat.reduceEqDiff, Nat.reduceAdd, Nat.reduceLeDiff, reduceIte, reduceCtorEq])) ?_
        simp +contextual only [go_sem, hlen1, hlv, hb, lcondB_decide, lcondB_not, lguardB_decide_true, lguardB_decide_false, ldguardB_decide, Nat.reduceLT, Nat.reduceEqDiff, Nat.reduceAdd, Nat.reduceLeDiff, reduceIte, reduceCtorEq]
        generalize ([1, 1, 2, 5] : List Int).getD _ 0 = p
      · refine ⟨by kernel_rfl, (i + 1, IntKind.i64.wrap (at1 + IntKind.i64.wrap (0 + p)), k + 3, l ++ [⟨at1, 0, [119]⟩]), ⟨by simp only; omega, by simp only; omega, by simp only [List.length_append, List.length_cons, List.length_nil]; omega, ?_⟩, by simp only; omega, ?_⟩
        · intro e he
          rcases List.mem_append.1 he with he | he
          · exact hnew e he
          · rw [List.mem_singleton.1 he]; simp
        · refine To.go [5] [(0, gso 37 (edc (l ++ [⟨at1, 0, [119]⟩])))] (loc_at (by simp only; omega)) ((OKo.refl s).upd hb h.lowO) (by decide) (by simp) ?_ ?_
          · simp +contextual only [go_sem, hlen1, hlv, hw, rnm_low hb, List.length_append, gsv_pos (Nat.succ_ne_zero l.length), lcondB_decide, lcondB_not, lguardB_decide_true, lguardB_decide_false, ldguardB_decide, Nat.reduceLT, Nat.reduceEqDiff, Nat.reduceAdd, Nat.reduceLeDiff, reduceIte, reduceCtorEq]
          · simp only [go_sem, map_gso_pu (edc_pul _), lcondB_decide, lcondB_not, lguardB_decide_true, lguardB_decide_false, ldguardB_decide, Nat.reduceLT, Nat.reduceEqDiff, Nat.reduceAdd, Nat.reduceLeDiff, reduceIte, reduceCtorEq]
            simp only [edc_snoc, gso_pos (List.append_ne_nil_of_right_ne_nil (edc l) (List.cons_ne_nil _ _))]
      · refine ⟨by kernel_rfl, (i + 1, IntKind.i64.wrap (at1 + IntKind.i64.wrap (0 + p)), k + 3, l ++ [⟨at1, 0, y⟩]), ⟨by simp only; omega, by simp only; omega, by simp only [List.length_append, List.length_cons, List.length_nil]; omega, ?_⟩, by simp only; omega, ?_⟩
        · intro e he
          rcases List.mem_append.1 he with he | he
          · exact hnew e he
          · rw [List.mem_singleton.1 he]; exact hS
        · refine To.go [5] [(0, gso 37 (edc (l ++ [⟨at1, 0, y⟩])))] (loc_at (by simp only; omega)) ((OKo.refl s).upd hb h.lowO) (by decide) (by simp) ?_ ?_
          · simp +contextual only [go_sem, hlen1, hlv, hw, rnm_low hb, List.length_append, gsv_pos (Nat.succ_ne_zero l.length), lcondB_decide, lcondB_not, lguardB_decide_true, lguardB_decide_false, ldguardB_decide, Nat.reduceLT, Nat.reduceEqDiff, Nat.reduceAdd, Nat.reduceLeDiff, reduceIte, reduceCtorEq]
          · simp only [go_sem, map_gso_pu (edc_pul _), lcondB_decide, lcondB_not, lguardB_decide_true, lguardB_decide_false, ldguardB_decide, Nat.reduceLT, Nat.reduceEqDiff, Nat.reduceAdd, Nat.reduceLeDiff, reduceIte, reduceCtorEq]
            simp only [edc_snoc, gso_pos (List.append_ne_nil_of_right_ne_nil (edc l) (List.cons_ne_nil _ _))]
      · refine ⟨by kernel_rfl, (i + 1, IntKind.i64.wrap (at1 + IntKind.i64.wrap (w + p)), k + 3, l ++ [⟨at1, w, y⟩]), ⟨by simp only; omega, by simp only; omega, by simp only [List.length_append, List.length_cons, List.length_nil]; omega, ?_⟩, by simp only; omega, ?_⟩
        · intro e he
          rcases List.mem_append.1 he with he | he
          · exact hnew e he
          · rw [List.mem_singleton.1 he]; exact hS
        · refine To.go [5] [(0, gso 37 (edc (l ++ [⟨at1, w, y⟩])))] (loc_at (by simp only; omega)) ((OKo.refl s).upd hb h.lowO) (by decide) (by simp) ?_ ?_
          · simp +contextual only [go_sem, hlen1, hlv, hw, rnm_low hb, List.length_append, gsv_pos (Nat.succ_ne_zero l.length), lcondB_decide, lcondB_not, lguardB_decide_true, lguardB_decide_false, ldguardB_decide, Nat.reduceLT, Nat.reduceEqDiff, Nat.reduceAdd, Nat.reduceLeDiff, reduceIte, reduceCtorEq]
          · simp only [go_sem, map_gso_pu (edc_pul _), lcondB_decide, lcondB_not, lguardB_decide_true, lguardB_decide_false, ldguardB_decide, Nat.reduceLT, Nat.reduceEqDiff, Nat.reduceAdd, Nat.reduceLeDiff, reduceIte, reduceCtorEq]
            simp only [edc_snoc, gso_pos (List.append_ne_nil_of_right_ne_nil (edc l) (List.cons_ne_nil _ _))]
    all_goals
      refine lfunG_eq (flipS ((h.upd (by omega) (by omega)).loc) _) ?_
      simp +contextual only [go_sem, hlen1, hlv, hb, lcondB_decide, lcondB_not, lguardB_decide_true, lguardB_decide_false, ldguardB_decide, Nat.reduceLT, Nat.reduceEqDiff, Nat.reduceAdd, Nat.reduceLeDiff, reduceIte, reduceCtorEq]
      refine ⟨fun hf => ?_, fun hf => ?_⟩
      · refine lfunG_of (anEditS ((h.upd (by omega) (by omega)).loc) (by omega) _) ?_
        rintro _ _ ⟨e, m, rfl, he, hm, rfl⟩
        simp +contextual only [go_sem, hlen1, hlv, hb, Ed.enc, lcondB_decide, lcondB_not, lguardB_decide_true, lguardB_decide_false, ldguardB_decide, Nat.reduceLT, Nat.reduceEqDiff, Nat.reduceAdd, Nat.reduceLeDiff, reduceIte, reduceCtorEq]
        refine lmem_eq (app27 (acellsOf_rs (by simp only [go_sem, lcondB_decide, lcondB_not, lguardB_decide_true, lguardB_decide_false, ldguardB_decide, Nat.reduceLT, Nat.reduceEqDiff, Nat.reduceAdd, Nat.reduceLeDiff, reduceIte, reduceCtorEq]; rfl) (by rfl) (AHeap.nx_upd _ _ _)) (by decide) (by simp only [go_sem, lcondB_decide, lcondB_not, lguardB_decide_true, lguardB_decide_false, ldguardB_decide, Nat.reduceLT, Nat.reduceEqDiff, Nat.reduceAdd, Nat.reduceLeDiff, reduceIte, reduceCtorEq]) (by simp only [go_sem, lcondB_decide, lcondB_not, lguardB_decide_true, lguardB_decide_false, ldguardB_decide, Nat.reduceLT, Nat.reduceEqDiff, Nat.reduceAdd, Nat.reduceLeDiff, reduceIte, reduceCtorEq]) (edc_len l) (by omega) (AHeap.nx_upd _ _ _)) ?_
        simp +contextual only [go_sem, hlen1, hlv, hb, lcondB_decide, lcondB_not, lguardB_decide_true, lguardB_decide_false, ldguardB_decide, Nat.reduceLT, Nat.reduceEqDiff, Nat.reduceAdd, Nat.reduceLeDiff, reduceIte, reduceCtorEq]
        refine lexit_freeze 2 3 ((l ++ [e]).map Ed.enc) (by simp only [go_sem, lcondB_decide, lcondB_not, lguardB_decide_true, lguardB_decide_false, ldguardB_decide, Nat.reduceLT, Nat.reduceEqDiff, Nat.reduceAdd, Nat.reduceLeDiff, reduceIte, reduceCtorEq]; exact congrArg (fun c => some (AObj.cells c (some 37))) (edc_snoc l e).symm) (enc_len _) ?_
        simp only [AHeap.nx_upd, len_fz1]
        refine lexit_pure ((OKo.refl s).upd hb h.lowO) (low.mono (Nat.zero_le _) (edv_pu _)) ⟨_, k + 1 + m, rfl, by simp only [List.length_append, List.length_cons, List.length_nil]; omega, ?_, by omega, by congr 2; omega⟩
        intro x hx
        rcases List.mem_append.1 hx with hx | hx
        · exact hnew x hx
        · rw [List.mem_singleton.1 hx]; exact he
      · refine lexit_freezeG 0 3 (l.map Ed.enc) (by simp only [go_sem, lcondB_decide, lcondB_not, lguardB_decide_true, lguardB_decide_false, ldguardB_decide, Nat.reduceLT, Nat.reduceEqDiff, Nat.reduceAdd, Nat.reduceLeDiff, reduceIte, reduceCtorEq]; rfl) (enc_len l) (by decide) ?_
        simp only [AHeap.nx_upd, len_fz]
        exact lexit_pure ((OKo.refl s).upd hb h.lowO) (low.mono (Nat.zero_le _) (edv_pu _)) ⟨_, k + 1, rfl, by omega, hnew, by omega, by congr 2; omega⟩
end Go.S1N
end
section
set_option linter.unusedVariables false
set_option linter.unusedSimpArgs false
namespace Go.S1N
open Go Go.Am Go.Proofs Go.S1
set_option maxRecDepth 100000
set_option linter.unusedSimpArgs false
attribute [local irreducible] lopsB lvb lstepB lfunG lcondB lguardB ldrawB ldrunB ldstepB ldguardB lmem lval ldmem ldval ldfun lexit ldloadB ldlenB lpostB athen ablock
theorem scan_range {n : Int} : ∀ (l : List Ed) (B : Int), scan n B l = 0 → ∀ z ∈ l, 0 ≤ z.at_ ∧ 0 ≤ z.cut ∧ z.at_ ≤ n ∧ z.cut ≤ n
  | [], B, _, z, hz => by cases hz
  | a :: l, B, h, z, hz => by
    obtain ⟨d1, d2, d3, d4, d5, d6⟩ := scan_cons h
    rcases List.mem_cons.1 hz with rfl | hz
    · omega
    · exact scan_range l _ d6 z hz
end Go.S1N
end
section
set_option linter.unusedVariables false
set_option linter.unusedSimpArgs false
namespace Go.S1
open Go Go.Am Go.Proofs
set_option maxRecDepth 100000
noncomputable def L16 : LCode := LCode.seq (LCode.ops [⟨Op.assign (Operand.const (Value.int IntKind.i64 0)), some 4, none⟩, ⟨Op.assign (Operand.const (Value.int IntKind.i64 0)), some 5, none⟩]) (LCode.seq (LCode.seq (LCode.ops [⟨Op.move (Operand.tmp 0), some 7, none⟩, ⟨Op.move (Operand.tmp 1), some 8, none⟩, ⟨Op.call { callee := Callee.value (Operand.func 37), args := { toList := [Operand.tmp 7, Operand.tmp 8] }, argTypes := { toList := [3, 27] } }, some 9, none⟩, ⟨Op.assign (Operand.tmp 9), some 6, none⟩]) (LCode.seq (LCode.ops [⟨Op.move (Operand.tmp 6), some 10, none⟩, ⟨Op.binOp BinOp.neq 29 (Operand.tmp 10) (Operand.const (Value.int IntKind.i64 0)) 29, some 11, none⟩]) (LCode.cond (Operand.tmp 11) (LCode.seq (LCode.ops [⟨Op.move (Operand.tmp 6), some 12, none⟩, ⟨Op.assign (Operand.const (Value.int IntKind.i64 0)), some 4, none⟩, ⟨Op.assign (Operand.tmp 12), some 5, none⟩]) LCode.ret) LCode.skip))) (LCode.seq (LCode.ops [⟨Op.move (Operand.tmp 0), some 13, none⟩, ⟨Op.move (Operand.tmp 1), some 14, none⟩, ⟨Op.call { callee := Callee.value (Operand.func 38), args := { toList := [Operand.tmp 13, Operand.tmp 14] }, argTypes := { toList := [3, 27] } }, some 15, none⟩, ⟨Op.assign (Operand.tmp 15), some 4, none⟩, ⟨Op.assign (Operand.const (Value.int IntKind.i64 0)), some 5, none⟩]) LCode.ret))
theorem l16 : Tryz.f16.body.map lighten = some L16 := by kernel_rfl
theorem rs16 : Tryz.f16.results.toList = [ResultVar.tmp 4, ResultVar.tmp 5] := by kernel_rfl
theorem nt16 : Tryz.f16.ntmps = 16 := by kernel_rfl
theorem gob16 {args : List AV} {s : AHeap} {R : AV → AHeap → Prop} (hl : args.length ≤ 16) (h : ∀ tm, tm.length = 16 → (∀ i, aev tm (.tmp i) = args.getD i aundef) → lvb Tryz.prog tab s L16 (lpostB tab s [ResultVar.tmp 4, ResultVar.tmp 5] R) tm (loc s 0 [])) : ACall Tryz.prog 16 args s R := ACall.goB tab_ok mixed Tryz.func16 l16 nm16 rs16 nt16 hl h
end Go.S1
end
section
set_option linter.unusedVariables false
set_option linter.unusedSimpArgs false
namespace Go.S1N
open Go Go.Am Go.Proofs Go.S1
set_option maxRecDepth 100000
set_option linter.unusedSimpArgs false
attribute [local irreducible] lopsB lvb lstepB lfunG lcondB lguardB ldrawB ldrunB ldstepB ldguardB lmem lval ldmem ldval ldfun lexit ldloadB ldlenB lpostB athen ablock
theorem longE (n : Int) (v : AV) (l : List Ed) (hv : SlE v l) (hl : l.length < 4611686018427387904) (s : AHeap) : ACall Tryz.prog 38 [.int .i64 n, v] s fun r t => r = .int .i64 (longOf n l) ∧ t = s :=
  exact_of (by simp only [Pu, low]) (long_ok n v l hv hl s)
theorem checkE (n : Int) (v : AV) (l : List Ed) (hv : SlE v l) (hl : l.length < 4611686018427387904) (s : AHeap) : ACall Tryz.prog 37 [.int .i64 n, v] s fun r t => r = .int .i64 (faultOf n l) ∧ t = s :=
  exact_of (by simp only [Pu, low]) (check_ok n v l hv hl s)
def lengthVal (n : Int) (l : List Ed) : Int × Int := if faultOf n l ≠ 0 then (0, faultOf n l) else (longOf n l, 0)
theorem length_ok (n : Int) (v : AV) (l : List Ed) (hv : SlE v l) (hl : l.length < 4611686018427387904) (s : AHeap) :
    ACall Tryz.prog 16 [.int .i64 n, v] s fun r t => r = .tuple [.int .i64 (lengthVal n l).1, .int .i64 (lengthVal n l).2] ∧ t = s := by
  refine gob16 (by simp) ?_
  intro tm hlen harg
  simp +contextual only [go_sem, L16, hlen, harg, lcondB_decide, lcondB_not, lguardB_decide_true, lguardB_decide_false, ldguardB_decide, Nat.reduceLT, Nat.reduceEqDiff, Nat.reduceAdd, Nat.reduceLeDiff, reduceIte, reduceCtorEq]
  refine lfunG_eq (checkE n v l hv hl _) ?_
  simp +contextual only [go_sem, hlen, harg, lcondB_decide, lcondB_not, lguardB_decide_true, lguardB_decide_false, ldguardB_decide, Nat.reduceLT, Nat.reduceEqDiff, Nat.reduceAdd, Nat.reduceLeDiff, reduceIte, reduceCtorEq]
  refine ⟨fun c => ?_, fun c => ?_⟩
  · refine lexit_pure (.refl s) (by simp only [low, lowL, and_self]) ⟨?_, rfl⟩
    rw [lengthVal, if_pos c]
  · refine lfunG_eq (longE n v l hv hl _) ?_
    simp +contextual only [go_sem, hlen, harg, lcondB_decide, lcondB_not, lguardB_decide_true, lguardB_decide_false, ldguardB_decide, Nat.reduceLT, Nat.reduceEqDiff, Nat.reduceAdd, Nat.reduceLeDiff, reduceIte, reduceCtorEq]
    refine lexit_pure (.refl s) (by simp only [low, lowL, and_self]) ⟨?_, rfl⟩
    rw [lengthVal, if_neg (by simpa using c)]
end Go.S1N
end
section
set_option linter.unusedVariables false
set_option linter.unusedSimpArgs false
namespace Go.S1N
open Go Go.Am Go.Proofs Go.S1
set_option maxRecDepth 100000
set_option linter.unusedSimpArgs false
attribute [local irreducible] lopsB lvb lstepB lfunG lcondB lguardB ldrawB ldrunB ldstepB ldguardB lmem lval ldmem ldval ldfun lexit ldloadB ldlenB lpostB athen ablock
end Go.S1N
end
section
set_option linter.unusedVariables false
set_option linter.unusedSimpArgs false
namespace Go.S1N
open Go Go.Am Go.Proofs Go.S1
set_option maxRecDepth 100000
set_option linter.unusedSimpArgs false
attribute [local irreducible] lopsB lvb lstepB lfunG lcondB lguardB ldrawB ldrunB ldstepB ldguardB lmem lval ldmem ldval ldfun lexit ldloadB ldlenB lpostB athen ablock
structure Rn where
  at_ : Int
  long : Int
  text : List UInt8
def Rn.enc (e : Rn) : AV := .agg [.int .i64 e.at_, .int .i64 e.long, .str e.text]
def rnc (l : List Rn) : List AV := (l.map Rn.enc).flatMap AV.cells
end Go.S1N
end
section
set_option linter.unusedVariables false
set_option linter.unusedSimpArgs false
namespace Go.S1N
open Go Go.Am Go.Proofs Go.S1
set_option maxRecDepth 100000
set_option linter.unusedSimpArgs false
attribute [local irreducible] lopsB lvb lstepB lfunG lcondB lguardB ldrawB ldrunB ldstepB ldguardB lmem lval ldmem ldval ldfun lexit ldloadB ldlenB lpostB athen ablock
end Go.S1N
end
section
set_option linter.unusedVariables false
set_option linter.unusedSimpArgs false
namespace Go.S1N
open Go Go.Am Go.Proofs Go.S1
set_option maxRecDepth 100000
set_option linter.unusedSimpArgs false
attribute [local irreducible] lopsB lvb lstepB lfunG lcondB lguardB ldrawB ldrunB ldstepB ldguardB lmem lval ldmem ldval ldfun lexit ldloadB ldlenB lpostB athen ablock
end Go.S1N
end
section
set_option linter.unusedVariables false
set_option linter.unusedSimpArgs false
namespace Go.S1N
open Go Go.Am Go.Proofs Go.S1
set_option maxRecDepth 100000
set_option linter.unusedSimpArgs false
attribute [local irreducible] lopsB lvb lstepB lfunG lcondB lguardB ldrawB ldrunB ldstepB ldguardB lmem lval ldmem ldval ldfun lexit ldloadB ldlenB lpostB athen ablock
end Go.S1N
end
section
set_option linter.unusedVariables false
set_option linter.unusedSimpArgs false
namespace Go.S1N
open Go Go.Am Go.Proofs Go.S1
set_option maxRecDepth 100000
set_option linter.unusedSimpArgs false
attribute [local irreducible] lopsB lvb lstepB lfunG lcondB lguardB ldrawB ldrunB ldstepB ldguardB lmem lval ldmem ldval ldfun lexit ldloadB ldlenB lpostB athen ablock
end Go.S1N
end
section
set_option linter.unusedVariables false
set_option linter.unusedSimpArgs false
namespace Go.S1N
open Go Go.Am Go.Proofs Go.S1
set_option maxRecDepth 100000
set_option linter.unusedSimpArgs false
attribute [local irreducible] lopsB lvb lstepB lfunG lcondB lguardB ldrawB ldrunB ldstepB ldguardB lmem lval ldmem ldval ldfun lexit ldloadB ldlenB lpostB athen ablock
end Go.S1N
end
section
set_option linter.unusedVariables false
set_option linter.unusedSimpArgs false
namespace Go.S1N
open Go Go.Am Go.Proofs Go.S1
set_option maxRecDepth 100000
set_option linter.unusedSimpArgs false
attribute [local irreducible] lopsB lvb lstepB lfunG lcondB lguardB ldrawB ldrunB ldstepB ldguardB lmem lval ldmem ldval ldfun lexit ldloadB ldlenB lpostB athen ablock
end Go.S1N
end
section
set_option linter.unusedVariables false
set_option linter.unusedSimpArgs false
namespace Go.S1N
open Go Go.Am Go.Proofs Go.S1
set_option maxRecDepth 100000
set_option linter.unusedSimpArgs false
def dl : List Ed → Int
  | [] => 0
  | e :: r => (e.new.length - e.cut) + dl r
theorem long_dl : ∀ (l : List Ed) (m : Int), (∀ e ∈ l, e.new.length ≤ 100000 ∧ 0 ≤ e.cut ∧ e.cut ≤ 100000) → -1000000000000 ≤ m - 100000 * (l.length : Int) → m + 100000 * (l.length : Int) ≤ 1000000000000 → longOf m l = m + dl l
  | [], m, _, _, _ => by simp [longOf, dl]
  | e :: r, m, h, h1, h2 => by
    have he := h e (List.mem_cons_self ..)
    simp only [List.length_cons] at h1 h2
    have hw1 : IntKind.i64.wrap ((e.new.length : Int) - e.cut) = (e.new.length : Int) - e.cut := wrap_id (by omega)
    have hw2 : IntKind.i64.wrap (m + ((e.new.length : Int) - e.cut)) = m + ((e.new.length : Int) - e.cut) := wrap_id (by omega)
    have := long_dl r (m + ((e.new.length : Int) - e.cut)) (fun x hx => h x (List.mem_cons_of_mem _ hx)) (by omega) (by omega)
    rw [longOf, List.foldl_cons, hw1, hw2]
    rw [longOf] at this
    rw [this, dl]
    omega
theorem run_len (a k : Nat) : (runOf a k).length = k := by simp [runOf]
theorem flow_dl (n : Nat) : ∀ (l : List Ed) (a : Nat) (B : Int), (B = a ∨ (B = -1 ∧ a = 0)) → a ≤ n → scan n B l = 0 → ((flowFrom n a l).length : Int) = (n - a) + dl l
  | [], a, B, _, ha, _ => by simp only [flowFrom, run_len, dl]; omega
  | e :: r, a, B, hB, ha, h => by
    obtain ⟨c1, c2, c3, c4, c5, c6⟩ := scan_cons h
    have := flow_dl n r (e.at_ + e.cut).toNat (e.at_ + e.cut) (.inl (by omega)) (by omega) c6
    simp only [flowFrom, List.length_append, run_len, List.length_map, dl]
    omega
def negL (w : List UInt8) : List (Int × UInt8) := w.map fun c => ((-1 : Int), c)
theorem scan_ne {n B : Int} {e : Ed} {r : List Ed} (h : scan n B (e :: r) = 0) : ¬ (e.cut = 0 ∧ e.new = []) := by
  intro hh
  rw [scan] at h
  split at h
  · cases h
  · split at h
    · cases h
    · first | cases h | (rw [if_pos hh] at h; cases h)
theorem runOf_cons (a k : Nat) : runOf a (k + 1) = ((a : Int), 0) :: runOf (a + 1) k := rfl
end Go.S1N
end
section
set_option linter.unusedVariables false
set_option linter.unusedSimpArgs false
namespace Go.S1N
open Go Go.Am Go.Proofs Go.S1
set_option maxRecDepth 100000
set_option linter.unusedSimpArgs false
attribute [local irreducible] lopsB lvb lstepB lfunG lcondB lguardB ldrawB ldrunB ldstepB ldguardB lmem lval ldmem ldval ldfun lexit ldloadB ldlenB lpostB athen ablock
theorem ints_cells {v : AV} {l : List Int} (h : IsInts v l) : v.cells = [v] := by rcases h with ⟨f, rfl⟩ | ⟨rfl, rfl⟩ <;> rfl
theorem ints_israw {v : AV} {l : List Int} (h : IsInts v l) : v.israw = false := by rcases h with ⟨f, rfl⟩ | ⟨rfl, rfl⟩ <;> rfl
theorem faultOf_zero {n : Int} {l : List Ed} (h : faultOf n l = 0) : 0 ≤ n ∧ n ≤ 20000 ∧ l.length ≤ 2000 ∧ scan n (-1) l = 0 := by
  rw [faultOf] at h
  split at h
  · cases h
  · rename_i h1
    have h1 := Classical.not_not.1 h1
    split at h
    · cases h
    · split at h
      · rename_i h3; exact absurd h h3
      · rename_i h2 h3
        exact ⟨h1.1, h1.2, by omega, Classical.not_not.1 h3⟩
end Go.S1N
end
section
set_option linter.unusedVariables false
set_option linter.unusedSimpArgs false
namespace Go.S1
open Go Go.Am Go.Proofs
set_option maxRecDepth 100000
end Go.S1
end
section
set_option linter.unusedVariables false
set_option linter.unusedSimpArgs false
namespace Go.S1N
open Go Go.Am Go.Proofs Go.S1
set_option maxRecDepth 100000
set_option linter.unusedSimpArgs false
attribute [local irreducible] lopsB lvb lstepB lfunG lcondB lguardB ldrawB ldrunB ldstepB ldguardB lmem lval ldmem ldval ldfun lexit ldloadB ldlenB lpostB athen ablock
end Go.S1N
end
section
set_option linter.unusedVariables false
set_option linter.unusedSimpArgs false
namespace Go.S1N
open Go Go.Am Go.Proofs Go.S1
set_option maxRecDepth 100000
set_option linter.unusedSimpArgs false
end Go.S1N
end
section
set_option linter.unusedVariables false
set_option linter.unusedSimpArgs false
namespace Go.S1N
open Go Go.Am Go.Proofs Go.S1
set_option maxRecDepth 100000
set_option linter.unusedSimpArgs false
theorem faultOf_long {n : Int} {l : List Ed} (h : faultOf n l = 0) : longOf n l ≤ 20000 := by
  rw [faultOf] at h
  split at h
  · cases h
  · split at h
    · cases h
    · split at h
      · rename_i h3; exact absurd h h3
      · split at h
        · cases h
        · omega
theorem flow_short {n : Nat} {l : List Ed} (h : faultOf n l = 0) (hnew : ∀ e ∈ l, e.new.length ≤ 100000) : (flowFrom n 0 l).length ≤ 20000 ∧ longOf n l = (flowFrom n 0 l).length := by
  obtain ⟨h0, h1, h2, hs⟩ := faultOf_zero h
  have q1 := flow_dl n l 0 (-1) (.inr ⟨rfl, rfl⟩) (by omega) hs
  have q2 := long_dl l n (fun e he => ⟨hnew e he, by have := scan_range l _ hs e he; omega⟩) (by omega) (by omega)
  have q3 := faultOf_long h
  omega
end Go.S1N
end
section
set_option linter.unusedVariables false
set_option linter.unusedSimpArgs false
namespace Go.S1N
open Go Go.Am Go.Proofs Go.S1
set_option maxRecDepth 100000
set_option linter.unusedSimpArgs false
theorem scan_mk {n B : Int} {e : Ed} {r : List Ed} (h1 : 0 ≤ e.at_ ∧ e.at_ ≤ n) (h2 : 0 ≤ e.cut ∧ e.cut ≤ n - e.at_) (h3 : ¬ (e.cut = 0 ∧ e.new = [])) (h4 : B < e.at_) (h5 : scan n (e.at_ + e.cut) r = 0) : scan n B (e :: r) = 0 := by
  rw [scan, if_neg (Classical.not_not.2 h1), if_neg (Classical.not_not.2 h2), if_neg h3, if_neg (by omega), h5]
end Go.S1N
end
section
set_option linter.unusedVariables false
set_option linter.unusedSimpArgs false
namespace Go.S1N
open Go Go.Am Go.Proofs Go.S1
set_option maxRecDepth 100000
set_option linter.unusedSimpArgs false
def mvP (q : Int) (bh : Bool) : Int → List Ed → Int
  | sh, [] => q + sh
  | sh, e :: r => if q < e.at_ then q + sh else if q ≤ e.at_ + e.cut then (if bh then e.at_ + sh + e.new.length else e.at_ + sh) else mvP q bh (sh + (e.new.length - e.cut)) r
theorem mv_moved (q : Int) (bh : Bool) : ∀ (l : List Ed) (sh : Int), (∀ e ∈ l, 0 ≤ e.at_ ∧ e.at_ ≤ 100000 ∧ 0 ≤ e.cut ∧ e.cut ≤ 100000 ∧ e.new.length ≤ 100000) → -100000 ≤ q → q ≤ 100000 → -1000000000000 ≤ sh - 100000 * (l.length : Int) → sh + 100000 * (l.length : Int) ≤ 1000000000000 → movedFrom q bh sh l = mvP q bh sh l
  | [], sh, _, _, _, h1, h2 => by
    rw [movedFrom, mvP, wrap_id]
    simp only [List.length_nil] at h1 h2
    omega
  | e :: r, sh, h, q1, q2, h1, h2 => by
    obtain ⟨c1, c2, c3, c4, c5⟩ := h e (List.mem_cons_self ..)
    simp only [List.length_cons] at h1 h2
    have w1 : IntKind.i64.wrap (q + sh) = q + sh := wrap_id (by omega)
    have w2 : IntKind.i64.wrap (e.at_ + e.cut) = e.at_ + e.cut := wrap_id (by omega)
    have w3 : IntKind.i64.wrap (e.at_ + sh) = e.at_ + sh := wrap_id (by omega)
    have w4 : IntKind.i64.wrap (e.at_ + sh + e.new.length) = e.at_ + sh + e.new.length := wrap_id (by omega)
    have w5 : IntKind.i64.wrap ((e.new.length : Int) - e.cut) = e.new.length - e.cut := wrap_id (by omega)
    have w6 : IntKind.i64.wrap (sh + ((e.new.length : Int) - e.cut)) = sh + (e.new.length - e.cut) := wrap_id (by omega)
    rw [movedFrom, mvP, w1, w2, w3, w4, w5, w6, mv_moved q bh r _ (fun x hx => h x (List.mem_cons_of_mem _ hx)) q1 q2 (by omega) (by omega)]
theorem mv_le (q : Int) : ∀ (l : List Ed) (sh : Int), mvP q false sh l ≤ mvP q true sh l
  | [], _ => Int.le_refl _
  | e :: r, sh => by
    rw [mvP, mvP]
    split
    · exact Int.le_refl _
    · split
      · simp only [Bool.false_eq_true, if_false, if_true]; omega
      · exact mv_le q r _
theorem mv_lb (q : Int) : ∀ (l : List Ed) (sh A : Int), A ≤ q → (∀ e ∈ l, A ≤ e.at_ ∧ 0 ≤ e.cut) → l.Pairwise (fun x y => x.at_ + x.cut < y.at_) → A + sh ≤ mvP q false sh l
  | [], sh, A, h, _, _ => by rw [mvP]; omega
  | e :: r, sh, A, h, hl, hp => by
    obtain ⟨h1, h2⟩ := List.pairwise_cons.1 hp
    have he := hl e (List.mem_cons_self ..)
    rw [mvP]
    split
    · omega
    · split
      · simp only [Bool.false_eq_true, if_false]; omega
      · have := mv_lb q r (sh + (e.new.length - e.cut)) (e.at_ + e.cut) (by omega) (fun x hx => ⟨by have := h1 x hx; omega, (hl x (List.mem_cons_of_mem _ hx)).2⟩) h2
        omega
theorem mv_mono (q q' : Int) (hq : q ≤ q') : ∀ (l : List Ed) (sh : Int), (∀ e ∈ l, 0 ≤ e.cut) → l.Pairwise (fun x y => x.at_ + x.cut < y.at_) → mvP q false sh l ≤ mvP q' false sh l
  | [], sh, _, _ => by rw [mvP, mvP]; omega
  | e :: r, sh, hl, hp => by
    obtain ⟨h1, h2⟩ := List.pairwise_cons.1 hp
    have he := hl e (List.mem_cons_self ..)
    have hlr : ∀ x ∈ r, 0 ≤ x.cut := fun x hx => hl x (List.mem_cons_of_mem _ hx)
    rw [mvP, mvP]
    by_cases c1 : q' ≤ e.at_ + e.cut
    · by_cases c2 : q < e.at_
      · rw [if_pos c2]
        by_cases c3 : q' < e.at_
        · rw [if_pos c3]; omega
        · rw [if_neg c3, if_pos c1]; simp only [Bool.false_eq_true, if_false]; omega
      · have c3 : q ≤ e.at_ + e.cut := by omega
        have c4 : ¬ q' < e.at_ := by omega
        simp only [if_neg c2, if_pos c3, if_neg c4, if_pos c1, Bool.false_eq_true, if_false]
        exact Int.le_refl _
    · rw [if_neg (show ¬ q' < e.at_ by omega), if_neg c1]
      have lb := mv_lb q' r (sh + (e.new.length - e.cut)) (e.at_ + e.cut) (by omega) (fun x hx => ⟨by have := h1 x hx; omega, hlr x hx⟩) h2
      split
      · omega
      · split
        · simp only [Bool.false_eq_true, if_false]; omega
        · exact mv_mono q q' hq r _ hlr h2
theorem mv_ub (n : Nat) (q : Int) : ∀ (l : List Ed) (sh B : Int), 0 ≤ q → q ≤ n → scan n B l = 0 → mvP q true sh l ≤ n + sh + dl l
  | [], sh, _, _, h, _ => by rw [mvP, dl]; omega
  | e :: r, sh, B, h0, h, hs => by
    obtain ⟨c1, c2, c3, c4, c5, c6⟩ := scan_cons hs
    have hne := scan_ne hs
    have hr := flow_dl n r (e.at_ + e.cut).toNat (e.at_ + e.cut) (.inl (by omega)) (by omega) c6
    rw [mvP, dl]
    split
    · rename_i hq
      have hs2 : scan n q (e :: r) = 0 := scan_mk ⟨c1, c2⟩ ⟨c3, c4⟩ hne hq c6
      have := flow_dl n (e :: r) q.toNat q (.inl (by omega)) (by omega) hs2
      rw [dl] at this
      omega
    · split
      · simp only [if_true]; omega
      · have := mv_ub n q r (sh + (e.new.length - e.cut)) _ h0 h c6
        omega
end Go.S1N
end
section
set_option linter.unusedVariables false
set_option linter.unusedSimpArgs false
namespace Go.S1N
open Go Go.Am Go.Proofs Go.S1
set_option maxRecDepth 100000
set_option linter.unusedSimpArgs false
attribute [local irreducible] lopsB lvb lstepB lfunG lcondB lguardB ldrawB ldrunB ldstepB ldguardB lmem lval ldmem ldval ldfun lexit ldloadB ldlenB lpostB athen ablock
structure IsEds (v : AV) (l : List (List Ed)) : Prop where
  len : alen tab 44 v = some (.int .i64 l.length)
  at_ : ∀ {j : Nat} {c : List Ed}, l[j]? = some c → aindexAddr tab 44 v (.int .i64 j) = some (.rptr [edv c])
  pu : Pu v
end Go.S1N
end
section
set_option linter.unusedVariables false
set_option linter.unusedSimpArgs false
namespace Go.S1N
open Go Go.Am Go.Proofs Go.S1
set_option maxRecDepth 100000
set_option linter.unusedSimpArgs false
def rsize (r : Rn) : Nat := max r.long.toNat r.text.length
def okR (r : Rn) : Prop := 0 ≤ r.at_ ∧ 0 ≤ r.long ∧ (r.text = [] ∨ r.long = 0)
end Go.S1N
end
section
set_option linter.unusedVariables false
set_option linter.unusedSimpArgs false
namespace Go.S1N
open Go Go.Am Go.Proofs Go.S1
set_option maxRecDepth 100000
set_option linter.unusedSimpArgs false
set_option linter.unusedVariables false
end Go.S1N
end
section
set_option linter.unusedVariables false
set_option linter.unusedSimpArgs false
namespace Go.S1N
open Go Go.Am Go.Proofs Go.S1
set_option maxRecDepth 100000
set_option linter.unusedSimpArgs false
attribute [local irreducible] lopsB lvb lstepB lfunG lcondB lguardB ldrawB ldrunB ldstepB ldguardB lmem lval ldmem ldval ldfun lexit ldloadB ldlenB lpostB athen ablock
def Rn.emp (r : Rn) : Prop := r.long = 0 ∧ r.text = []
instance (r : Rn) : Decidable r.emp := inferInstanceAs (Decidable (_ ∧ _))
theorem rnc_cons (r : Rn) (l : List Rn) : rnc (r :: l) = .int .i64 r.at_ :: .int .i64 r.long :: .str r.text :: rnc l := rfl
structure LB (C : List AV) (off : Nat) (R : List Rn) : Prop where
  pu : PuL C
  rest : ∃ J, C.drop off = rnc R ++ J
theorem LB.head {C : List AV} {off : Nat} {r : Rn} {R : List Rn} (h : LB C off (r :: R)) : ∃ T, C.drop off = .int .i64 r.at_ :: .int .i64 r.long :: .str r.text :: T := by
  obtain ⟨J, hJ⟩ := h.rest
  exact ⟨rnc R ++ J, by rw [hJ, rnc_cons]; rfl⟩
theorem LB.tail {C : List AV} {off : Nat} {r : Rn} {R : List Rn} (h : LB C off (r :: R)) : LB C (off + 3) R := by
  obtain ⟨J, hJ⟩ := h.rest
  refine ⟨h.pu, J, ?_⟩
  rw [show off + 3 = off + 3 from rfl, ← List.drop_drop, hJ, rnc_cons]
  rfl
theorem pul_set {C : List AV} (h : PuL C) (i : Nat) {v : AV} (hv : low 0 v) : PuL (C.set i v) := by
  unfold PuL at *
  rw [lowL_iff] at *
  intro x hx
  rcases List.mem_or_eq_of_mem_set hx with q | rfl
  · exact h x q
  · exact hv
theorem drop_set_at {C : List AV} (off k : Nat) (v : AV) : (C.set (off + k) v).drop off = (C.drop off).set k v := by
  rw [List.drop_set, if_neg (by omega), Nat.add_sub_cancel_left]
theorem LB.text {C : List AV} {off : Nat} {r : Rn} {R : List Rn} (h : LB C off (r :: R)) (x : List UInt8) : LB (C.set (off + 2) (.str x)) off (⟨r.at_, r.long, x⟩ :: R) := by
  obtain ⟨J, hJ⟩ := h.rest
  refine ⟨pul_set h.pu _ (by simp only [low]), J, ?_⟩
  rw [drop_set_at, hJ, rnc_cons, rnc_cons]
  rfl
end Go.S1N
end
section
set_option linter.unusedVariables false
set_option linter.unusedSimpArgs false
namespace Go.S1N
open Go Go.Am Go.Proofs Go.S1
set_option maxRecDepth 100000
set_option linter.unusedSimpArgs false
attribute [local irreducible] lopsB lvb lstepB lfunG lcondB lguardB ldrawB ldrunB ldstepB ldguardB lmem lval ldmem ldval ldfun lexit ldloadB ldlenB lpostB athen ablock
end Go.S1N
end
section
set_option linter.unusedVariables false
set_option linter.unusedSimpArgs false
namespace Go.S1N
open Go Go.Am Go.Proofs Go.S1
set_option maxRecDepth 100000
set_option linter.unusedSimpArgs false
attribute [local irreducible] lopsB lvb lstepB lfunG lcondB lguardB ldrawB ldrunB ldstepB ldguardB lmem lval ldmem ldval ldfun lexit ldloadB ldlenB lpostB athen ablock
structure RB (r : Rn) : Prop where
  ok : okR r
  pos : 0 < rsize r
  lo : 0 ≤ r.at_
  hi : r.at_ + r.long ≤ 1000000000
end Go.S1N
end
section
set_option linter.unusedVariables false
set_option linter.unusedSimpArgs false
namespace Go.S1N
open Go Go.Am Go.Proofs Go.S1
set_option maxRecDepth 100000
set_option linter.unusedSimpArgs false
attribute [local irreducible] lopsB lvb lstepB lfunG lcondB lguardB ldrawB ldrunB ldstepB ldguardB lmem lval ldmem ldval ldfun lexit ldloadB ldlenB lpostB athen ablock
end Go.S1N
end
section
set_option linter.unusedVariables false
set_option linter.unusedSimpArgs false
namespace Go.S1N
open Go Go.Am Go.Proofs Go.S1
set_option maxRecDepth 100000
set_option linter.unusedSimpArgs false
attribute [local irreducible] lopsB lvb lstepB lfunG lcondB lguardB ldrawB ldrunB ldstepB ldguardB lmem lval ldmem ldval ldfun lexit ldloadB ldlenB lpostB athen ablock
end Go.S1N
end
section
set_option linter.unusedVariables false
set_option linter.unusedSimpArgs false
namespace Go.S1N
open Go Go.Am Go.Proofs Go.S1
set_option maxRecDepth 100000
set_option linter.unusedSimpArgs false
attribute [local irreducible] lopsB lvb lstepB lfunG lcondB lguardB ldrawB ldrunB ldstepB ldguardB lmem lval ldmem ldval ldfun lexit ldloadB ldlenB lpostB athen ablock
end Go.S1N
end
section
set_option linter.unusedVariables false
set_option linter.unusedSimpArgs false
namespace Go.S1N
open Go Go.Am Go.Proofs Go.S1
set_option maxRecDepth 100000
set_option linter.unusedSimpArgs false
end Go.S1N
end
section
set_option linter.unusedVariables false
set_option linter.unusedSimpArgs false
namespace Go.S1N
open Go Go.Am Go.Proofs Go.S1
set_option maxRecDepth 100000
set_option linter.unusedSimpArgs false
end Go.S1N
end
section
set_option linter.unusedVariables false
set_option linter.unusedSimpArgs false
namespace Go.S1
open Go Go.Am Go.Proofs
set_option maxRecDepth 100000
noncomputable def L97 : LCode := LCode.seq (LCode.ops [⟨Op.assign (Operand.const (Value.int IntKind.i64 0)), some 6, none⟩, ⟨Op.assign (Operand.const (Value.bool false)), some 7, none⟩]) (LCode.seq (LCode.ops [⟨Op.move (Operand.tmp 0), some 12, none⟩, ⟨Op.call { callee := Callee.builtin Builtin.len, args := { toList := [Operand.tmp 12] }, argTypes := { toList := [27] } }, some 13, none⟩, ⟨Op.assign (Operand.tmp 13), some 8, none⟩]) (LCode.seq (LCode.ops [⟨Op.move (Operand.tmp 8), some 14, none⟩, ⟨Op.assign (Operand.const (Value.int IntKind.i64 0)), some 9, none⟩, ⟨Op.assign (Operand.tmp 14), some 10, none⟩]) (LCode.seq (LCode.block 0 (LCode.loop (LCode.seq (LCode.seq (LCode.ops [⟨Op.move (Operand.tmp 9), some 15, none⟩, ⟨Op.move (Operand.tmp 10), some 16, none⟩, ⟨Op.binOp BinOp.lss 3 (Operand.tmp 15) (Operand.tmp 16) 3, some 17, none⟩]) (LCode.cond (Operand.tmp 17) LCode.skip (LCode.exit 0))) (LCode.block 1 (LCode.seq (LCode.ops [⟨Op.move (Operand.tmp 9), some 18, none⟩, ⟨Op.move (Operand.tmp 10), some 19, none⟩, ⟨Op.binOp BinOp.add 3 (Operand.tmp 18) (Operand.tmp 19) 3, some 20, none⟩, ⟨Op.convert 3 216 (Operand.tmp 20), some 21, none⟩, ⟨Op.binOp BinOp.shr 216 (Operand.tmp 21) (Operand.const (Value.int IntKind.u64 1)) 216, some 22, none⟩, ⟨Op.convert 216 3 (Operand.tmp 22), some 23, none⟩, ⟨Op.assign (Operand.tmp 23), some 11, none⟩]) (LCode.seq (LCode.ops [⟨Op.move (Operand.tmp 2), some 24, none⟩, ⟨Op.move (Operand.tmp 0), some 25, none⟩, ⟨Op.move (Operand.tmp 11), some 26, none⟩, ⟨Op.indexAddr 27 (Operand.tmp 25) (Operand.tmp 26), some 27, none⟩, ⟨Op.load 37 (Operand.tmp 27), some 28, none⟩, ⟨Op.move (Operand.tmp 1), some 29, none⟩, ⟨Op.call { callee := Callee.value (Operand.tmp 24), args := { toList := [Operand.tmp 28, Operand.tmp 29] }, argTypes := { toList := [37, 3] } }, some 30, none⟩, ⟨Op.binOp BinOp.lss 3 (Operand.tmp 30) (Operand.const (Value.int IntKind.i64 0)) 3, some 31, none⟩]) (LCode.cond (Operand.tmp 31) (LCode.ops [⟨Op.move (Operand.tmp 11), some 32, none⟩, ⟨Op.binOp BinOp.add 3 (Operand.tmp 32) (Operand.const (Value.int IntKind.i64 1)) 3, some 33, none⟩, ⟨Op.assign (Operand.tmp 33), some 9, none⟩]) (LCode.ops [⟨Op.move (Operand.tmp 11), some 34, none⟩, ⟨Op.assign (Operand.tmp 34), some 10, none⟩])))))))) (LCode.seq (LCode.ops [⟨Op.move (Operand.tmp 9), some 35, none⟩, ⟨Op.move (Operand.tmp 9), some 36, none⟩, ⟨Op.move (Operand.tmp 8), some 37, none⟩, ⟨Op.binOp BinOp.lss 3 (Operand.tmp 36) (Operand.tmp 37) 3, some 38, none⟩, ⟨Op.move (Operand.tmp 38), some 39, none⟩, ⟨Op.move (Operand.tmp 2), some 40, some (39, true)⟩, ⟨Op.move (Operand.tmp 0), some 41, some (39, true)⟩, ⟨Op.move (Operand.tmp 9), some 42, some (39, true)⟩, ⟨Op.indexAddr 27 (Operand.tmp 41) (Operand.tmp 42), some 43, some (39, true)⟩, ⟨Op.load 37 (Operand.tmp 43), some 44, some (39, true)⟩, ⟨Op.move (Operand.tmp 1), some 45, some (39, true)⟩, ⟨Op.call { callee := Callee.value (Operand.tmp 40), args := { toList := [Operand.tmp 44, Operand.tmp 45] }, argTypes := { toList := [37, 3] } }, some 46, some (39, true)⟩, ⟨Op.binOp BinOp.eql 3 (Operand.tmp 46) (Operand.const (Value.int IntKind.i64 0)) 3, some 47, some (39, true)⟩, ⟨Op.pick (Operand.tmp 39) (Operand.tmp 47) (Operand.const (Value.bool false)), some 48, none⟩, ⟨Op.assign (Operand.tmp 35), some 6, none⟩, ⟨Op.assign (Operand.tmp 48), some 7, none⟩]) LCode.ret))))
theorem l97 : Tryz.f97.body.map lighten = some L97 := by kernel_rfl
theorem rs97 : Tryz.f97.results.toList = [ResultVar.tmp 6, ResultVar.tmp 7] := by kernel_rfl
theorem nt97 : Tryz.f97.ntmps = 49 := by kernel_rfl
theorem gob97 {args : List AV} {s : AHeap} {R : AV → AHeap → Prop} (hl : args.length ≤ 49) (h : ∀ tm, tm.length = 49 → (∀ i, aev tm (.tmp i) = args.getD i aundef) → lvb Tryz.prog tab s L97 (lpostB tab s [ResultVar.tmp 6, ResultVar.tmp 7] R) tm (loc s 0 [])) : ACall Tryz.prog 97 args s R := ACall.goB tab_ok mixed Tryz.func97 l97 nm97 rs97 nt97 hl h
end Go.S1
end
section
set_option linter.unusedVariables false
set_option linter.unusedSimpArgs false
namespace Go.S1N
open Go Go.Am Go.Proofs Go.S1
set_option maxRecDepth 100000
set_option linter.unusedSimpArgs false
set_option linter.unusedVariables false
theorem ty216 : tab.ty 216 = some { td := .int .u64, size := 1, bytes := 8, zero := .int .u64 0, eqok := false } := by kernel_rfl
end Go.S1N
end
section
set_option linter.unusedVariables false
set_option linter.unusedSimpArgs false
namespace Go.S1N
open Go Go.Am Go.Proofs Go.S1
set_option maxRecDepth 100000
set_option linter.unusedSimpArgs false
attribute [local irreducible] lopsB lvb lstepB lfunG lcondB lguardB ldrawB ldrunB ldstepB ldguardB lmem lval ldmem ldval ldfun lexit ldloadB ldlenB lpostB athen ablock
def Ed.covers (e : Ed) (p : Int) : Prop := e.at_ ≤ p ∧ p < e.at_ + e.cut
instance (e : Ed) (p : Int) : Decidable (Ed.covers e p) := inferInstanceAs (Decidable (_ ∧ _))
def goneB (l : List Ed) (p : Int) : Bool := l.any fun e => decide (Ed.covers e p)
end Go.S1N
end
section
set_option linter.unusedVariables false
set_option linter.unusedSimpArgs false
namespace Go.S1N
open Go Go.Am Go.Proofs Go.S1
set_option maxRecDepth 100000
set_option linter.unusedSimpArgs false
attribute [local irreducible] lopsB lvb lstepB lfunG lcondB lguardB ldrawB ldrunB ldstepB ldguardB lmem lval ldmem ldval ldfun lexit ldloadB ldlenB lpostB athen ablock
structure RS (n : Int) (l : List Ed) : Prop where
  each : ∀ e ∈ l, 0 ≤ e.at_ ∧ 0 ≤ e.cut ∧ e.at_ + e.cut ≤ n
  pair : l.Pairwise fun x y => x.at_ + x.cut < y.at_
theorem scan_rs {n : Int} : ∀ {l : List Ed} {B : Int}, scan n B l = 0 → RS n l ∧ ∀ e ∈ l, B < e.at_
  | [], _, _ => ⟨⟨by simp, .nil⟩, by simp⟩
  | e :: l, B, h => by
    obtain ⟨c1, c2, c3, c4, c5, c6⟩ := scan_cons h
    obtain ⟨⟨g1, g2⟩, g3⟩ := scan_rs c6
    refine ⟨⟨?_, ?_⟩, ?_⟩
    · intro x hx
      rcases List.mem_cons.1 hx with rfl | hx
      · exact ⟨by omega, by omega, by omega⟩
      · exact g1 x hx
    · exact List.pairwise_cons.2 ⟨fun y hy => g3 y hy, g2⟩
    · intro x hx
      rcases List.mem_cons.1 hx with rfl | hx
      · omega
      · have := g3 x hx; omega
theorem RS.tail {n : Int} {e : Ed} {l : List Ed} (h : RS n (e :: l)) : RS n l := ⟨fun x hx => h.each x (List.mem_cons_of_mem e hx), (List.pairwise_cons.1 h.pair).2⟩
def cntLt (l : List Ed) (p : Int) : Nat := (l.filter fun e => decide (e.at_ < p)).length
def hasAt (l : List Ed) (p : Int) : Bool := l.any fun e => decide (e.at_ = p)
def insAt (l : List Ed) (p : Int) : List UInt8 := match l.find? fun e => decide (e.at_ = p) with
  | some e => e.new
  | none => []
theorem cnt_iff {n : Int} (p : Int) : ∀ {l : List Ed}, RS n l → ∀ {k : Nat} {e : Ed}, l[k]? = some e → (e.at_ < p ↔ k < cntLt l p)
  | [], _, k, e, h => by simp at h
  | x :: l, hr, k, e, h => by
    have hx := hr.each x (List.mem_cons_self ..)
    have hp := (List.pairwise_cons.1 hr.pair).1
    unfold cntLt
    rw [List.filter_cons]
    by_cases hlt : x.at_ < p
    · rw [if_pos (by simpa using hlt), List.length_cons]
      cases k with
      | zero => simp at h; subst h; exact ⟨fun _ => by omega, fun _ => hlt⟩
      | succ k =>
        have := cnt_iff p hr.tail (k := k) (e := e) (by simpa using h)
        unfold cntLt at this
        omega
    · have h0 : (l.filter fun e => decide (e.at_ < p)) = [] := by
        rw [List.filter_eq_nil_iff]
        intro y hy
        have := hp y hy
        simp only [decide_eq_true_eq]; omega
      rw [if_neg (by simpa using hlt), h0]
      have : ¬ e.at_ < p := by
        cases k with
        | zero => simp at h; subst h; exact hlt
        | succ k =>
          have := hp e (List.mem_of_getElem? (i := k) (by simpa using h))
          omega
      exact ⟨fun q => absurd q this, fun q => by simp at q⟩
theorem cnt_le (l : List Ed) (p : Int) : cntLt l p ≤ l.length := List.length_filter_le ..
theorem at_uniq {n : Int} {l : List Ed} (h : RS n l) {x y : Ed} (hx : x ∈ l) (hy : y ∈ l) (he : x.at_ = y.at_) : x = y := by
  obtain ⟨i, hi, rfl⟩ := List.mem_iff_getElem.1 hx
  obtain ⟨j, hj, rfl⟩ := List.mem_iff_getElem.1 hy
  rcases Nat.lt_trichotomy i j with q | q | q
  · have := List.pairwise_iff_getElem.1 h.pair i j hi hj q
    have := h.each _ (List.getElem_mem hi)
    omega
  · subst q; rfl
  · have := List.pairwise_iff_getElem.1 h.pair j i hj hi q
    have := h.each _ (List.getElem_mem hj)
    omega
theorem has_at {n : Int} {l : List Ed} (h : RS n l) (p : Int) : (hasAt l p = true → ∃ e, l[cntLt l p]? = some e ∧ e.at_ = p ∧ insAt l p = e.new) ∧ (hasAt l p = false → insAt l p = [] ∧ ∀ e, l[cntLt l p]? = some e → e.at_ ≠ p) := by
  constructor
  · intro hh
    obtain ⟨e, he, hp⟩ := List.any_eq_true.1 hh
    have hp : e.at_ = p := by simpa using hp
    obtain ⟨k, hk, rfl⟩ := List.mem_iff_getElem.1 he
    have hgk := List.getElem?_eq_getElem hk
    have h1 := cnt_iff p h hgk
    have hge : cntLt l p ≤ k := by
      rcases Nat.lt_or_ge k (cntLt l p) with q | q
      · have := h1.2 q; omega
      · exact q
    have hle : k ≤ cntLt l p := by
      rcases Nat.lt_or_ge (cntLt l p) k with q | q
      · have hc : cntLt l p < l.length := by omega
        have h2 := cnt_iff p h (List.getElem?_eq_getElem hc)
        have h3 := List.pairwise_iff_getElem.1 h.pair _ _ hc hk q
        have h4 := h.each _ (List.getElem_mem hc)
        have := h2.1 (by omega)
        omega
      · exact q
    obtain rfl : k = cntLt l p := by omega
    refine ⟨_, hgk, hp, ?_⟩
    unfold insAt
    cases hf : l.find? fun e => decide (e.at_ = p) with
    | none =>
      have := List.find?_eq_none.1 hf _ he
      simp [hp] at this
    | some e' =>
      have h5 := List.find?_some hf
      have h6 := List.mem_of_find?_eq_some hf
      rw [at_uniq h h6 he (by simp at h5; omega)]
  · intro hh
    have hall : ∀ e ∈ l, e.at_ ≠ p := by
      intro e he hp
      have := List.any_eq_false.1 hh e he
      simp [hp] at this
    refine ⟨?_, fun e he => hall e (List.mem_of_getElem? he)⟩
    unfold insAt
    rw [List.find?_eq_none.2 (fun e he => by simpa using hall e he)]
theorem cv_up {ev : Operand → AV} {x : Operand} {n : Nat} {s : AHeap} (hx : ev x = .int .i64 n) (hn : n < 9223372036854775808) : lop tab ev (.convert 3 216 x) s = some (.int .u64 n, s) := by
  have : IntKind.u64.wrap (n : Int) = n := by unfold IntKind.wrap; simp [IntKind.bits, IntKind.signed]; omega
  simp [lop, aop, apure, aconv, ty3, ty216, hx, this]
theorem cv_dn {ev : Operand → AV} {x : Operand} {n : Nat} {s : AHeap} (hx : ev x = .int .u64 n) (hn : n < 9223372036854775808) : lop tab ev (.convert 216 3 x) s = some (.int .i64 n, s) := by
  have : IntKind.i64.wrap (n : Int) = n := wrap_id (by omega)
  simp [lop, aop, apure, aconv, ty3, ty216, hx, this]
theorem shr1 {n : Nat} : abin tab .shr 216 (.int .u64 n) (.int .u64 1) = some (.int .u64 ((n / 2 : Nat) : Int)) := by
  simp [abin, ashift, IntKind.bits]
  exact Int.fdiv_eq_ediv_of_nonneg _ (by omega)
theorem bs_ok (n : Int) (hn : n ≤ 1000000) (v : AV) (l : List Ed) (p : Int) (hv : SlE v l) (hl : l.length ≤ 2000) (h : RS n l) (f : FuncId) (hf : ∀ (e : Ed) (s : AHeap), (-1000000000000 ≤ e.at_ ∧ e.at_ ≤ 1000000000000) → ACall Tryz.prog f [e.enc, .int .i64 p] s fun r t => r = .int .i64 (e.at_ - p) ∧ t = s) (s : AHeap) :
    ACall Tryz.prog 97 [v, .int .i64 p, .func (.func f) [] []] s fun r t => r = .tuple [.int .i64 (cntLt l p), .bool (hasAt l p)] ∧ t = s := by
  refine gob97 (by simp) ?_
  intro tm hlen harg
  have hcl := cnt_le l p
  simp +contextual only [go_sem, L97, hlen, harg, hv.len, lcondB_decide, lcondB_not, lguardB_decide_true, lguardB_decide_false, ldguardB_decide, Nat.reduceLT, Nat.reduceEqDiff, Nat.reduceAdd, Nat.reduceLeDiff, reduceIte, reduceCtorEq]
  refine ⟨Nat × Nat, fun x => [(0, v), (1, .int .i64 p), (2, .func (.func f) [] []), (8, .int .i64 l.length), (9, .int .i64 x.1), (10, .int .i64 x.2)], fun _ => loc s 0 [], fun x => x.1 ≤ cntLt l p ∧ cntLt l p ≤ x.2 ∧ x.2 ≤ l.length, fun x => x.2 - x.1, (0, l.length), ⟨Nat.zero_le _, hcl, Nat.le_refl _⟩, ?_, ?_⟩
  · refine To.go [] [] rfl (.refl s) (by decide) (by simp) ?_ trivial
    simp +contextual only [go_sem, hlen, harg, pu_ren hv.pu, lcondB_decide, lcondB_not, lguardB_decide_true, lguardB_decide_false, ldguardB_decide, Nat.reduceLT, Nat.reduceEqDiff, Nat.reduceAdd, Nat.reduceLeDiff, reduceIte, reduceCtorEq]
    simp
  · rintro ⟨i, j⟩ tm1 ⟨hi, hj, hjl⟩ hlen1 hlv
    simp only [go_sem, hlen, lcondB_decide, lcondB_not, lguardB_decide_true, lguardB_decide_false, ldguardB_decide, Nat.reduceLT, Nat.reduceEqDiff, Nat.reduceAdd, Nat.reduceLeDiff, reduceIte, reduceCtorEq] at hlen1 hlv hi hj hjl
    simp +contextual only [go_sem, hlen, hlen1, hlv, lcondB_decide, lcondB_not, lguardB_decide_true, lguardB_decide_false, ldguardB_decide, Nat.reduceLT, Nat.reduceEqDiff, Nat.reduceAdd, Nat.reduceLeDiff, reduceIte, reduceCtorEq]
    refine ⟨fun hlt => ?_, fun hge => ?_⟩
    · have hw1 : IntKind.i64.wrap ((i : Int) + (j : Int)) = ((i + j : Nat) : Int) := by rw [wrap_id (by omega)]; omega
      have hm : (i + j) / 2 < l.length := by omega
      have hgm := List.getElem?_eq_getElem hm
      have hci := cnt_iff p h hgm
      have hea := h.each _ (List.getElem_mem hm)
      generalize l[(i + j) / 2] = e at hgm hci hea
      have hw2 : IntKind.i64.wrap ((((i + j) / 2 : Nat) : Int) + 1) = (((i + j) / 2 + 1 : Nat) : Int) := by rw [wrap_id (by omega)]; rfl
      simp +contextual only [go_sem, hlen1, hlv, hw1, lcondB_decide, lcondB_not, lguardB_decide_true, lguardB_decide_false, ldguardB_decide, Nat.reduceLT, Nat.reduceEqDiff, Nat.reduceAdd, Nat.reduceLeDiff, reduceIte, reduceCtorEq]
      rw [lstepB_convert]
      refine lmem_eq (cv_up (n := i + j) (by simp only [go_sem, hlen1, lcondB_decide, lcondB_not, lguardB_decide_true, lguardB_decide_false, ldguardB_decide, Nat.reduceLT, Nat.reduceEqDiff, Nat.reduceAdd, Nat.reduceLeDiff, reduceIte, reduceCtorEq]) (by omega)) ?_
      simp +contextual only [go_sem, hlen1, hlv, shr1, lcondB_decide, lcondB_not, lguardB_decide_true, lguardB_decide_false, ldguardB_decide, Nat.reduceLT, Nat.reduceEqDiff, Nat.reduceAdd, Nat.reduceLeDiff, reduceIte, reduceCtorEq]
      rw [lstepB_convert]
      refine lmem_eq (cv_dn (n := (i + j) / 2) (by simp only [go_sem, hlen1, lcondB_decide, lcondB_not, lguardB_decide_true, lguardB_decide_false, ldguardB_decide, Nat.reduceLT, Nat.reduceEqDiff, Nat.reduceAdd, Nat.reduceLeDiff, reduceIte, reduceCtorEq]) (by omega)) ?_
      simp +contextual only [go_sem, hlen1, hlv, hv.at hgm, lcondB_decide, lcondB_not, lguardB_decide_true, lguardB_decide_false, ldguardB_decide, Nat.reduceLT, Nat.reduceEqDiff, Nat.reduceAdd, Nat.reduceLeDiff, reduceIte, reduceCtorEq]
      refine lfunG_eq (hf e _ (by omega)) ?_
      simp +contextual only [go_sem, hlen1, hlv, hw2, lcondB_decide, lcondB_not, lguardB_decide_true, lguardB_decide_false, ldguardB_decide, Nat.reduceLT, Nat.reduceEqDiff, Nat.reduceAdd, Nat.reduceLeDiff, reduceIte, reduceCtorEq]
      refine ⟨fun hc => ?_, fun hc => ?_⟩
      · refine ⟨((i + j) / 2 + 1, j), ⟨by have := hci.1 (by omega); simp only; omega, hj, hjl⟩, by simp only; omega, ?_⟩
        refine To.go [] [] rfl (.refl s) (by decide) (by simp) ?_ trivial
        simp +contextual only [go_sem, hlen1, hlv, pu_ren hv.pu, lcondB_decide, lcondB_not, lguardB_decide_true, lguardB_decide_false, ldguardB_decide, Nat.reduceLT, Nat.reduceEqDiff, Nat.reduceAdd, Nat.reduceLeDiff, reduceIte, reduceCtorEq]
      · have hge2 : cntLt l p ≤ (i + j) / 2 := by
          rcases Nat.lt_or_ge ((i + j) / 2) (cntLt l p) with q | q
          · have := hci.2 q; omega
          · exact q
        refine ⟨(i, (i + j) / 2), ⟨hi, hge2, by simp only; omega⟩, by simp only; omega, ?_⟩
        refine To.go [] [] rfl (.refl s) (by decide) (by simp) ?_ trivial
        simp +contextual only [go_sem, hlen1, hlv, pu_ren hv.pu, lcondB_decide, lcondB_not, lguardB_decide_true, lguardB_decide_false, ldguardB_decide, Nat.reduceLT, Nat.reduceEqDiff, Nat.reduceAdd, Nat.reduceLeDiff, reduceIte, reduceCtorEq]
    · have hij : i = cntLt l p := by omega
      obtain ⟨ha1, ha2⟩ := has_at h p
      by_cases hc : cntLt l p < l.length
      · have hgm := List.getElem?_eq_getElem hc
        have hea := h.each _ (List.getElem_mem hc)
        generalize l[cntLt l p] = e at hgm hea
        subst hij
        have hci : ((cntLt l p : Nat) : Int) < (l.length : Int) := by omega
        simp +contextual only [go_sem, hlen1, hlv, hci, hv.at hgm, lcondB_decide, lcondB_not, lguardB_decide_true, lguardB_decide_false, ldguardB_decide, Nat.reduceLT, Nat.reduceEqDiff, Nat.reduceAdd, Nat.reduceLeDiff, reduceIte, reduceCtorEq]
        refine ⟨fun _ => ?_, fun q => q.elim⟩
        refine lfunG_eq (hf e _ (by omega)) ?_
        simp +contextual only [go_sem, hlen1, hlv, lcondB_decide, lcondB_not, lguardB_decide_true, lguardB_decide_false, ldguardB_decide, Nat.reduceLT, Nat.reduceEqDiff, Nat.reduceAdd, Nat.reduceLeDiff, reduceIte, reduceCtorEq]
        refine lexit_pure (.refl s) (by simp only [low, lowL, and_self]) ⟨?_, rfl⟩
        congr 3
        cases hh : hasAt l p with
        | true =>
          obtain ⟨e', q1, q2, _⟩ := ha1 hh
          rw [hgm] at q1; cases q1
          simp; omega
        | false =>
          have := (ha2 hh).2 e hgm
          simp; omega
      · subst hij
        have hci : ¬ ((cntLt l p : Nat) : Int) < (l.length : Int) := by omega
        simp +contextual only [go_sem, hlen1, hlv, hci, lcondB_decide, lcondB_not, lguardB_decide_true, lguardB_decide_false, ldguardB_decide, Nat.reduceLT, Nat.reduceEqDiff, Nat.reduceAdd, Nat.reduceLeDiff, reduceIte, reduceCtorEq]
        refine ⟨fun q => q.elim, fun _ => ?_⟩
        refine lexit_pure (.refl s) (by simp only [low, lowL, and_self]) ⟨?_, rfl⟩
        congr 3
        cases hh : hasAt l p with
        | true =>
          obtain ⟨e', q1, q2, _⟩ := ha1 hh
          rw [List.getElem?_eq_none (by omega)] at q1; cases q1
        | false => rfl
end Go.S1N
end
section
set_option linter.unusedVariables false
set_option linter.unusedSimpArgs false
namespace Go.S1N
open Go Go.Am Go.Proofs Go.S1
set_option maxRecDepth 100000
set_option linter.unusedSimpArgs false
attribute [local irreducible] lopsB lvb lstepB lfunG lcondB lguardB ldrawB ldrunB ldstepB ldguardB lmem lval ldmem ldval ldfun lexit ldloadB ldlenB lpostB athen ablock
end Go.S1N
end
section
set_option linter.unusedVariables false
set_option linter.unusedSimpArgs false
namespace Go.Proofs
open Go.Shelf
end Go.Proofs
namespace Go.S1N
open Go Go.Am Go.Proofs Go.S1
set_option maxRecDepth 100000
attribute [local irreducible] lopsB lvb lstepB lfunG lcondB lguardB ldrawB ldrunB ldstepB ldguardB lmem lval ldmem ldval ldfun lexit ldloadB ldlenB lpostB athen ablock
end Go.S1N
end
section
set_option linter.unusedVariables false
set_option linter.unusedSimpArgs false
namespace Go.S1N
open Go Go.Am Go.Proofs Go.S1
set_option maxRecDepth 100000
set_option linter.unusedSimpArgs false
attribute [local irreducible] lopsB lvb lstepB lfunG lcondB lguardB ldrawB ldrunB ldstepB ldguardB lmem lval ldmem ldval ldfun lexit ldloadB ldlenB lpostB athen ablock
def compact : List Int → List Int
  | [] => []
  | [a] => [a]
  | a :: b :: r => if a = b then compact (b :: r) else a :: compact (b :: r)
end Go.S1N
end
section
set_option linter.unusedVariables false
set_option linter.unusedSimpArgs false
namespace Go.S1N
open Go Go.Am Go.Proofs Go.S1
set_option maxRecDepth 100000
set_option linter.unusedSimpArgs false
attribute [local irreducible] lopsB lvb lstepB lfunG lcondB lguardB ldrawB ldrunB ldstepB ldguardB lmem lval ldmem ldval ldfun lexit ldloadB ldlenB lpostB athen ablock
def ends (l : List Ed) : List Int := l.flatMap fun e => [e.at_, e.at_ + e.cut]
def placesL (n : Int) (a b : List Ed) : List Int := compact ((0 :: n :: ends (a ++ b)).mergeSort fun x y => decide (x ≤ y))
end Go.S1N
end
section
set_option linter.unusedVariables false
set_option linter.unusedSimpArgs false
namespace Go.S1N
open Go Go.Am Go.Proofs Go.S1
set_option maxRecDepth 100000
set_option linter.unusedSimpArgs false
attribute [local irreducible] lopsB lvb lstepB lfunG lcondB lguardB ldrawB ldrunB ldstepB ldguardB lmem lval ldmem ldval ldfun lexit ldloadB ldlenB lpostB athen ablock
structure Mt where
  both : List Rn
  first : List Rn
  second : List Rn
  long : Int
def Mt.app (m k : Mt) : Mt := ⟨m.both ++ k.both, m.first ++ k.first, m.second ++ k.second, m.long + k.long⟩
def Mt.nil : Mt := ⟨[], [], [], 0⟩
def mtA (a : List Ed) (p x : Int) : Mt := if hasAt a p then ⟨[⟨0, 0, insAt a p⟩], [⟨x, (insAt a p).length, []⟩], [⟨0, 0, insAt a p⟩], (insAt a p).length⟩ else .nil
def mtB (b : List Ed) (p y : Int) : Mt := if hasAt b p then ⟨[⟨0, 0, insAt b p⟩], [⟨0, 0, insAt b p⟩], [⟨y, (insAt b p).length, []⟩], (insAt b p).length⟩ else .nil
def mtK (k : Bool) (p x y z : Int) : Mt := if k then ⟨[⟨p, z, []⟩], [⟨x, z, []⟩], [⟨y, z, []⟩], z⟩ else .nil
def meetGo (a b : List Ed) : List Int → Int → Int → Mt
  | [], _, _ => .nil
  | [p], x, y => (mtA a p x).app (mtB b p y)
  | p :: q :: r, x, y => ((mtA a p x).app (mtB b p y)).app ((mtK (!goneB a p && !goneB b p) p (x + (insAt a p).length) (y + (insAt b p).length) (q - p)).app
      (meetGo a b (q :: r) (x + (insAt a p).length + if goneB a p then 0 else q - p) (y + (insAt b p).length + if goneB b p then 0 else q - p)))
theorem mtK_false {p x y z : Int} : mtK false p x y z = .nil := rfl
end Go.S1N
end
section
set_option linter.unusedVariables false
set_option linter.unusedSimpArgs false
namespace Go.S1N
open Go Go.Am Go.Proofs Go.S1
set_option maxRecDepth 100000
set_option linter.unusedSimpArgs false
attribute [local irreducible] lopsB lvb lstepB lfunG lcondB lguardB ldrawB ldrunB ldstepB ldguardB lmem lval ldmem ldval ldfun lexit ldloadB ldlenB lpostB athen ablock
end Go.S1N
end
section
set_option linter.unusedVariables false
set_option linter.unusedSimpArgs false
namespace Go.S1N
open Go Go.Am Go.Proofs Go.S1
set_option maxRecDepth 100000
set_option linter.unusedSimpArgs false
attribute [local irreducible] lopsB lvb lstepB lfunG lcondB lguardB ldrawB ldrunB ldstepB ldguardB lmem lval ldmem ldval ldfun lexit ldloadB ldlenB lpostB athen ablock
def rnB (l : List Rn) : Prop := (∀ r ∈ l, 0 ≤ r.at_ ∧ r.at_ ≤ 1000000000 ∧ r.at_ + r.long ≤ 1000000000 ∧ 0 ≤ r.long ∧ r.text.length ≤ 1000000) ∧ l.length ≤ 1000000000
structure MOk (n : Int) (a b : List Ed) : Prop where
  hn : 0 ≤ n ∧ n ≤ 1000000
  ha : a.length ≤ 2000
  hb : b.length ≤ 2000
  ra : RS n a
  rb : RS n b
  ia : ∀ p, (insAt a p).length ≤ 100000
  ib : ∀ p, (insAt b p).length ≤ 100000
  pl : ∀ p ∈ placesL n a b, 0 ≤ p ∧ p ≤ 1000000
  pl2 : (placesL n a b).length ≤ 10000
  mono : ∀ (i : Nat) (p q : Int), (placesL n a b)[i]? = some p → (placesL n a b)[i + 1]? = some q → p ≤ q
  la : 0 ≤ longOf n a ∧ longOf n a ≤ 1000000
  lb : 0 ≤ longOf n b ∧ longOf n b ≤ 1000000
  b1 : rnB (meetGo a b (placesL n a b) 0 0).both
  b2 : rnB (meetGo a b (placesL n a b) 0 0).first
  b3 : rnB (meetGo a b (placesL n a b) 0 0).second
def touch (x y : Ed) : Prop := x.at_ ≤ y.at_ + y.cut ∧ y.at_ ≤ x.at_ + x.cut
instance (x y : Ed) : Decidable (touch x y) := inferInstanceAs (Decidable (_ ∧ _))
end Go.S1N
end
section
set_option linter.unusedVariables false
set_option linter.unusedSimpArgs false
namespace Go.S1N
open Go Go.Am Go.Proofs Go.S1
set_option maxRecDepth 100000
set_option linter.unusedSimpArgs false
attribute [local irreducible] lopsB lvb lstepB lfunG lcondB lguardB ldrawB ldrunB ldstepB ldguardB lmem lval ldmem ldval ldfun lexit ldloadB ldlenB lpostB athen ablock
end Go.S1N
end
section
set_option linter.unusedVariables false
set_option linter.unusedSimpArgs false
namespace Go.S1N
open Go Go.Am Go.Proofs Go.S1
set_option maxRecDepth 100000
set_option linter.unusedSimpArgs false
abbrev LT := Int × UInt8
def runI (x : Int) (k : Nat) : List LT := (List.range k).map fun (i : Nat) => (x + (i : Int), (0 : UInt8))
theorem runI_zero (x : Int) : runI x 0 = [] := rfl
section
variable (a b : List Ed)
def keepAB (p : Int) : Bool := !goneB a p && !goneB b p
def stepA (p : Int) : Int := ((insAt a p).length : Int) + if goneB a p then 0 else 1
def g1 : Nat → Int → Int → List LT
  | 0, _, _ => []
  | k + 1, p, x => runI x (insAt a p).length ++ (negL (insAt b p) ++ ((if keepAB a b p then [(x + (insAt a p).length, 0)] else []) ++ g1 k (p + 1) (x + stepA a p)))
def g2 : Nat → Int → Int → List LT
  | 0, _, _ => []
  | k + 1, p, y => negL (insAt a p) ++ (runI y (insAt b p).length ++ ((if keepAB a b p then [(y + (insAt b p).length, 0)] else []) ++ g2 k (p + 1) (y + stepA b p)))
end
section
variable {a b : List Ed}
structure Calm (a b : List Ed) (p : Int) (k : Nat) (ga gb : Bool) : Prop where
  ins : ∀ r, p ≤ r → r < p + k → insAt a r = [] ∧ insAt b r = [] ∧ goneB a r = ga ∧ goneB b r = gb
theorem Calm.tail {p : Int} {k : Nat} {ga gb : Bool} (h : Calm a b p (k + 1) ga gb) : Calm a b (p + 1) k ga gb := ⟨fun r h1 h2 => h.ins r (by omega) (by omega)⟩
end
end Go.S1N
end
section
set_option linter.unusedVariables false
set_option linter.unusedSimpArgs false

end
section
set_option linter.unusedVariables false
set_option linter.unusedSimpArgs false
namespace Go.S1N
open Go Go.Am Go.Proofs Go.S1
set_option maxRecDepth 100000
set_option linter.unusedSimpArgs false
def lcopy (T : Tab) (t : TypeId) (x y : AV) (s : AHeap) : Option (AV × AHeap) := match T.ty t with
  | some i => match i.td with
    | .slice e => acopy T e s x y
    | _ => none
  | none => none
theorem lstepB_copy {P : Program} {T : Tab} {s0 s : AHeap} {N : List AV → AHeap → Prop} {d : Option Nat} {tm : List AV} {t u : TypeId} {x y : Operand} : lstepB P T s0 N (.call { callee := .builtin .copy, args := ⟨[x, y]⟩, argTypes := ⟨[t, u]⟩ }) d tm s = lmem N (lcopy T t (aev tm x) (aev tm y) s) d tm := rfl
attribute [local irreducible] lopsB lvb lstepB lfunG lcondB lguardB ldrawB ldrunB ldstepB ldguardB lmem lval ldmem ldval ldfun lexit ldloadB ldlenB lpostB athen ablock
end Go.S1N
end
section
set_option linter.unusedVariables false
set_option linter.unusedSimpArgs false
namespace Go.S1N
open Go Go.Am Go.Proofs Go.S1
set_option maxRecDepth 100000
set_option linter.unusedSimpArgs false
attribute [local irreducible] lopsB lvb lstepB lfunG lcondB lguardB ldrawB ldrunB ldstepB ldguardB lmem lval ldmem ldval ldfun lexit ldloadB ldlenB lpostB athen ablock
def ownOf : Nat → List (Int × UInt8) → List Int
  | _, [] => []
  | i, p :: r => if p.1 < 0 then (i : Int) :: ownOf (i + 1) r else ownOf (i + 1) r
def need : List (Int × UInt8) → List Bool → Nat
  | p :: F, b :: bs => (if p.1 < 0 ∧ b = true then 1 else 0) + need F bs
  | _, _ => 0
def pastGo (old : List Int) : List Int → List (Int × UInt8) → List Bool → List (Int × UInt8)
  | own, p :: F, b :: bs => if 0 ≤ p.1 then (old.getD p.1.toNat 0, p.2) :: pastGo old own F bs else if b then (own.headD 0, p.2) :: pastGo old own.tail F bs else p :: pastGo old own F bs
  | _, _, _ => []
end Go.S1N
end
section
set_option linter.unusedVariables false
set_option linter.unusedSimpArgs false
namespace Go.S1N
open Go Go.Am Go.Proofs Go.S1
set_option maxRecDepth 100000
set_option linter.unusedSimpArgs false
attribute [local irreducible] lopsB lvb lstepB lfunG lcondB lguardB ldrawB ldrunB ldstepB ldguardB lmem lval ldmem ldval ldfun lexit ldloadB ldlenB lpostB athen ablock
abbrev ML := (Int × UInt8) × Bool × Bool
end Go.S1N
end
section
set_option linter.unusedVariables false
set_option linter.unusedSimpArgs false
namespace Go.S1N
open Go Go.Am Go.Proofs Go.S1
set_option maxRecDepth 100000
set_option linter.unusedSimpArgs false
attribute [local irreducible] lopsB lvb lstepB lfunG lcondB lguardB ldrawB ldrunB ldstepB ldguardB lmem lval ldmem ldval ldfun lexit ldloadB ldlenB lpostB athen ablock
def newM (e : Ed) (f : Bool × Bool) (i : Nat) : List ML := (e.new.take i).map fun c => ((-1, c), f)
def insM (l : List Ed) (p : Int) (f : Bool × Bool) : List ML := l.flatMap fun e => if e.at_ = p then newM e f e.new.length else []
def keptM (a b : List Ed) (n p : Int) : List ML := if p < n ∧ goneB a p = false ∧ goneB b p = false then [((p, 0), false, false)] else []
def mixAt (a b : List Ed) (n p : Int) : List ML := insM a p (true, false) ++ insM b p (false, true) ++ keptM a b n p
def mixL (a b : List Ed) (n : Int) (k : Nat) : List ML := (List.range k).flatMap fun p : Nat => mixAt a b n (p : Int)
def totN (l : List Ed) : Nat := (l.flatMap Ed.new).length
end Go.S1N
end
section
set_option linter.unusedVariables false
set_option linter.unusedSimpArgs false
namespace Go.S1N
open Go Go.Am Go.Proofs Go.S1
set_option maxRecDepth 100000
set_option linter.unusedSimpArgs false
attribute [local irreducible] lopsB lvb lstepB lfunG lcondB lguardB ldrawB ldrunB ldstepB ldguardB lmem lval ldmem ldval ldfun lexit ldloadB ldlenB lpostB athen ablock
structure POk (n : Nat) (a b : List Ed) : Prop where
  hn : n ≤ 1000
  ha : a.length ≤ 2000
  hb : b.length ≤ 2000
  hta : totN a ≤ 1000
  htb : totN b ≤ 1000
  hea : ∀ e ∈ a, -1000000000000 ≤ e.at_ + e.cut ∧ e.at_ + e.cut ≤ 1000000000000
  heb : ∀ e ∈ b, -1000000000000 ≤ e.at_ + e.cut ∧ e.at_ + e.cut ≤ 1000000000000
  hsa : scan n (-1) a = 0
  hsb : scan n (-1) b = 0
  hga : ∀ p ∈ flowFrom n 0 a, p.1 < n
  hgb : ∀ p ∈ flowFrom n 0 b, p.1 < n
  hm : ∀ x ∈ mixL a b n (n + 1), -1 ≤ x.1.1 ∧ x.1.1 < n
  hda : need ((mixL a b n (n + 1)).map (·.1)) ((mixL a b n (n + 1)).map (·.2.1)) ≤ (ownOf 0 (flowFrom n 0 a)).length
  hdb : need ((mixL a b n (n + 1)).map (·.1)) ((mixL a b n (n + 1)).map (·.2.2)) ≤ (ownOf 0 (flowFrom n 0 b)).length
end Go.S1N
end
section
set_option linter.unusedVariables false
set_option linter.unusedSimpArgs false
namespace Go.S1N
open Go Go.Am Go.Proofs Go.S1
set_option maxRecDepth 100000
set_option linter.unusedSimpArgs false
theorem insAt_nil (p : Int) : insAt [] p = [] := rfl
theorem goneB_nil (p : Int) : goneB [] p = false := rfl
section
variable (a b : List Ed)
end
section
variable {a b : List Ed}
end
end Go.S1N
end
section
set_option linter.unusedVariables false
set_option linter.unusedSimpArgs false
namespace Go.S1N
open Go Go.Am Go.Proofs Go.S1
set_option maxRecDepth 100000
set_option linter.unusedSimpArgs false
section
variable (a : List Ed)
end
def pastM (old own : List Int) (T : List ML) (sel : Bool × Bool → Bool) : List LT := pastGo old own (T.map (·.1)) (T.map fun x => sel x.2)
theorem pastM_nil (old own : List Int) (sel : Bool × Bool → Bool) : pastM old own [] sel = [] := rfl
end Go.S1N
end
section
set_option linter.unusedVariables false
set_option linter.unusedSimpArgs false
namespace Go.S1N
open Go Go.Am Go.Proofs Go.S1
set_option maxRecDepth 100000
set_option linter.unusedSimpArgs false
section
variable (a b : List Ed) (p : Int)
end
section
variable {a b : List Ed} {p q : Int}
end
end Go.S1N
end
section
set_option linter.unusedVariables false
set_option linter.unusedSimpArgs false
namespace Go.S1N
open Go Go.Am Go.Proofs Go.S1
set_option maxRecDepth 100000
set_option linter.unusedSimpArgs false
end Go.S1N
end
section
set_option linter.unusedVariables false
set_option linter.unusedSimpArgs false
namespace Go.S1N
open Go Go.Am Go.Proofs Go.S1
set_option maxRecDepth 100000
set_option linter.unusedSimpArgs false
structure Pre (n : Nat) (a b : List Ed) : Prop where
  hn : n ≤ 1000
  ta : totN a ≤ 1000
  tb : totN b ≤ 1000
section
variable {n : Nat} {a b : List Ed}
end
end Go.S1N
end
section
set_option linter.unusedVariables false
set_option linter.unusedSimpArgs false
namespace Go.S1N
open Go Go.Am Go.Proofs Go.S1
set_option maxRecDepth 100000
set_option linter.unusedSimpArgs false
section
variable {a b : List Ed} {F : List LT} {s t : List UInt8}
end
section
variable {n : Nat} {a b : List Ed}
end
end Go.S1N
end
section
set_option linter.unusedVariables false
set_option linter.unusedSimpArgs false
namespace Go.S1N
open Go Go.Am Go.Proofs Go.S1
set_option maxRecDepth 100000
set_option linter.unusedSimpArgs false
theorem keep_law {n : Nat} {c : List Ed} (hn : n ≤ 1000) (hc : faultOf n c = 0) (hw : ∀ e ∈ c, e.new.length ≤ 100000) {q : Int} (h0 : 0 ≤ q) (hq : q ≤ n) :
    movedVal n c q false = (mvP q false 0 c, 0) ∧ movedVal n c q true = (mvP q true 0 c, 0) ∧ mvP q false 0 c ≤ mvP q true 0 c ∧ mvP q true 0 c ≤ longOf n c ∧ 0 ≤ mvP q false 0 c ∧
    ∀ p, 0 ≤ p → p ≤ q → mvP p false 0 c ≤ mvP q false 0 c := by
  obtain ⟨_, h1, h2, hs⟩ := faultOf_zero hc
  obtain ⟨hr, _⟩ := scan_rs hs
  have hb : ∀ e ∈ c, 0 ≤ e.at_ ∧ e.at_ ≤ 100000 ∧ 0 ≤ e.cut ∧ e.cut ≤ 100000 ∧ e.new.length ≤ 100000 := fun e he => by
    have a1 := hr.each e he
    have a2 := hw e he
    omega
  have hcut : ∀ e ∈ c, 0 ≤ e.cut := fun e he => (hr.each e he).2.1
  have hu := mv_ub n q c 0 (-1) h0 hq hs
  have q1 := flow_dl n c 0 (-1) (.inr ⟨rfl, rfl⟩) (by omega) hs
  have q2 := (flow_short hc hw).2
  have hv : ∀ bh, movedVal n c q bh = (mvP q bh 0 c, 0) := fun bh => by
    rw [movedVal, if_neg (by rw [hc]; decide), if_neg (by omega), mv_moved q bh c 0 hb (by omega) (by omega) (by omega) (by omega)]
  refine ⟨hv _, hv _, mv_le q c 0, by omega, ?_, fun p hp0 hp => mv_mono p q hp c 0 hcut hr.pair⟩
  have := mv_lb q c 0 0 h0 (fun e he => ⟨(hr.each e he).1, hcut e he⟩) hr.pair
  omega
end Go.S1N
end
section
set_option linter.unusedVariables false
set_option linter.unusedSimpArgs false
namespace Go.S1
open Go Go.Am Go.Proofs
set_option maxRecDepth 100000
noncomputable def L6 : LCode := LCode.seq (LCode.ops [⟨Op.assign (Operand.const (Value.bool false)), some 2, none⟩]) (LCode.seq (LCode.ops [⟨Op.move (Operand.tmp 0), some 14, none⟩, ⟨Op.build 25 { toList := [(0, Operand.tmp 14)] }, some 15, none⟩, ⟨Op.box 25 (Operand.tmp 15), some 16, none⟩, ⟨Op.assign (Operand.tmp 16), some 3, none⟩]) (LCode.seq (LCode.ops [⟨Op.move (Operand.tmp 3), some 17, none⟩, ⟨Op.call { callee := Callee.value (Operand.func 19), args := { toList := [Operand.tmp 17, Operand.const (Value.int IntKind.i64 0), Operand.const (Value.int IntKind.i64 10)] }, argTypes := { toList := [23, 3, 3] } }, some 18, none⟩, ⟨Op.assign (Operand.tmp 18), some 4, none⟩]) (LCode.seq (LCode.ops [⟨Op.move (Operand.tmp 3), some 19, none⟩, ⟨Op.move (Operand.tmp 4), some 20, none⟩, ⟨Op.call { callee := Callee.value (Operand.func 10), args := { toList := [Operand.tmp 19, Operand.tmp 20] }, argTypes := { toList := [23, 3] } }, some 21, none⟩, ⟨Op.assign (Operand.tmp 21), some 5, none⟩]) (LCode.seq (LCode.ops [⟨Op.move (Operand.tmp 4), some 23, none⟩, ⟨Op.move (Operand.tmp 5), some 24, none⟩, ⟨Op.call { callee := Callee.value (Operand.func 16), args := { toList := [Operand.tmp 23, Operand.tmp 24] }, argTypes := { toList := [3, 27] } }, some 25, none⟩, ⟨Op.move (Operand.tmp 25), some 22, none⟩, ⟨Op.extract (Operand.tmp 22) 0, some 26, none⟩, ⟨Op.extract (Operand.tmp 22) 1, some 27, none⟩, ⟨Op.assign (Operand.tmp 26), some 6, none⟩, ⟨Op.assign (Operand.tmp 27), some 7, none⟩]) (LCode.seq (LCode.ops [⟨Op.assign (Operand.const (Value.int IntKind.i64 0)), some 8, none⟩]) (LCode.seq (LCode.seq (LCode.ops [⟨Op.assign (Operand.const (Value.int IntKind.i64 0)), some 9, none⟩]) (LCode.block 0 (LCode.loop (LCode.seq (LCode.seq (LCode.ops [⟨Op.move (Operand.tmp 9), some 28, none⟩, ⟨Op.move (Operand.tmp 4), some 29, none⟩, ⟨Op.binOp BinOp.leq 3 (Operand.tmp 28) (Operand.tmp 29) 3, some 30, none⟩]) (LCode.cond (Operand.tmp 30) LCode.skip (LCode.exit 0))) (LCode.seq (LCode.block 1 (LCode.seq (LCode.ops [⟨Op.move (Operand.tmp 4), some 34, none⟩, ⟨Op.move (Operand.tmp 5), some 35, none⟩, ⟨Op.move (Operand.tmp 9), some 36, none⟩, ⟨Op.call { callee := Callee.value (Operand.func 23), args := { toList := [Operand.tmp 34, Operand.tmp 35, Operand.tmp 36, Operand.const (Value.bool false)] }, argTypes := { toList := [3, 27, 3, 4] } }, some 37, none⟩, ⟨Op.move (Operand.tmp 37), some 33, none⟩, ⟨Op.extract (Operand.tmp 33) 0, some 38, none⟩, ⟨Op.extract (Operand.tmp 33) 1, some 39, none⟩, ⟨Op.assign (Operand.tmp 38), some 10, none⟩, ⟨Op.assign (Operand.tmp 39), some 11, none⟩]) (LCode.seq (LCode.ops [⟨Op.move (Operand.tmp 4), some 41, none⟩, ⟨Op.move (Operand.tmp 5), some 42, none⟩, ⟨Op.move (Operand.tmp 9), some 43, none⟩, ⟨Op.call { callee := Callee.value (Operand.func 23), args := { toList := [Operand.tmp 41, Operand.tmp 42, Operand.tmp 43, Operand.const (Value.bool true)] }, argTypes := { toList := [3, 27, 3, 4] } }, some 44, none⟩, ⟨Op.move (Operand.tmp 44), some 40, none⟩, ⟨Op.extract (Operand.tmp 40) 0, some 45, none⟩, ⟨Op.extract (Operand.tmp 40) 1, some 46, none⟩, ⟨Op.assign (Operand.tmp 45), some 12, none⟩, ⟨Op.assign (Operand.tmp 46), some 13, none⟩]) (LCode.seq (LCode.seq (LCode.ops [⟨Op.move (Operand.tmp 11), some 47, none⟩, ⟨Op.move (Operand.tmp 13), some 48, none⟩, ⟨Op.buildSlice 58 2 { toList := [(0, Operand.tmp 47), (1, Operand.tmp 48)] }, some 49, none⟩, ⟨Op.call { callee := Callee.value (Operand.func 13), args := { toList := [Operand.tmp 49] }, argTypes := { toList := [58] } }, some 50, none⟩, ⟨Op.binOp BinOp.neq 29 (Operand.tmp 50) (Operand.const (Value.int IntKind.i64 0)) 29, some 51, none⟩, ⟨Op.move (Operand.tmp 51), some 52, none⟩, ⟨Op.move (Operand.tmp 10), some 53, some (52, false)⟩, ⟨Op.move (Operand.tmp 8), some 54, some (52, false)⟩, ⟨Op.binOp BinOp.lss 3 (Operand.tmp 53) (Operand.tmp 54) 3, some 55, some (52, false)⟩, ⟨Op.pick (Operand.tmp 52) (Operand.const (Value.bool true)) (Operand.tmp 55), some 56, none⟩, ⟨Op.move (Operand.tmp 56), some 57, none⟩, ⟨Op.move (Operand.tmp 12), some 58, some (57, false)⟩, ⟨Op.move (Operand.tmp 10), some 59, some (57, false)⟩, ⟨Op.binOp BinOp.lss 3 (Operand.tmp 58) (Operand.tmp 59) 3, some 60, some (57, false)⟩, ⟨Op.pick (Operand.tmp 57) (Operand.const (Value.bool true)) (Operand.tmp 60), some 61, none⟩, ⟨Op.move (Operand.tmp 61), some 62, none⟩, ⟨Op.move (Operand.tmp 12), some 63, some (62, false)⟩, ⟨Op.move (Operand.tmp 6), some 64, some (62, false)⟩, ⟨Op.binOp BinOp.gtr 3 (Operand.tmp 63) (Operand.tmp 64) 3, some 65, some (62, false)⟩, ⟨Op.pick (Operand.tmp 62) (Operand.const (Value.bool true)) (Operand.tmp 65), some 66, none⟩]) (LCode.cond (Operand.tmp 66) (LCode.seq (LCode.ops [⟨Op.assign (Operand.const (Value.bool false)), some 2, none⟩]) LCode.ret) LCode.skip)) (LCode.ops [⟨Op.move (Operand.tmp 10), some 67, none⟩, ⟨Op.assign (Operand.tmp 67), some 8, none⟩]))))) (LCode.ops [⟨Op.move (Operand.tmp 9), some 31, none⟩, ⟨Op.binOp BinOp.add 3 (Operand.tmp 31) (Operand.const (Value.int IntKind.i64 1)) 3, some 32, none⟩, ⟨Op.assign (Operand.tmp 32), some 9, none⟩])))))) (LCode.seq (LCode.ops [⟨Op.move (Operand.tmp 7), some 68, none⟩, ⟨Op.binOp BinOp.eql 29 (Operand.tmp 68) (Operand.const (Value.int IntKind.i64 0)) 29, some 69, none⟩, ⟨Op.move (Operand.tmp 69), some 70, none⟩, ⟨Op.call { callee := Callee.value (Operand.func 15), args := { toList := [] }, argTypes := { toList := [] } }, some 71, some (70, true)⟩, ⟨Op.pick (Operand.tmp 70) (Operand.tmp 71) (Operand.const (Value.bool false)), some 72, none⟩, ⟨Op.assign (Operand.tmp 72), some 2, none⟩]) LCode.ret)))))))
theorem l6 : Tryz.f6.body.map lighten = some L6 := by kernel_rfl
theorem rs6 : Tryz.f6.results.toList = [ResultVar.tmp 2] := by kernel_rfl
theorem nt6 : Tryz.f6.ntmps = 73 := by kernel_rfl
theorem gob6 {args : List AV} {s : AHeap} {R : AV → AHeap → Prop} (hl : args.length ≤ 73) (h : ∀ tm, tm.length = 73 → (∀ i, aev tm (.tmp i) = args.getD i aundef) → lvb Tryz.prog tab s L6 (lpostB tab s [ResultVar.tmp 2] R) tm (loc s 0 [])) : ACall Tryz.prog 6 args s R := ACall.goB tab_ok mixed Tryz.func6 l6 nm6 rs6 nt6 hl h
noncomputable def L10 : LCode := LCode.seq (LCode.ops [⟨Op.assign (Operand.const (Value.slice none 0 0)), some 4, none⟩]) (LCode.seq (LCode.seq (LCode.ops [⟨Op.move (Operand.const (Value.int IntKind.i64 0)), some 6, none⟩]) (LCode.block 0 (LCode.loop (LCode.seq (LCode.ops [⟨Op.binOp BinOp.lss 3 (Operand.tmp 6) (Operand.const (Value.int IntKind.i64 5)) 3, some 7, none⟩]) (LCode.seq (LCode.cond (Operand.tmp 7) LCode.skip (LCode.exit 0)) (LCode.seq (LCode.block 1 (LCode.seq (LCode.ops [⟨Op.move (Operand.tmp 0), some 8, none⟩, ⟨Op.move (Operand.tmp 1), some 9, none⟩, ⟨Op.call { callee := Callee.value (Operand.func 29), args := { toList := [Operand.tmp 8, Operand.tmp 9] }, argTypes := { toList := [23, 3] } }, some 10, none⟩, ⟨Op.assign (Operand.tmp 10), some 5, none⟩]) (LCode.seq (LCode.ops [⟨Op.move (Operand.tmp 1), some 11, none⟩, ⟨Op.move (Operand.tmp 5), some 12, none⟩, ⟨Op.call { callee := Callee.value (Operand.func 30), args := { toList := [Operand.tmp 11, Operand.tmp 12] }, argTypes := { toList := [3, 27] } }, some 13, none⟩, ⟨Op.binOp BinOp.eql 29 (Operand.tmp 13) (Operand.const (Value.int IntKind.i64 0)) 29, some 14, none⟩]) (LCode.cond (Operand.tmp 14) (LCode.seq (LCode.ops [⟨Op.move (Operand.tmp 5), some 15, none⟩, ⟨Op.assign (Operand.tmp 15), some 4, none⟩]) LCode.ret) LCode.skip)))) (LCode.ops [⟨Op.binOp BinOp.add 3 (Operand.tmp 6) (Operand.const (Value.int IntKind.i64 1)) 3, some 16, none⟩, ⟨Op.move (Operand.tmp 16), some 6, none⟩]))))))) (LCode.seq (LCode.ops [⟨Op.assign (Operand.const (Value.slice none 0 0)), some 4, none⟩]) LCode.ret))
theorem l10 : Tryz.f10.body.map lighten = some L10 := by kernel_rfl
theorem rs10 : Tryz.f10.results.toList = [ResultVar.tmp 4] := by kernel_rfl
theorem nt10 : Tryz.f10.ntmps = 17 := by kernel_rfl
theorem gob10 {args : List AV} {s : AHeap} {R : AV → AHeap → Prop} (hl : args.length ≤ 17) (h : ∀ tm, tm.length = 17 → (∀ i, aev tm (.tmp i) = args.getD i aundef) → lvb Tryz.prog tab s L10 (lpostB tab s [ResultVar.tmp 4] R) tm (loc s 0 [])) : ACall Tryz.prog 10 args s R := ACall.goB tab_ok mixed Tryz.func10 l10 nm10 rs10 nt10 hl h
end Go.S1
end
section
set_option linter.unusedVariables false
set_option linter.unusedSimpArgs false
namespace Go.S1N
open Go Go.Am Go.Proofs Go.S1
set_option maxRecDepth 100000
set_option linter.unusedSimpArgs false
attribute [local irreducible] lopsB lvb lstepB lfunG lcondB lguardB ldrawB ldrunB ldstepB ldguardB lmem lval ldmem ldval ldfun lexit ldloadB ldlenB lpostB athen ablock
theorem rfault_nil {n : Nat} (hn : n ≤ 20000) : faultOf n [] = 0 := by
  have e : longOf (n : Int) [] = n := rfl
  have e2 : scan (n : Int) (-1) [] = 0 := rfl
  rw [faultOf, e, e2, if_neg (by omega), if_neg (by simp), if_neg (by simp), if_neg (by omega)]
theorem rightS {s : AHeap} {b : Nat} {Lv : AV} {L : List Int} {at_ : Int} (h : Sm s b Lv L at_) (h1 : at_ < 3700000000000000000) (n : Nat) (hn : n ≤ 20000) :
    ACall Tryz.prog 10 [.ptr b 0, .int .i64 n] s fun v t => ∃ (l : List Ed) (k : Nat), v = edv l ∧ l.length ≤ 4 ∧ (∀ e ∈ l, e.new.length ≤ 4) ∧ faultOf n l = 0 ∧ k ≤ 100 ∧ t = s.upd b (strm Lv (at_ + k)) := by
  refine gob10 (by simp) ?_
  intro tm hlen harg
  have hb := h.lt
  have h0 := h.at0
  simp +contextual only [go_sem, L10, hlen, harg, hb, lcondB_decide, lcondB_not, lguardB_decide_true, lguardB_decide_false, ldguardB_decide, Nat.reduceLT, Nat.reduceEqDiff, Nat.reduceAdd, Nat.reduceLeDiff, reduceIte, reduceCtorEq]
  refine ⟨Nat × Nat × AHeap, fun a => [(0, .ptr b 0), (1, .int .i64 n), (6, .int .i64 a.1)], fun a => loc a.2.2 0 [],
    fun a => a.1 ≤ 5 ∧ a.2.1 ≤ 20 * a.1 ∧ ((a.1 = 0 ∧ a.2.2 = s) ∨ a.2.2 = s.upd b (strm Lv (at_ + a.2.1))) ∧ (∀ o, a.2.2.upd b o = s.upd b o) ∧ Sm a.2.2 b Lv L (at_ + a.2.1) ∧ a.2.2.nx = s.nx, fun a => 5 - a.1, (0, 0, s),
    ⟨by simp, by simp, .inl ⟨rfl, rfl⟩, fun _ => rfl, by simpa using h, rfl⟩, ?_, ?_⟩
  · refine To.go [] [] rfl (OKo.refl s) (by decide) (by simp) ?_ trivial
    simp +contextual only [go_sem, hlen, harg, rnm_low hb, lcondB_decide, lcondB_not, lguardB_decide_true, lguardB_decide_false, ldguardB_decide, Nat.reduceLT, Nat.reduceEqDiff, Nat.reduceAdd, Nat.reduceLeDiff, reduceIte, reduceCtorEq]
    simp
  · rintro ⟨i, k, S⟩ tm1 ⟨hi, hk, hS, hup, hSm, hnx⟩ hlen1 hlv
    simp only [go_sem, hlen, lcondB_decide, lcondB_not, lguardB_decide_true, lguardB_decide_false, ldguardB_decide, Nat.reduceLT, Nat.reduceEqDiff, Nat.reduceAdd, Nat.reduceLeDiff, reduceIte, reduceCtorEq] at hlen1 hlv hi hk hS hup hSm hnx
    have hbS : b < S.nx := hSm.lt
    simp +contextual only [go_sem, hlen, hlen1, hlv, lcondB_decide, lcondB_not, lguardB_decide_true, lguardB_decide_false, ldguardB_decide, Nat.reduceLT, Nat.reduceEqDiff, Nat.reduceAdd, Nat.reduceLeDiff, reduceIte, reduceCtorEq]
    refine ⟨fun hlt => ?_, fun hge => ?_⟩
    · refine lfunG_of (changeS hSm.loc (by omega) n) ?_
      rintro _ _ ⟨l, k1, rfl, hl, hnl, hk1, rfl⟩
      simp +contextual only [go_sem, hlen, hlen1, hlv, hb, hbS, hup, lcondB_decide, lcondB_not, lguardB_decide_true, lguardB_decide_false, ldguardB_decide, Nat.reduceLT, Nat.reduceEqDiff, Nat.reduceAdd, Nat.reduceLeDiff, reduceIte, reduceCtorEq]
      refine lfunG_eq (exact_of (by simp only [Pu, low, lowL, and_self]) (fault_ok _ _ l (edv_sl l) (by omega) _)) ?_
      have hw : IntKind.i64.wrap ((i : Int) + 1) = ((i + 1 : Nat) : Int) := by rw [wrap_id (by omega)]; rfl
      simp +contextual only [go_sem, hlen, hlen1, hlv, hb, hbS, hup, hw, lcondB_decide, lcondB_not, lguardB_decide_true, lguardB_decide_false, ldguardB_decide, Nat.reduceLT, Nat.reduceEqDiff, Nat.reduceAdd, Nat.reduceLeDiff, reduceIte, reduceCtorEq]
      refine ⟨fun hf => ?_, fun hf => ?_⟩
      · exact lexit_pure ((OKo.refl s).upd hb h.lowO) (low.mono (Nat.zero_le _) (edv_pu _)) ⟨l, k + k1, rfl, hl, hnl, hf, by omega, by congr 2; omega⟩
      · refine ⟨(i + 1, k + k1, s.upd b (strm Lv (at_ + ((k + k1 : Nat) : Int)))), ⟨by simp only; omega, by simp only; omega, .inr rfl, ?_, ?_, AHeap.nx_upd _ _ _⟩, by simp only; omega, ?_⟩
        · intro o; simp only [go_sem]
        · exact h.upd (by omega) (by omega)
        · refine To.go [] [] (by simp only; congr 3; omega) ((OKo.refl s).upd hb h.lowO) (by decide) (by simp) ?_ trivial
          simp +contextual only [go_sem, hlen1, hlv, rnm_low hb, lcondB_decide, lcondB_not, lguardB_decide_true, lguardB_decide_false, ldguardB_decide, Nat.reduceLT, Nat.reduceEqDiff, Nat.reduceAdd, Nat.reduceLeDiff, reduceIte, reduceCtorEq]
    · have hS2 : S = s.upd b (strm Lv (at_ + k)) := by
        rcases hS with ⟨q, _⟩ | q
        · omega
        · exact q
      subst hS2
      refine lexit_pure ((OKo.refl s).upd hb h.lowO) (by simp only [low]) ⟨[], k, rfl, by simp, by simp, rfault_nil hn, by omega, rfl⟩
end Go.S1N
end
section
set_option linter.unusedVariables false
set_option linter.unusedSimpArgs false
namespace Go.S1N
open Go Go.Am Go.Proofs Go.S1
set_option maxRecDepth 100000
set_option linter.unusedSimpArgs false
attribute [local irreducible] lopsB lvb lstepB lfunG lcondB lguardB ldrawB ldrunB ldstepB ldguardB lmem lval ldmem ldval ldfun lexit ldloadB ldlenB lpostB athen ablock
end Go.S1N
end
section
set_option linter.unusedVariables false
set_option linter.unusedSimpArgs false
namespace Go.S1N
open Go Go.Am Go.Proofs Go.S1
set_option maxRecDepth 100000
set_option linter.unusedSimpArgs false
attribute [local irreducible] lopsB lvb lstepB lfunG lcondB lguardB ldrawB ldrunB ldstepB ldguardB lmem lval ldmem ldval ldfun lexit ldloadB ldlenB lpostB athen ablock
theorem length_val {n : Nat} {l : List Ed} (hf : faultOf n l = 0) (hn : ∀ e ∈ l, e.new.length ≤ 100000) : lengthVal n l = (((flowFrom n 0 l).length : Int), 0) := by
  rw [lengthVal, if_neg (by rw [hf]; decide), (flow_short hf hn).2]
end Go.S1N
end
section
set_option linter.unusedVariables false
set_option linter.unusedSimpArgs false
namespace Go.S1N
open Go Go.Am Go.Proofs Go.S1
set_option maxRecDepth 100000
set_option linter.unusedSimpArgs false
attribute [local irreducible] lopsB lvb lstepB lfunG lcondB lguardB ldrawB ldrunB ldstepB ldguardB lmem lval ldmem ldval ldfun lexit ldloadB ldlenB lpostB athen ablock
set_option maxHeartbeats 2000000 in
theorem placesKeepOrder_gen (hready : ∀ s, ACall Tryz.prog 15 [] s fun v t => v = .bool true ∧ t = s) (v : AV) (L : List Int) (hv : IsInts v L) (hL : L.length < 4611686018427387904) (s : AHeap) :
    ACall Tryz.prog 6 [v] s fun r t => r = .bool true ∧ t = s := by
  refine gob6 (by simp) ?_
  intro tm hlen harg
  simp +contextual only [go_sem, L6, hlen, harg, ints_cells hv, ints_israw hv, lcondB_decide, lcondB_not, lguardB_decide_true, lguardB_decide_false, ldguardB_decide, Nat.reduceLT, Nat.reduceEqDiff, Nat.reduceAdd, Nat.reduceLeDiff, reduceIte, reduceCtorEq]
  have hS : ∀ (a : Int) (n : Nat) (l : List (Nat × Option AObj)), 0 ≤ a → a < 4000000000000000000 → Sm (loc s (n + 1) ((0, some (strm v a)) :: l)) (nm s.nx 0) v L a := fun a n l h1 h2 =>
    ⟨hv, hL, h1, h2, by rw [nx_loc, nm_lt]; omega, by simp only [go_sem, lcondB_decide, lcondB_not, lguardB_decide_true, lguardB_decide_false, ldguardB_decide, Nat.reduceLT, Nat.reduceEqDiff, Nat.reduceAdd, Nat.reduceLeDiff, reduceIte, reduceCtorEq]⟩
  refine lfunG_eq (rangeS (hS 0 0 [] (by omega) (by omega)) 0 10 (by omega) (by omega) (by omega)) ?_
  have hr := nextOf_lt L 0 (n := 10 - 0 + 1) (by omega) (by omega)
  obtain ⟨n, hn⟩ : ∃ n : Nat, 0 + nextOf L 0 (10 - 0 + 1) = n := ⟨(nextOf L 0 (10 - 0 + 1)).toNat, by omega⟩
  have hn10 : n ≤ 10 := by omega
  simp +contextual only [go_sem, hlen, harg, hn, lcondB_decide, lcondB_not, lguardB_decide_true, lguardB_decide_false, ldguardB_decide, Nat.reduceLT, Nat.reduceEqDiff, Nat.reduceAdd, Nat.reduceLeDiff, reduceIte, reduceCtorEq]
  refine lfunG_of (rightS (hS _ _ _ (by omega) (by omega)) (by omega) n (by omega)) ?_
  rintro _ _ ⟨c, k1, rfl, hc, hnc, hf, hk1, rfl⟩
  have hnc' : ∀ e ∈ c, e.new.length ≤ 100000 := fun e he => by have := hnc e he; omega
  simp +contextual only [go_sem, hlen, harg, lcondB_decide, lcondB_not, lguardB_decide_true, lguardB_decide_false, ldguardB_decide, Nat.reduceLT, Nat.reduceEqDiff, Nat.reduceAdd, Nat.reduceLeDiff, reduceIte, reduceCtorEq]
  refine lfunG_eq (length_ok _ _ c (edv_sl c) (by omega) _) ?_
  simp +contextual only [go_sem, hlen, harg, length_val hf hnc', lcondB_decide, lcondB_not, lguardB_decide_true, lguardB_decide_false, ldguardB_decide, Nat.reduceLT, Nat.reduceEqDiff, Nat.reduceAdd, Nat.reduceLeDiff, reduceIte, reduceCtorEq]
  have hlong : longOf n c = (flowFrom n 0 c).length := (flow_short hf hnc').2
  refine ⟨Nat × Int, fun a => [(4, .int .i64 n), (5, edv c), (6, .int .i64 (flowFrom n 0 c).length), (7, .int .i64 0), (8, .int .i64 a.2), (9, .int .i64 a.1)], fun _ => loc s 0 [],
    fun a => a.1 ≤ n + 1 ∧ ∀ q : Int, (a.1 : Int) ≤ q → q ≤ n → a.2 ≤ mvP q false 0 c, fun a => n + 1 - a.1, (0, 0), ⟨by simp, ?_⟩, ?_, ?_⟩
  · intro q h0 hq
    have h0' : (0 : Int) ≤ q := by simpa using h0
    exact (keep_law (by omega) hf hnc' h0' hq).2.2.2.2.1
  · refine To.go [] [] rfl (OKo.refl s) (by decide) (by simp) ?_ trivial
    simp +contextual only [go_sem, hlen, harg, ren_pu (edv_pu _), lcondB_decide, lcondB_not, lguardB_decide_true, lguardB_decide_false, ldguardB_decide, Nat.reduceLT, Nat.reduceEqDiff, Nat.reduceAdd, Nat.reduceLeDiff, reduceIte, reduceCtorEq]
    simp
  · rintro ⟨i, last⟩ tm1 ⟨hi, hl⟩ hlen1 hlv
    simp only [go_sem, hlen, lcondB_decide, lcondB_not, lguardB_decide_true, lguardB_decide_false, ldguardB_decide, Nat.reduceLT, Nat.reduceEqDiff, Nat.reduceAdd, Nat.reduceLeDiff, reduceIte, reduceCtorEq] at hlen1 hlv hi hl
    simp +contextual only [go_sem, hlen, hlen1, hlv, lcondB_decide, lcondB_not, lguardB_decide_true, lguardB_decide_false, ldguardB_decide, Nat.reduceLT, Nat.reduceEqDiff, Nat.reduceAdd, Nat.reduceLeDiff, reduceIte, reduceCtorEq]
    refine ⟨fun hle => ?_, fun hgt => ?_⟩
    · have hin : (i : Int) ≤ n := by omega
      obtain ⟨g1, g2, g3, g4, g5, g6⟩ := keep_law (q := i) (by omega) hf hnc' (by omega) hin
      have hlast := hl i (by omega) hin
      rw [hlong] at g4
      refine lfunG_eq (exact_of (by simp only [Pu, low, lowL, and_self]) (moved_ok _ _ c _ _ (edv_sl c) (by omega) _)) ?_
      simp +contextual only [go_sem, hlen, hlen1, hlv, g1, lcondB_decide, lcondB_not, lguardB_decide_true, lguardB_decide_false, ldguardB_decide, Nat.reduceLT, Nat.reduceEqDiff, Nat.reduceAdd, Nat.reduceLeDiff, reduceIte, reduceCtorEq]
      refine lfunG_eq (exact_of (by simp only [Pu, low, lowL, and_self]) (moved_ok _ _ c _ _ (edv_sl c) (by omega) _)) ?_
      simp +contextual only [go_sem, hlen, hlen1, hlv, g2, lcondB_decide, lcondB_not, lguardB_decide_true, lguardB_decide_false, ldguardB_decide, Nat.reduceLT, Nat.reduceEqDiff, Nat.reduceAdd, Nat.reduceLeDiff, reduceIte, reduceCtorEq]
      refine lfunG_eq (errs_ok _ [0, 0] (some 29) (by simp) _ (by simp only [go_sem, List.map_cons, lcondB_decide, lcondB_not, lguardB_decide_true, lguardB_decide_false, ldguardB_decide, Nat.reduceLT, Nat.reduceEqDiff, Nat.reduceAdd, Nat.reduceLeDiff, reduceIte, reduceCtorEq])) ?_
      have he2 : errsOf [0, 0] = 0 := by decide
      have d1 : decide (mvP i false 0 c < last) = false := decide_eq_false (by omega)
      have d2 : decide (mvP i true 0 c < mvP i false 0 c) = false := decide_eq_false (by omega)
      have d3 : decide (mvP i true 0 c > ((flowFrom n 0 c).length : Int)) = false := decide_eq_false (by omega)
      have hw : IntKind.i64.wrap ((i : Int) + 1) = ((i + 1 : Nat) : Int) := by rw [wrap_id (by omega)]; rfl
      simp +contextual only [go_sem, hlen, hlen1, hlv, he2, d1, d2, d3, hw, Nat.reduceLT, Nat.reduceEqDiff, Nat.reduceAdd, Nat.reduceLeDiff, reduceIte, reduceCtorEq]
      refine ⟨(i + 1, mvP i false 0 c), ⟨by simp only; omega, fun q h1 h2 => ?_⟩, by simp only; omega, ?_⟩
      · have h1' : (i : Int) ≤ q := by simp only [Int.natCast_add] at h1; omega
        exact (keep_law (q := q) (by omega) hf hnc' (by omega) h2).2.2.2.2.2 i (by omega) h1'
      · refine To.go [] [] rfl (OKo.refl s) (by decide) (by simp) ?_ trivial
        simp +contextual only [go_sem, hlen1, hlv, ren_pu (edv_pu _), lcondB_decide, lcondB_not, lguardB_decide_true, lguardB_decide_false, ldguardB_decide, Nat.reduceLT, Nat.reduceEqDiff, Nat.reduceAdd, Nat.reduceLeDiff, reduceIte, reduceCtorEq]
    · refine lfunG_eq (hready _) ?_
      simp only [go_sem, hlen1, hlv, lcondB_decide, lcondB_not, lguardB_decide_true, lguardB_decide_false, ldguardB_decide, Nat.reduceLT, Nat.reduceEqDiff, Nat.reduceAdd, Nat.reduceLeDiff, reduceIte, reduceCtorEq]
      exact lexit_pure (.refl s) (by simp only [low]) ⟨rfl, rfl⟩
end Go.S1N
end
section
set_option linter.unusedVariables false
set_option linter.unusedSimpArgs false
namespace Go.S1N
open Go Go.Proofs
set_option maxRecDepth 100000
def fastVia (P : Program) : Nat → List FuncId → List FuncId → Nat → List FuncId
  | 0, _, seen, _ => seen.reverse
  | n + 1, todo, seen, mask => match todo with
    | [] => seen.reverse
    | f :: todo => match Nat.testBit mask f with
      | true => fastVia P n todo seen mask
      | false => fastVia P n ((P.funcs[f]?).elim [] P.leadsTo ++ todo) (f :: seen) (mask ||| 2 ^ f)
theorem fastVia_eq (P : Program) : ∀ (n : Nat) (todo seen : List FuncId) (mask : Nat), (∀ x, Nat.testBit mask x = seen.contains x) → P.closureVia n todo seen = fastVia P n todo seen mask
  | 0, todo, seen, mask, h => by simp [Program.closureVia, fastVia]
  | n + 1, [], seen, mask, h => by simp [Program.closureVia, fastVia]
  | n + 1, f :: todo, seen, mask, h => by
    rw [Program.closureVia, fastVia, h f]
    cases hc : seen.contains f with
    | true => simp only [if_true]; exact fastVia_eq P n todo seen mask h
    | false =>
      simp only [Bool.false_eq_true, if_false]
      refine fastVia_eq P n _ _ _ fun x => ?_
      rw [Nat.testBit_or, h x, Nat.testBit_two_pow, List.contains_cons]
      by_cases e : f = x
      · subst e; simp
      · have e2 : (x == f) = false := by simpa using fun q => e q.symm
        simp [e, e2]
theorem closure_fast (P : Program) (f : FuncId) : P.closure f = fastVia P (1 + (P.funcs.toList.map fun g => (P.leadsTo g).length + 1).sum) [f] [] 0 := by
  unfold Program.closure
  exact fastVia_eq P _ _ _ _ fun x => by simp
end Go.S1N
end
