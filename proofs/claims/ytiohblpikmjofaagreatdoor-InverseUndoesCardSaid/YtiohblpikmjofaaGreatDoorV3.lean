/- Part 3 of a proof: texts of this work, put together. -/
import Derived.Test.YtiohblpikmjofaaGreatDoorV2
import Derived.KernelRfl
import Derived.Shelf.Lay
import Derived.Ground.NamesProg
import Derived.Test.YtiohblpikmjofaaGreatDoorRows
section
set_option linter.unusedVariables false
set_option linter.unusedSimpArgs false
namespace Go.S1N
open Go Go.Am Go.Proofs Go.S1
set_option maxRecDepth 100000
set_option linter.unusedSimpArgs false
attribute [local irreducible] lopsB lvb lstepB lfunG lcondB lguardB ldrawB ldrunB ldstepB ldguardB lmem lval ldmem ldval ldfun lexit ldloadB ldlenB lpostB athen ablock
def strm (Lv : AV) (at_ : Int) : AObj := .cells [Lv, .int .i64 at_] (some 25)
theorem _root_.Go.S1.IsInts.pu {v : AV} {l : List Int} (h : IsInts v l) : Pu v := by
  rcases h with ⟨f, rfl⟩ | ⟨rfl, rfl⟩
  · simp only [Pu, low, lowL_iff, List.mem_map]
    rintro x ⟨e, _, rfl⟩
    simp only [low]
  · simp only [Pu, low]
structure Sm (s : AHeap) (b : Nat) (Lv : AV) (L : List Int) (at_ : Int) : Prop where
  ints : IsInts Lv L
  len : L.length < 4611686018427387904
  at0 : 0 ≤ at_
  at1 : at_ < 4000000000000000000
  lt : b < s.nx
  get : s.get b = some (strm Lv at_)
theorem Sm.lowO {s : AHeap} {b : Nat} {Lv : AV} {L : List Int} {at_ : Int} (h : Sm s b Lv L at_) {n : Nat} {a : Int} : lowO n (strm Lv a) := by
  simp only [strm, Am.lowO, lowL, low, and_true]
  exact low.mono (Nat.zero_le _) h.ints.pu
theorem Sm.upd {s : AHeap} {b : Nat} {Lv : AV} {L : List Int} {at_ a : Int} (h : Sm s b Lv L at_) (h0 : 0 ≤ a) (h1 : a < 4000000000000000000) : Sm (s.upd b (strm Lv a)) b Lv L a :=
  ⟨h.ints, h.len, h0, h1, by rw [AHeap.nx_upd]; exact h.lt, get_upd_same⟩
theorem Sm.loc {s : AHeap} {b : Nat} {Lv : AV} {L : List Int} {at_ : Int} (h : Sm s b Lv L at_) {n : Nat} {l : List (Nat × Option AObj)} : Sm (loc s n l) b Lv L at_ :=
  ⟨h.ints, h.len, h.at0, h.at1, by rw [nx_loc]; exact lt_nm h.lt, by rw [get_loc_out h.lt]; exact h.get⟩
theorem nextS {s : AHeap} {b : Nat} {Lv : AV} {L : List Int} {at_ : Int} (h : Sm s b Lv L at_) (n : Int) :
    ACall Tryz.prog 41 [.ptr b 0, .int .i64 n] s fun v t => v = .int .i64 (nextOf L at_ n) ∧ t = s.upd b (strm Lv (at_ + 1)) := by
  refine gob41 (by simp) ?_
  intro tm hlen harg
  have hb := h.lt
  have hg := h.get
  have hlow := h.lowO (n := s.nx) (a := at_ + 1)
  have hL := h.ints
  have h0 := h.at0
  have e1 : IntKind.i64.wrap (at_ + 1) = at_ + 1 := wrap_id (by have := h.at1; omega)
  have hll := h.len
  rw [strm] at hg
  simp only [strm] at hlow ⊢
  simp +contextual only [go_sem, L41, hlen, harg, hb, hg, e1, hL.len, lcondB_decide, lcondB_not, lguardB_decide_true, lguardB_decide_false, ldguardB_decide, Nat.reduceLT, Nat.reduceEqDiff, Nat.reduceAdd, Nat.reduceLeDiff, reduceIte, reduceCtorEq]
  refine ⟨fun hz => ?_, fun hz => ?_⟩
  · have hL0 : L = [] := List.eq_nil_of_length_eq_zero (by omega)
    refine lfunG_eq (below_ok _ _ _) ?_
    simp +contextual only [go_sem, hlen, lcondB_decide, lcondB_not, lguardB_decide_true, lguardB_decide_false, ldguardB_decide, Nat.reduceLT, Nat.reduceEqDiff, Nat.reduceAdd, Nat.reduceLeDiff, reduceIte, reduceCtorEq]
    subst hL0
    refine lexit_pure ((OKo.refl s).upd hb hlow) (by simp only [low]) ⟨?_, rfl⟩
    simp [nextOf, e1, wr]
  · have hL0 : L ≠ [] := by rintro rfl; simp at hz
    have hlz : (L.length : Int) ≠ 0 := hz
    have e2 : IntKind.i64.wrap (at_ + 1 - 1) = at_ := by rw [wrap_id (by have := h.at1; omega)]; omega
    refine ldrawB_go [] [] 10 (by decide) ?_
    simp +contextual only [go_sem, hlen, harg, hb, hg, e1, e2, hL.len, abin_rem hlz, lcondB_decide, lcondB_not, lguardB_decide_true, lguardB_decide_false, ldguardB_decide, Nat.reduceLT, Nat.reduceEqDiff, Nat.reduceAdd, Nat.reduceLeDiff, reduceIte, reduceCtorEq]
    refine ⟨by kernel_rfl, ?_⟩
    refine ldrawB_go [] [] 10 (by decide) ?_
    simp +contextual only [go_sem, hlen, harg, hb, hg, e1, e2, hL.len, abin_quo hlz, lcondB_decide, lcondB_not, lguardB_decide_true, lguardB_decide_false, ldguardB_decide, Nat.reduceLT, Nat.reduceEqDiff, Nat.reduceAdd, Nat.reduceLeDiff, reduceIte, reduceCtorEq]
    refine ⟨by kernel_rfl, ?_⟩
    have hi0 : 0 ≤ at_.tmod L.length := Int.tmod_nonneg _ h0
    have hi1 : at_.tmod L.length < L.length := Int.tmod_lt_of_pos _ (by omega)
    obtain ⟨x, hx⟩ : ∃ x, L[(at_.tmod L.length).toNat]? = some x := ⟨_, List.getElem?_eq_getElem (by omega)⟩
    simp +contextual only [go_sem, hlen, harg, hb, hg, e1, e2, hL.len, hL.at hi0 hx, lcondB_decide, lcondB_not, lguardB_decide_true, lguardB_decide_false, ldguardB_decide, Nat.reduceLT, Nat.reduceEqDiff, Nat.reduceAdd, Nat.reduceLeDiff, reduceIte, reduceCtorEq]
    refine lfunG_eq (below_ok _ _ _) ?_
    simp +contextual only [go_sem, hlen, harg, lcondB_decide, lcondB_not, lguardB_decide_true, lguardB_decide_false, ldguardB_decide, Nat.reduceLT, Nat.reduceEqDiff, Nat.reduceAdd, Nat.reduceLeDiff, reduceIte, reduceCtorEq]
    refine lfunG_eq (below_ok _ _ _) ?_
    simp +contextual only [go_sem, hlen, lcondB_decide, lcondB_not, lguardB_decide_true, lguardB_decide_false, ldguardB_decide, Nat.reduceLT, Nat.reduceEqDiff, Nat.reduceAdd, Nat.reduceLeDiff, reduceIte, reduceCtorEq]
    refine lexit_pure ((OKo.refl s).upd hb hlow) (by simp only [low]) ⟨?_, rfl⟩
    have hx' : L.getD (at_.tmod L.length).toNat 0 = x := by rw [List.getD_eq_getElem?_getD, hx]; rfl
    simp only [nextOf, if_neg hL0, wr, e1, e2, hx']
theorem flipS {s : AHeap} {b : Nat} {Lv : AV} {L : List Int} {at_ : Int} (h : Sm s b Lv L at_) (n : Int) :
    ACall Tryz.prog 50 [.ptr b 0, .int .i64 n] s fun v t => v = .bool (decide (nextOf L at_ n = 0)) ∧ t = s.upd b (strm Lv (at_ + 1)) := by
  refine gob50 (by simp) ?_
  intro tm hlen harg
  have hb := h.lt
  simp +contextual only [go_sem, L50, hlen, harg, lcondB_decide, lcondB_not, lguardB_decide_true, lguardB_decide_false, ldguardB_decide, Nat.reduceLT, Nat.reduceEqDiff, Nat.reduceAdd, Nat.reduceLeDiff, reduceIte, reduceCtorEq]
  refine lfunG_eq (nextS h.loc _) ?_
  simp +contextual only [go_sem, hlen, hb, lcondB_decide, lcondB_not, lguardB_decide_true, lguardB_decide_false, ldguardB_decide, Nat.reduceLT, Nat.reduceEqDiff, Nat.reduceAdd, Nat.reduceLeDiff, reduceIte, reduceCtorEq]
  exact lexit_pure ((OKo.refl s).upd hb h.lowO) (by simp only [low]) ⟨rfl, rfl⟩
theorem rangeS {s : AHeap} {b : Nat} {Lv : AV} {L : List Int} {at_ : Int} (h : Sm s b Lv L at_) (lo hi : Int) (hlh : lo ≤ hi) (hhi : hi < 2000000000000000000) (hl2 : -2000000000000000000 < lo) :
    ACall Tryz.prog 19 [.ptr b 0, .int .i64 lo, .int .i64 hi] s fun v t => v = .int .i64 (lo + nextOf L at_ (hi - lo + 1)) ∧ t = s.upd b (strm Lv (at_ + 1)) := by
  refine gob19 (by simp) ?_
  intro tm hlen harg
  have hb := h.lt
  have e1 : IntKind.i64.wrap (hi - lo) = hi - lo := wrap_id (by omega)
  have e2 : IntKind.i64.wrap (hi - lo + 1) = hi - lo + 1 := wrap_id (by omega)
  have hbd := nextOf_lt L at_ (show 1 ≤ hi - lo + 1 by omega) (by omega)
  have e3 : IntKind.i64.wrap (lo + nextOf L at_ (hi - lo + 1)) = lo + nextOf L at_ (hi - lo + 1) := wrap_id (by omega)
  have hlt : ¬ hi < lo := by omega
  simp +contextual only [go_sem, L19, hlen, harg, e1, e2, hlt, lcondB_decide, lcondB_not, lguardB_decide_true, lguardB_decide_false, ldguardB_decide, Nat.reduceLT, Nat.reduceEqDiff, Nat.reduceAdd, Nat.reduceLeDiff, reduceIte, reduceCtorEq]
  refine lfunG_eq (nextS h.loc _) ?_
  simp +contextual only [go_sem, hlen, harg, hb, e3, lcondB_decide, lcondB_not, lguardB_decide_true, lguardB_decide_false, ldguardB_decide, Nat.reduceLT, Nat.reduceEqDiff, Nat.reduceAdd, Nat.reduceLeDiff, reduceIte, reduceCtorEq]
  exact lexit_pure ((OKo.refl s).upd hb h.lowO) (by simp only [low]) ⟨rfl, rfl⟩
theorem pickS {s : AHeap} {b : Nat} {Lv : AV} {L : List Int} {at_ : Int} (h : Sm s b Lv L at_) (c : Nat) (l : List Int) (To : Option TypeId) (hl : l ≠ []) (hl2 : l.length < 1000) (hc : s.get c = some (.cells (l.map (AV.int .i64)) To)) (hne : c ≠ b) (hcn : c < s.nx) :
    ACall Tryz.prog 49 [.ptr b 0, .rs 1 c 0 l.length] s fun v t => v = .int .i64 (l.getD (nextOf L at_ l.length).toNat 0) ∧ t = s.upd b (strm Lv (at_ + 1)) := by
  refine gob49 (by simp) ?_
  intro tm hlen harg
  have hb := h.lt
  have hpos : 0 < l.length := List.length_pos_iff.2 hl
  have hbd := nextOf_lt L at_ (n := l.length) (by omega) (by omega)
  obtain ⟨x, hx⟩ : ∃ x, l[(nextOf L at_ l.length).toNat]? = some x := ⟨_, List.getElem?_eq_getElem (by omega)⟩
  have hgc : (s.upd b (strm Lv (at_ + 1))).get c = some (.cells (l.map (AV.int .i64)) To) := by rw [AHeap.get_upd, if_neg hne, hc]
  have hd : (List.drop (nextOf L at_ l.length).toNat (l.map (AV.int .i64)))[0]? = some (.int .i64 x) := by simp [hx]
  simp +contextual only [go_sem, L49, hlen, harg, lcondB_decide, lcondB_not, lguardB_decide_true, lguardB_decide_false, ldguardB_decide, Nat.reduceLT, Nat.reduceEqDiff, Nat.reduceAdd, Nat.reduceLeDiff, reduceIte, reduceCtorEq]
  refine lfunG_eq (nextS h.loc _) ?_
  simp +contextual only [go_sem, hlen, harg, hb, hcn, rs_at hbd.1 hbd.2, hgc, hd, lcondB_decide, lcondB_not, lguardB_decide_true, lguardB_decide_false, ldguardB_decide, Nat.reduceLT, Nat.reduceEqDiff, Nat.reduceAdd, Nat.reduceLeDiff, reduceIte, reduceCtorEq]
  refine lexit_pure ((OKo.refl s).upd hb h.lowO) (by simp only [low]) ⟨?_, rfl⟩
  rw [List.getD_eq_getElem?_getD, hx]
  rfl
theorem someS {s : AHeap} {b : Nat} {Lv : AV} {L : List Int} {at_ : Int} (h : Sm s b Lv L at_) (c : Nat) (l : List (List UInt8)) (To : Option TypeId) (hl : l ≠ []) (hl2 : l.length < 1000) (hc : s.get c = some (.cells (l.map AV.str) To)) (hne : c ≠ b) (hcn : c < s.nx) :
    ACall Tryz.prog 28 [.ptr b 0, .rs 1 c 0 l.length] s fun v t => v = .str (l.getD (nextOf L at_ l.length).toNat []) ∧ t = s.upd b (strm Lv (at_ + 1)) := by
  refine gob28 (by simp) ?_
  intro tm hlen harg
  have hb := h.lt
  have hpos : 0 < l.length := List.length_pos_iff.2 hl
  have hbd := nextOf_lt L at_ (n := l.length) (by omega) (by omega)
  obtain ⟨x, hx⟩ : ∃ x, l[(nextOf L at_ l.length).toNat]? = some x := ⟨_, List.getElem?_eq_getElem (by omega)⟩
  have hgc : (s.upd b (strm Lv (at_ + 1))).get c = some (.cells (l.map AV.str) To) := by rw [AHeap.get_upd, if_neg hne, hc]
  have hd : (List.drop (nextOf L at_ l.length).toNat (l.map AV.str))[0]? = some (.str x) := by simp [hx]
  simp +contextual only [go_sem, L28, hlen, harg, lcondB_decide, lcondB_not, lguardB_decide_true, lguardB_decide_false, ldguardB_decide, Nat.reduceLT, Nat.reduceEqDiff, Nat.reduceAdd, Nat.reduceLeDiff, reduceIte, reduceCtorEq]
  refine lfunG_eq (nextS h.loc _) ?_
  simp +contextual only [go_sem, hlen, harg, hb, hcn, rs_at63 hbd.1 hbd.2, hgc, hd, lcondB_decide, lcondB_not, lguardB_decide_true, lguardB_decide_false, ldguardB_decide, Nat.reduceLT, Nat.reduceEqDiff, Nat.reduceAdd, Nat.reduceLeDiff, reduceIte, reduceCtorEq]
  refine lexit_pure ((OKo.refl s).upd hb h.lowO) (by simp only [low]) ⟨?_, rfl⟩
  rw [List.getD_eq_getElem?_getD, hx]
  rfl
end Go.S1N
end
section
set_option linter.unusedVariables false
set_option linter.unusedSimpArgs false
namespace Go.S1N
open Go Go.Am Go.Proofs Go.S1
set_option maxRecDepth 100000
set_option linter.unusedSimpArgs false
attribute [local irreducible] lopsB lvb lstepB lfunG lcondB lguardB ldrawB ldrunB ldstepB ldguardB lmem lval ldmem ldval ldfun lexit ldloadB ldlenB lpostB athen ablock
theorem lettersS {s : AHeap} {b : Nat} {Lv : AV} {L : List Int} {at_ : Int} (h : Sm s b Lv L at_) (h1 : at_ < 3000000000000000000) (most : Int) (hm0 : 0 ≤ most) (hm : most ≤ 1000) :
    ACall Tryz.prog 9 [.ptr b 0, .int .i64 most] s fun v t => ∃ (x : List UInt8) (k : Nat), v = .str x ∧ x.length ≤ most ∧ k ≤ most + 1 ∧ t = s.upd b (strm Lv (at_ + k)) := by
  refine gob9 (by simp) ?_
  intro tm hlen harg
  have hb := h.lt
  simp +contextual only [go_sem, L9, hlen, harg, lcondB_decide, lcondB_not, lguardB_decide_true, lguardB_decide_false, ldguardB_decide, Nat.reduceLT, Nat.reduceEqDiff, Nat.reduceAdd, Nat.reduceLeDiff, reduceIte, reduceCtorEq]
  refine lfunG_eq (rangeS h.loc 0 most hm0 (by omega) (by omega)) ?_
  have hN := nextOf_lt L at_ (show 1 ≤ most - 0 + 1 by omega) (by omega)
  generalize nextOf L at_ (most - 0 + 1) = N at hN
  simp +contextual only [go_sem, hlen, harg, hb, Int.zero_add, lcondB_decide, lcondB_not, lguardB_decide_true, lguardB_decide_false, ldguardB_decide, Nat.reduceLT, Nat.reduceEqDiff, Nat.reduceAdd, Nat.reduceLeDiff, reduceIte, reduceCtorEq]
  refine ⟨Nat × List UInt8, fun a => [(0, .ptr b 0), (5, .str a.2), (8, .int .i64 N), (9, .int .i64 a.1)], fun a => loc (s.upd b (strm Lv (at_ + 1 + a.1))) 0 [], fun a => (a.1 : Int) ≤ N ∧ a.2.length ≤ a.1, fun a => N.toNat - a.1, (0, []),
    ⟨by simp; omega, by simp⟩, ?_, ?_⟩
  · refine To.go [] [] (by simp) ((OKo.refl s).upd hb h.lowO) (by decide) (by simp) ?_ trivial
    simp +contextual only [go_sem, hlen, harg, rnm_low hb, lcondB_decide, lcondB_not, lguardB_decide_true, lguardB_decide_false, ldguardB_decide, Nat.reduceLT, Nat.reduceEqDiff, Nat.reduceAdd, Nat.reduceLeDiff, reduceIte, reduceCtorEq]
    simp
  · rintro ⟨i, x⟩ tm1 ⟨hi, hx⟩ hlen1 hlv
    simp only [go_sem, hlen, lcondB_decide, lcondB_not, lguardB_decide_true, lguardB_decide_false, ldguardB_decide, Nat.reduceLT, Nat.reduceEqDiff, Nat.reduceAdd, Nat.reduceLeDiff, reduceIte, reduceCtorEq] at hlen1 hlv hi hx
    have hS := (h.upd (a := at_ + 1 + i) (by have := h.at0; omega) (by omega)).loc (n := 1) (l := [(0, some (.cells [.str [97], .str [98], .str [99], .str [97], .str [10]] (some 9)))])
    simp +contextual only [go_sem, hlen, hlen1, hlv, lcondB_decide, lcondB_not, lguardB_decide_true, lguardB_decide_false, ldguardB_decide, Nat.reduceLT, Nat.reduceEqDiff, Nat.reduceAdd, Nat.reduceLeDiff, reduceIte, reduceCtorEq]
    refine ⟨fun hlt => ?_, fun hge => ?_⟩
    · refine lfunG_eq (someS hS (nm s.nx 0) [[97], [98], [99], [97], [10]] (some 9) (by simp) (by simp) (by simp only [go_sem, List.map_cons, lcondB_decide, lcondB_not, lguardB_decide_true, lguardB_decide_false, ldguardB_decide, Nat.reduceLT, Nat.reduceEqDiff, Nat.reduceAdd, Nat.reduceLeDiff, reduceIte, reduceCtorEq]) (by rw [ne_eq, nm_ne hb]; simp) (by simp only [go_sem, lcondB_decide, lcondB_not, lguardB_decide_true, lguardB_decide_false, ldguardB_decide, Nat.reduceLT, Nat.reduceEqDiff, Nat.reduceAdd, Nat.reduceLeDiff, reduceIte, reduceCtorEq])) ?_
      have hy : ∀ j, ([[97], [98], [99], [97], [10]].getD j ([] : List UInt8)).length ≤ 1 := by
        intro j
        rcases j with _ | _ | _ | _ | _ | j <;> simp
      generalize (nextOf L (at_ + 1 + i) _).toNat = j
      have hyj := hy j
      generalize [[97], [98], [99], [97], [10]].getD j ([] : List UInt8) = y at hyj
      have hw : IntKind.i64.wrap ((i : Int) + 1) = ((i + 1 : Nat) : Int) := by rw [wrap_id (by omega)]; rfl
      simp +contextual only [go_sem, hlen, hlen1, hlv, hb, hw, abin_sadd (show x.length + y.length ≤ 9000000000000000000 by omega), lcondB_decide, lcondB_not, lguardB_decide_true, lguardB_decide_false, ldguardB_decide, Nat.reduceLT, Nat.reduceEqDiff, Nat.reduceAdd, Nat.reduceLeDiff, reduceIte, reduceCtorEq]
      refine ⟨(i + 1, x ++ y), ⟨by simp only; omega, by simp only [List.length_append]; omega⟩, by simp only; omega, ?_⟩
      refine To.go [] [] (by show loc (s.upd b (strm Lv (at_ + 1 + ((i + 1 : Nat) : Int)))) 0 [] = _; rw [show at_ + 1 + ((i + 1 : Nat) : Int) = at_ + 1 + i + 1 from by omega]; rfl) ((OKo.refl s).upd hb h.lowO) (by decide) (by simp) ?_ trivial
      simp +contextual only [go_sem, hlen1, hlv, rnm_low hb, lcondB_decide, lcondB_not, lguardB_decide_true, lguardB_decide_false, ldguardB_decide, Nat.reduceLT, Nat.reduceEqDiff, Nat.reduceAdd, Nat.reduceLeDiff, reduceIte, reduceCtorEq]
    · refine lexit_pure ((OKo.refl s).upd hb h.lowO) (by simp only [low]) ⟨x, i + 1, rfl, by omega, by omega, ?_⟩
      congr 2
      omega
end Go.S1N
end
section
set_option linter.unusedVariables false
set_option linter.unusedSimpArgs false
namespace Go.S1N
open Go Go.Am Go.Proofs Go.S1
set_option maxRecDepth 100000
set_option linter.unusedSimpArgs false
attribute [local irreducible] lopsB lvb lstepB lfunG lcondB lguardB ldrawB ldrunB ldstepB ldguardB lmem lval ldmem ldval ldfun lexit ldloadB ldlenB lpostB athen ablock
theorem getD_le {l : List (List UInt8)} {k : Nat} (h : ∀ x ∈ l, x.length ≤ k) (j : Nat) : (l.getD j []).length ≤ k := by
  rw [List.getD_eq_getElem?_getD]
  cases hj : l[j]? with
  | none => simp
  | some x => exact h x (List.mem_of_getElem? hj)
theorem anEditS {s : AHeap} {b : Nat} {Lv : AV} {L : List Int} {at_ : Int} (h : Sm s b Lv L at_) (h1 : at_ < 3900000000000000000) (n : Int) :
    ACall Tryz.prog 51 [.ptr b 0, .int .i64 n] s fun v t => ∃ (e : Ed) (k : Nat), v = e.enc ∧ e.new.length ≤ 4 ∧ k ≤ 6 ∧ t = s.upd b (strm Lv (at_ + k)) := by
  refine gob51 (by simp) ?_
  intro tm hlen harg
  have hb := h.lt
  have h0 := h.at0
  simp +contextual only [go_sem, L51, hlen, harg, lcondB_decide, lcondB_not, lguardB_decide_true, lguardB_decide_false, ldguardB_decide, Nat.reduceLT, Nat.reduceEqDiff, Nat.reduceAdd, Nat.reduceLeDiff, reduceIte, reduceCtorEq]
  refine lfunG_eq (nextS h.loc _) ?_
  simp +contextual only [go_sem, hlen, harg, hb, lcondB_decide, lcondB_not, lguardB_decide_true, lguardB_decide_false, ldguardB_decide, Nat.reduceLT, Nat.reduceEqDiff, Nat.reduceAdd, Nat.reduceLeDiff, reduceIte, reduceCtorEq]
  refine lfunG_eq (pickS ((h.upd (by omega) (by omega)).loc) (nm s.nx 1) [0, 0, 1, 2, 5] (some 3) (by simp) (by simp) (by simp only [go_sem, List.map_cons, lcondB_decide, lcondB_not, lguardB_decide_true, lguardB_decide_false, ldguardB_decide, Nat.reduceLT, Nat.reduceEqDiff, Nat.reduceAdd, Nat.reduceLeDiff, reduceIte, reduceCtorEq]) (by rw [ne_eq, nm_ne hb]; simp) (by simp only [go_sem, lcondB_decide, lcondB_not, lguardB_decide_true, lguardB_decide_false, ldguardB_decide, Nat.reduceLT, Nat.reduceEqDiff, Nat.reduceAdd, Nat.reduceLeDiff, reduceIte, reduceCtorEq])) ?_
  simp +contextual only [go_sem, hlen, harg, hb, lcondB_decide, lcondB_not, lguardB_decide_true, lguardB_decide_false, ldguardB_decide, Nat.reduceLT, Nat.reduceEqDiff, Nat.reduceAdd, Nat.reduceLeDiff, reduceIte, reduceCtorEq]
  refine lfunG_eq (someS ((h.upd (by omega) (by omega)).loc) (nm s.nx 2) [[], [97], [32], [49], [43], [41], [35], [34], [97, 98, 32, 49], [46]] (some 9) (by simp) (by simp) (by simp only [go_sem, List.map_cons, lcondB_decide, lcondB_not, lguardB_decide_true, lguardB_decide_false, ldguardB_decide, Nat.reduceLT, Nat.reduceEqDiff, Nat.reduceAdd, Nat.reduceLeDiff, reduceIte, reduceCtorEq]) (by rw [ne_eq, nm_ne hb]; simp) (by simp only [go_sem, lcondB_decide, lcondB_not, lguardB_decide_true, lguardB_decide_false, ldguardB_decide, Nat.reduceLT, Nat.reduceEqDiff, Nat.reduceAdd, Nat.reduceLeDiff, reduceIte, reduceCtorEq])) ?_
  simp +contextual only [go_sem, hlen, harg, hb, lcondB_decide, lcondB_not, lguardB_decide_true, lguardB_decide_false, ldguardB_decide, Nat.reduceLT, Nat.reduceEqDiff, Nat.reduceAdd, Nat.reduceLeDiff, reduceIte, reduceCtorEq]
  refine lfunG_eq (flipS ((h.upd (by omega) (by omega)).loc) _) ?_
  have hS := getD_le (l := [[], [97], [32], [49], [43], [41], [35], [34], [97, 98, 32, 49], [46]]) (k := 4) (by simp) (nextOf L (at_ + 1 + 1) (([[], [97], [32], [49], [43], [41], [35], [34], [97, 98, 32, 49], [46]] : List (List UInt8)).length)).toNat
  generalize ([[], [97], [32], [49], [43], [41], [35], [34], [97, 98, 32, 49], [46]] : List (List UInt8)).getD _ [] = y at hS ⊢
  simp +contextual only [go_sem, hlen, harg, hb, lcondB_decide, lcondB_not, lguardB_decide_true, lguardB_decide_false, ldguardB_decide, Nat.reduceLT, Nat.reduceEqDiff, Nat.reduceAdd, Nat.reduceLeDiff, reduceIte, reduceCtorEq]
  refine ⟨fun hf => ?_, fun hf => ?_⟩
  · refine lfunG_eq (pickS ((h.upd (by omega) (by omega)).loc) (nm s.nx 4) [-1, _, _] (some 3) (by simp) (by simp) (by simp only [go_sem, List.map_cons, lcondB_decide, lcondB_not, lguardB_decide_true, lguardB_decide_false, ldguardB_decide, Nat.reduceLT, Nat.reduceEqDiff, Nat.reduceAdd, Nat.reduceLeDiff, reduceIte, reduceCtorEq]; rfl) (by rw [ne_eq, nm_ne hb]; simp) (by simp only [go_sem, lcondB_decide, lcondB_not, lguardB_decide_true, lguardB_decide_false, ldguardB_decide, Nat.reduceLT, Nat.reduceEqDiff, Nat.reduceAdd, Nat.reduceLeDiff, reduceIte, reduceCtorEq])) ?_
    simp +contextual only [go_sem, hlen, harg, hb, lcondB_decide, lcondB_not, lguardB_decide_true, lguardB_decide_false, ldguardB_decide, Nat.reduceLT, Nat.reduceEqDiff, Nat.reduceAdd, Nat.reduceLeDiff, reduceIte, reduceCtorEq]
    refine lfunG_eq (pickS ((h.upd (by omega) (by omega)).loc) (nm s.nx 5) [0, -1, _] (some 3) (by simp) (by simp) (by simp only [go_sem, List.map_cons, lcondB_decide, lcondB_not, lguardB_decide_true, lguardB_decide_false, ldguardB_decide, Nat.reduceLT, Nat.reduceEqDiff, Nat.reduceAdd, Nat.reduceLeDiff, reduceIte, reduceCtorEq]; rfl) (by rw [ne_eq, nm_ne hb]; simp) (by simp only [go_sem, lcondB_decide, lcondB_not, lguardB_decide_true, lguardB_decide_false, ldguardB_decide, Nat.reduceLT, Nat.reduceEqDiff, Nat.reduceAdd, Nat.reduceLeDiff, reduceIte, reduceCtorEq])) ?_
    simp +contextual only [go_sem, hlen, harg, hb, lcondB_decide, lcondB_not, lguardB_decide_true, lguardB_decide_false, ldguardB_decide, Nat.reduceLT, Nat.reduceEqDiff, Nat.reduceAdd, Nat.reduceLeDiff, reduceIte, reduceCtorEq]
    refine lexit_pure ((OKo.refl s).upd hb h.lowO) (by simp only [low, lowL, and_self]) ⟨⟨_, _, y⟩, 6, rfl, hS, by omega, ?_⟩
    congr 2
    omega
  · refine lexit_pure ((OKo.refl s).upd hb h.lowO) (by simp only [low, lowL, and_self]) ⟨⟨_, _, y⟩, 4, rfl, hS, by omega, ?_⟩
    congr 2
    omega
end Go.S1N
end
section
set_option linter.unusedVariables false
set_option linter.unusedSimpArgs false
namespace Go.S1N
open Go Go.Am Go.Proofs Go.S1
set_option maxRecDepth 100000
set_option linter.unusedSimpArgs false
attribute [local irreducible] lopsB lvb lstepB lfunG lcondB lguardB ldrawB ldrunB ldstepB ldguardB lmem lval ldmem ldval ldfun lexit ldloadB ldlenB lpostB athen ablock
def edc (l : List Ed) : List AV := (l.map Ed.enc).flatMap AV.cells
theorem edc_len (l : List Ed) : (edc l).length = l.length * 3 := by
  unfold edc
  induction l with
  | nil => rfl
  | cons e l ih => simp only [List.map_cons, List.flatMap_cons, List.length_append, ih, List.length_cons, Ed.enc, AV.cells, List.length_nil]; omega
theorem edc_snoc (l : List Ed) (e : Ed) : edc (l ++ [e]) = edc l ++ [.int .i64 e.at_, .int .i64 e.cut, .str e.new] := by
  simp [edc, Ed.enc, AV.cells]
theorem edc_pul (l : List Ed) : PuL (edc l) := by
  unfold edc
  induction l with
  | nil => simp only [List.map_nil, List.flatMap_nil, PuL, lowL]
  | cons e l ih =>
    rw [List.map_cons, List.flatMap_cons, PuL, lowL_append]
    exact ⟨by simp only [Ed.enc, AV.cells, lowL, low, and_self], ih⟩
def edv (l : List Ed) : AV := fsv 3 (l.map Ed.enc)
theorem edv_sl (l : List Ed) : SlE (edv l) l := by
  unfold edv
  cases l with
  | nil => exact .inr ⟨rfl, rfl⟩
  | cons e l => exact .inl ⟨false, fsv_pos (by simp)⟩
theorem edv_pu (l : List Ed) : Pu (edv l) := (edv_sl l).pu
theorem enc_len (l : List Ed) : ∀ x ∈ l.map Ed.enc, x.cells.length = 3 := by
  intro x hx
  obtain ⟨e, _, rfl⟩ := List.mem_map.1 hx
  rfl
theorem len_fz {b : Nat} {l : List Ed} : fz b 3 (l.map Ed.enc) (gsv 3 b l.length) = edv l := by
  rw [show l.length = (l.map Ed.enc).length from (List.length_map ..).symm, fz_gsv]; rfl
theorem len_fz1 {b : Nat} {l : List Ed} {e : Ed} : fz b 3 ((l ++ [e]).map Ed.enc) (.rs 3 b 0 (l.length + 1)) = edv (l ++ [e]) := by
  simp only [fz, List.length_map, List.length_append, List.length_cons, List.length_nil, Nat.zero_add, and_self, if_true, edv]
  rw [fsv_pos (by simp)]
theorem loc_at {s : AHeap} {b : Nat} {Lv : AV} {a a' : Int} {n : Nat} {l : List (Nat × Option AObj)} (h : a = a') : loc (s.upd b (strm Lv a)) n l = loc (s.upd b (strm Lv a')) n l := by rw [h]
theorem getI_le {l : List Int} {lo hi : Int} (h0 : lo ≤ 0 ∧ 0 ≤ hi) (h : ∀ x ∈ l, lo ≤ x ∧ x ≤ hi) (j : Nat) : lo ≤ l.getD j 0 ∧ l.getD j 0 ≤ hi := by
  rw [List.getD_eq_getElem?_getD]
  cases hj : l[j]? with
  | none => simpa using h0
  | some x => exact h x (List.mem_of_getElem? hj)
theorem changeS {s : AHeap} {b : Nat} {Lv : AV} {L : List Int} {at_ : Int} (h : Sm s b Lv L at_) (h1 : at_ < 3800000000000000000) (n : Int) :
    ACall Tryz.prog 29 [.ptr b 0, .int .i64 n] s fun v t => ∃ (l : List Ed) (k : Nat), v = edv l ∧ l.length ≤ 4 ∧ (∀ e ∈ l, e.new.length ≤ 4) ∧ k ≤ 20 ∧ t = s.upd b (strm Lv (at_ + k)) := by
  refine gob29 (by simp) ?_
  intro tm hlen harg
  have hb := h.lt
  have h0 := h.at0
  simp +contextual only [go_sem, L29, hlen, harg, lcondB_decide, lcondB_not, lguardB_decide_true, lguardB_decide_false, ldguardB_decide, Nat.reduceLT, Nat.reduceEqDiff, Nat.reduceAdd, Nat.reduceLeDiff, reduceIte, reduceCtorEq]
  refine lfunG_eq (rangeS h.loc 0 3 (by omega) (by omega) (by omega)) ?_
  simp +contextual only [go_sem, hlen, harg, hb, lcondB_decide, lcondB_not, lguardB_decide_true, lguardB_decide_false, ldguardB_decide, Nat.reduceLT, Nat.reduceEqDiff, Nat.reduceAdd, Nat.reduceLeDiff, reduceIte, reduceCtorEq]
  refine lfunG_eq (pickS ((h.upd (by omega) (by omega)).loc) (nm s.nx 0) [0, 1, 1, 2, 3] (some 3) (by simp) (by simp) (by simp only [go_sem, List.map_cons, lcondB_decide, lcondB_not, lguardB_decide_true, lguardB_decide_false, ldguardB_decide, Nat.reduceLT, Nat.reduceEqDiff, Nat.reduceAdd, Nat.reduceLeDiff, reduceIte, reduceCtorEq]) (by rw [ne_eq, nm_ne hb]; simp) (by simp only [go_sem, lcondB_decide, lcondB_not, lguardB_decide_true, lguardB_decide_false, ldguardB_decide, Nat.reduceLT, Nat.reduceEqDiff, Nat.reduceAdd, Nat.reduceLeDiff, reduceIte, reduceCtorEq])) ?_
  have hN := getI_le (l := [0, 1, 1, 2, 3]) (lo := 0) (hi := 3) (by omega) (by simp) (nextOf L (at_ + 1) (([0, 1, 1, 2, 3] : List Int).length)).toNat
  generalize ([0, 1, 1, 2, 3] : List Int).getD _ 0 = N at hN ⊢
  simp +contextual only [go_sem, hlen, harg, hb, lcondB_decide, lcondB_not, lguardB_decide_true, lguardB_decide_false, ldguardB_decide, Nat.reduceLT, Nat.reduceEqDiff, Nat.reduceAdd, Nat.reduceLeDiff, reduceIte, reduceCtorEq]
  refine ⟨Nat × Int × Nat × List Ed, fun a => [(0, .ptr b 0), (1, .int .i64 n), (5, gsv 3 (nm s.nx 0) a.2.2.2.length), (6, .int .i64 a.2.1), (12, .int .i64 N), (13, .int .i64 a.1)],
    fun a => loc (s.upd b (strm Lv (at_ + a.2.2.1))) 1 [(0, gso 37 (edc a.2.2.2))], fun a => (a.1 : Int) ≤ N ∧ a.2.2.1 ≤ 2 + 3 * a.1 ∧ a.2.2.2.length ≤ a.1 ∧ ∀ e ∈ a.2.2.2, e.new.length ≤ 4, fun a => N.toNat - a.1, (0, 0 + nextOf L at_ (3 - 0 + 1), 2, []),
    ⟨by simp only; omega, by simp only; omega, by simp, by simp⟩, ?_, ?_⟩
  · refine To.go [9] [(0, none)] (by simp only [edc, List.map_nil, List.flatMap_nil, gso_nil]; congr 3; omega) ((OKo.refl s).upd hb h.lowO) (by decide) (by simp) ?_ ?_
    · simp +contextual only [go_sem, hlen, harg, gsv_zero, rnm_low hb, lcondB_decide, lcondB_not, lguardB_decide_true, lguardB_decide_false, ldguardB_decide, Nat.reduceLT, Nat.reduceEqDiff, Nat.reduceAdd, Nat.reduceLeDiff, reduceIte, reduceCtorEq]
      simp
    · simp only [go_sem, lcondB_decide, lcondB_not, lguardB_decide_true, lguardB_decide_false, ldguardB_decide, Nat.reduceLT, Nat.reduceEqDiff, Nat.reduceAdd, Nat.reduceLeDiff, reduceIte, reduceCtorEq]
  · rintro ⟨i, at1, k, l⟩ tm1 ⟨hi, hk, hl, hnew⟩ hlen1 hlv
    simp only [go_sem, hlen, lcondB_decide, lcondB_not, lguardB_decide_true, lguardB_decide_false, ldguardB_decide, Nat.reduceLT, Nat.reduceEqDiff, Nat.reduceAdd, Nat.reduceLeDiff, reduceIte, reduceCtorEq] at hlen1 hlv hi hk hl hnew
    simp +contextual only [go_sem, hlen, hlen1, hlv, lcondB_decide, lcondB_not, lguardB_decide_true, lguardB_decide_false, ldguardB_decide, Nat.reduceLT, Nat.reduceEqDiff, Nat.reduceAdd, Nat.reduceLeDiff, reduceIte, reduceCtorEq]
    refine ⟨fun hlt => ⟨fun hbr => ?_, fun hnb => ?_⟩, fun hge => ?_⟩
    rotate_left
    · refine lfunG_eq (pickS ((h.upd (by omega) (by omega)).loc) (nm s.nx 1) [0, 1, 1, 2, 4] (some 3) (by simp) (by simp) (by simp only [go_sem, List.map_cons, lcondB_decide, lcondB_not, lguardB_decide_true, lguardB_decide_false, ldguardB_decide, Nat.reduceLT, Nat.reduceEqDiff, Nat.reduceAdd, Nat.reduceLeDiff, reduceIte, reduceCtorEq]) (by rw [ne_eq, nm_ne hb]; simp) (by simp only [go_sem, lcondB_decide, lcondB_not, lguardB_decide_true, lguardB_decide_false, ldguardB_decide, Nat.reduceLT, Nat.reduceEqDiff, Nat.reduceAdd, Nat.reduceLeDiff, reduceIte, reduceCtorEq])) ?_
      simp +contextual only [go_sem, hlen1, hlv, hb, lcondB_decide, lcondB_not, lguardB_decide_true, lguardB_decide_false, ldguardB_decide, Nat.reduceLT, Nat.reduceEqDiff, Nat.reduceAdd, Nat.reduceLeDiff, reduceIte, reduceCtorEq]
      refine lfunG_eq (someS ((h.upd (by omega) (by omega)).loc) (nm s.nx 2) [[], [120], [121, 122], [120], [195, 169]] (some 9) (by simp) (by simp) (by simp only [go_sem, List.map_cons, lcondB_decide, lcondB_not, lguardB_decide_true, lguardB_decide_false, ldguardB_decide, Nat.reduceLT, Nat.reduceEqDiff, Nat.reduceAdd, Nat.reduceLeDiff, reduceIte, reduceCtorEq]) (by rw [ne_eq, nm_ne hb]; simp) (by simp only [go_sem, lcondB_decide, lcondB_not, lguardB_decide_true, lguardB_decide_false, ldguardB_decide, Nat.reduceLT, Nat.reduceEqDiff, Nat.reduceAdd, Nat.reduceLeDiff, reduceIte, reduceCtorEq])) ?_
      have hS := getD_le (l := [[], [120], [121, 122], [120], [195, 169]]) (k := 4) (by simp) (nextOf L (at_ + k + 1) (([[], [120], [121, 122], [120], [195, 169]] : List (List UInt8)).length)).toNat
      generalize ([[], [120], [121, 122], [120], [195, 169]] : List (List UInt8)).getD _ [] = y at hS ⊢
      generalize ([0, 1, 1, 2, 4] : List Int).getD _ 0 = z
      simp +contextual only [go_sem, hlen1, hlv, hb, lcondB_decide, lcondB_not, lguardB_decide_true, lguardB_decide_false, ldguardB_decide, Nat.reduceLT, Nat.reduceEqDiff, Nat.reduceAdd, Nat.reduceLeDiff, reduceIte, reduceCtorEq]
      generalize (if IntKind.i64.wrap (n - at1) < z then IntKind.i64.wrap (n - at1) else z) = w
      have hw : IntKind.i64.wrap ((i : Int) + 1) = ((i + 1 : Nat) : Int) := by rw [wrap_id (by omega)]; rfl
      refine ⟨fun c1 => ⟨fun c2 => ?_, fun c2 => ?_⟩, fun c1 => ?_⟩
      all_goals
        refine lmem_eq (app27 (acellsOf_rs (by simp only [go_sem, lcondB_decide, lcondB_not, lguardB_decide_true, lguardB_decide_false, ldguardB_decide, Nat.reduceLT, Nat.reduceEqDiff, Nat.reduceAdd, Nat.reduceLeDiff, reduceIte, reduceCtorEq]; rfl) (by rfl) (AHeap.nx_upd _ _ _)) (by decide) (by simp only [go_sem, lcondB_decide, lcondB_not, lguardB_decide_true, lguardB_decide_false, ldguardB_decide, Nat.reduceLT, Nat.reduceEqDiff, Nat.reduceAdd, Nat.reduceLeDiff, reduceIte, reduceCtorEq]) (by simp only [go_sem, lcondB_decide, lcondB_not, lguardB_decide_true, lguardB_decide_false, ldguardB_decide, Nat.reduceLT, Nat.reduceEqDiff, Nat.reduceAdd, Nat.reduceLeDiff, reduceIte, reduceCtorEq]) (edc_len l) (by omega) (AHeap.nx_upd _ _ _)) ?_
        simp +contextual only [go_sem, hlen1, hlv, hb, lcondB_decide, lcondB_not, lguardB_decide_true, lguardB_decide_false, ldguardB_decide, Nat.reduceLT, Nat.reduceEqDiff, Nat.reduceAdd, Nat.reduceLeDiff, reduceIte, reduceCtorEq]
        refine ldrawB_go [] [(2, 1), (2, 2)] 7 (by decide) ?_
        simp +contextual only [go_sem, hlen1, hlv, hb, lcondB_decide, lcondB_not, lguardB_decide_true, lguardB_decide_false, ldguardB_decide, Nat.reduceLT, Nat.reduceEqDiff, Nat.reduceAdd, Nat.reduceLeDiff, reduceIte, reduceCtorEq]
        refine ldfun_eff _ _ (pickS ((h.upd (by omega) (by omega)).loc) _ [1, 1, 2, 5] (some 3) (by simp) (by simp) (by simp only [go_sem, List.map_cons, lcondB_decide, lcondB_not, lguardB_decide_true, lguardB_decide_false, ldguardB_decide, Nat.reduceLT, Nat.reduceEqDiff, Nat.reduceAdd, Nat.reduceLeDiff, reduceIte, reduceCtorEq]) (by rw [ne_eq, nm_ne hb]; simp) (by simp only [go_sem, lcondB_decide, lcondB_not, lguardB_decide_true, lguardB_decide_false, ldguardB_decide, Nat.reduceLT, Nat.reduceEqDiff, Nat.reduceAdd, Nat.reduceLeDiff, reduceIte, reduceCtorEq])) ?_
        simp +contextual only [go_sem, hlen1, hlv, hb, lcondB_decide, lcondB_not, lguardB_decide_true, lguardB_decide_false, ldguardB_decide, Nat.reduceLT, Nat.reduceEqDiff, Nat.reduceAdd, Nat.reduceLeDiff, reduceIte, reduceCtorEq]
        generalize ([1, 1, 2, 5] : List Int).getD _ 0 = p
      · refine ⟨by kernel_rfl, (i + 1, IntKind.i64.wrap (at1 + IntKind.i64.wrap (0 + p)), k + 3, l ++ [⟨at1, 0, [119]⟩]), ⟨by simp only; omega, by simp only; omega, by simp only [List.length_append, List.length_cons, List.length_nil]; omega, ?_⟩, by simp only; omega, ?_⟩
        · intro e he
          rcases List.mem_append.1 he with he | he
          · exact hnew e he
          · rw [List.mem_singleton.1 he]; simp
        · refine To.go [5] [(0, gso 37 (edc (l ++ [⟨at1, 0, [119]⟩])))] (loc_at (by simp only; omega)) ((OKo.refl s).upd hb h.lowO) (by decide) (by simp) ?_ ?_
          · simp +contextual only [go_sem, hlen1, hlv, hw, rnm_low hb, List.length_append, gsv_pos (Nat.succ_ne_zero l.length), lcondB_decide, lcondB_not, lguardB_decide_true, lguardB_decide_false, ldguardB_decide, Nat.reduceLT, Nat.reduceEqDiff, Nat.reduceAdd, Nat.reduceLeDiff, reduceIte, reduceCtorEq]
          · simp only [go_sem, map_gso_pu (edc_pul _), lcondB_decide, lcondB_not, lguardB_decide_true, lguardB_decide_false, ldguardB_decide, Nat.reduceLT, Nat.reduceEqDiff, Nat.reduceAdd, Nat.reduceLeDiff, reduceIte, reduceCtorEq]
            simp only [edc_snoc, gso_pos (List.append_ne_nil_of_right_ne_nil (edc l) (List.cons_ne_nil _ _))]
      · refine ⟨by kernel_rfl, (i + 1, IntKind.i64.wrap (at1 + IntKind.i64.wrap (0 + p)), k + 3, l ++ [⟨at1, 0, y⟩]), ⟨by simp only; omega, by simp only; omega, by simp only [List.length_append, List.length_cons, List.length_nil]; omega, ?_⟩, by simp only; omega, ?_⟩
        · intro e he
          rcases List.mem_append.1 he with he | he
          · exact hnew e he
          · rw [List.mem_singleton.1 he]; exact hS
        · refine To.go [5] [(0, gso 37 (edc (l ++ [⟨at1, 0, y⟩])))] (loc_at (by simp only; omega)) ((OKo.refl s).upd hb h.lowO) (by decide) (by simp) ?_ ?_
          · simp +contextual only [go_sem, hlen1, hlv, hw, rnm_low hb, List.length_append, gsv_pos (Nat.succ_ne_zero l.length), lcondB_decide, lcondB_not, lguardB_decide_true, lguardB_decide_false, ldguardB_decide, Nat.reduceLT, Nat.reduceEqDiff, Nat.reduceAdd, Nat.reduceLeDiff, reduceIte, reduceCtorEq]
          · simp only [go_sem, map_gso_pu (edc_pul _), lcondB_decide, lcondB_not, lguardB_decide_true, lguardB_decide_false, ldguardB_decide, Nat.reduceLT, Nat.reduceEqDiff, Nat.reduceAdd, Nat.reduceLeDiff, reduceIte, reduceCtorEq]
            simp only [edc_snoc, gso_pos (List.append_ne_nil_of_right_ne_nil (edc l) (List.cons_ne_nil _ _))]
      · refine ⟨by kernel_rfl, (i + 1, IntKind.i64.wrap (at1 + IntKind.i64.wrap (w + p)), k + 3, l ++ [⟨at1, w, y⟩]), ⟨by simp only; omega, by simp only; omega, by simp only [List.length_append, List.length_cons, List.length_nil]; omega, ?_⟩, by simp only; omega, ?_⟩
        · intro e he
          rcases List.mem_append.1 he with he | he
          · exact hnew e he
          · rw [List.mem_singleton.1 he]; exact hS
        · refine To.go [5] [(0, gso 37 (edc (l ++ [⟨at1, w, y⟩])))] (loc_at (by simp only; omega)) ((OKo.refl s).upd hb h.lowO) (by decide) (by simp) ?_ ?_
          · simp +contextual only [go_sem, hlen1, hlv, hw, rnm_low hb, List.length_append, gsv_pos (Nat.succ_ne_zero l.length), lcondB_decide, lcondB_not, lguardB_decide_true, lguardB_decide_false, ldguardB_decide, Nat.reduceLT, Nat.reduceEqDiff, Nat.reduceAdd, Nat.reduceLeDiff, reduceIte, reduceCtorEq]
          · simp only [go_sem, map_gso_pu (edc_pul _), lcondB_decide, lcondB_not, lguardB_decide_true, lguardB_decide_false, ldguardB_decide, Nat.reduceLT, Nat.reduceEqDiff, Nat.reduceAdd, Nat.reduceLeDiff, reduceIte, reduceCtorEq]
            simp only [edc_snoc, gso_pos (List.append_ne_nil_of_right_ne_nil (edc l) (List.cons_ne_nil _ _))]
    all_goals
      refine lfunG_eq (flipS ((h.upd (by omega) (by omega)).loc) _) ?_
      simp +contextual only [go_sem, hlen1, hlv, hb, lcondB_decide, lcondB_not, lguardB_decide_true, lguardB_decide_false, ldguardB_decide, Nat.reduceLT, Nat.reduceEqDiff, Nat.reduceAdd, Nat.reduceLeDiff, reduceIte, reduceCtorEq]
      refine ⟨fun hf => ?_, fun hf => ?_⟩
      · refine lfunG_of (anEditS ((h.upd (by omega) (by omega)).loc) (by omega) _) ?_
        rintro _ _ ⟨e, m, rfl, he, hm, rfl⟩
        simp +contextual only [go_sem, hlen1, hlv, hb, Ed.enc, lcondB_decide, lcondB_not, lguardB_decide_true, lguardB_decide_false, ldguardB_decide, Nat.reduceLT, Nat.reduceEqDiff, Nat.reduceAdd, Nat.reduceLeDiff, reduceIte, reduceCtorEq]
        refine lmem_eq (app27 (acellsOf_rs (by simp only [go_sem, lcondB_decide, lcondB_not, lguardB_decide_true, lguardB_decide_false, ldguardB_decide, Nat.reduceLT, Nat.reduceEqDiff, Nat.reduceAdd, Nat.reduceLeDiff, reduceIte, reduceCtorEq]; rfl) (by rfl) (AHeap.nx_upd _ _ _)) (by decide) (by simp only [go_sem, lcondB_decide, lcondB_not, lguardB_decide_true, lguardB_decide_false, ldguardB_decide, Nat.reduceLT, Nat.reduceEqDiff, Nat.reduceAdd, Nat.reduceLeDiff, reduceIte, reduceCtorEq]) (by simp only [go_sem, lcondB_decide, lcondB_not, lguardB_decide_true, lguardB_decide_false, ldguardB_decide, Nat.reduceLT, Nat.reduceEqDiff, Nat.reduceAdd, Nat.reduceLeDiff, reduceIte, reduceCtorEq]) (edc_len l) (by omega) (AHeap.nx_upd _ _ _)) ?_
        simp +contextual only [go_sem, hlen1, hlv, hb, lcondB_decide, lcondB_not, lguardB_decide_true, lguardB_decide_false, ldguardB_decide, Nat.reduceLT, Nat.reduceEqDiff, Nat.reduceAdd, Nat.reduceLeDiff, reduceIte, reduceCtorEq]
        refine lexit_freeze 2 3 ((l ++ [e]).map Ed.enc) (by simp only [go_sem, lcondB_decide, lcondB_not, lguardB_decide_true, lguardB_decide_false, ldguardB_decide, Nat.reduceLT, Nat.reduceEqDiff, Nat.reduceAdd, Nat.reduceLeDiff, reduceIte, reduceCtorEq]; exact congrArg (fun c => some (AObj.cells c (some 37))) (edc_snoc l e).symm) (enc_len _) ?_
        simp only [AHeap.nx_upd, len_fz1]
        refine lexit_pure ((OKo.refl s).upd hb h.lowO) (low.mono (Nat.zero_le _) (edv_pu _)) ⟨_, k + 1 + m, rfl, by simp only [List.length_append, List.length_cons, List.length_nil]; omega, ?_, by omega, by congr 2; omega⟩
        intro x hx
        rcases List.mem_append.1 hx with hx | hx
        · exact hnew x hx
        · rw [List.mem_singleton.1 hx]; exact he
      · refine lexit_freezeG 0 3 (l.map Ed.enc) (by simp only [go_sem, lcondB_decide, lcondB_not, lguardB_decide_true, lguardB_decide_false, ldguardB_decide, Nat.reduceLT, Nat.reduceEqDiff, Nat.reduceAdd, Nat.reduceLeDiff, reduceIte, reduceCtorEq]; rfl) (enc_len l) (by decide) ?_
        simp only [AHeap.nx_upd, len_fz]
        exact lexit_pure ((OKo.refl s).upd hb h.lowO) (low.mono (Nat.zero_le _) (edv_pu _)) ⟨_, k + 1, rfl, by omega, hnew, by omega, by congr 2; omega⟩
end Go.S1N
end
section
set_option linter.unusedVariables false
set_option linter.unusedSimpArgs false
namespace Go.S1N
open Go Go.Am Go.Proofs Go.S1
set_option maxRecDepth 100000
set_option linter.unusedSimpArgs false
attribute [local irreducible] lopsB lvb lstepB lfunG lcondB lguardB ldrawB ldrunB ldstepB ldguardB lmem lval ldmem ldval ldfun lexit ldloadB ldlenB lpostB athen ablock
theorem scan_range {n : Int} : ∀ (l : List Ed) (B : Int), scan n B l = 0 → ∀ z ∈ l, 0 ≤ z.at_ ∧ 0 ≤ z.cut ∧ z.at_ ≤ n ∧ z.cut ≤ n
  | [], B, _, z, hz => by cases hz
  | a :: l, B, h, z, hz => by
    obtain ⟨d1, d2, d3, d4, d5, d6⟩ := scan_cons h
    rcases List.mem_cons.1 hz with rfl | hz
    · omega
    · exact scan_range l _ d6 z hz
end Go.S1N
end
section
set_option linter.unusedVariables false
set_option linter.unusedSimpArgs false
namespace Go.S1
open Go Go.Am Go.Proofs
set_option maxRecDepth 100000
noncomputable def L12 : LCode := LCode.seq (LCode.ops [⟨Op.assign (Operand.const (Value.slice none 0 0)), some 4, none⟩, ⟨Op.assign (Operand.const (Value.int IntKind.i64 0)), some 5, none⟩]) (LCode.seq (LCode.seq (LCode.ops [⟨Op.move (Operand.tmp 0), some 11, none⟩, ⟨Op.move (Operand.tmp 1), some 12, none⟩, ⟨Op.call { callee := Callee.value (Operand.func 31), args := { toList := [Operand.tmp 11, Operand.tmp 12] }, argTypes := { toList := [9, 27] } }, some 13, none⟩, ⟨Op.assign (Operand.tmp 13), some 6, none⟩]) (LCode.seq (LCode.ops [⟨Op.move (Operand.tmp 6), some 14, none⟩, ⟨Op.binOp BinOp.neq 29 (Operand.tmp 14) (Operand.const (Value.int IntKind.i64 0)) 29, some 15, none⟩]) (LCode.cond (Operand.tmp 15) (LCode.seq (LCode.ops [⟨Op.move (Operand.tmp 6), some 16, none⟩, ⟨Op.assign (Operand.const (Value.slice none 0 0)), some 4, none⟩, ⟨Op.assign (Operand.tmp 16), some 5, none⟩]) LCode.ret) LCode.skip))) (LCode.seq (LCode.ops [⟨Op.assign (Operand.const (Value.slice none 0 0)), some 7, none⟩]) (LCode.seq (LCode.ops [⟨Op.assign (Operand.const (Value.int IntKind.i64 0)), some 8, none⟩]) (LCode.seq (LCode.seq (LCode.ops [⟨Op.move (Operand.tmp 1), some 17, none⟩, ⟨Op.call { callee := Callee.builtin Builtin.len, args := { toList := [Operand.tmp 17] }, argTypes := { toList := [27] } }, some 18, none⟩, ⟨Op.move (Operand.const (Value.int IntKind.i64 0)), some 19, none⟩]) (LCode.block 0 (LCode.loop (LCode.seq (LCode.ops [⟨Op.binOp BinOp.lss 3 (Operand.tmp 19) (Operand.tmp 18) 3, some 20, none⟩]) (LCode.seq (LCode.cond (Operand.tmp 20) LCode.skip (LCode.exit 0)) (LCode.seq (LCode.block 1 (LCode.seq (LCode.ops [⟨Op.indexAddr 27 (Operand.tmp 17) (Operand.tmp 19), some 21, none⟩, ⟨Op.load 37 (Operand.tmp 21), some 22, none⟩, ⟨Op.alloc 37, some 10, none⟩, ⟨Op.store 37 (Operand.tmp 10) (Operand.tmp 22), none, none⟩]) (LCode.seq (LCode.draw [0, 0, 2, 0, 14, 0, 32, 96, 0, 0, 512, 0, 2048, 0, 8192, 30720, 65280, 131070, 262142, 524287, 1048575] [⟨Op.move (Operand.tmp 7), some 23, none⟩, ⟨Op.fieldAddr 37 (Operand.tmp 10) 0, some 24, none⟩, ⟨Op.load 3 (Operand.tmp 24), some 25, none⟩, ⟨Op.move (Operand.tmp 8), some 26, none⟩, ⟨Op.binOp BinOp.add 3 (Operand.tmp 25) (Operand.tmp 26) 3, some 27, none⟩, ⟨Op.fieldAddr 37 (Operand.tmp 10) 2, some 28, none⟩, ⟨Op.load 9 (Operand.tmp 28), some 29, none⟩, ⟨Op.call { callee := Callee.builtin Builtin.len, args := { toList := [Operand.tmp 29] }, argTypes := { toList := [9] } }, some 30, none⟩, ⟨Op.move (Operand.tmp 0), some 31, none⟩, ⟨Op.fieldAddr 37 (Operand.tmp 10) 0, some 32, none⟩, ⟨Op.load 3 (Operand.tmp 32), some 33, none⟩, ⟨Op.fieldAddr 37 (Operand.tmp 10) 0, some 34, none⟩, ⟨Op.load 3 (Operand.tmp 34), some 35, none⟩, ⟨Op.fieldAddr 37 (Operand.tmp 10) 1, some 36, none⟩, ⟨Op.load 3 (Operand.tmp 36), some 37, none⟩, ⟨Op.binOp BinOp.add 3 (Operand.tmp 35) (Operand.tmp 37) 3, some 38, none⟩, ⟨Op.slice 9 (Operand.tmp 31) (some (Operand.tmp 33)) (some (Operand.tmp 38)) none, some 39, none⟩, ⟨Op.build 37 { toList := [(0, Operand.tmp 27), (1, Operand.tmp 30), (2, Operand.tmp 39)] }, some 40, none⟩, ⟨Op.buildSlice 27 1 { toList := [(0, Operand.tmp 40)] }, some 41, none⟩, ⟨Op.call { callee := Callee.builtin Builtin.append, args := { toList := [Operand.tmp 23, Operand.tmp 41] }, argTypes := { toList := [27, 27] } }, some 42, none⟩, ⟨Op.assign (Operand.tmp 42), some 7, none⟩]) (LCode.ops [⟨Op.move (Operand.tmp 8), some 43, none⟩, ⟨Op.fieldAddr 37 (Operand.tmp 10) 2, some 44, none⟩, ⟨Op.load 9 (Operand.tmp 44), some 45, none⟩, ⟨Op.call { callee := Callee.builtin Builtin.len, args := { toList := [Operand.tmp 45] }, argTypes := { toList := [9] } }, some 46, none⟩, ⟨Op.fieldAddr 37 (Operand.tmp 10) 1, some 47, none⟩, ⟨Op.load 3 (Operand.tmp 47), some 48, none⟩, ⟨Op.binOp BinOp.sub 3 (Operand.tmp 46) (Operand.tmp 48) 3, some 49, none⟩, ⟨Op.binOp BinOp.add 3 (Operand.tmp 43) (Operand.tmp 49) 3, some 50, none⟩, ⟨Op.assign (Operand.tmp 50), some 8, none⟩])))) (LCode.ops [⟨Op.binOp BinOp.add 3 (Operand.tmp 19) (Operand.const (Value.int IntKind.i64 1)) 3, some 51, none⟩, ⟨Op.move (Operand.tmp 51), some 19, none⟩]))))))) (LCode.seq (LCode.ops [⟨Op.move (Operand.tmp 7), some 52, none⟩, ⟨Op.assign (Operand.tmp 52), some 4, none⟩, ⟨Op.assign (Operand.const (Value.int IntKind.i64 0)), some 5, none⟩]) LCode.ret)))))
theorem l12 : Tryz.f12.body.map lighten = some L12 := by kernel_rfl
theorem rs12 : Tryz.f12.results.toList = [ResultVar.tmp 4, ResultVar.tmp 5] := by kernel_rfl
theorem nt12 : Tryz.f12.ntmps = 53 := by kernel_rfl
theorem gob12 {args : List AV} {s : AHeap} {R : AV → AHeap → Prop} (hl : args.length ≤ 53) (h : ∀ tm, tm.length = 53 → (∀ i, aev tm (.tmp i) = args.getD i aundef) → lvb Tryz.prog tab s L12 (lpostB tab s [ResultVar.tmp 4, ResultVar.tmp 5] R) tm (loc s 0 [])) : ACall Tryz.prog 12 args s R := ACall.goB tab_ok mixed Tryz.func12 l12 nm12 rs12 nt12 hl h
noncomputable def L14 : LCode := LCode.seq (LCode.ops [⟨Op.assign (Operand.const (Value.bool false)), some 4, none⟩]) (LCode.seq (LCode.seq (LCode.ops [⟨Op.move (Operand.tmp 0), some 6, none⟩, ⟨Op.call { callee := Callee.builtin Builtin.len, args := { toList := [Operand.tmp 6] }, argTypes := { toList := [27] } }, some 7, none⟩, ⟨Op.move (Operand.tmp 1), some 8, none⟩, ⟨Op.call { callee := Callee.builtin Builtin.len, args := { toList := [Operand.tmp 8] }, argTypes := { toList := [27] } }, some 9, none⟩, ⟨Op.binOp BinOp.neq 3 (Operand.tmp 7) (Operand.tmp 9) 3, some 10, none⟩]) (LCode.cond (Operand.tmp 10) (LCode.seq (LCode.ops [⟨Op.assign (Operand.const (Value.bool false)), some 4, none⟩]) LCode.ret) LCode.skip)) (LCode.seq (LCode.seq (LCode.ops [⟨Op.move (Operand.tmp 0), some 11, none⟩, ⟨Op.call { callee := Callee.builtin Builtin.len, args := { toList := [Operand.tmp 11] }, argTypes := { toList := [27] } }, some 12, none⟩, ⟨Op.move (Operand.const (Value.int IntKind.i64 0)), some 13, none⟩]) (LCode.block 0 (LCode.loop (LCode.seq (LCode.ops [⟨Op.binOp BinOp.lss 3 (Operand.tmp 13) (Operand.tmp 12) 3, some 14, none⟩]) (LCode.seq (LCode.cond (Operand.tmp 14) LCode.skip (LCode.exit 0)) (LCode.seq (LCode.block 1 (LCode.seq (LCode.ops [⟨Op.move (Operand.tmp 13), some 15, none⟩, ⟨Op.assign (Operand.tmp 15), some 5, none⟩]) (LCode.seq (LCode.draw [0, 0, 3, 7, 0, 0, 48, 112, 255] [⟨Op.move (Operand.tmp 0), some 16, none⟩, ⟨Op.move (Operand.tmp 5), some 17, none⟩, ⟨Op.indexAddr 27 (Operand.tmp 16) (Operand.tmp 17), some 18, none⟩, ⟨Op.load 37 (Operand.tmp 18), some 19, none⟩, ⟨Op.move (Operand.tmp 1), some 20, none⟩, ⟨Op.move (Operand.tmp 5), some 21, none⟩, ⟨Op.indexAddr 27 (Operand.tmp 20) (Operand.tmp 21), some 22, none⟩, ⟨Op.load 37 (Operand.tmp 22), some 23, none⟩, ⟨Op.binOp BinOp.neq 37 (Operand.tmp 19) (Operand.tmp 23) 37, some 24, none⟩]) (LCode.cond (Operand.tmp 24) (LCode.seq (LCode.ops [⟨Op.assign (Operand.const (Value.bool false)), some 4, none⟩]) LCode.ret) LCode.skip)))) (LCode.ops [⟨Op.binOp BinOp.add 3 (Operand.tmp 13) (Operand.const (Value.int IntKind.i64 1)) 3, some 25, none⟩, ⟨Op.move (Operand.tmp 25), some 13, none⟩]))))))) (LCode.seq (LCode.ops [⟨Op.assign (Operand.const (Value.bool true)), some 4, none⟩]) LCode.ret)))
theorem l14 : Tryz.f14.body.map lighten = some L14 := by kernel_rfl
theorem rs14 : Tryz.f14.results.toList = [ResultVar.tmp 4] := by kernel_rfl
theorem nt14 : Tryz.f14.ntmps = 26 := by kernel_rfl
theorem gob14 {args : List AV} {s : AHeap} {R : AV → AHeap → Prop} (hl : args.length ≤ 26) (h : ∀ tm, tm.length = 26 → (∀ i, aev tm (.tmp i) = args.getD i aundef) → lvb Tryz.prog tab s L14 (lpostB tab s [ResultVar.tmp 4] R) tm (loc s 0 [])) : ACall Tryz.prog 14 args s R := ACall.goB tab_ok mixed Tryz.func14 l14 nm14 rs14 nt14 hl h
end Go.S1
end
section
set_option linter.unusedVariables false
set_option linter.unusedSimpArgs false
namespace Go.S1N
open Go Go.Am Go.Proofs Go.S1
set_option maxRecDepth 100000
set_option linter.unusedSimpArgs false
attribute [local irreducible] lopsB lvb lstepB lfunG lcondB lguardB ldrawB ldrunB ldstepB ldguardB lmem lval ldmem ldval ldfun lexit ldloadB ldlenB lpostB athen ablock
theorem checkTextE (x : List UInt8) (v : AV) (l : List Ed) (hv : SlE v l) (hl : l.length < 4611686018427387904) (s : AHeap) : ACall Tryz.prog 31 [.str x, v] s fun r t => r = .int .i64 (textFault x l) ∧ t = s :=
  exact_of (by simp only [Pu, low]) (checkText_ok x v l hv hl s)
end Go.S1N
end
section
set_option linter.unusedVariables false
set_option linter.unusedSimpArgs false
namespace Go.S1N
open Go Go.Am Go.Proofs Go.S1
set_option maxRecDepth 100000
set_option linter.unusedSimpArgs false
attribute [local irreducible] lopsB lvb lstepB lfunG lcondB lguardB ldrawB ldrunB ldstepB ldguardB lmem lval ldmem ldval ldfun lexit ldloadB ldlenB lpostB athen ablock
def invFrom (x : List UInt8) (sh : Int) : List Ed → List Ed
  | [] => []
  | e :: r => ⟨e.at_ + sh, e.new.length, (x.drop e.at_.toNat).take ((e.at_ + e.cut).toNat - e.at_.toNat)⟩ :: invFrom x (sh + (e.new.length - e.cut)) r
def inverseVal (x : List UInt8) (l : List Ed) : List Ed × Int := if textFault x l ≠ 0 then ([], textFault x l) else (invFrom x 0 l, 0)
theorem inverse_ok (x : List UInt8) (v : AV) (l : List Ed) (hv : SlE v l) (hl : l.length < 4611686018427387904) (hnew : ∀ e ∈ l, e.new.length ≤ 100000) (s : AHeap) :
    ACall Tryz.prog 12 [.str x, v] s fun r t => r = .tuple [edv (inverseVal x l).1, .int .i64 (inverseVal x l).2] ∧ t = s := by
  refine gob12 (by simp) ?_
  intro tm hlen harg
  simp +contextual only [go_sem, L12, hlen, harg, lcondB_decide, lcondB_not, lguardB_decide_true, lguardB_decide_false, ldguardB_decide, Nat.reduceLT, Nat.reduceEqDiff, Nat.reduceAdd, Nat.reduceLeDiff, reduceIte, reduceCtorEq]
  refine lfunG_eq (checkTextE x v l hv hl _) ?_
  simp +contextual only [go_sem, hlen, harg, hv.len, lcondB_decide, lcondB_not, lguardB_decide_true, lguardB_decide_false, ldguardB_decide, Nat.reduceLT, Nat.reduceEqDiff, Nat.reduceAdd, Nat.reduceLeDiff, reduceIte, reduceCtorEq]
  refine ⟨fun c => ?_, fun c => ?_⟩
  · refine lexit_pure (.refl s) (by simp only [low, lowL, and_self]) ⟨?_, rfl⟩
    rw [inverseVal, if_pos c]; rfl
  · obtain ⟨hx, hl2, hsc⟩ := textFault_zero c
    have hval : inverseVal x l = (invFrom x 0 l, 0) := by rw [inverseVal, if_neg (by simpa using c)]
    rw [hval]
    refine ⟨Nat × Int × Int × List Ed, fun a => [(0, .str x), (7, gsv 3 (nm s.nx 0) a.2.2.2.length), (8, .int .i64 a.2.1), (17, v), (18, .int .i64 l.length), (19, .int .i64 a.1)],
      fun a => loc s 1 [(0, gso 37 (edc a.2.2.2))], fun a => a.1 ≤ l.length ∧ a.2.2.2.length = a.1 ∧ -(20000 * (a.1 : Int)) ≤ a.2.1 ∧ a.2.1 ≤ 100000 * (a.1 : Int) ∧ scan x.length a.2.2.1 (l.drop a.1) = 0 ∧ a.2.2.2 ++ invFrom x a.2.1 (l.drop a.1) = invFrom x 0 l,
      fun a => l.length - a.1, (0, 0, -1, []), ⟨by simp, by simp, by simp, by simp, by simpa using hsc, by simp⟩, ?_, ?_⟩
    · refine To.go [9] [(0, none)] (by simp only [edc, List.map_nil, List.flatMap_nil, gso_nil]; rfl) (.refl s) (by decide) (by simp) ?_ ?_
      · simp +contextual only [go_sem, hlen, harg, hv.pu, pu_ren hv.pu, List.length_nil, gsv_zero, lcondB_decide, lcondB_not, lguardB_decide_true, lguardB_decide_false, ldguardB_decide, Nat.reduceLT, Nat.reduceEqDiff, Nat.reduceAdd, Nat.reduceLeDiff, reduceIte, reduceCtorEq]
        simp
      · simp only [go_sem, lcondB_decide, lcondB_not, lguardB_decide_true, lguardB_decide_false, ldguardB_decide, Nat.reduceLT, Nat.reduceEqDiff, Nat.reduceAdd, Nat.reduceLeDiff, reduceIte, reduceCtorEq]
    · rintro ⟨i, sh, B, R⟩ tm1 ⟨hi, hR, hs0, hs1, hs, hL⟩ hlen1 hlv
      simp only [go_sem, hlen, lcondB_decide, lcondB_not, lguardB_decide_true, lguardB_decide_false, ldguardB_decide, Nat.reduceLT, Nat.reduceEqDiff, Nat.reduceAdd, Nat.reduceLeDiff, reduceIte, reduceCtorEq] at hlen1 hlv hi hR hs0 hs1 hs hL
      simp +contextual only [go_sem, hlen, hlen1, hlv, lcondB_decide, lcondB_not, lguardB_decide_true, lguardB_decide_false, ldguardB_decide, Nat.reduceLT, Nat.reduceEqDiff, Nat.reduceAdd, Nat.reduceLeDiff, reduceIte, reduceCtorEq]
      refine ⟨fun hlt => ?_, fun hge => ?_⟩
      · have hi2 : i < l.length := by omega
        have he := List.getElem?_eq_getElem hi2
        have hmem : l[i] ∈ l := List.getElem_mem hi2
        have hdrop := List.drop_eq_getElem_cons hi2
        generalize l[i] = e at he hdrop hmem
        have hen := hnew e hmem
        rw [hdrop] at hs hL
        obtain ⟨c1, c2, c3, c4, c5, c6⟩ := scan_cons hs
        have hw1 : IntKind.i64.wrap (e.at_ + sh) = e.at_ + sh := wrap_id (by omega)
        have hw2 : IntKind.i64.wrap (e.at_ + e.cut) = e.at_ + e.cut := wrap_id (by omega)
        have hw4 : IntKind.i64.wrap ((e.new.length : Int) - e.cut) = (e.new.length : Int) - e.cut := wrap_id (by omega)
        have hw5 : IntKind.i64.wrap (sh + ((e.new.length : Int) - e.cut)) = sh + ((e.new.length : Int) - e.cut) := wrap_id (by omega)
        have hw3 : IntKind.i64.wrap ((i : Int) + 1) = ((i + 1 : Nat) : Int) := by rw [wrap_id (by omega)]; rfl
        simp +contextual only [go_sem, hlen, hlen1, hlv, hv.at he, lcondB_decide, lcondB_not, lguardB_decide_true, lguardB_decide_false, ldguardB_decide, Nat.reduceLT, Nat.reduceEqDiff, Nat.reduceAdd, Nat.reduceLeDiff, reduceIte, reduceCtorEq]
        refine ldrawB_go [] [] 19 (by decide) ?_
        simp +contextual only [go_sem, hlen1, hlv, hw1, hw2, slice9 c1 (show e.at_ ≤ e.at_ + e.cut by omega) (show e.at_ + e.cut ≤ x.length by omega), build35_3, lcondB_decide, lcondB_not, lguardB_decide_true, lguardB_decide_false, ldguardB_decide, Nat.reduceLT, Nat.reduceEqDiff, Nat.reduceAdd, Nat.reduceLeDiff, reduceIte, reduceCtorEq]
        refine ⟨by kernel_rfl, ?_⟩
        refine lmem_eq (app27 (acellsOf_rs (by simp only [go_sem, lcondB_decide, lcondB_not, lguardB_decide_true, lguardB_decide_false, ldguardB_decide, Nat.reduceLT, Nat.reduceEqDiff, Nat.reduceAdd, Nat.reduceLeDiff, reduceIte, reduceCtorEq]; rfl) (by rfl) rfl) (by decide) (by simp only [go_sem, lcondB_decide, lcondB_not, lguardB_decide_true, lguardB_decide_false, ldguardB_decide, Nat.reduceLT, Nat.reduceEqDiff, Nat.reduceAdd, Nat.reduceLeDiff, reduceIte, reduceCtorEq]) (by simp only [go_sem, lcondB_decide, lcondB_not, lguardB_decide_true, lguardB_decide_false, ldguardB_decide, Nat.reduceLT, Nat.reduceEqDiff, Nat.reduceAdd, Nat.reduceLeDiff, reduceIte, reduceCtorEq]) (edc_len R) (by omega) rfl) ?_
        simp +contextual only [go_sem, hlen1, hlv, hw3, hw4, hw5, lcondB_decide, lcondB_not, lguardB_decide_true, lguardB_decide_false, ldguardB_decide, Nat.reduceLT, Nat.reduceEqDiff, Nat.reduceAdd, Nat.reduceLeDiff, reduceIte, reduceCtorEq]
        generalize hz : (⟨e.at_ + sh, e.new.length, (x.drop e.at_.toNat).take ((e.at_ + e.cut).toNat - e.at_.toNat)⟩ : Ed) = z
        refine ⟨(i + 1, sh + (e.new.length - e.cut), e.at_ + e.cut, R ++ [z]), ⟨by simp only; omega, by simp only [List.length_append, List.length_cons, List.length_nil]; omega, by simp only; omega, by simp only; omega, c6, ?_⟩, by simp only; omega, ?_⟩
        · rw [← hL, ← hz]
          simp only [invFrom, List.append_assoc, List.cons_append, List.nil_append]
        · refine To.go [22] [(0, gso 37 (edc (R ++ [z])))] rfl (.refl s) (by decide) (by simp) ?_ ?_
          · simp +contextual only [go_sem, hlen1, hlv, pu_ren hv.pu, List.length_append, gsv_pos (Nat.succ_ne_zero R.length), lcondB_decide, lcondB_not, lguardB_decide_true, lguardB_decide_false, ldguardB_decide, Nat.reduceLT, Nat.reduceEqDiff, Nat.reduceAdd, Nat.reduceLeDiff, reduceIte, reduceCtorEq]
          · simp only [go_sem, map_gso_pu (edc_pul _), lcondB_decide, lcondB_not, lguardB_decide_true, lguardB_decide_false, ldguardB_decide, Nat.reduceLT, Nat.reduceEqDiff, Nat.reduceAdd, Nat.reduceLeDiff, reduceIte, reduceCtorEq]
            rw [edc_snoc, ← hz]
            exact (gso_pos (by simp)).symm
      · have hi2 : i = l.length := by omega
        rw [hi2, List.drop_length, invFrom, List.append_nil] at hL
        refine lexit_freezeG 0 3 (R.map Ed.enc) (by simp only [go_sem, lcondB_decide, lcondB_not, lguardB_decide_true, lguardB_decide_false, ldguardB_decide, Nat.reduceLT, Nat.reduceEqDiff, Nat.reduceAdd, Nat.reduceLeDiff, reduceIte, reduceCtorEq]; rfl) (enc_len R) (by decide) ?_
        simp only [go_sem, len_fz, hL, lcondB_decide, lcondB_not, lguardB_decide_true, lguardB_decide_false, ldguardB_decide, Nat.reduceLT, Nat.reduceEqDiff, Nat.reduceAdd, Nat.reduceLeDiff, reduceIte, reduceCtorEq]
        exact lexit_pure (.refl s) (by simp only [low, lowL, and_self, and_true]; exact low.mono (Nat.zero_le _) (edv_pu _)) ⟨rfl, rfl⟩
end Go.S1N
end
section
set_option linter.unusedVariables false
set_option linter.unusedSimpArgs false
namespace Go.S1N
open Go Go.Am Go.Proofs Go.S1
set_option maxRecDepth 100000
set_option linter.unusedSimpArgs false
attribute [local irreducible] lopsB lvb lstepB lfunG lcondB lguardB ldrawB ldrunB ldstepB ldguardB lmem lval ldmem ldval ldfun lexit ldloadB ldlenB lpostB athen ablock
structure Rn where
  at_ : Int
  long : Int
  text : List UInt8
def Rn.enc (e : Rn) : AV := .agg [.int .i64 e.at_, .int .i64 e.long, .str e.text]
def rnc (l : List Rn) : List AV := (l.map Rn.enc).flatMap AV.cells
end Go.S1N
end
section
set_option linter.unusedVariables false
set_option linter.unusedSimpArgs false
namespace Go.S1N
open Go Go.Am Go.Proofs Go.S1
set_option maxRecDepth 100000
set_option linter.unusedSimpArgs false
attribute [local irreducible] lopsB lvb lstepB lfunG lcondB lguardB ldrawB ldrunB ldstepB ldguardB lmem lval ldmem ldval ldfun lexit ldloadB ldlenB lpostB athen ablock
end Go.S1N
end
section
set_option linter.unusedVariables false
set_option linter.unusedSimpArgs false
namespace Go.S1N
open Go Go.Am Go.Proofs Go.S1
set_option maxRecDepth 100000
set_option linter.unusedSimpArgs false
attribute [local irreducible] lopsB lvb lstepB lfunG lcondB lguardB ldrawB ldrunB ldstepB ldguardB lmem lval ldmem ldval ldfun lexit ldloadB ldlenB lpostB athen ablock
end Go.S1N
end
section
set_option linter.unusedVariables false
set_option linter.unusedSimpArgs false
namespace Go.S1N
open Go Go.Am Go.Proofs Go.S1
set_option maxRecDepth 100000
set_option linter.unusedSimpArgs false
attribute [local irreducible] lopsB lvb lstepB lfunG lcondB lguardB ldrawB ldrunB ldstepB ldguardB lmem lval ldmem ldval ldfun lexit ldloadB ldlenB lpostB athen ablock
end Go.S1N
end
section
set_option linter.unusedVariables false
set_option linter.unusedSimpArgs false
namespace Go.S1N
open Go Go.Am Go.Proofs Go.S1
set_option maxRecDepth 100000
set_option linter.unusedSimpArgs false
attribute [local irreducible] lopsB lvb lstepB lfunG lcondB lguardB ldrawB ldrunB ldstepB ldguardB lmem lval ldmem ldval ldfun lexit ldloadB ldlenB lpostB athen ablock
theorem eq_of_take {α : Type} {a b : List α} {i : Nat} (h : a.take i = b.take i) (hi : i = a.length) (hl : a.length = b.length) : a = b := by
  subst hi
  rw [List.take_length, hl, List.take_length] at h
  exact h
theorem take_snoc {α : Type} {a b : List α} {i : Nat} {x : α} (h : a.take i = b.take i) (ha : a[i]? = some x) (hb : b[i]? = some x) : a.take (i + 1) = b.take (i + 1) := by
  rw [List.take_add_one, List.take_add_one, h, ha, hb]
theorem Ed.ext' {a b : Ed} (h1 : a.at_ = b.at_) (h2 : a.cut = b.cut) (h3 : a.new = b.new) : a = b := by cases a; cases b; simp_all
theorem beqd {α : Type} [BEq α] [LawfulBEq α] [DecidableEq α] {a b : α} : (a == b) = decide (a = b) := by
  by_cases h : a = b <;> simp [h]
theorem neq35 {a b a' b' : Int} {c c' : List UInt8} : abin tab .neq 37 (.agg [.int .i64 a, .int .i64 b, .str c]) (.agg [.int .i64 a', .int .i64 b', .str c']) = some (.bool (decide (¬ (a = a' ∧ b = b' ∧ c = c')))) := by
  simp [abin, abin1, aeq, ty37, ty3, ty9, aeqFields, apart, TD.isAgg, beqd]
  by_cases h1 : a = a' <;> by_cases h2 : b = b' <;> by_cases h3 : c = c' <;> simp [h1, h2, h3]
theorem equalEds_ok {v w : AV} {a b : List Ed} (hv : SlE v a) (hw : SlE w b) (ha : a.length < 4611686018427387904) (s : AHeap) [Decidable (a = b)] :
    ACall Tryz.prog 14 [v, w] s fun r t => r = .bool (decide (a = b)) ∧ t = s := by
  refine gob14 (by simp) ?_
  intro tm hlen harg
  simp +contextual only [go_sem, L14, hlen, harg, hv.len, hw.len, lcondB_decide, lcondB_not, lguardB_decide_true, lguardB_decide_false, ldguardB_decide, Nat.reduceLT, Nat.reduceEqDiff, Nat.reduceAdd, Nat.reduceLeDiff, reduceIte, reduceCtorEq]
  refine ⟨fun c => ?_, fun c => ?_⟩
  · refine lexit_pure (.refl s) (by simp only [low]) ⟨?_, rfl⟩
    have : a ≠ b := by rintro rfl; exact c rfl
    simp [this]
  · have hl : a.length = b.length := by omega
    refine ⟨Nat, fun i => [(0, v), (1, w), (12, .int .i64 a.length), (13, .int .i64 i)], fun i => loc s 0 [], fun i => i ≤ a.length ∧ a.take i = b.take i, fun i => a.length - i, 0, by simp, ?_, ?_⟩
    · refine To.go [] [] rfl (.refl s) (by decide) (by simp) ?_ trivial
      simp +contextual only [go_sem, hlen, harg, pu_ren hv.pu, pu_ren hw.pu, lcondB_decide, lcondB_not, lguardB_decide_true, lguardB_decide_false, ldguardB_decide, Nat.reduceLT, Nat.reduceEqDiff, Nat.reduceAdd, Nat.reduceLeDiff, reduceIte, reduceCtorEq]
      simp [hl]
    · rintro i tm1 ⟨hi, ht⟩ hlen1 hlv
      simp only [go_sem, hlen, lcondB_decide, lcondB_not, lguardB_decide_true, lguardB_decide_false, ldguardB_decide, Nat.reduceLT, Nat.reduceEqDiff, Nat.reduceAdd, Nat.reduceLeDiff, reduceIte, reduceCtorEq] at hlen1 hlv
      simp +contextual only [go_sem, hlen, hlen1, hlv, lcondB_decide, lcondB_not, lguardB_decide_true, lguardB_decide_false, ldguardB_decide, Nat.reduceLT, Nat.reduceEqDiff, Nat.reduceAdd, Nat.reduceLeDiff, reduceIte, reduceCtorEq]
      refine ⟨fun hlt => ?_, fun hge => ?_⟩
      · have hea := List.getElem?_eq_getElem (show i < a.length by omega)
        have heb := List.getElem?_eq_getElem (show i < b.length by omega)
        generalize a[i] = x at hea
        generalize b[i] = y at heb
        have hw1 : IntKind.i64.wrap ((i : Int) + 1) = ((i + 1 : Nat) : Int) := by rw [wrap_id (by omega)]; rfl
        refine ldrawB_go [] [] 8 (by decide) ?_
        simp only [go_sem, hlen1, hlv, hv.at hea, hw.at heb, neq35, hw1, lcondB_decide, Nat.reduceLT, Nat.reduceEqDiff, Nat.reduceAdd, Nat.reduceLeDiff, reduceIte, reduceCtorEq]
        refine ⟨by kernel_rfl, fun hne => ?_, fun he => ?_⟩
        · refine lexit_pure (.refl s) (by simp only [low]) ⟨?_, rfl⟩
          have : a ≠ b := by rintro rfl; rw [hea] at heb; cases heb; exact hne ⟨rfl, rfl, rfl⟩
          simp [this]
        · have he : _ ∧ _ ∧ _ := he
          have hxy : y = x := (Ed.ext' he.1 he.2.1 he.2.2).symm
          refine ⟨i + 1, ⟨by omega, take_snoc ht hea (by rw [heb, hxy])⟩, by omega, ?_⟩
          refine To.go [] [] rfl (.refl s) (by decide) (by simp) ?_ trivial
          simp +contextual only [go_sem, hlen1, hlv, pu_ren hv.pu, pu_ren hw.pu, lcondB_decide, lcondB_not, lguardB_decide_true, lguardB_decide_false, ldguardB_decide, Nat.reduceLT, Nat.reduceEqDiff, Nat.reduceAdd, Nat.reduceLeDiff, reduceIte, reduceCtorEq]
      · refine lexit_pure (.refl s) (by simp only [low]) ⟨?_, rfl⟩
        simp [eq_of_take ht (by omega) hl]
end Go.S1N
end
section
set_option linter.unusedVariables false
set_option linter.unusedSimpArgs false
namespace Go.S1N
open Go Go.Am Go.Proofs Go.S1
set_option maxRecDepth 100000
set_option linter.unusedSimpArgs false
attribute [local irreducible] lopsB lvb lstepB lfunG lcondB lguardB ldrawB ldrunB ldstepB ldguardB lmem lval ldmem ldval ldfun lexit ldloadB ldlenB lpostB athen ablock
end Go.S1N
end
section
set_option linter.unusedVariables false
set_option linter.unusedSimpArgs false
namespace Go.S1N
open Go Go.Am Go.Proofs Go.S1
set_option maxRecDepth 100000
set_option linter.unusedSimpArgs false
attribute [local irreducible] lopsB lvb lstepB lfunG lcondB lguardB ldrawB ldrunB ldstepB ldguardB lmem lval ldmem ldval ldfun lexit ldloadB ldlenB lpostB athen ablock
end Go.S1N
end
section
set_option linter.unusedVariables false
set_option linter.unusedSimpArgs false
namespace Go.S1N
open Go Go.Am Go.Proofs Go.S1
set_option maxRecDepth 100000
set_option linter.unusedSimpArgs false
def dl : List Ed → Int
  | [] => 0
  | e :: r => (e.new.length - e.cut) + dl r
theorem long_dl : ∀ (l : List Ed) (m : Int), (∀ e ∈ l, e.new.length ≤ 100000 ∧ 0 ≤ e.cut ∧ e.cut ≤ 100000) → -1000000000000 ≤ m - 100000 * (l.length : Int) → m + 100000 * (l.length : Int) ≤ 1000000000000 → longOf m l = m + dl l
  | [], m, _, _, _ => by simp [longOf, dl]
  | e :: r, m, h, h1, h2 => by
    have he := h e (List.mem_cons_self ..)
    simp only [List.length_cons] at h1 h2
    have hw1 : IntKind.i64.wrap ((e.new.length : Int) - e.cut) = (e.new.length : Int) - e.cut := wrap_id (by omega)
    have hw2 : IntKind.i64.wrap (m + ((e.new.length : Int) - e.cut)) = m + ((e.new.length : Int) - e.cut) := wrap_id (by omega)
    have := long_dl r (m + ((e.new.length : Int) - e.cut)) (fun x hx => h x (List.mem_cons_of_mem _ hx)) (by omega) (by omega)
    rw [longOf, List.foldl_cons, hw1, hw2]
    rw [longOf] at this
    rw [this, dl]
    omega
theorem run_len (a k : Nat) : (runOf a k).length = k := by simp [runOf]
theorem flow_dl (n : Nat) : ∀ (l : List Ed) (a : Nat) (B : Int), (B = a ∨ (B = -1 ∧ a = 0)) → a ≤ n → scan n B l = 0 → ((flowFrom n a l).length : Int) = (n - a) + dl l
  | [], a, B, _, ha, _ => by simp only [flowFrom, run_len, dl]; omega
  | e :: r, a, B, hB, ha, h => by
    obtain ⟨c1, c2, c3, c4, c5, c6⟩ := scan_cons h
    have := flow_dl n r (e.at_ + e.cut).toNat (e.at_ + e.cut) (.inl (by omega)) (by omega) c6
    simp only [flowFrom, List.length_append, run_len, List.length_map, dl]
    omega
theorem scan_ne {n B : Int} {e : Ed} {r : List Ed} (h : scan n B (e :: r) = 0) : ¬ (e.cut = 0 ∧ e.new = []) := by
  intro hh
  rw [scan] at h
  split at h
  · cases h
  · split at h
    · cases h
    · first | cases h | (rw [if_pos hh] at h; cases h)
theorem runOf_cons (a k : Nat) : runOf a (k + 1) = ((a : Int), 0) :: runOf (a + 1) k := rfl
end Go.S1N
end
section
set_option linter.unusedVariables false
set_option linter.unusedSimpArgs false
namespace Go.S1N
open Go Go.Am Go.Proofs Go.S1
set_option maxRecDepth 100000
set_option linter.unusedSimpArgs false
attribute [local irreducible] lopsB lvb lstepB lfunG lcondB lguardB ldrawB ldrunB ldstepB ldguardB lmem lval ldmem ldval ldfun lexit ldloadB ldlenB lpostB athen ablock
theorem ints_cells {v : AV} {l : List Int} (h : IsInts v l) : v.cells = [v] := by rcases h with ⟨f, rfl⟩ | ⟨rfl, rfl⟩ <;> rfl
theorem ints_israw {v : AV} {l : List Int} (h : IsInts v l) : v.israw = false := by rcases h with ⟨f, rfl⟩ | ⟨rfl, rfl⟩ <;> rfl
def applyVal (x : List UInt8) (l : List Ed) : List UInt8 × Int := if textFault x l ≠ 0 then ([], textFault x l) else (applyFrom x 0 l, 0)
theorem apply21_ok (x : List UInt8) (v : AV) (l : List Ed) (hv : SlE v l) (hl : l.length < 4611686018427387904) (hnew : ∀ e ∈ l, e.new.length ≤ 100000) (s : AHeap) :
    ACall Tryz.prog 11 [.str x, v] s fun r t => r = .tuple [.str (applyVal x l).1, .int .i64 (applyVal x l).2] ∧ t = s := by
  refine gob11 (by simp) ?_
  intro tm hlen harg
  simp +contextual only [go_sem, L11, hlen, harg, lcondB_decide, lcondB_not, lguardB_decide_true, lguardB_decide_false, ldguardB_decide, Nat.reduceLT, Nat.reduceEqDiff, Nat.reduceAdd, Nat.reduceLeDiff, reduceIte, reduceCtorEq]
  refine lfunG_eq (checkTextE x v l hv hl _) ?_
  simp +contextual only [go_sem, hlen, harg, lcondB_decide, lcondB_not, lguardB_decide_true, lguardB_decide_false, ldguardB_decide, Nat.reduceLT, Nat.reduceEqDiff, Nat.reduceAdd, Nat.reduceLeDiff, reduceIte, reduceCtorEq]
  refine ⟨fun c => ?_, fun c => ?_⟩
  · refine lexit_pure (.refl s) (by simp only [low, lowL, and_self]) ⟨?_, rfl⟩
    rw [applyVal, if_pos c]
  · obtain ⟨hx, hl2, hsc⟩ := textFault_zero c
    have hval : applyVal x l = (applyFrom x 0 l, 0) := by rw [applyVal, if_neg (by simpa using c)]
    rw [hval]
    refine lfunG_eq (exact_of (by simp only [Pu, low]) (apply_ok x v l hv hl2 hx (fun e he => by have := hnew e he; omega) hsc _)) ?_
    simp +contextual only [go_sem, hlen, harg, lcondB_decide, lcondB_not, lguardB_decide_true, lguardB_decide_false, ldguardB_decide, Nat.reduceLT, Nat.reduceEqDiff, Nat.reduceAdd, Nat.reduceLeDiff, reduceIte, reduceCtorEq]
    exact lexit_pure (.refl s) (by simp only [low, lowL, and_self]) ⟨rfl, rfl⟩
theorem faultOf_zero {n : Int} {l : List Ed} (h : faultOf n l = 0) : 0 ≤ n ∧ n ≤ 20000 ∧ l.length ≤ 2000 ∧ scan n (-1) l = 0 := by
  rw [faultOf] at h
  split at h
  · cases h
  · rename_i h1
    have h1 := Classical.not_not.1 h1
    split at h
    · cases h
    · split at h
      · rename_i h3; exact absurd h h3
      · rename_i h2 h3
        exact ⟨h1.1, h1.2, by omega, Classical.not_not.1 h3⟩
theorem same33 (l : List Ed) (h : l.length < 4611686018427387904) (s : AHeap) : ACall Tryz.prog 14 [edv l, edv l] s fun r t => r = .bool true ∧ t = s := by
  classical
  have := equalEds_ok (edv_sl l) (edv_sl l) h s
  simpa using this
end Go.S1N
end
section
set_option linter.unusedVariables false
set_option linter.unusedSimpArgs false
namespace Go.S1
open Go Go.Am Go.Proofs
set_option maxRecDepth 100000
end Go.S1
end
section
set_option linter.unusedVariables false
set_option linter.unusedSimpArgs false
namespace Go.S1N
open Go Go.Am Go.Proofs Go.S1
set_option maxRecDepth 100000
set_option linter.unusedSimpArgs false
attribute [local irreducible] lopsB lvb lstepB lfunG lcondB lguardB ldrawB ldrunB ldstepB ldguardB lmem lval ldmem ldval ldfun lexit ldloadB ldlenB lpostB athen ablock
end Go.S1N
end
section
set_option linter.unusedVariables false
set_option linter.unusedSimpArgs false
namespace Go.S1N
open Go Go.Am Go.Proofs Go.S1
set_option maxRecDepth 100000
set_option linter.unusedSimpArgs false
end Go.S1N
end
section
set_option linter.unusedVariables false
set_option linter.unusedSimpArgs false
namespace Go.S1N
open Go Go.Am Go.Proofs Go.S1
set_option maxRecDepth 100000
set_option linter.unusedSimpArgs false
theorem faultOf_long {n : Int} {l : List Ed} (h : faultOf n l = 0) : longOf n l ≤ 20000 := by
  rw [faultOf] at h
  split at h
  · cases h
  · split at h
    · cases h
    · split at h
      · rename_i h3; exact absurd h h3
      · split at h
        · cases h
        · omega
theorem flow_short {n : Nat} {l : List Ed} (h : faultOf n l = 0) (hnew : ∀ e ∈ l, e.new.length ≤ 100000) : (flowFrom n 0 l).length ≤ 20000 ∧ longOf n l = (flowFrom n 0 l).length := by
  obtain ⟨h0, h1, h2, hs⟩ := faultOf_zero h
  have q1 := flow_dl n l 0 (-1) (.inr ⟨rfl, rfl⟩) (by omega) hs
  have q2 := long_dl l n (fun e he => ⟨hnew e he, by have := scan_range l _ hs e he; omega⟩) (by omega) (by omega)
  have q3 := faultOf_long h
  omega
end Go.S1N
end
section
set_option linter.unusedVariables false
set_option linter.unusedSimpArgs false
namespace Go.S1N
open Go Go.Am Go.Proofs Go.S1
set_option maxRecDepth 100000
set_option linter.unusedSimpArgs false
theorem scan_mk {n B : Int} {e : Ed} {r : List Ed} (h1 : 0 ≤ e.at_ ∧ e.at_ ≤ n) (h2 : 0 ≤ e.cut ∧ e.cut ≤ n - e.at_) (h3 : ¬ (e.cut = 0 ∧ e.new = [])) (h4 : B < e.at_) (h5 : scan n (e.at_ + e.cut) r = 0) : scan n B (e :: r) = 0 := by
  rw [scan, if_neg (Classical.not_not.2 h1), if_neg (Classical.not_not.2 h2), if_neg h3, if_neg (by omega), h5]
theorem take_mid (x : List UInt8) (a k : Nat) (h : k ≤ x.length) (ha : a ≤ k) : (x.drop a).take (k - a) ++ x.drop k = x.drop a := by
  have : x.drop k = (x.drop a).drop (k - a) := by rw [List.drop_drop]; congr 1; omega
  rw [this, List.take_append_drop]
theorem inv_from (x : List UInt8) : ∀ (l : List Ed) (a : Nat) (B : Int) (pre : List UInt8), (B = a ∨ (B = -1 ∧ a = 0)) → a ≤ x.length → scan x.length B l = 0 →
    scan (pre ++ applyFrom x a l).length (if B = a then (pre.length : Int) else -1) (invFrom x (pre.length - a) l) = 0 ∧
    applyFrom (pre ++ applyFrom x a l) pre.length (invFrom x (pre.length - a) l) = x.drop a ∧
    invFrom (pre ++ applyFrom x a l) (a - pre.length) (invFrom x (pre.length - a) l) = l
  | [], a, B, pre, _, _, _ => by
    refine ⟨rfl, ?_, rfl⟩
    rw [invFrom, applyFrom, applyFrom, List.drop_left]
  | e :: r, a, B, pre, hB, ha, hs => by
    obtain ⟨c1, c2, c3, c4, c5, c6⟩ := scan_cons hs
    have hne := scan_ne hs
    obtain ⟨m, hm⟩ : ∃ m : Nat, e.at_ = m := ⟨e.at_.toNat, by omega⟩
    obtain ⟨c, hc⟩ : ∃ c : Nat, e.cut = c := ⟨e.cut.toNat, by omega⟩
    have ham : a ≤ m := by omega
    have hmx : m + c ≤ x.length := by omega
    have tl : ((x.drop a).take (m - a)).length = m - a := by rw [List.length_take, List.length_drop]; omega
    have ih := inv_from x r (m + c) (m + c) (pre ++ ((x.drop a).take (m - a) ++ e.new)) (.inl (by omega)) (by omega) (by rw [hm, hc] at c6; exact c6)
    have ey : pre ++ ((x.drop a).take (m - a) ++ e.new) ++ applyFrom x (m + c) r = pre ++ applyFrom x a (e :: r) := by
      rw [applyFrom, show e.at_.toNat = m by omega, show (e.at_ + e.cut).toNat = m + c by omega]
      simp only [List.append_assoc]
    have el : (pre ++ ((x.drop a).take (m - a) ++ e.new)).length = pre.length + (m - a) + e.new.length := by
      rw [List.length_append, List.length_append, tl]; omega
    rw [ey, el] at ih
    have es1 : (((pre.length + (m - a) + e.new.length : Nat) : Int) - ((m + c : Nat) : Int)) = (pre.length : Int) - a + (e.new.length - e.cut) := by omega
    have es2 : (((m + c : Nat) : Int) - ((pre.length + (m - a) + e.new.length : Nat) : Int)) = (a : Int) - pre.length + (e.cut - e.new.length) := by omega
    rw [es1, es2, if_pos (show (m : Int) + (c : Int) = ((m + c : Nat) : Int) by omega)] at ih
    obtain ⟨i1, i2, i3⟩ := ih
    have hyl : pre.length + (m - a) + e.new.length ≤ (pre ++ applyFrom x a (e :: r)).length := by
      rw [← ey, List.length_append, el]; omega
    have hold : (x.drop e.at_.toNat).take ((e.at_ + e.cut).toNat - e.at_.toNat) = (x.drop m).take c := by
      rw [show e.at_.toNat = m by omega, show (e.at_ + e.cut).toNat - m = c by omega]
    have hol : ((x.drop m).take c).length = c := by rw [List.length_take, List.length_drop]; omega
    rw [invFrom, hold]
    generalize hy : pre ++ applyFrom x a (e :: r) = y at i1 i2 i3 hyl ⊢
    have hyd : y.drop (pre.length + (m - a)) = e.new ++ applyFrom x (m + c) r := by
      rw [← hy, ← ey, List.append_assoc, List.append_assoc, ← List.drop_drop, List.drop_left, ← List.append_assoc, List.append_assoc]
      rw [show m - a = ((x.drop a).take (m - a)).length from tl.symm]
      simp
    have hyt : (y.drop pre.length).take (m - a) = (x.drop a).take (m - a) := by
      rw [← hy, ← ey, List.append_assoc, List.append_assoc, List.drop_left]
      exact List.take_left' tl
    refine ⟨?_, ?_, ?_⟩
    · refine scan_mk ⟨by simp only; omega, by simp only; omega⟩ ⟨by simp only; omega, by simp only; omega⟩ ?_ ?_ ?_
      · rintro ⟨h1, h2⟩
        simp only at h1 h2
        have : c = 0 := by rw [← hol, h2]; rfl
        exact hne ⟨by omega, List.eq_nil_of_length_eq_zero (by omega)⟩
      · simp only
        split
        · omega
        · omega
      · simp only
        rw [show e.at_ + ((pre.length : Int) - a) + (e.new.length : Int) = ((pre.length + (m - a) + e.new.length : Nat) : Int) by omega]
        exact i1
    · rw [applyFrom]
      simp only
      rw [show (e.at_ + ((pre.length : Int) - a)).toNat - pre.length = m - a by omega, hyt, show (e.at_ + ((pre.length : Int) - a) + (e.new.length : Int)).toNat = pre.length + (m - a) + e.new.length by omega, i2, List.append_assoc]
      rw [show (x.drop m).take c = (x.drop m).take (m + c - m) by congr 1; omega, take_mid x m (m + c) hmx (by omega), take_mid x a m (by omega) ham]
    · rw [invFrom]
      simp only
      have e1 : e.at_ + ((pre.length : Int) - a) + ((a : Int) - pre.length) = e.at_ := by omega
      have e2 : (y.drop (e.at_ + ((pre.length : Int) - a)).toNat).take ((e.at_ + ((pre.length : Int) - a) + (e.new.length : Int)).toNat - (e.at_ + ((pre.length : Int) - a)).toNat) = e.new := by
        rw [show (e.at_ + ((pre.length : Int) - a)).toNat = pre.length + (m - a) by omega, hyd, show (e.at_ + ((pre.length : Int) - a) + (e.new.length : Int)).toNat - (pre.length + (m - a)) = e.new.length by omega, List.take_left]
      rw [e1, e2, hol, show (c : Int) = e.cut from hc.symm, i3]
theorem inv_law (x : List UInt8) (l : List Ed) (hs : scan x.length (-1) l = 0) :
    scan (applyFrom x 0 l).length (-1) (invFrom x 0 l) = 0 ∧ applyFrom (applyFrom x 0 l) 0 (invFrom x 0 l) = x ∧ invFrom (applyFrom x 0 l) 0 (invFrom x 0 l) = l := by
  have := inv_from x l 0 (-1) [] (.inr ⟨rfl, rfl⟩) (Nat.zero_le _) hs
  rw [if_neg (by decide)] at this
  simpa using this
end Go.S1N
end
section
set_option linter.unusedVariables false
set_option linter.unusedSimpArgs false
namespace Go.S1N
open Go Go.Am Go.Proofs Go.S1
set_option maxRecDepth 100000
set_option linter.unusedSimpArgs false
end Go.S1N
end
section
set_option linter.unusedVariables false
set_option linter.unusedSimpArgs false
namespace Go.S1N
open Go Go.Am Go.Proofs Go.S1
set_option maxRecDepth 100000
set_option linter.unusedSimpArgs false
attribute [local irreducible] lopsB lvb lstepB lfunG lcondB lguardB ldrawB ldrunB ldstepB ldguardB lmem lval ldmem ldval ldfun lexit ldloadB ldlenB lpostB athen ablock
structure IsEds (v : AV) (l : List (List Ed)) : Prop where
  len : alen tab 44 v = some (.int .i64 l.length)
  at_ : ∀ {j : Nat} {c : List Ed}, l[j]? = some c → aindexAddr tab 44 v (.int .i64 j) = some (.rptr [edv c])
  pu : Pu v
end Go.S1N
end
section
set_option linter.unusedVariables false
set_option linter.unusedSimpArgs false
namespace Go.S1N
open Go Go.Am Go.Proofs Go.S1
set_option maxRecDepth 100000
set_option linter.unusedSimpArgs false
def rsize (r : Rn) : Nat := max r.long.toNat r.text.length
def okR (r : Rn) : Prop := 0 ≤ r.at_ ∧ 0 ≤ r.long ∧ (r.text = [] ∨ r.long = 0)
end Go.S1N
end
section
set_option linter.unusedVariables false
set_option linter.unusedSimpArgs false
namespace Go.S1N
open Go Go.Am Go.Proofs Go.S1
set_option maxRecDepth 100000
set_option linter.unusedSimpArgs false
set_option linter.unusedVariables false
end Go.S1N
end
section
set_option linter.unusedVariables false
set_option linter.unusedSimpArgs false
namespace Go.S1N
open Go Go.Am Go.Proofs Go.S1
set_option maxRecDepth 100000
set_option linter.unusedSimpArgs false
attribute [local irreducible] lopsB lvb lstepB lfunG lcondB lguardB ldrawB ldrunB ldstepB ldguardB lmem lval ldmem ldval ldfun lexit ldloadB ldlenB lpostB athen ablock
def Rn.emp (r : Rn) : Prop := r.long = 0 ∧ r.text = []
instance (r : Rn) : Decidable r.emp := inferInstanceAs (Decidable (_ ∧ _))
theorem rnc_cons (r : Rn) (l : List Rn) : rnc (r :: l) = .int .i64 r.at_ :: .int .i64 r.long :: .str r.text :: rnc l := rfl
structure LB (C : List AV) (off : Nat) (R : List Rn) : Prop where
  pu : PuL C
  rest : ∃ J, C.drop off = rnc R ++ J
theorem LB.head {C : List AV} {off : Nat} {r : Rn} {R : List Rn} (h : LB C off (r :: R)) : ∃ T, C.drop off = .int .i64 r.at_ :: .int .i64 r.long :: .str r.text :: T := by
  obtain ⟨J, hJ⟩ := h.rest
  exact ⟨rnc R ++ J, by rw [hJ, rnc_cons]; rfl⟩
theorem LB.tail {C : List AV} {off : Nat} {r : Rn} {R : List Rn} (h : LB C off (r :: R)) : LB C (off + 3) R := by
  obtain ⟨J, hJ⟩ := h.rest
  refine ⟨h.pu, J, ?_⟩
  rw [show off + 3 = off + 3 from rfl, ← List.drop_drop, hJ, rnc_cons]
  rfl
theorem pul_set {C : List AV} (h : PuL C) (i : Nat) {v : AV} (hv : low 0 v) : PuL (C.set i v) := by
  unfold PuL at *
  rw [lowL_iff] at *
  intro x hx
  rcases List.mem_or_eq_of_mem_set hx with q | rfl
  · exact h x q
  · exact hv
theorem drop_set_at {C : List AV} (off k : Nat) (v : AV) : (C.set (off + k) v).drop off = (C.drop off).set k v := by
  rw [List.drop_set, if_neg (by omega), Nat.add_sub_cancel_left]
theorem LB.text {C : List AV} {off : Nat} {r : Rn} {R : List Rn} (h : LB C off (r :: R)) (x : List UInt8) : LB (C.set (off + 2) (.str x)) off (⟨r.at_, r.long, x⟩ :: R) := by
  obtain ⟨J, hJ⟩ := h.rest
  refine ⟨pul_set h.pu _ (by simp only [low]), J, ?_⟩
  rw [drop_set_at, hJ, rnc_cons, rnc_cons]
  rfl
end Go.S1N
end
section
set_option linter.unusedVariables false
set_option linter.unusedSimpArgs false
namespace Go.S1N
open Go Go.Am Go.Proofs Go.S1
set_option maxRecDepth 100000
set_option linter.unusedSimpArgs false
attribute [local irreducible] lopsB lvb lstepB lfunG lcondB lguardB ldrawB ldrunB ldstepB ldguardB lmem lval ldmem ldval ldfun lexit ldloadB ldlenB lpostB athen ablock
end Go.S1N
end
section
set_option linter.unusedVariables false
set_option linter.unusedSimpArgs false
namespace Go.S1N
open Go Go.Am Go.Proofs Go.S1
set_option maxRecDepth 100000
set_option linter.unusedSimpArgs false
attribute [local irreducible] lopsB lvb lstepB lfunG lcondB lguardB ldrawB ldrunB ldstepB ldguardB lmem lval ldmem ldval ldfun lexit ldloadB ldlenB lpostB athen ablock
structure RB (r : Rn) : Prop where
  ok : okR r
  pos : 0 < rsize r
  lo : 0 ≤ r.at_
  hi : r.at_ + r.long ≤ 1000000000
end Go.S1N
end
section
set_option linter.unusedVariables false
set_option linter.unusedSimpArgs false
namespace Go.S1N
open Go Go.Am Go.Proofs Go.S1
set_option maxRecDepth 100000
set_option linter.unusedSimpArgs false
attribute [local irreducible] lopsB lvb lstepB lfunG lcondB lguardB ldrawB ldrunB ldstepB ldguardB lmem lval ldmem ldval ldfun lexit ldloadB ldlenB lpostB athen ablock
end Go.S1N
end
section
set_option linter.unusedVariables false
set_option linter.unusedSimpArgs false
namespace Go.S1N
open Go Go.Am Go.Proofs Go.S1
set_option maxRecDepth 100000
set_option linter.unusedSimpArgs false
attribute [local irreducible] lopsB lvb lstepB lfunG lcondB lguardB ldrawB ldrunB ldstepB ldguardB lmem lval ldmem ldval ldfun lexit ldloadB ldlenB lpostB athen ablock
end Go.S1N
end
section
set_option linter.unusedVariables false
set_option linter.unusedSimpArgs false
namespace Go.S1N
open Go Go.Am Go.Proofs Go.S1
set_option maxRecDepth 100000
set_option linter.unusedSimpArgs false
attribute [local irreducible] lopsB lvb lstepB lfunG lcondB lguardB ldrawB ldrunB ldstepB ldguardB lmem lval ldmem ldval ldfun lexit ldloadB ldlenB lpostB athen ablock
end Go.S1N
end
section
set_option linter.unusedVariables false
set_option linter.unusedSimpArgs false
namespace Go.S1N
open Go Go.Am Go.Proofs Go.S1
set_option maxRecDepth 100000
set_option linter.unusedSimpArgs false
end Go.S1N
end
section
set_option linter.unusedVariables false
set_option linter.unusedSimpArgs false
namespace Go.S1N
open Go Go.Am Go.Proofs Go.S1
set_option maxRecDepth 100000
set_option linter.unusedSimpArgs false
theorem long_flow7 {n : Nat} {l : List Ed} (hn : n ≤ 20000) (hl : l.length ≤ 2000) (hnew : ∀ e ∈ l, e.new.length ≤ 100000) (hs : scan n (-1) l = 0) : longOf n l = (flowFrom n 0 l).length := by
  have q1 := flow_dl n l 0 (-1) (.inr ⟨rfl, rfl⟩) (by omega) hs
  have q2 := long_dl l n (fun e he => ⟨hnew e he, by have := scan_range l _ hs e he; omega⟩) (by omega) (by omega)
  omega
theorem fault_mk {n : Nat} {l : List Ed} (hn : n ≤ 20000) (hl : l.length ≤ 2000) (hnew : ∀ e ∈ l, e.new.length ≤ 100000) (hs : scan n (-1) l = 0) (hf : (flowFrom n 0 l).length ≤ 20000) : faultOf n l = 0 := by
  have := long_flow7 hn hl hnew hs
  rw [faultOf, if_neg (by omega), if_neg (by omega), if_neg (by rw [hs]; decide), if_neg (by omega)]
end Go.S1N
end
section
set_option linter.unusedVariables false
set_option linter.unusedSimpArgs false
namespace Go.S1
open Go Go.Am Go.Proofs
set_option maxRecDepth 100000
noncomputable def L97 : LCode := LCode.seq (LCode.ops [⟨Op.assign (Operand.const (Value.int IntKind.i64 0)), some 6, none⟩, ⟨Op.assign (Operand.const (Value.bool false)), some 7, none⟩]) (LCode.seq (LCode.ops [⟨Op.move (Operand.tmp 0), some 12, none⟩, ⟨Op.call { callee := Callee.builtin Builtin.len, args := { toList := [Operand.tmp 12] }, argTypes := { toList := [27] } }, some 13, none⟩, ⟨Op.assign (Operand.tmp 13), some 8, none⟩]) (LCode.seq (LCode.ops [⟨Op.move (Operand.tmp 8), some 14, none⟩, ⟨Op.assign (Operand.const (Value.int IntKind.i64 0)), some 9, none⟩, ⟨Op.assign (Operand.tmp 14), some 10, none⟩]) (LCode.seq (LCode.block 0 (LCode.loop (LCode.seq (LCode.seq (LCode.ops [⟨Op.move (Operand.tmp 9), some 15, none⟩, ⟨Op.move (Operand.tmp 10), some 16, none⟩, ⟨Op.binOp BinOp.lss 3 (Operand.tmp 15) (Operand.tmp 16) 3, some 17, none⟩]) (LCode.cond (Operand.tmp 17) LCode.skip (LCode.exit 0))) (LCode.block 1 (LCode.seq (LCode.ops [⟨Op.move (Operand.tmp 9), some 18, none⟩, ⟨Op.move (Operand.tmp 10), some 19, none⟩, ⟨Op.binOp BinOp.add 3 (Operand.tmp 18) (Operand.tmp 19) 3, some 20, none⟩, ⟨Op.convert 3 216 (Operand.tmp 20), some 21, none⟩, ⟨Op.binOp BinOp.shr 216 (Operand.tmp 21) (Operand.const (Value.int IntKind.u64 1)) 216, some 22, none⟩, ⟨Op.convert 216 3 (Operand.tmp 22), some 23, none⟩, ⟨Op.assign (Operand.tmp 23), some 11, none⟩]) (LCode.seq (LCode.ops [⟨Op.move (Operand.tmp 2), some 24, none⟩, ⟨Op.move (Operand.tmp 0), some 25, none⟩, ⟨Op.move (Operand.tmp 11), some 26, none⟩, ⟨Op.indexAddr 27 (Operand.tmp 25) (Operand.tmp 26), some 27, none⟩, ⟨Op.load 37 (Operand.tmp 27), some 28, none⟩, ⟨Op.move (Operand.tmp 1), some 29, none⟩, ⟨Op.call { callee := Callee.value (Operand.tmp 24), args := { toList := [Operand.tmp 28, Operand.tmp 29] }, argTypes := { toList := [37, 3] } }, some 30, none⟩, ⟨Op.binOp BinOp.lss 3 (Operand.tmp 30) (Operand.const (Value.int IntKind.i64 0)) 3, some 31, none⟩]) (LCode.cond (Operand.tmp 31) (LCode.ops [⟨Op.move (Operand.tmp 11), some 32, none⟩, ⟨Op.binOp BinOp.add 3 (Operand.tmp 32) (Operand.const (Value.int IntKind.i64 1)) 3, some 33, none⟩, ⟨Op.assign (Operand.tmp 33), some 9, none⟩]) (LCode.ops [⟨Op.move (Operand.tmp 11), some 34, none⟩, ⟨Op.assign (Operand.tmp 34), some 10, none⟩])))))))) (LCode.seq (LCode.ops [⟨Op.move (Operand.tmp 9), some 35, none⟩, ⟨Op.move (Operand.tmp 9), some 36, none⟩, ⟨Op.move (Operand.tmp 8), some 37, none⟩, ⟨Op.binOp BinOp.lss 3 (Operand.tmp 36) (Operand.tmp 37) 3, some 38, none⟩, ⟨Op.move (Operand.tmp 38), some 39, none⟩, ⟨Op.move (Operand.tmp 2), some 40, some (39, true)⟩, ⟨Op.move (Operand.tmp 0), some 41, some (39, true)⟩, ⟨Op.move (Operand.tmp 9), some 42, some (39, true)⟩, ⟨Op.indexAddr 27 (Operand.tmp 41) (Operand.tmp 42), some 43, some (39, true)⟩, ⟨Op.load 37 (Operand.tmp 43), some 44, some (39, true)⟩, ⟨Op.move (Operand.tmp 1), some 45, some (39, true)⟩, ⟨Op.call { callee := Callee.value (Operand.tmp 40), args := { toList := [Operand.tmp 44, Operand.tmp 45] }, argTypes := { toList := [37, 3] } }, some 46, some (39, true)⟩, ⟨Op.binOp BinOp.eql 3 (Operand.tmp 46) (Operand.const (Value.int IntKind.i64 0)) 3, some 47, some (39, true)⟩, ⟨Op.pick (Operand.tmp 39) (Operand.tmp 47) (Operand.const (Value.bool false)), some 48, none⟩, ⟨Op.assign (Operand.tmp 35), some 6, none⟩, ⟨Op.assign (Operand.tmp 48), some 7, none⟩]) LCode.ret))))
theorem l97 : Tryz.f97.body.map lighten = some L97 := by kernel_rfl
theorem rs97 : Tryz.f97.results.toList = [ResultVar.tmp 6, ResultVar.tmp 7] := by kernel_rfl
theorem nt97 : Tryz.f97.ntmps = 49 := by kernel_rfl
theorem gob97 {args : List AV} {s : AHeap} {R : AV → AHeap → Prop} (hl : args.length ≤ 49) (h : ∀ tm, tm.length = 49 → (∀ i, aev tm (.tmp i) = args.getD i aundef) → lvb Tryz.prog tab s L97 (lpostB tab s [ResultVar.tmp 6, ResultVar.tmp 7] R) tm (loc s 0 [])) : ACall Tryz.prog 97 args s R := ACall.goB tab_ok mixed Tryz.func97 l97 nm97 rs97 nt97 hl h
end Go.S1
end
section
set_option linter.unusedVariables false
set_option linter.unusedSimpArgs false
namespace Go.S1N
open Go Go.Am Go.Proofs Go.S1
set_option maxRecDepth 100000
set_option linter.unusedSimpArgs false
set_option linter.unusedVariables false
theorem ty216 : tab.ty 216 = some { td := .int .u64, size := 1, bytes := 8, zero := .int .u64 0, eqok := false } := by kernel_rfl
end Go.S1N
end
section
set_option linter.unusedVariables false
set_option linter.unusedSimpArgs false
namespace Go.S1N
open Go Go.Am Go.Proofs Go.S1
set_option maxRecDepth 100000
set_option linter.unusedSimpArgs false
attribute [local irreducible] lopsB lvb lstepB lfunG lcondB lguardB ldrawB ldrunB ldstepB ldguardB lmem lval ldmem ldval ldfun lexit ldloadB ldlenB lpostB athen ablock
def Ed.covers (e : Ed) (p : Int) : Prop := e.at_ ≤ p ∧ p < e.at_ + e.cut
instance (e : Ed) (p : Int) : Decidable (Ed.covers e p) := inferInstanceAs (Decidable (_ ∧ _))
def goneB (l : List Ed) (p : Int) : Bool := l.any fun e => decide (Ed.covers e p)
end Go.S1N
end
section
set_option linter.unusedVariables false
set_option linter.unusedSimpArgs false
namespace Go.S1N
open Go Go.Am Go.Proofs Go.S1
set_option maxRecDepth 100000
set_option linter.unusedSimpArgs false
attribute [local irreducible] lopsB lvb lstepB lfunG lcondB lguardB ldrawB ldrunB ldstepB ldguardB lmem lval ldmem ldval ldfun lexit ldloadB ldlenB lpostB athen ablock
structure RS (n : Int) (l : List Ed) : Prop where
  each : ∀ e ∈ l, 0 ≤ e.at_ ∧ 0 ≤ e.cut ∧ e.at_ + e.cut ≤ n
  pair : l.Pairwise fun x y => x.at_ + x.cut < y.at_
theorem RS.tail {n : Int} {e : Ed} {l : List Ed} (h : RS n (e :: l)) : RS n l := ⟨fun x hx => h.each x (List.mem_cons_of_mem e hx), (List.pairwise_cons.1 h.pair).2⟩
def cntLt (l : List Ed) (p : Int) : Nat := (l.filter fun e => decide (e.at_ < p)).length
def hasAt (l : List Ed) (p : Int) : Bool := l.any fun e => decide (e.at_ = p)
def insAt (l : List Ed) (p : Int) : List UInt8 := match l.find? fun e => decide (e.at_ = p) with
  | some e => e.new
  | none => []
theorem cnt_iff {n : Int} (p : Int) : ∀ {l : List Ed}, RS n l → ∀ {k : Nat} {e : Ed}, l[k]? = some e → (e.at_ < p ↔ k < cntLt l p)
  | [], _, k, e, h => by simp at h
  | x :: l, hr, k, e, h => by
    have hx := hr.each x (List.mem_cons_self ..)
    have hp := (List.pairwise_cons.1 hr.pair).1
    unfold cntLt
    rw [List.filter_cons]
    by_cases hlt : x.at_ < p
    · rw [if_pos (by simpa using hlt), List.length_cons]
      cases k with
      | zero => simp at h; subst h; exact ⟨fun _ => by omega, fun _ => hlt⟩
      | succ k =>
        have := cnt_iff p hr.tail (k := k) (e := e) (by simpa using h)
        unfold cntLt at this
        omega
    · have h0 : (l.filter fun e => decide (e.at_ < p)) = [] := by
        rw [List.filter_eq_nil_iff]
        intro y hy
        have := hp y hy
        simp only [decide_eq_true_eq]; omega
      rw [if_neg (by simpa using hlt), h0]
      have : ¬ e.at_ < p := by
        cases k with
        | zero => simp at h; subst h; exact hlt
        | succ k =>
          have := hp e (List.mem_of_getElem? (i := k) (by simpa using h))
          omega
      exact ⟨fun q => absurd q this, fun q => by simp at q⟩
theorem cnt_le (l : List Ed) (p : Int) : cntLt l p ≤ l.length := List.length_filter_le ..
theorem at_uniq {n : Int} {l : List Ed} (h : RS n l) {x y : Ed} (hx : x ∈ l) (hy : y ∈ l) (he : x.at_ = y.at_) : x = y := by
  obtain ⟨i, hi, rfl⟩ := List.mem_iff_getElem.1 hx
  obtain ⟨j, hj, rfl⟩ := List.mem_iff_getElem.1 hy
  rcases Nat.lt_trichotomy i j with q | q | q
  · have := List.pairwise_iff_getElem.1 h.pair i j hi hj q
    have := h.each _ (List.getElem_mem hi)
    omega
  · subst q; rfl
  · have := List.pairwise_iff_getElem.1 h.pair j i hj hi q
    have := h.each _ (List.getElem_mem hj)
    omega
theorem has_at {n : Int} {l : List Ed} (h : RS n l) (p : Int) : (hasAt l p = true → ∃ e, l[cntLt l p]? = some e ∧ e.at_ = p ∧ insAt l p = e.new) ∧ (hasAt l p = false → insAt l p = [] ∧ ∀ e, l[cntLt l p]? = some e → e.at_ ≠ p) := by
  constructor
  · intro hh
    obtain ⟨e, he, hp⟩ := List.any_eq_true.1 hh
    have hp : e.at_ = p := by simpa using hp
    obtain ⟨k, hk, rfl⟩ := List.mem_iff_getElem.1 he
    have hgk := List.getElem?_eq_getElem hk
    have h1 := cnt_iff p h hgk
    have hge : cntLt l p ≤ k := by
      rcases Nat.lt_or_ge k (cntLt l p) with q | q
      · have := h1.2 q; omega
      · exact q
    have hle : k ≤ cntLt l p := by
      rcases Nat.lt_or_ge (cntLt l p) k with q | q
      · have hc : cntLt l p < l.length := by omega
        have h2 := cnt_iff p h (List.getElem?_eq_getElem hc)
        have h3 := List.pairwise_iff_getElem.1 h.pair _ _ hc hk q
        have h4 := h.each _ (List.getElem_mem hc)
        have := h2.1 (by omega)
        omega
      · exact q
    obtain rfl : k = cntLt l p := by omega
    refine ⟨_, hgk, hp, ?_⟩
    unfold insAt
    cases hf : l.find? fun e => decide (e.at_ = p) with
    | none =>
      have := List.find?_eq_none.1 hf _ he
      simp [hp] at this
    | some e' =>
      have h5 := List.find?_some hf
      have h6 := List.mem_of_find?_eq_some hf
      rw [at_uniq h h6 he (by simp at h5; omega)]
  · intro hh
    have hall : ∀ e ∈ l, e.at_ ≠ p := by
      intro e he hp
      have := List.any_eq_false.1 hh e he
      simp [hp] at this
    refine ⟨?_, fun e he => hall e (List.mem_of_getElem? he)⟩
    unfold insAt
    rw [List.find?_eq_none.2 (fun e he => by simpa using hall e he)]
theorem cv_up {ev : Operand → AV} {x : Operand} {n : Nat} {s : AHeap} (hx : ev x = .int .i64 n) (hn : n < 9223372036854775808) : lop tab ev (.convert 3 216 x) s = some (.int .u64 n, s) := by
  have : IntKind.u64.wrap (n : Int) = n := by unfold IntKind.wrap; simp [IntKind.bits, IntKind.signed]; omega
  simp [lop, aop, apure, aconv, ty3, ty216, hx, this]
theorem cv_dn {ev : Operand → AV} {x : Operand} {n : Nat} {s : AHeap} (hx : ev x = .int .u64 n) (hn : n < 9223372036854775808) : lop tab ev (.convert 216 3 x) s = some (.int .i64 n, s) := by
  have : IntKind.i64.wrap (n : Int) = n := wrap_id (by omega)
  simp [lop, aop, apure, aconv, ty3, ty216, hx, this]
theorem shr1 {n : Nat} : abin tab .shr 216 (.int .u64 n) (.int .u64 1) = some (.int .u64 ((n / 2 : Nat) : Int)) := by
  simp [abin, ashift, IntKind.bits]
  exact Int.fdiv_eq_ediv_of_nonneg _ (by omega)
theorem bs_ok (n : Int) (hn : n ≤ 1000000) (v : AV) (l : List Ed) (p : Int) (hv : SlE v l) (hl : l.length ≤ 2000) (h : RS n l) (f : FuncId) (hf : ∀ (e : Ed) (s : AHeap), (-1000000000000 ≤ e.at_ ∧ e.at_ ≤ 1000000000000) → ACall Tryz.prog f [e.enc, .int .i64 p] s fun r t => r = .int .i64 (e.at_ - p) ∧ t = s) (s : AHeap) :
    ACall Tryz.prog 97 [v, .int .i64 p, .func (.func f) [] []] s fun r t => r = .tuple [.int .i64 (cntLt l p), .bool (hasAt l p)] ∧ t = s := by
  refine gob97 (by simp) ?_
  intro tm hlen harg
  have hcl := cnt_le l p
  simp +contextual only [go_sem, L97, hlen, harg, hv.len, lcondB_decide, lcondB_not, lguardB_decide_true, lguardB_decide_false, ldguardB_decide, Nat.reduceLT, Nat.reduceEqDiff, Nat.reduceAdd, Nat.reduceLeDiff, reduceIte, reduceCtorEq]
  refine ⟨Nat × Nat, fun x => [(0, v), (1, .int .i64 p), (2, .func (.func f) [] []), (8, .int .i64 l.length), (9, .int .i64 x.1), (10, .int .i64 x.2)], fun _ => loc s 0 [], fun x => x.1 ≤ cntLt l p ∧ cntLt l p ≤ x.2 ∧ x.2 ≤ l.length, fun x => x.2 - x.1, (0, l.length), ⟨Nat.zero_le _, hcl, Nat.le_refl _⟩, ?_, ?_⟩
  · refine To.go [] [] rfl (.refl s) (by decide) (by simp) ?_ trivial
    simp +contextual only [go_sem, hlen, harg, pu_ren hv.pu, lcondB_decide, lcondB_not, lguardB_decide_true, lguardB_decide_false, ldguardB_decide, Nat.reduceLT, Nat.reduceEqDiff, Nat.reduceAdd, Nat.reduceLeDiff, reduceIte, reduceCtorEq]
    simp
  · rintro ⟨i, j⟩ tm1 ⟨hi, hj, hjl⟩ hlen1 hlv
    simp only [go_sem, hlen, lcondB_decide, lcondB_not, lguardB_decide_true, lguardB_decide_false, ldguardB_decide, Nat.reduceLT, Nat.reduceEqDiff, Nat.reduceAdd, Nat.reduceLeDiff, reduceIte, reduceCtorEq] at hlen1 hlv hi hj hjl
    simp +contextual only [go_sem, hlen, hlen1, hlv, lcondB_decide, lcondB_not, lguardB_decide_true, lguardB_decide_false, ldguardB_decide, Nat.reduceLT, Nat.reduceEqDiff, Nat.reduceAdd, Nat.reduceLeDiff, reduceIte, reduceCtorEq]
    refine ⟨fun hlt => ?_, fun hge => ?_⟩
    · have hw1 : IntKind.i64.wrap ((i : Int) + (j : Int)) = ((i + j : Nat) : Int) := by rw [wrap_id (by omega)]; omega
      have hm : (i + j) / 2 < l.length := by omega
      have hgm := List.getElem?_eq_getElem hm
      have hci := cnt_iff p h hgm
      have hea := h.each _ (List.getElem_mem hm)
      generalize l[(i + j) / 2] = e at hgm hci hea
      have hw2 : IntKind.i64.wrap ((((i + j) / 2 : Nat) : Int) + 1) = (((i + j) / 2 + 1 : Nat) : Int) := by rw [wrap_id (by omega)]; rfl
      simp +contextual only [go_sem, hlen1, hlv, hw1, lcondB_decide, lcondB_not, lguardB_decide_true, lguardB_decide_false, ldguardB_decide, Nat.reduceLT, Nat.reduceEqDiff, Nat.reduceAdd, Nat.reduceLeDiff, reduceIte, reduceCtorEq]
      rw [lstepB_convert]
      refine lmem_eq (cv_up (n := i + j) (by simp only [go_sem, hlen1, lcondB_decide, lcondB_not, lguardB_decide_true, lguardB_decide_false, ldguardB_decide, Nat.reduceLT, Nat.reduceEqDiff, Nat.reduceAdd, Nat.reduceLeDiff, reduceIte, reduceCtorEq]) (by omega)) ?_
      simp +contextual only [go_sem, hlen1, hlv, shr1, lcondB_decide, lcondB_not, lguardB_decide_true, lguardB_decide_false, ldguardB_decide, Nat.reduceLT, Nat.reduceEqDiff, Nat.reduceAdd, Nat.reduceLeDiff, reduceIte, reduceCtorEq]
      rw [lstepB_convert]
      refine lmem_eq (cv_dn (n := (i + j) / 2) (by simp only [go_sem, hlen1, lcondB_decide, lcondB_not, lguardB_decide_true, lguardB_decide_false, ldguardB_decide, Nat.reduceLT, Nat.reduceEqDiff, Nat.reduceAdd, Nat.reduceLeDiff, reduceIte, reduceCtorEq]) (by omega)) ?_
      simp +contextual only [go_sem, hlen1, hlv, hv.at hgm, lcondB_decide, lcondB_not, lguardB_decide_true, lguardB_decide_false, ldguardB_decide, Nat.reduceLT, Nat.reduceEqDiff, Nat.reduceAdd, Nat.reduceLeDiff, reduceIte, reduceCtorEq]
      refine lfunG_eq (hf e _ (by omega)) ?_
      simp +contextual only [go_sem, hlen1, hlv, hw2, lcondB_decide, lcondB_not, lguardB_decide_true, lguardB_decide_false, ldguardB_decide, Nat.reduceLT, Nat.reduceEqDiff, Nat.reduceAdd, Nat.reduceLeDiff, reduceIte, reduceCtorEq]
      refine ⟨fun hc => ?_, fun hc => ?_⟩
      · refine ⟨((i + j) / 2 + 1, j), ⟨by have := hci.1 (by omega); simp only; omega, hj, hjl⟩, by simp only; omega, ?_⟩
        refine To.go [] [] rfl (.refl s) (by decide) (by simp) ?_ trivial
        simp +contextual only [go_sem, hlen1, hlv, pu_ren hv.pu, lcondB_decide, lcondB_not, lguardB_decide_true, lguardB_decide_false, ldguardB_decide, Nat.reduceLT, Nat.reduceEqDiff, Nat.reduceAdd, Nat.reduceLeDiff, reduceIte, reduceCtorEq]
      · have hge2 : cntLt l p ≤ (i + j) / 2 := by
          rcases Nat.lt_or_ge ((i + j) / 2) (cntLt l p) with q | q
          · have := hci.2 q; omega
          · exact q
        refine ⟨(i, (i + j) / 2), ⟨hi, hge2, by simp only; omega⟩, by simp only; omega, ?_⟩
        refine To.go [] [] rfl (.refl s) (by decide) (by simp) ?_ trivial
        simp +contextual only [go_sem, hlen1, hlv, pu_ren hv.pu, lcondB_decide, lcondB_not, lguardB_decide_true, lguardB_decide_false, ldguardB_decide, Nat.reduceLT, Nat.reduceEqDiff, Nat.reduceAdd, Nat.reduceLeDiff, reduceIte, reduceCtorEq]
    · have hij : i = cntLt l p := by omega
      obtain ⟨ha1, ha2⟩ := has_at h p
      by_cases hc : cntLt l p < l.length
      · have hgm := List.getElem?_eq_getElem hc
        have hea := h.each _ (List.getElem_mem hc)
        generalize l[cntLt l p] = e at hgm hea
        subst hij
        have hci : ((cntLt l p : Nat) : Int) < (l.length : Int) := by omega
        simp +contextual only [go_sem, hlen1, hlv, hci, hv.at hgm, lcondB_decide, lcondB_not, lguardB_decide_true, lguardB_decide_false, ldguardB_decide, Nat.reduceLT, Nat.reduceEqDiff, Nat.reduceAdd, Nat.reduceLeDiff, reduceIte, reduceCtorEq]
        refine ⟨fun _ => ?_, fun q => q.elim⟩
        refine lfunG_eq (hf e _ (by omega)) ?_
        simp +contextual only [go_sem, hlen1, hlv, lcondB_decide, lcondB_not, lguardB_decide_true, lguardB_decide_false, ldguardB_decide, Nat.reduceLT, Nat.reduceEqDiff, Nat.reduceAdd, Nat.reduceLeDiff, reduceIte, reduceCtorEq]
        refine lexit_pure (.refl s) (by simp only [low, lowL, and_self]) ⟨?_, rfl⟩
        congr 3
        cases hh : hasAt l p with
        | true =>
          obtain ⟨e', q1, q2, _⟩ := ha1 hh
          rw [hgm] at q1; cases q1
          simp; omega
        | false =>
          have := (ha2 hh).2 e hgm
          simp; omega
      · subst hij
        have hci : ¬ ((cntLt l p : Nat) : Int) < (l.length : Int) := by omega
        simp +contextual only [go_sem, hlen1, hlv, hci, lcondB_decide, lcondB_not, lguardB_decide_true, lguardB_decide_false, ldguardB_decide, Nat.reduceLT, Nat.reduceEqDiff, Nat.reduceAdd, Nat.reduceLeDiff, reduceIte, reduceCtorEq]
        refine ⟨fun q => q.elim, fun _ => ?_⟩
        refine lexit_pure (.refl s) (by simp only [low, lowL, and_self]) ⟨?_, rfl⟩
        congr 3
        cases hh : hasAt l p with
        | true =>
          obtain ⟨e', q1, q2, _⟩ := ha1 hh
          rw [List.getElem?_eq_none (by omega)] at q1; cases q1
        | false => rfl
end Go.S1N
end
section
set_option linter.unusedVariables false
set_option linter.unusedSimpArgs false
namespace Go.S1N
open Go Go.Am Go.Proofs Go.S1
set_option maxRecDepth 100000
set_option linter.unusedSimpArgs false
attribute [local irreducible] lopsB lvb lstepB lfunG lcondB lguardB ldrawB ldrunB ldstepB ldguardB lmem lval ldmem ldval ldfun lexit ldloadB ldlenB lpostB athen ablock
end Go.S1N
end
section
set_option linter.unusedVariables false
set_option linter.unusedSimpArgs false
namespace Go.Proofs
open Go.Shelf
end Go.Proofs
namespace Go.S1N
open Go Go.Am Go.Proofs Go.S1
set_option maxRecDepth 100000
attribute [local irreducible] lopsB lvb lstepB lfunG lcondB lguardB ldrawB ldrunB ldstepB ldguardB lmem lval ldmem ldval ldfun lexit ldloadB ldlenB lpostB athen ablock
end Go.S1N
end
section
set_option linter.unusedVariables false
set_option linter.unusedSimpArgs false
namespace Go.S1N
open Go Go.Am Go.Proofs Go.S1
set_option maxRecDepth 100000
set_option linter.unusedSimpArgs false
attribute [local irreducible] lopsB lvb lstepB lfunG lcondB lguardB ldrawB ldrunB ldstepB ldguardB lmem lval ldmem ldval ldfun lexit ldloadB ldlenB lpostB athen ablock
def compact : List Int → List Int
  | [] => []
  | [a] => [a]
  | a :: b :: r => if a = b then compact (b :: r) else a :: compact (b :: r)
end Go.S1N
end
section
set_option linter.unusedVariables false
set_option linter.unusedSimpArgs false
namespace Go.S1N
open Go Go.Am Go.Proofs Go.S1
set_option maxRecDepth 100000
set_option linter.unusedSimpArgs false
attribute [local irreducible] lopsB lvb lstepB lfunG lcondB lguardB ldrawB ldrunB ldstepB ldguardB lmem lval ldmem ldval ldfun lexit ldloadB ldlenB lpostB athen ablock
def ends (l : List Ed) : List Int := l.flatMap fun e => [e.at_, e.at_ + e.cut]
def placesL (n : Int) (a b : List Ed) : List Int := compact ((0 :: n :: ends (a ++ b)).mergeSort fun x y => decide (x ≤ y))
end Go.S1N
end
section
set_option linter.unusedVariables false
set_option linter.unusedSimpArgs false
namespace Go.S1N
open Go Go.Am Go.Proofs Go.S1
set_option maxRecDepth 100000
set_option linter.unusedSimpArgs false
attribute [local irreducible] lopsB lvb lstepB lfunG lcondB lguardB ldrawB ldrunB ldstepB ldguardB lmem lval ldmem ldval ldfun lexit ldloadB ldlenB lpostB athen ablock
structure Mt where
  both : List Rn
  first : List Rn
  second : List Rn
  long : Int
def Mt.app (m k : Mt) : Mt := ⟨m.both ++ k.both, m.first ++ k.first, m.second ++ k.second, m.long + k.long⟩
def Mt.nil : Mt := ⟨[], [], [], 0⟩
def mtA (a : List Ed) (p x : Int) : Mt := if hasAt a p then ⟨[⟨0, 0, insAt a p⟩], [⟨x, (insAt a p).length, []⟩], [⟨0, 0, insAt a p⟩], (insAt a p).length⟩ else .nil
def mtB (b : List Ed) (p y : Int) : Mt := if hasAt b p then ⟨[⟨0, 0, insAt b p⟩], [⟨0, 0, insAt b p⟩], [⟨y, (insAt b p).length, []⟩], (insAt b p).length⟩ else .nil
def mtK (k : Bool) (p x y z : Int) : Mt := if k then ⟨[⟨p, z, []⟩], [⟨x, z, []⟩], [⟨y, z, []⟩], z⟩ else .nil
def meetGo (a b : List Ed) : List Int → Int → Int → Mt
  | [], _, _ => .nil
  | [p], x, y => (mtA a p x).app (mtB b p y)
  | p :: q :: r, x, y => ((mtA a p x).app (mtB b p y)).app ((mtK (!goneB a p && !goneB b p) p (x + (insAt a p).length) (y + (insAt b p).length) (q - p)).app
      (meetGo a b (q :: r) (x + (insAt a p).length + if goneB a p then 0 else q - p) (y + (insAt b p).length + if goneB b p then 0 else q - p)))
theorem mtK_false {p x y z : Int} : mtK false p x y z = .nil := rfl
end Go.S1N
end
section
set_option linter.unusedVariables false
set_option linter.unusedSimpArgs false
namespace Go.S1N
open Go Go.Am Go.Proofs Go.S1
set_option maxRecDepth 100000
set_option linter.unusedSimpArgs false
attribute [local irreducible] lopsB lvb lstepB lfunG lcondB lguardB ldrawB ldrunB ldstepB ldguardB lmem lval ldmem ldval ldfun lexit ldloadB ldlenB lpostB athen ablock
end Go.S1N
end
section
set_option linter.unusedVariables false
set_option linter.unusedSimpArgs false
namespace Go.S1N
open Go Go.Am Go.Proofs Go.S1
set_option maxRecDepth 100000
set_option linter.unusedSimpArgs false
attribute [local irreducible] lopsB lvb lstepB lfunG lcondB lguardB ldrawB ldrunB ldstepB ldguardB lmem lval ldmem ldval ldfun lexit ldloadB ldlenB lpostB athen ablock
def rnB (l : List Rn) : Prop := (∀ r ∈ l, 0 ≤ r.at_ ∧ r.at_ ≤ 1000000000 ∧ r.at_ + r.long ≤ 1000000000 ∧ 0 ≤ r.long ∧ r.text.length ≤ 1000000) ∧ l.length ≤ 1000000000
structure MOk (n : Int) (a b : List Ed) : Prop where
  hn : 0 ≤ n ∧ n ≤ 1000000
  ha : a.length ≤ 2000
  hb : b.length ≤ 2000
  ra : RS n a
  rb : RS n b
  ia : ∀ p, (insAt a p).length ≤ 100000
  ib : ∀ p, (insAt b p).length ≤ 100000
  pl : ∀ p ∈ placesL n a b, 0 ≤ p ∧ p ≤ 1000000
  pl2 : (placesL n a b).length ≤ 10000
  mono : ∀ (i : Nat) (p q : Int), (placesL n a b)[i]? = some p → (placesL n a b)[i + 1]? = some q → p ≤ q
  la : 0 ≤ longOf n a ∧ longOf n a ≤ 1000000
  lb : 0 ≤ longOf n b ∧ longOf n b ≤ 1000000
  b1 : rnB (meetGo a b (placesL n a b) 0 0).both
  b2 : rnB (meetGo a b (placesL n a b) 0 0).first
  b3 : rnB (meetGo a b (placesL n a b) 0 0).second
def touch (x y : Ed) : Prop := x.at_ ≤ y.at_ + y.cut ∧ y.at_ ≤ x.at_ + x.cut
instance (x y : Ed) : Decidable (touch x y) := inferInstanceAs (Decidable (_ ∧ _))
end Go.S1N
end
section
set_option linter.unusedVariables false
set_option linter.unusedSimpArgs false
namespace Go.S1N
open Go Go.Am Go.Proofs Go.S1
set_option maxRecDepth 100000
set_option linter.unusedSimpArgs false
attribute [local irreducible] lopsB lvb lstepB lfunG lcondB lguardB ldrawB ldrunB ldstepB ldguardB lmem lval ldmem ldval ldfun lexit ldloadB ldlenB lpostB athen ablock
end Go.S1N
end
section
set_option linter.unusedVariables false
set_option linter.unusedSimpArgs false
namespace Go.S1N
open Go Go.Am Go.Proofs Go.S1
set_option maxRecDepth 100000
set_option linter.unusedSimpArgs false
abbrev LT := Int × UInt8
def runI (x : Int) (k : Nat) : List LT := (List.range k).map fun (i : Nat) => (x + (i : Int), (0 : UInt8))
theorem runI_zero (x : Int) : runI x 0 = [] := rfl
section
variable (a b : List Ed)
end
section
variable {a b : List Ed}
structure Calm (a b : List Ed) (p : Int) (k : Nat) (ga gb : Bool) : Prop where
  ins : ∀ r, p ≤ r → r < p + k → insAt a r = [] ∧ insAt b r = [] ∧ goneB a r = ga ∧ goneB b r = gb
theorem Calm.tail {p : Int} {k : Nat} {ga gb : Bool} (h : Calm a b p (k + 1) ga gb) : Calm a b (p + 1) k ga gb := ⟨fun r h1 h2 => h.ins r (by omega) (by omega)⟩
end
end Go.S1N
end
section
set_option linter.unusedVariables false
set_option linter.unusedSimpArgs false

end
section
set_option linter.unusedVariables false
set_option linter.unusedSimpArgs false
namespace Go.S1N
open Go Go.Am Go.Proofs Go.S1
set_option maxRecDepth 100000
set_option linter.unusedSimpArgs false
def lcopy (T : Tab) (t : TypeId) (x y : AV) (s : AHeap) : Option (AV × AHeap) := match T.ty t with
  | some i => match i.td with
    | .slice e => acopy T e s x y
    | _ => none
  | none => none
theorem lstepB_copy {P : Program} {T : Tab} {s0 s : AHeap} {N : List AV → AHeap → Prop} {d : Option Nat} {tm : List AV} {t u : TypeId} {x y : Operand} : lstepB P T s0 N (.call { callee := .builtin .copy, args := ⟨[x, y]⟩, argTypes := ⟨[t, u]⟩ }) d tm s = lmem N (lcopy T t (aev tm x) (aev tm y) s) d tm := rfl
attribute [local irreducible] lopsB lvb lstepB lfunG lcondB lguardB ldrawB ldrunB ldstepB ldguardB lmem lval ldmem ldval ldfun lexit ldloadB ldlenB lpostB athen ablock
end Go.S1N
end
section
set_option linter.unusedVariables false
set_option linter.unusedSimpArgs false
namespace Go.S1N
open Go Go.Am Go.Proofs Go.S1
set_option maxRecDepth 100000
set_option linter.unusedSimpArgs false
attribute [local irreducible] lopsB lvb lstepB lfunG lcondB lguardB ldrawB ldrunB ldstepB ldguardB lmem lval ldmem ldval ldfun lexit ldloadB ldlenB lpostB athen ablock
def ownOf : Nat → List (Int × UInt8) → List Int
  | _, [] => []
  | i, p :: r => if p.1 < 0 then (i : Int) :: ownOf (i + 1) r else ownOf (i + 1) r
def need : List (Int × UInt8) → List Bool → Nat
  | p :: F, b :: bs => (if p.1 < 0 ∧ b = true then 1 else 0) + need F bs
  | _, _ => 0
def pastGo (old : List Int) : List Int → List (Int × UInt8) → List Bool → List (Int × UInt8)
  | own, p :: F, b :: bs => if 0 ≤ p.1 then (old.getD p.1.toNat 0, p.2) :: pastGo old own F bs else if b then (own.headD 0, p.2) :: pastGo old own.tail F bs else p :: pastGo old own F bs
  | _, _, _ => []
end Go.S1N
end
section
set_option linter.unusedVariables false
set_option linter.unusedSimpArgs false
namespace Go.S1N
open Go Go.Am Go.Proofs Go.S1
set_option maxRecDepth 100000
set_option linter.unusedSimpArgs false
attribute [local irreducible] lopsB lvb lstepB lfunG lcondB lguardB ldrawB ldrunB ldstepB ldguardB lmem lval ldmem ldval ldfun lexit ldloadB ldlenB lpostB athen ablock
abbrev ML := (Int × UInt8) × Bool × Bool
end Go.S1N
end
section
set_option linter.unusedVariables false
set_option linter.unusedSimpArgs false
namespace Go.S1N
open Go Go.Am Go.Proofs Go.S1
set_option maxRecDepth 100000
set_option linter.unusedSimpArgs false
attribute [local irreducible] lopsB lvb lstepB lfunG lcondB lguardB ldrawB ldrunB ldstepB ldguardB lmem lval ldmem ldval ldfun lexit ldloadB ldlenB lpostB athen ablock
def newM (e : Ed) (f : Bool × Bool) (i : Nat) : List ML := (e.new.take i).map fun c => ((-1, c), f)
def insM (l : List Ed) (p : Int) (f : Bool × Bool) : List ML := l.flatMap fun e => if e.at_ = p then newM e f e.new.length else []
def keptM (a b : List Ed) (n p : Int) : List ML := if p < n ∧ goneB a p = false ∧ goneB b p = false then [((p, 0), false, false)] else []
def mixAt (a b : List Ed) (n p : Int) : List ML := insM a p (true, false) ++ insM b p (false, true) ++ keptM a b n p
def mixL (a b : List Ed) (n : Int) (k : Nat) : List ML := (List.range k).flatMap fun p : Nat => mixAt a b n (p : Int)
def totN (l : List Ed) : Nat := (l.flatMap Ed.new).length
end Go.S1N
end
section
set_option linter.unusedVariables false
set_option linter.unusedSimpArgs false
namespace Go.S1N
open Go Go.Am Go.Proofs Go.S1
set_option maxRecDepth 100000
set_option linter.unusedSimpArgs false
attribute [local irreducible] lopsB lvb lstepB lfunG lcondB lguardB ldrawB ldrunB ldstepB ldguardB lmem lval ldmem ldval ldfun lexit ldloadB ldlenB lpostB athen ablock
structure POk (n : Nat) (a b : List Ed) : Prop where
  hn : n ≤ 1000
  ha : a.length ≤ 2000
  hb : b.length ≤ 2000
  hta : totN a ≤ 1000
  htb : totN b ≤ 1000
  hea : ∀ e ∈ a, -1000000000000 ≤ e.at_ + e.cut ∧ e.at_ + e.cut ≤ 1000000000000
  heb : ∀ e ∈ b, -1000000000000 ≤ e.at_ + e.cut ∧ e.at_ + e.cut ≤ 1000000000000
  hsa : scan n (-1) a = 0
  hsb : scan n (-1) b = 0
  hga : ∀ p ∈ flowFrom n 0 a, p.1 < n
  hgb : ∀ p ∈ flowFrom n 0 b, p.1 < n
  hm : ∀ x ∈ mixL a b n (n + 1), -1 ≤ x.1.1 ∧ x.1.1 < n
  hda : need ((mixL a b n (n + 1)).map (·.1)) ((mixL a b n (n + 1)).map (·.2.1)) ≤ (ownOf 0 (flowFrom n 0 a)).length
  hdb : need ((mixL a b n (n + 1)).map (·.1)) ((mixL a b n (n + 1)).map (·.2.2)) ≤ (ownOf 0 (flowFrom n 0 b)).length
end Go.S1N
end
section
set_option linter.unusedVariables false
set_option linter.unusedSimpArgs false
namespace Go.S1N
open Go Go.Am Go.Proofs Go.S1
set_option maxRecDepth 100000
set_option linter.unusedSimpArgs false
theorem insAt_nil (p : Int) : insAt [] p = [] := rfl
theorem goneB_nil (p : Int) : goneB [] p = false := rfl
section
variable (a b : List Ed)
end
section
variable {a b : List Ed}
end
end Go.S1N
end
section
set_option linter.unusedVariables false
set_option linter.unusedSimpArgs false
namespace Go.S1N
open Go Go.Am Go.Proofs Go.S1
set_option maxRecDepth 100000
set_option linter.unusedSimpArgs false
section
variable (a : List Ed)
end
def pastM (old own : List Int) (T : List ML) (sel : Bool × Bool → Bool) : List LT := pastGo old own (T.map (·.1)) (T.map fun x => sel x.2)
theorem pastM_nil (old own : List Int) (sel : Bool × Bool → Bool) : pastM old own [] sel = [] := rfl
end Go.S1N
end
section
set_option linter.unusedVariables false
set_option linter.unusedSimpArgs false
namespace Go.S1N
open Go Go.Am Go.Proofs Go.S1
set_option maxRecDepth 100000
set_option linter.unusedSimpArgs false
section
variable (a b : List Ed) (p : Int)
end
section
variable {a b : List Ed} {p q : Int}
end
end Go.S1N
end
section
set_option linter.unusedVariables false
set_option linter.unusedSimpArgs false
namespace Go.S1N
open Go Go.Am Go.Proofs Go.S1
set_option maxRecDepth 100000
set_option linter.unusedSimpArgs false
end Go.S1N
end
section
set_option linter.unusedVariables false
set_option linter.unusedSimpArgs false
namespace Go.S1N
open Go Go.Am Go.Proofs Go.S1
set_option maxRecDepth 100000
set_option linter.unusedSimpArgs false
structure Pre (n : Nat) (a b : List Ed) : Prop where
  hn : n ≤ 1000
  ta : totN a ≤ 1000
  tb : totN b ≤ 1000
section
variable {n : Nat} {a b : List Ed}
end
end Go.S1N
end
section
set_option linter.unusedVariables false
set_option linter.unusedSimpArgs false
namespace Go.S1N
open Go Go.Am Go.Proofs Go.S1
set_option maxRecDepth 100000
set_option linter.unusedSimpArgs false
section
variable {a b : List Ed} {F : List LT} {s t : List UInt8}
end
section
variable {n : Nat} {a b : List Ed}
end
end Go.S1N
end
section
set_option linter.unusedVariables false
set_option linter.unusedSimpArgs false
namespace Go.S1N
open Go Go.Am Go.Proofs Go.S1
set_option maxRecDepth 100000
set_option linter.unusedSimpArgs false
theorem inv_len (x : List UInt8) : ∀ (l : List Ed) (sh : Int), (invFrom x sh l).length = l.length
  | [], _ => rfl
  | e :: l, sh => by rw [invFrom, List.length_cons, List.length_cons, inv_len x l]
theorem inv_new (x : List UInt8) : ∀ (l : List Ed) (sh : Int), ∀ e ∈ invFrom x sh l, e.new.length ≤ x.length
  | [], _, e, h => by cases h
  | e :: l, sh, y, h => by
    rw [invFrom] at h
    rcases List.mem_cons.1 h with rfl | h
    · simp only [List.length_take, List.length_drop]; omega
    · exact inv_new x l _ y h
theorem apply_len (x : List UInt8) {l : List Ed} (hs : scan x.length (-1) l = 0) : (applyFrom x 0 l).length = (flowFrom x.length 0 l).length := by
  rw [← say_flow x l 0 (-1) (.inr ⟨rfl, rfl⟩) (Nat.zero_le _) hs, List.length_map]
theorem text_fault {x : List UInt8} {l : List Ed} (h : faultOf x.length l = 0) : textFault x l = 0 := by
  obtain ⟨_, h2, _, _⟩ := faultOf_zero h
  rw [textFault, if_neg (by omega), h]
theorem apply_val {x : List UInt8} {l : List Ed} (h : faultOf x.length l = 0) : applyVal x l = (applyFrom x 0 l, 0) := by
  rw [applyVal, if_neg (by rw [text_fault h]; decide)]
theorem inverse_val {x : List UInt8} {l : List Ed} (h : faultOf x.length l = 0) : inverseVal x l = (invFrom x 0 l, 0) := by
  rw [inverseVal, if_neg (by rw [text_fault h]; decide)]
theorem undo_law {x : List UInt8} {c : List Ed} (hc : faultOf x.length c = 0) (hn : ∀ e ∈ c, e.new.length ≤ 100000) :
    applyVal x c = (applyFrom x 0 c, 0) ∧ inverseVal x c = (invFrom x 0 c, 0) ∧ applyVal (applyFrom x 0 c) (invFrom x 0 c) = (x, 0) ∧ inverseVal (applyFrom x 0 c) (invFrom x 0 c) = (c, 0) ∧
    (invFrom x 0 c).length ≤ 2000 ∧ ∀ e ∈ invFrom x 0 c, e.new.length ≤ 100000 := by
  obtain ⟨h0, h1, h2, hs⟩ := faultOf_zero hc
  obtain ⟨l1, l2, l3⟩ := inv_law x c hs
  have f1 := (flow_short hc hn).1
  have e1 := apply_len x hs
  have hl : (invFrom x 0 c).length ≤ 2000 := by rw [inv_len]; exact h2
  have hw : ∀ e ∈ invFrom x 0 c, e.new.length ≤ 100000 := fun e he => by have := inv_new x c 0 e he; omega
  have e2 := apply_len (applyFrom x 0 c) l1
  rw [l2] at e2
  have hf : faultOf (applyFrom x 0 c).length (invFrom x 0 c) = 0 := fault_mk (by omega) hl hw l1 (by omega)
  refine ⟨apply_val hc, inverse_val hc, ?_, ?_, hl, hw⟩
  · rw [apply_val hf, l2]
  · rw [inverse_val hf, l3]
end Go.S1N
end
section
set_option linter.unusedVariables false
set_option linter.unusedSimpArgs false
namespace Go.S1
open Go Go.Am Go.Proofs
set_option maxRecDepth 100000
noncomputable def L3 : LCode := LCode.seq (LCode.ops [⟨Op.assign (Operand.const (Value.bool false)), some 2, none⟩]) (LCode.seq (LCode.ops [⟨Op.move (Operand.tmp 0), some 14, none⟩, ⟨Op.build 25 { toList := [(0, Operand.tmp 14)] }, some 15, none⟩, ⟨Op.box 25 (Operand.tmp 15), some 16, none⟩, ⟨Op.assign (Operand.tmp 16), some 3, none⟩]) (LCode.seq (LCode.ops [⟨Op.move (Operand.tmp 3), some 17, none⟩, ⟨Op.call { callee := Callee.value (Operand.func 9), args := { toList := [Operand.tmp 17, Operand.const (Value.int IntKind.i64 10)] }, argTypes := { toList := [23, 3] } }, some 18, none⟩, ⟨Op.assign (Operand.tmp 18), some 4, none⟩]) (LCode.seq (LCode.ops [⟨Op.move (Operand.tmp 3), some 19, none⟩, ⟨Op.move (Operand.tmp 4), some 20, none⟩, ⟨Op.call { callee := Callee.builtin Builtin.len, args := { toList := [Operand.tmp 20] }, argTypes := { toList := [9] } }, some 21, none⟩, ⟨Op.call { callee := Callee.value (Operand.func 10), args := { toList := [Operand.tmp 19, Operand.tmp 21] }, argTypes := { toList := [23, 3] } }, some 22, none⟩, ⟨Op.assign (Operand.tmp 22), some 5, none⟩]) (LCode.seq (LCode.ops [⟨Op.move (Operand.tmp 4), some 24, none⟩, ⟨Op.move (Operand.tmp 5), some 25, none⟩, ⟨Op.call { callee := Callee.value (Operand.func 11), args := { toList := [Operand.tmp 24, Operand.tmp 25] }, argTypes := { toList := [9, 27] } }, some 26, none⟩, ⟨Op.move (Operand.tmp 26), some 23, none⟩, ⟨Op.extract (Operand.tmp 23) 0, some 27, none⟩, ⟨Op.extract (Operand.tmp 23) 1, some 28, none⟩, ⟨Op.assign (Operand.tmp 27), some 6, none⟩, ⟨Op.assign (Operand.tmp 28), some 7, none⟩]) (LCode.seq (LCode.ops [⟨Op.move (Operand.tmp 4), some 30, none⟩, ⟨Op.move (Operand.tmp 5), some 31, none⟩, ⟨Op.call { callee := Callee.value (Operand.func 12), args := { toList := [Operand.tmp 30, Operand.tmp 31] }, argTypes := { toList := [9, 27] } }, some 32, none⟩, ⟨Op.move (Operand.tmp 32), some 29, none⟩, ⟨Op.extract (Operand.tmp 29) 0, some 33, none⟩, ⟨Op.extract (Operand.tmp 29) 1, some 34, none⟩, ⟨Op.assign (Operand.tmp 33), some 8, none⟩, ⟨Op.assign (Operand.tmp 34), some 9, none⟩]) (LCode.seq (LCode.ops [⟨Op.move (Operand.tmp 6), some 36, none⟩, ⟨Op.move (Operand.tmp 8), some 37, none⟩, ⟨Op.call { callee := Callee.value (Operand.func 11), args := { toList := [Operand.tmp 36, Operand.tmp 37] }, argTypes := { toList := [9, 27] } }, some 38, none⟩, ⟨Op.move (Operand.tmp 38), some 35, none⟩, ⟨Op.extract (Operand.tmp 35) 0, some 39, none⟩, ⟨Op.extract (Operand.tmp 35) 1, some 40, none⟩, ⟨Op.assign (Operand.tmp 39), some 10, none⟩, ⟨Op.assign (Operand.tmp 40), some 11, none⟩]) (LCode.seq (LCode.ops [⟨Op.move (Operand.tmp 6), some 42, none⟩, ⟨Op.move (Operand.tmp 8), some 43, none⟩, ⟨Op.call { callee := Callee.value (Operand.func 12), args := { toList := [Operand.tmp 42, Operand.tmp 43] }, argTypes := { toList := [9, 27] } }, some 44, none⟩, ⟨Op.move (Operand.tmp 44), some 41, none⟩, ⟨Op.extract (Operand.tmp 41) 0, some 45, none⟩, ⟨Op.extract (Operand.tmp 41) 1, some 46, none⟩, ⟨Op.assign (Operand.tmp 45), some 12, none⟩, ⟨Op.assign (Operand.tmp 46), some 13, none⟩]) (LCode.seq (LCode.ops [⟨Op.move (Operand.tmp 7), some 47, none⟩, ⟨Op.move (Operand.tmp 9), some 48, none⟩, ⟨Op.move (Operand.tmp 11), some 49, none⟩, ⟨Op.move (Operand.tmp 13), some 50, none⟩, ⟨Op.buildSlice 58 4 { toList := [(0, Operand.tmp 47), (1, Operand.tmp 48), (2, Operand.tmp 49), (3, Operand.tmp 50)] }, some 51, none⟩, ⟨Op.call { callee := Callee.value (Operand.func 13), args := { toList := [Operand.tmp 51] }, argTypes := { toList := [58] } }, some 52, none⟩, ⟨Op.binOp BinOp.eql 29 (Operand.tmp 52) (Operand.const (Value.int IntKind.i64 0)) 29, some 53, none⟩, ⟨Op.move (Operand.tmp 53), some 54, none⟩, ⟨Op.move (Operand.tmp 10), some 55, some (54, true)⟩, ⟨Op.move (Operand.tmp 4), some 56, some (54, true)⟩, ⟨Op.binOp BinOp.eql 9 (Operand.tmp 55) (Operand.tmp 56) 9, some 57, some (54, true)⟩, ⟨Op.pick (Operand.tmp 54) (Operand.tmp 57) (Operand.const (Value.bool false)), some 58, none⟩, ⟨Op.move (Operand.tmp 58), some 59, none⟩, ⟨Op.move (Operand.tmp 12), some 60, some (59, true)⟩, ⟨Op.move (Operand.tmp 5), some 61, some (59, true)⟩, ⟨Op.call { callee := Callee.value (Operand.func 14), args := { toList := [Operand.tmp 60, Operand.tmp 61] }, argTypes := { toList := [27, 27] } }, some 62, some (59, true)⟩, ⟨Op.pick (Operand.tmp 59) (Operand.tmp 62) (Operand.const (Value.bool false)), some 63, none⟩, ⟨Op.move (Operand.tmp 63), some 64, none⟩, ⟨Op.call { callee := Callee.value (Operand.func 15), args := { toList := [] }, argTypes := { toList := [] } }, some 65, some (64, true)⟩, ⟨Op.pick (Operand.tmp 64) (Operand.tmp 65) (Operand.const (Value.bool false)), some 66, none⟩, ⟨Op.assign (Operand.tmp 66), some 2, none⟩]) LCode.ret))))))))
theorem l3 : Tryz.f3.body.map lighten = some L3 := by kernel_rfl
theorem rs3 : Tryz.f3.results.toList = [ResultVar.tmp 2] := by kernel_rfl
theorem nt3 : Tryz.f3.ntmps = 67 := by kernel_rfl
theorem gob3 {args : List AV} {s : AHeap} {R : AV → AHeap → Prop} (hl : args.length ≤ 67) (h : ∀ tm, tm.length = 67 → (∀ i, aev tm (.tmp i) = args.getD i aundef) → lvb Tryz.prog tab s L3 (lpostB tab s [ResultVar.tmp 2] R) tm (loc s 0 [])) : ACall Tryz.prog 3 args s R := ACall.goB tab_ok mixed Tryz.func3 l3 nm3 rs3 nt3 hl h
noncomputable def L10 : LCode := LCode.seq (LCode.ops [⟨Op.assign (Operand.const (Value.slice none 0 0)), some 4, none⟩]) (LCode.seq (LCode.seq (LCode.ops [⟨Op.move (Operand.const (Value.int IntKind.i64 0)), some 6, none⟩]) (LCode.block 0 (LCode.loop (LCode.seq (LCode.ops [⟨Op.binOp BinOp.lss 3 (Operand.tmp 6) (Operand.const (Value.int IntKind.i64 5)) 3, some 7, none⟩]) (LCode.seq (LCode.cond (Operand.tmp 7) LCode.skip (LCode.exit 0)) (LCode.seq (LCode.block 1 (LCode.seq (LCode.ops [⟨Op.move (Operand.tmp 0), some 8, none⟩, ⟨Op.move (Operand.tmp 1), some 9, none⟩, ⟨Op.call { callee := Callee.value (Operand.func 29), args := { toList := [Operand.tmp 8, Operand.tmp 9] }, argTypes := { toList := [23, 3] } }, some 10, none⟩, ⟨Op.assign (Operand.tmp 10), some 5, none⟩]) (LCode.seq (LCode.ops [⟨Op.move (Operand.tmp 1), some 11, none⟩, ⟨Op.move (Operand.tmp 5), some 12, none⟩, ⟨Op.call { callee := Callee.value (Operand.func 30), args := { toList := [Operand.tmp 11, Operand.tmp 12] }, argTypes := { toList := [3, 27] } }, some 13, none⟩, ⟨Op.binOp BinOp.eql 29 (Operand.tmp 13) (Operand.const (Value.int IntKind.i64 0)) 29, some 14, none⟩]) (LCode.cond (Operand.tmp 14) (LCode.seq (LCode.ops [⟨Op.move (Operand.tmp 5), some 15, none⟩, ⟨Op.assign (Operand.tmp 15), some 4, none⟩]) LCode.ret) LCode.skip)))) (LCode.ops [⟨Op.binOp BinOp.add 3 (Operand.tmp 6) (Operand.const (Value.int IntKind.i64 1)) 3, some 16, none⟩, ⟨Op.move (Operand.tmp 16), some 6, none⟩]))))))) (LCode.seq (LCode.ops [⟨Op.assign (Operand.const (Value.slice none 0 0)), some 4, none⟩]) LCode.ret))
theorem l10 : Tryz.f10.body.map lighten = some L10 := by kernel_rfl
theorem rs10 : Tryz.f10.results.toList = [ResultVar.tmp 4] := by kernel_rfl
theorem nt10 : Tryz.f10.ntmps = 17 := by kernel_rfl
theorem gob10 {args : List AV} {s : AHeap} {R : AV → AHeap → Prop} (hl : args.length ≤ 17) (h : ∀ tm, tm.length = 17 → (∀ i, aev tm (.tmp i) = args.getD i aundef) → lvb Tryz.prog tab s L10 (lpostB tab s [ResultVar.tmp 4] R) tm (loc s 0 [])) : ACall Tryz.prog 10 args s R := ACall.goB tab_ok mixed Tryz.func10 l10 nm10 rs10 nt10 hl h
end Go.S1
end
section
set_option linter.unusedVariables false
set_option linter.unusedSimpArgs false
namespace Go.S1N
open Go Go.Am Go.Proofs Go.S1
set_option maxRecDepth 100000
set_option linter.unusedSimpArgs false
attribute [local irreducible] lopsB lvb lstepB lfunG lcondB lguardB ldrawB ldrunB ldstepB ldguardB lmem lval ldmem ldval ldfun lexit ldloadB ldlenB lpostB athen ablock
theorem rfault_nil {n : Nat} (hn : n ≤ 20000) : faultOf n [] = 0 := by
  have e : longOf (n : Int) [] = n := rfl
  have e2 : scan (n : Int) (-1) [] = 0 := rfl
  rw [faultOf, e, e2, if_neg (by omega), if_neg (by simp), if_neg (by simp), if_neg (by omega)]
theorem rightS {s : AHeap} {b : Nat} {Lv : AV} {L : List Int} {at_ : Int} (h : Sm s b Lv L at_) (h1 : at_ < 3700000000000000000) (n : Nat) (hn : n ≤ 20000) :
    ACall Tryz.prog 10 [.ptr b 0, .int .i64 n] s fun v t => ∃ (l : List Ed) (k : Nat), v = edv l ∧ l.length ≤ 4 ∧ (∀ e ∈ l, e.new.length ≤ 4) ∧ faultOf n l = 0 ∧ k ≤ 100 ∧ t = s.upd b (strm Lv (at_ + k)) := by
  refine gob10 (by simp) ?_
  intro tm hlen harg
  have hb := h.lt
  have h0 := h.at0
  simp +contextual only [go_sem, L10, hlen, harg, hb, lcondB_decide, lcondB_not, lguardB_decide_true, lguardB_decide_false, ldguardB_decide, Nat.reduceLT, Nat.reduceEqDiff, Nat.reduceAdd, Nat.reduceLeDiff, reduceIte, reduceCtorEq]
  refine ⟨Nat × Nat × AHeap, fun a => [(0, .ptr b 0), (1, .int .i64 n), (6, .int .i64 a.1)], fun a => loc a.2.2 0 [],
    fun a => a.1 ≤ 5 ∧ a.2.1 ≤ 20 * a.1 ∧ ((a.1 = 0 ∧ a.2.2 = s) ∨ a.2.2 = s.upd b (strm Lv (at_ + a.2.1))) ∧ (∀ o, a.2.2.upd b o = s.upd b o) ∧ Sm a.2.2 b Lv L (at_ + a.2.1) ∧ a.2.2.nx = s.nx, fun a => 5 - a.1, (0, 0, s),
    ⟨by simp, by simp, .inl ⟨rfl, rfl⟩, fun _ => rfl, by simpa using h, rfl⟩, ?_, ?_⟩
  · refine To.go [] [] rfl (OKo.refl s) (by decide) (by simp) ?_ trivial
    simp +contextual only [go_sem, hlen, harg, rnm_low hb, lcondB_decide, lcondB_not, lguardB_decide_true, lguardB_decide_false, ldguardB_decide, Nat.reduceLT, Nat.reduceEqDiff, Nat.reduceAdd, Nat.reduceLeDiff, reduceIte, reduceCtorEq]
    simp
  · rintro ⟨i, k, S⟩ tm1 ⟨hi, hk, hS, hup, hSm, hnx⟩ hlen1 hlv
    simp only [go_sem, hlen, lcondB_decide, lcondB_not, lguardB_decide_true, lguardB_decide_false, ldguardB_decide, Nat.reduceLT, Nat.reduceEqDiff, Nat.reduceAdd, Nat.reduceLeDiff, reduceIte, reduceCtorEq] at hlen1 hlv hi hk hS hup hSm hnx
    have hbS : b < S.nx := hSm.lt
    simp +contextual only [go_sem, hlen, hlen1, hlv, lcondB_decide, lcondB_not, lguardB_decide_true, lguardB_decide_false, ldguardB_decide, Nat.reduceLT, Nat.reduceEqDiff, Nat.reduceAdd, Nat.reduceLeDiff, reduceIte, reduceCtorEq]
    refine ⟨fun hlt => ?_, fun hge => ?_⟩
    · refine lfunG_of (changeS hSm.loc (by omega) n) ?_
      rintro _ _ ⟨l, k1, rfl, hl, hnl, hk1, rfl⟩
      simp +contextual only [go_sem, hlen, hlen1, hlv, hb, hbS, hup, lcondB_decide, lcondB_not, lguardB_decide_true, lguardB_decide_false, ldguardB_decide, Nat.reduceLT, Nat.reduceEqDiff, Nat.reduceAdd, Nat.reduceLeDiff, reduceIte, reduceCtorEq]
      refine lfunG_eq (exact_of (by simp only [Pu, low, lowL, and_self]) (fault_ok _ _ l (edv_sl l) (by omega) _)) ?_
      have hw : IntKind.i64.wrap ((i : Int) + 1) = ((i + 1 : Nat) : Int) := by rw [wrap_id (by omega)]; rfl
      simp +contextual only [go_sem, hlen, hlen1, hlv, hb, hbS, hup, hw, lcondB_decide, lcondB_not, lguardB_decide_true, lguardB_decide_false, ldguardB_decide, Nat.reduceLT, Nat.reduceEqDiff, Nat.reduceAdd, Nat.reduceLeDiff, reduceIte, reduceCtorEq]
      refine ⟨fun hf => ?_, fun hf => ?_⟩
      · exact lexit_pure ((OKo.refl s).upd hb h.lowO) (low.mono (Nat.zero_le _) (edv_pu _)) ⟨l, k + k1, rfl, hl, hnl, hf, by omega, by congr 2; omega⟩
      · refine ⟨(i + 1, k + k1, s.upd b (strm Lv (at_ + ((k + k1 : Nat) : Int)))), ⟨by simp only; omega, by simp only; omega, .inr rfl, ?_, ?_, AHeap.nx_upd _ _ _⟩, by simp only; omega, ?_⟩
        · intro o; simp only [go_sem]
        · exact h.upd (by omega) (by omega)
        · refine To.go [] [] (by simp only; congr 3; omega) ((OKo.refl s).upd hb h.lowO) (by decide) (by simp) ?_ trivial
          simp +contextual only [go_sem, hlen1, hlv, rnm_low hb, lcondB_decide, lcondB_not, lguardB_decide_true, lguardB_decide_false, ldguardB_decide, Nat.reduceLT, Nat.reduceEqDiff, Nat.reduceAdd, Nat.reduceLeDiff, reduceIte, reduceCtorEq]
    · have hS2 : S = s.upd b (strm Lv (at_ + k)) := by
        rcases hS with ⟨q, _⟩ | q
        · omega
        · exact q
      subst hS2
      refine lexit_pure ((OKo.refl s).upd hb h.lowO) (by simp only [low]) ⟨[], k, rfl, by simp, by simp, rfault_nil hn, by omega, rfl⟩
end Go.S1N
end
section
set_option linter.unusedVariables false
set_option linter.unusedSimpArgs false
namespace Go.S1N
open Go Go.Am Go.Proofs Go.S1
set_option maxRecDepth 100000
set_option linter.unusedSimpArgs false
attribute [local irreducible] lopsB lvb lstepB lfunG lcondB lguardB ldrawB ldrunB ldstepB ldguardB lmem lval ldmem ldval ldfun lexit ldloadB ldlenB lpostB athen ablock
set_option maxHeartbeats 1000000 in
theorem inverseUndoes_gen (hready : ∀ s, ACall Tryz.prog 15 [] s fun v t => v = .bool true ∧ t = s) (v : AV) (L : List Int) (hv : IsInts v L) (hL : L.length < 4611686018427387904) (s : AHeap) :
    ACall Tryz.prog 3 [v] s fun r t => r = .bool true ∧ t = s := by
  refine gob3 (by simp) ?_
  intro tm hlen harg
  simp +contextual only [go_sem, L3, hlen, harg, ints_cells hv, ints_israw hv, lcondB_decide, lcondB_not, lguardB_decide_true, lguardB_decide_false, ldguardB_decide, Nat.reduceLT, Nat.reduceEqDiff, Nat.reduceAdd, Nat.reduceLeDiff, reduceIte, reduceCtorEq]
  have hS : ∀ (a : Int) (n : Nat) (l : List (Nat × Option AObj)), 0 ≤ a → a < 4000000000000000000 → Sm (loc s (n + 1) ((0, some (strm v a)) :: l)) (nm s.nx 0) v L a := fun a n l h1 h2 =>
    ⟨hv, hL, h1, h2, by rw [nx_loc, nm_lt]; omega, by simp only [go_sem, lcondB_decide, lcondB_not, lguardB_decide_true, lguardB_decide_false, ldguardB_decide, Nat.reduceLT, Nat.reduceEqDiff, Nat.reduceAdd, Nat.reduceLeDiff, reduceIte, reduceCtorEq]⟩
  refine lfunG_of (lettersS (hS 0 0 [] (by omega) (by omega)) (by omega) 10 (by omega) (by omega)) ?_
  rintro _ _ ⟨x, k1, rfl, hx, hk1, rfl⟩
  simp +contextual only [go_sem, hlen, harg, lcondB_decide, lcondB_not, lguardB_decide_true, lguardB_decide_false, ldguardB_decide, Nat.reduceLT, Nat.reduceEqDiff, Nat.reduceAdd, Nat.reduceLeDiff, reduceIte, reduceCtorEq]
  refine lfunG_of (rightS (hS _ _ _ (by omega) (by omega)) (by omega) x.length (by omega)) ?_
  rintro _ _ ⟨c, k2, rfl, hc, hnc, hf, hk2, rfl⟩
  have hnc' : ∀ e ∈ c, e.new.length ≤ 100000 := fun e he => by have := hnc e he; omega
  obtain ⟨u1, u2, u3, u4, u5, u6⟩ := undo_law hf hnc'
  simp +contextual only [go_sem, hlen, harg, lcondB_decide, lcondB_not, lguardB_decide_true, lguardB_decide_false, ldguardB_decide, Nat.reduceLT, Nat.reduceEqDiff, Nat.reduceAdd, Nat.reduceLeDiff, reduceIte, reduceCtorEq]
  refine lfunG_eq (apply21_ok x _ c (edv_sl c) (by omega) hnc' _) ?_
  simp +contextual only [go_sem, hlen, harg, u1, lcondB_decide, lcondB_not, lguardB_decide_true, lguardB_decide_false, ldguardB_decide, Nat.reduceLT, Nat.reduceEqDiff, Nat.reduceAdd, Nat.reduceLeDiff, reduceIte, reduceCtorEq]
  refine lfunG_eq (inverse_ok x _ c (edv_sl c) (by omega) hnc' _) ?_
  simp +contextual only [go_sem, hlen, harg, u2, lcondB_decide, lcondB_not, lguardB_decide_true, lguardB_decide_false, ldguardB_decide, Nat.reduceLT, Nat.reduceEqDiff, Nat.reduceAdd, Nat.reduceLeDiff, reduceIte, reduceCtorEq]
  refine lfunG_eq (apply21_ok _ _ _ (edv_sl _) (by omega) u6 _) ?_
  simp +contextual only [go_sem, hlen, harg, u3, lcondB_decide, lcondB_not, lguardB_decide_true, lguardB_decide_false, ldguardB_decide, Nat.reduceLT, Nat.reduceEqDiff, Nat.reduceAdd, Nat.reduceLeDiff, reduceIte, reduceCtorEq]
  refine lfunG_eq (inverse_ok _ _ _ (edv_sl _) (by omega) u6 _) ?_
  simp +contextual only [go_sem, hlen, harg, u4, lcondB_decide, lcondB_not, lguardB_decide_true, lguardB_decide_false, ldguardB_decide, Nat.reduceLT, Nat.reduceEqDiff, Nat.reduceAdd, Nat.reduceLeDiff, reduceIte, reduceCtorEq]
  refine lfunG_eq (errs_ok _ [0, 0, 0, 0] (some 29) (by simp) _ (by simp only [go_sem, List.map_cons, lcondB_decide, lcondB_not, lguardB_decide_true, lguardB_decide_false, ldguardB_decide, Nat.reduceLT, Nat.reduceEqDiff, Nat.reduceAdd, Nat.reduceLeDiff, reduceIte, reduceCtorEq])) ?_
  have he : errsOf [0, 0, 0, 0] = 0 := by decide
  simp +contextual only [go_sem, hlen, harg, he, lcondB_decide, lcondB_not, lguardB_decide_true, lguardB_decide_false, ldguardB_decide, Nat.reduceLT, Nat.reduceEqDiff, Nat.reduceAdd, Nat.reduceLeDiff, reduceIte, reduceCtorEq]
  refine lfunG_eq (same33 c (by omega) _) ?_
  simp +contextual only [go_sem, hlen, harg, lcondB_decide, lcondB_not, lguardB_decide_true, lguardB_decide_false, ldguardB_decide, Nat.reduceLT, Nat.reduceEqDiff, Nat.reduceAdd, Nat.reduceLeDiff, reduceIte, reduceCtorEq]
  refine lfunG_eq (hready _) ?_
  simp only [go_sem, hlen, harg, lcondB_decide, lcondB_not, lguardB_decide_true, lguardB_decide_false, ldguardB_decide, Nat.reduceLT, Nat.reduceEqDiff, Nat.reduceAdd, Nat.reduceLeDiff, reduceIte, reduceCtorEq]
  exact lexit_pure (.refl s) (by simp only [low]) ⟨rfl, rfl⟩
end Go.S1N
end
section
set_option linter.unusedVariables false
set_option linter.unusedSimpArgs false
namespace Go.S1N
open Go Go.Proofs
set_option maxRecDepth 100000
def fastVia (P : Program) : Nat → List FuncId → List FuncId → Nat → List FuncId
  | 0, _, seen, _ => seen.reverse
  | n + 1, todo, seen, mask => match todo with
    | [] => seen.reverse
    | f :: todo => match Nat.testBit mask f with
      | true => fastVia P n todo seen mask
      | false => fastVia P n ((P.funcs[f]?).elim [] P.leadsTo ++ todo) (f :: seen) (mask ||| 2 ^ f)
theorem fastVia_eq (P : Program) : ∀ (n : Nat) (todo seen : List FuncId) (mask : Nat), (∀ x, Nat.testBit mask x = seen.contains x) → P.closureVia n todo seen = fastVia P n todo seen mask
  | 0, todo, seen, mask, h => by simp [Program.closureVia, fastVia]
  | n + 1, [], seen, mask, h => by simp [Program.closureVia, fastVia]
  | n + 1, f :: todo, seen, mask, h => by
    rw [Program.closureVia, fastVia, h f]
    cases hc : seen.contains f with
    | true => simp only [if_true]; exact fastVia_eq P n todo seen mask h
    | false =>
      simp only [Bool.false_eq_true, if_false]
      refine fastVia_eq P n _ _ _ fun x => ?_
      rw [Nat.testBit_or, h x, Nat.testBit_two_pow, List.contains_cons]
      by_cases e : f = x
      · subst e; simp
      · have e2 : (x == f) = false := by simpa using fun q => e q.symm
        simp [e, e2]
theorem closure_fast (P : Program) (f : FuncId) : P.closure f = fastVia P (1 + (P.funcs.toList.map fun g => (P.leadsTo g).length + 1).sum) [f] [] 0 := by
  unfold Program.closure
  exact fastVia_eq P _ _ _ _ fun x => by simp
end Go.S1N
end
