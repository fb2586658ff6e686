/- Part 3 of a proof: texts of this work, put together. -/
import Derived.Test.YtiohblpikmjofaaGreatDoorV2
import Derived.KernelRfl
import Derived.Shelf.Lay
import Derived.Ground.NamesProg
section
set_option linter.unusedVariables false
set_option linter.unusedSimpArgs false
namespace Go.S1N
open Go Go.Am Go.Proofs Go.S1
set_option maxRecDepth 100000
set_option linter.unusedSimpArgs false
attribute [local irreducible] lopsB lvb lstepB lfunG lcondB lguardB ldrawB ldrunB ldstepB ldguardB lmem lval ldmem ldval ldfun lexit ldloadB ldlenB lpostB athen ablock
def strm (Lv : AV) (at_ : Int) : AObj := .cells [Lv, .int .i64 at_] (some 25)
theorem _root_.Go.S1.IsInts.pu {v : AV} {l : List Int} (h : IsInts v l) : Pu v := by
  rcases h with ⟨f, rfl⟩ | ⟨rfl, rfl⟩
  · simp only [Pu, low, lowL_iff, List.mem_map]
    rintro x ⟨e, _, rfl⟩
    simp only [low]
  · simp only [Pu, low]
structure Sm (s : AHeap) (b : Nat) (Lv : AV) (L : List Int) (at_ : Int) : Prop where
  ints : IsInts Lv L
  len : L.length < 4611686018427387904
  at0 : 0 ≤ at_
  at1 : at_ < 4000000000000000000
  lt : b < s.nx
  get : s.get b = some (strm Lv at_)
theorem Sm.lowO {s : AHeap} {b : Nat} {Lv : AV} {L : List Int} {at_ : Int} (h : Sm s b Lv L at_) {n : Nat} {a : Int} : lowO n (strm Lv a) := by
  simp only [strm, Am.lowO, lowL, low, and_true]
  exact low.mono (Nat.zero_le _) h.ints.pu
theorem Sm.upd {s : AHeap} {b : Nat} {Lv : AV} {L : List Int} {at_ a : Int} (h : Sm s b Lv L at_) (h0 : 0 ≤ a) (h1 : a < 4000000000000000000) : Sm (s.upd b (strm Lv a)) b Lv L a :=
  ⟨h.ints, h.len, h0, h1, by rw [AHeap.nx_upd]; exact h.lt, get_upd_same⟩
theorem Sm.loc {s : AHeap} {b : Nat} {Lv : AV} {L : List Int} {at_ : Int} (h : Sm s b Lv L at_) {n : Nat} {l : List (Nat × Option AObj)} : Sm (loc s n l) b Lv L at_ :=
  ⟨h.ints, h.len, h.at0, h.at1, by rw [nx_loc]; exact lt_nm h.lt, by rw [get_loc_out h.lt]; exact h.get⟩
theorem nextS {s : AHeap} {b : Nat} {Lv : AV} {L : List Int} {at_ : Int} (h : Sm s b Lv L at_) (n : Int) :
    ACall Tryz.prog 41 [.ptr b 0, .int .i64 n] s fun v t => v = .int .i64 (nextOf L at_ n) ∧ t = s.upd b (strm Lv (at_ + 1)) := by
  refine gob41 (by simp) ?_
  intro tm hlen harg
  have hb := h.lt
  have hg := h.get
  have hlow := h.lowO (n := s.nx) (a := at_ + 1)
  have hL := h.ints
  have h0 := h.at0
  have e1 : IntKind.i64.wrap (at_ + 1) = at_ + 1 := wrap_id (by have := h.at1; omega)
  have hll := h.len
  rw [strm] at hg
  simp only [strm] at hlow ⊢
  simp +contextual only [go_sem, L41, hlen, harg, hb, hg, e1, hL.len, lcondB_decide, lcondB_not, lguardB_decide_true, lguardB_decide_false, ldguardB_decide, Nat.reduceLT, Nat.reduceEqDiff, Nat.reduceAdd, Nat.reduceLeDiff, reduceIte, reduceCtorEq]
  refine ⟨fun hz => ?_, fun hz => ?_⟩
  · have hL0 : L = [] := List.eq_nil_of_length_eq_zero (by omega)
    refine lfunG_eq (below_ok _ _ _) ?_
    simp +contextual only [go_sem, hlen, lcondB_decide, lcondB_not, lguardB_decide_true, lguardB_decide_false, ldguardB_decide, Nat.reduceLT, Nat.reduceEqDiff, Nat.reduceAdd, Nat.reduceLeDiff, reduceIte, reduceCtorEq]
    subst hL0
    refine lexit_pure ((OKo.refl s).upd hb hlow) (by simp only [low]) ⟨?_, rfl⟩
    simp [nextOf, e1, wr]
  · have hL0 : L ≠ [] := by rintro rfl; simp at hz
    have hlz : (L.length : Int) ≠ 0 := hz
    have e2 : IntKind.i64.wrap (at_ + 1 - 1) = at_ := by rw [wrap_id (by have := h.at1; omega)]; omega
    refine ldrawB_go [] [] 10 (by decide) ?_
    simp +contextual only [go_sem, hlen, harg, hb, hg, e1, e2, hL.len, abin_rem hlz, lcondB_decide, lcondB_not, lguardB_decide_true, lguardB_decide_false, ldguardB_decide, Nat.reduceLT, Nat.reduceEqDiff, Nat.reduceAdd, Nat.reduceLeDiff, reduceIte, reduceCtorEq]
    refine ⟨by kernel_rfl, ?_⟩
    refine ldrawB_go [] [] 10 (by decide) ?_
    simp +contextual only [go_sem, hlen, harg, hb, hg, e1, e2, hL.len, abin_quo hlz, lcondB_decide, lcondB_not, lguardB_decide_true, lguardB_decide_false, ldguardB_decide, Nat.reduceLT, Nat.reduceEqDiff, Nat.reduceAdd, Nat.reduceLeDiff, reduceIte, reduceCtorEq]
    refine ⟨by kernel_rfl, ?_⟩
    have hi0 : 0 ≤ at_.tmod L.length := Int.tmod_nonneg _ h0
    have hi1 : at_.tmod L.length < L.length := Int.tmod_lt_of_pos _ (by omega)
    obtain ⟨x, hx⟩ : ∃ x, L[(at_.tmod L.length).toNat]? = some x := ⟨_, List.getElem?_eq_getElem (by omega)⟩
    simp +contextual only [go_sem, hlen, harg, hb, hg, e1, e2, hL.len, hL.at hi0 hx, lcondB_decide, lcondB_not, lguardB_decide_true, lguardB_decide_false, ldguardB_decide, Nat.reduceLT, Nat.reduceEqDiff, Nat.reduceAdd, Nat.reduceLeDiff, reduceIte, reduceCtorEq]
    refine lfunG_eq (below_ok _ _ _) ?_
    simp +contextual only [go_sem, hlen, harg, lcondB_decide, lcondB_not, lguardB_decide_true, lguardB_decide_false, ldguardB_decide, Nat.reduceLT, Nat.reduceEqDiff, Nat.reduceAdd, Nat.reduceLeDiff, reduceIte, reduceCtorEq]
    refine lfunG_eq (below_ok _ _ _) ?_
    simp +contextual only [go_sem, hlen, lcondB_decide, lcondB_not, lguardB_decide_true, lguardB_decide_false, ldguardB_decide, Nat.reduceLT, Nat.reduceEqDiff, Nat.reduceAdd, Nat.reduceLeDiff, reduceIte, reduceCtorEq]
    refine lexit_pure ((OKo.refl s).upd hb hlow) (by simp only [low]) ⟨?_, rfl⟩
    have hx' : L.getD (at_.tmod L.length).toNat 0 = x := by rw [List.getD_eq_getElem?_getD, hx]; rfl
    simp only [nextOf, if_neg hL0, wr, e1, e2, hx']
theorem flipS {s : AHeap} {b : Nat} {Lv : AV} {L : List Int} {at_ : Int} (h : Sm s b Lv L at_) (n : Int) :
    ACall Tryz.prog 50 [.ptr b 0, .int .i64 n] s fun v t => v = .bool (decide (nextOf L at_ n = 0)) ∧ t = s.upd b (strm Lv (at_ + 1)) := by
  refine gob50 (by simp) ?_
  intro tm hlen harg
  have hb := h.lt
  simp +contextual only [go_sem, L50, hlen, harg, lcondB_decide, lcondB_not, lguardB_decide_true, lguardB_decide_false, ldguardB_decide, Nat.reduceLT, Nat.reduceEqDiff, Nat.reduceAdd, Nat.reduceLeDiff, reduceIte, reduceCtorEq]
  refine lfunG_eq (nextS h.loc _) ?_
  simp +contextual only [go_sem, hlen, hb, lcondB_decide, lcondB_not, lguardB_decide_true, lguardB_decide_false, ldguardB_decide, Nat.reduceLT, Nat.reduceEqDiff, Nat.reduceAdd, Nat.reduceLeDiff, reduceIte, reduceCtorEq]
  exact lexit_pure ((OKo.refl s).upd hb h.lowO) (by simp only [low]) ⟨rfl, rfl⟩
theorem rangeS {s : AHeap} {b : Nat} {Lv : AV} {L : List Int} {at_ : Int} (h : Sm s b Lv L at_) (lo hi : Int) (hlh : lo ≤ hi) (hhi : hi < 2000000000000000000) (hl2 : -2000000000000000000 < lo) :
    ACall Tryz.prog 19 [.ptr b 0, .int .i64 lo, .int .i64 hi] s fun v t => v = .int .i64 (lo + nextOf L at_ (hi - lo + 1)) ∧ t = s.upd b (strm Lv (at_ + 1)) := by
  refine gob19 (by simp) ?_
  intro tm hlen harg
  have hb := h.lt
  have e1 : IntKind.i64.wrap (hi - lo) = hi - lo := wrap_id (by omega)
  have e2 : IntKind.i64.wrap (hi - lo + 1) = hi - lo + 1 := wrap_id (by omega)
  have hbd := nextOf_lt L at_ (show 1 ≤ hi - lo + 1 by omega) (by omega)
  have e3 : IntKind.i64.wrap (lo + nextOf L at_ (hi - lo + 1)) = lo + nextOf L at_ (hi - lo + 1) := wrap_id (by omega)
  have hlt : ¬ hi < lo := by omega
  simp +contextual only [go_sem, L19, hlen, harg, e1, e2, hlt, lcondB_decide, lcondB_not, lguardB_decide_true, lguardB_decide_false, ldguardB_decide, Nat.reduceLT, Nat.reduceEqDiff, Nat.reduceAdd, Nat.reduceLeDiff, reduceIte, reduceCtorEq]
  refine lfunG_eq (nextS h.loc _) ?_
  simp +contextual only [go_sem, hlen, harg, hb, e3, lcondB_decide, lcondB_not, lguardB_decide_true, lguardB_decide_false, ldguardB_decide, Nat.reduceLT, Nat.reduceEqDiff, Nat.reduceAdd, Nat.reduceLeDiff, reduceIte, reduceCtorEq]
  exact lexit_pure ((OKo.refl s).upd hb h.lowO) (by simp only [low]) ⟨rfl, rfl⟩
theorem pickS {s : AHeap} {b : Nat} {Lv : AV} {L : List Int} {at_ : Int} (h : Sm s b Lv L at_) (c : Nat) (l : List Int) (To : Option TypeId) (hl : l ≠ []) (hl2 : l.length < 1000) (hc : s.get c = some (.cells (l.map (AV.int .i64)) To)) (hne : c ≠ b) (hcn : c < s.nx) :
    ACall Tryz.prog 49 [.ptr b 0, .rs 1 c 0 l.length] s fun v t => v = .int .i64 (l.getD (nextOf L at_ l.length).toNat 0) ∧ t = s.upd b (strm Lv (at_ + 1)) := by
  refine gob49 (by simp) ?_
  intro tm hlen harg
  have hb := h.lt
  have hpos : 0 < l.length := List.length_pos_iff.2 hl
  have hbd := nextOf_lt L at_ (n := l.length) (by omega) (by omega)
  obtain ⟨x, hx⟩ : ∃ x, l[(nextOf L at_ l.length).toNat]? = some x := ⟨_, List.getElem?_eq_getElem (by omega)⟩
  have hgc : (s.upd b (strm Lv (at_ + 1))).get c = some (.cells (l.map (AV.int .i64)) To) := by rw [AHeap.get_upd, if_neg hne, hc]
  have hd : (List.drop (nextOf L at_ l.length).toNat (l.map (AV.int .i64)))[0]? = some (.int .i64 x) := by simp [hx]
  simp +contextual only [go_sem, L49, hlen, harg, lcondB_decide, lcondB_not, lguardB_decide_true, lguardB_decide_false, ldguardB_decide, Nat.reduceLT, Nat.reduceEqDiff, Nat.reduceAdd, Nat.reduceLeDiff, reduceIte, reduceCtorEq]
  refine lfunG_eq (nextS h.loc _) ?_
  simp +contextual only [go_sem, hlen, harg, hb, hcn, rs_at hbd.1 hbd.2, hgc, hd, lcondB_decide, lcondB_not, lguardB_decide_true, lguardB_decide_false, ldguardB_decide, Nat.reduceLT, Nat.reduceEqDiff, Nat.reduceAdd, Nat.reduceLeDiff, reduceIte, reduceCtorEq]
  refine lexit_pure ((OKo.refl s).upd hb h.lowO) (by simp only [low]) ⟨?_, rfl⟩
  rw [List.getD_eq_getElem?_getD, hx]
  rfl
theorem someS {s : AHeap} {b : Nat} {Lv : AV} {L : List Int} {at_ : Int} (h : Sm s b Lv L at_) (c : Nat) (l : List (List UInt8)) (To : Option TypeId) (hl : l ≠ []) (hl2 : l.length < 1000) (hc : s.get c = some (.cells (l.map AV.str) To)) (hne : c ≠ b) (hcn : c < s.nx) :
    ACall Tryz.prog 28 [.ptr b 0, .rs 1 c 0 l.length] s fun v t => v = .str (l.getD (nextOf L at_ l.length).toNat []) ∧ t = s.upd b (strm Lv (at_ + 1)) := by
  refine gob28 (by simp) ?_
  intro tm hlen harg
  have hb := h.lt
  have hpos : 0 < l.length := List.length_pos_iff.2 hl
  have hbd := nextOf_lt L at_ (n := l.length) (by omega) (by omega)
  obtain ⟨x, hx⟩ : ∃ x, l[(nextOf L at_ l.length).toNat]? = some x := ⟨_, List.getElem?_eq_getElem (by omega)⟩
  have hgc : (s.upd b (strm Lv (at_ + 1))).get c = some (.cells (l.map AV.str) To) := by rw [AHeap.get_upd, if_neg hne, hc]
  have hd : (List.drop (nextOf L at_ l.length).toNat (l.map AV.str))[0]? = some (.str x) := by simp [hx]
  simp +contextual only [go_sem, L28, hlen, harg, lcondB_decide, lcondB_not, lguardB_decide_true, lguardB_decide_false, ldguardB_decide, Nat.reduceLT, Nat.reduceEqDiff, Nat.reduceAdd, Nat.reduceLeDiff, reduceIte, reduceCtorEq]
  refine lfunG_eq (nextS h.loc _) ?_
  simp +contextual only [go_sem, hlen, harg, hb, hcn, rs_at63 hbd.1 hbd.2, hgc, hd, lcondB_decide, lcondB_not, lguardB_decide_true, lguardB_decide_false, ldguardB_decide, Nat.reduceLT, Nat.reduceEqDiff, Nat.reduceAdd, Nat.reduceLeDiff, reduceIte, reduceCtorEq]
  refine lexit_pure ((OKo.refl s).upd hb h.lowO) (by simp only [low]) ⟨?_, rfl⟩
  rw [List.getD_eq_getElem?_getD, hx]
  rfl
end Go.S1N
end
section
set_option linter.unusedVariables false
set_option linter.unusedSimpArgs false
namespace Go.S1N
open Go Go.Am Go.Proofs Go.S1
set_option maxRecDepth 100000
set_option linter.unusedSimpArgs false
attribute [local irreducible] lopsB lvb lstepB lfunG lcondB lguardB ldrawB ldrunB ldstepB ldguardB lmem lval ldmem ldval ldfun lexit ldloadB ldlenB lpostB athen ablock
theorem lettersS {s : AHeap} {b : Nat} {Lv : AV} {L : List Int} {at_ : Int} (h : Sm s b Lv L at_) (h1 : at_ < 3000000000000000000) (most : Int) (hm0 : 0 ≤ most) (hm : most ≤ 1000) :
    ACall Tryz.prog 9 [.ptr b 0, .int .i64 most] s fun v t => ∃ (x : List UInt8) (k : Nat), v = .str x ∧ x.length ≤ most ∧ k ≤ most + 1 ∧ t = s.upd b (strm Lv (at_ + k)) := by
  refine gob9 (by simp) ?_
  intro tm hlen harg
  have hb := h.lt
  simp +contextual only [go_sem, L9, hlen, harg, lcondB_decide, lcondB_not, lguardB_decide_true, lguardB_decide_false, ldguardB_decide, Nat.reduceLT, Nat.reduceEqDiff, Nat.reduceAdd, Nat.reduceLeDiff, reduceIte, reduceCtorEq]
  refine lfunG_eq (rangeS h.loc 0 most hm0 (by omega) (by omega)) ?_
  have hN := nextOf_lt L at_ (show 1 ≤ most - 0 + 1 by omega) (by omega)
  generalize nextOf L at_ (most - 0 + 1) = N at hN
  simp +contextual only [go_sem, hlen, harg, hb, Int.zero_add, lcondB_decide, lcondB_not, lguardB_decide_true, lguardB_decide_false, ldguardB_decide, Nat.reduceLT, Nat.reduceEqDiff, Nat.reduceAdd, Nat.reduceLeDiff, reduceIte, reduceCtorEq]
  refine ⟨Nat × List UInt8, fun a => [(0, .ptr b 0), (5, .str a.2), (8, .int .i64 N), (9, .int .i64 a.1)], fun a => loc (s.upd b (strm Lv (at_ + 1 + a.1))) 0 [], fun a => (a.1 : Int) ≤ N ∧ a.2.length ≤ a.1, fun a => N.toNat - a.1, (0, []),
    ⟨by simp; omega, by simp⟩, ?_, ?_⟩
  · refine To.go [] [] (by simp) ((OKo.refl s).upd hb h.lowO) (by decide) (by simp) ?_ trivial
    simp +contextual only [go_sem, hlen, harg, rnm_low hb, lcondB_decide, lcondB_not, lguardB_decide_true, lguardB_decide_false, ldguardB_decide, Nat.reduceLT, Nat.reduceEqDiff, Nat.reduceAdd, Nat.reduceLeDiff, reduceIte, reduceCtorEq]
    simp
  · rintro ⟨i, x⟩ tm1 ⟨hi, hx⟩ hlen1 hlv
    simp only [go_sem, hlen, lcondB_decide, lcondB_not, lguardB_decide_true, lguardB_decide_false, ldguardB_decide, Nat.reduceLT, Nat.reduceEqDiff, Nat.reduceAdd, Nat.reduceLeDiff, reduceIte, reduceCtorEq] at hlen1 hlv hi hx
    have hS := (h.upd (a := at_ + 1 + i) (by have := h.at0; omega) (by omega)).loc (n := 1) (l := [(0, some (.cells [.str [97], .str [98], .str [99], .str [97], .str [10]] (some 9)))])
    simp +contextual only [go_sem, hlen, hlen1, hlv, lcondB_decide, lcondB_not, lguardB_decide_true, lguardB_decide_false, ldguardB_decide, Nat.reduceLT, Nat.reduceEqDiff, Nat.reduceAdd, Nat.reduceLeDiff, reduceIte, reduceCtorEq]
    refine ⟨fun hlt => ?_, fun hge => ?_⟩
    · refine lfunG_eq (someS hS (nm s.nx 0) [[97], [98], [99], [97], [10]] (some 9) (by simp) (by simp) (by simp only [go_sem, List.map_cons, lcondB_decide, lcondB_not, lguardB_decide_true, lguardB_decide_false, ldguardB_decide, Nat.reduceLT, Nat.reduceEqDiff, Nat.reduceAdd, Nat.reduceLeDiff, reduceIte, reduceCtorEq]) (by rw [ne_eq, nm_ne hb]; simp) (by simp only [go_sem, lcondB_decide, lcondB_not, lguardB_decide_true, lguardB_decide_false, ldguardB_decide, Nat.reduceLT, Nat.reduceEqDiff, Nat.reduceAdd, Nat.reduceLeDiff, reduceIte, reduceCtorEq])) ?_
      have hy : ∀ j, ([[97], [98], [99], [97], [10]].getD j ([] : List UInt8)).length ≤ 1 := by
        intro j
        rcases j with _ | _ | _ | _ | _ | j <;> simp
      generalize (nextOf L (at_ + 1 + i) _).toNat = j
      have hyj := hy j
      generalize [[97], [98], [99], [97], [10]].getD j ([] : List UInt8) = y at hyj
      have hw : IntKind.i64.wrap ((i : Int) + 1) = ((i + 1 : Nat) : Int) := by rw [wrap_id (by omega)]; rfl
      simp +contextual only [go_sem, hlen, hlen1, hlv, hb, hw, abin_sadd (show x.length + y.length ≤ 9000000000000000000 by omega), lcondB_decide, lcondB_not, lguardB_decide_true, lguardB_decide_false, ldguardB_decide, Nat.reduceLT, Nat.reduceEqDiff, Nat.reduceAdd, Nat.reduceLeDiff, reduceIte, reduceCtorEq]
      refine ⟨(i + 1, x ++ y), ⟨by simp only; omega, by simp only [List.length_append]; omega⟩, by simp only; omega, ?_⟩
      refine To.go [] [] (by show loc (s.upd b (strm Lv (at_ + 1 + ((i + 1 : Nat) : Int)))) 0 [] = _; rw [show at_ + 1 + ((i + 1 : Nat) : Int) = at_ + 1 + i + 1 from by omega]; rfl) ((OKo.refl s).upd hb h.lowO) (by decide) (by simp) ?_ trivial
      simp +contextual only [go_sem, hlen1, hlv, rnm_low hb, lcondB_decide, lcondB_not, lguardB_decide_true, lguardB_decide_false, ldguardB_decide, Nat.reduceLT, Nat.reduceEqDiff, Nat.reduceAdd, Nat.reduceLeDiff, reduceIte, reduceCtorEq]
    · refine lexit_pure ((OKo.refl s).upd hb h.lowO) (by simp only [low]) ⟨x, i + 1, rfl, by omega, by omega, ?_⟩
      congr 2
      omega
end Go.S1N
end
section
set_option linter.unusedVariables false
set_option linter.unusedSimpArgs false
namespace Go.S1N
open Go Go.Am Go.Proofs Go.S1
set_option maxRecDepth 100000
set_option linter.unusedSimpArgs false
attribute [local irreducible] lopsB lvb lstepB lfunG lcondB lguardB ldrawB ldrunB ldstepB ldguardB lmem lval ldmem ldval ldfun lexit ldloadB ldlenB lpostB athen ablock
theorem getD_le {l : List (List UInt8)} {k : Nat} (h : ∀ x ∈ l, x.length ≤ k) (j : Nat) : (l.getD j []).length ≤ k := by
  rw [List.getD_eq_getElem?_getD]
  cases hj : l[j]? with
  | none => simp
  | some x => exact h x (List.mem_of_getElem? hj)
theorem anEditS {s : AHeap} {b : Nat} {Lv : AV} {L : List Int} {at_ : Int} (h : Sm s b Lv L at_) (h1 : at_ < 3900000000000000000) (n : Int) :
    ACall Tryz.prog 51 [.ptr b 0, .int .i64 n] s fun v t => ∃ (e : Ed) (k : Nat), v = e.enc ∧ e.new.length ≤ 4 ∧ k ≤ 6 ∧ t = s.upd b (strm Lv (at_ + k)) := by
  refine gob51 (by simp) ?_
  intro tm hlen harg
  have hb := h.lt
  have h0 := h.at0
  simp +contextual only [go_sem, L51, hlen, harg, lcondB_decide, lcondB_not, lguardB_decide_true, lguardB_decide_false, ldguardB_decide, Nat.reduceLT, Nat.reduceEqDiff, Nat.reduceAdd, Nat.reduceLeDiff, reduceIte, reduceCtorEq]
  refine lfunG_eq (nextS h.loc _) ?_
  simp +contextual only [go_sem, hlen, harg, hb, lcondB_decide, lcondB_not, lguardB_decide_true, lguardB_decide_false, ldguardB_decide, Nat.reduceLT, Nat.reduceEqDiff, Nat.reduceAdd, Nat.reduceLeDiff, reduceIte, reduceCtorEq]
  refine lfunG_eq (pickS ((h.upd (by omega) (by omega)).loc) (nm s.nx 1) [0, 0, 1, 2, 5] (some 3) (by simp) (by simp) (by simp only [go_sem, List.map_cons, lcondB_decide, lcondB_not, lguardB_decide_true, lguardB_decide_false, ldguardB_decide, Nat.reduceLT, Nat.reduceEqDiff, Nat.reduceAdd, Nat.reduceLeDiff, reduceIte, reduceCtorEq]) (by rw [ne_eq, nm_ne hb]; simp) (by simp only [go_sem, lcondB_decide, lcondB_not, lguardB_decide_true, lguardB_decide_false, ldguardB_decide, Nat.reduceLT, Nat.reduceEqDiff, Nat.reduceAdd, Nat.reduceLeDiff, reduceIte, reduceCtorEq])) ?_
  simp +contextual only [go_sem, hlen, harg, hb, lcondB_decide, lcondB_not, lguardB_decide_true, lguardB_decide_false, ldguardB_decide, Nat.reduceLT, Nat.reduceEqDiff, Nat.reduceAdd, Nat.reduceLeDiff, reduceIte, reduceCtorEq]
  refine lfunG_eq (someS ((h.upd (by omega) (by omega)).loc) (nm s.nx 2) [[], [97], [32], [49], [43], [41], [35], [34], [97, 98, 32, 49], [46]] (some 9) (by simp) (by simp) (by simp only [go_sem, List.map_cons, lcondB_decide, lcondB_not, lguardB_decide_true, lguardB_decide_false, ldguardB_decide, Nat.reduceLT, Nat.reduceEqDiff, Nat.reduceAdd, Nat.reduceLeDiff, reduceIte, reduceCtorEq]) (by rw [ne_eq, nm_ne hb]; simp) (by simp only [go_sem, lcondB_decide, lcondB_not, lguardB_decide_true, lguardB_decide_false, ldguardB_decide, Nat.reduceLT, Nat.reduceEqDiff, Nat.reduceAdd, Nat.reduceLeDiff, reduceIte, reduceCtorEq])) ?_
  simp +contextual only [go_sem, hlen, harg, hb, lcondB_decide, lcondB_not, lguardB_decide_true, lguardB_decide_false, ldguardB_decide, Nat.reduceLT, Nat.reduceEqDiff, Nat.reduceAdd, Nat.reduceLeDiff, reduceIte, reduceCtorEq]
  refine lfunG_eq (flipS ((h.upd (by omega) (by omega)).loc) _) ?_
  have hS := getD_le (l := [[], [97], [32], [49], [43], [41], [35], [34], [97, 98, 32, 49], [46]]) (k := 4) (by simp) (nextOf L (at_ + 1 + 1) (([[], [97], [32], [49], [43], [41], [35], [34], [97, 98, 32, 49], [46]] : List (List UInt8)).length)).toNat
  generalize ([[], [97], [32], [49], [43], [41], [35], [34], [97, 98, 32, 49], [46]] : List (List UInt8)).getD _ [] = y at hS ⊢
  simp +contextual only [go_sem, hlen, harg, hb, lcondB_decide, lcondB_not, lguardB_decide_true, lguardB_decide_false, ldguardB_decide, Nat.reduceLT, Nat.reduceEqDiff, Nat.reduceAdd, Nat.reduceLeDiff, reduceIte, reduceCtorEq]
  refine ⟨fun hf => ?_, fun hf => ?_⟩
  · refine lfunG_eq (pickS ((h.upd (by omega) (by omega)).loc) (nm s.nx 4) [-1, _, _] (some 3) (by simp) (by simp) (by simp only [go_sem, List.map_cons, lcondB_decide, lcondB_not, lguardB_decide_true, lguardB_decide_false, ldguardB_decide, Nat.reduceLT, Nat.reduceEqDiff, Nat.reduceAdd, Nat.reduceLeDiff, reduceIte, reduceCtorEq]; rfl) (by rw [ne_eq, nm_ne hb]; simp) (by simp only [go_sem, lcondB_decide, lcondB_not, lguardB_decide_true, lguardB_decide_false, ldguardB_decide, Nat.reduceLT, Nat.reduceEqDiff, Nat.reduceAdd, Nat.reduceLeDiff, reduceIte, reduceCtorEq])) ?_
    simp +contextual only [go_sem, hlen, harg, hb, lcondB_decide, lcondB_not, lguardB_decide_true, lguardB_decide_false, ldguardB_decide, Nat.reduceLT, Nat.reduceEqDiff, Nat.reduceAdd, Nat.reduceLeDiff, reduceIte, reduceCtorEq]
    refine lfunG_eq (pickS ((h.upd (by omega) (by omega)).loc) (nm s.nx 5) [0, -1, _] (some 3) (by simp) (by simp) (by simp only [go_sem, List.map_cons, lcondB_decide, lcondB_not, lguardB_decide_true, lguardB_decide_false, ldguardB_decide, Nat.reduceLT, Nat.reduceEqDiff, Nat.reduceAdd, Nat.reduceLeDiff, reduceIte, reduceCtorEq]; rfl) (by rw [ne_eq, nm_ne hb]; simp) (by simp only [go_sem, lcondB_decide, lcondB_not, lguardB_decide_true, lguardB_decide_false, ldguardB_decide, Nat.reduceLT, Nat.reduceEqDiff, Nat.reduceAdd, Nat.reduceLeDiff, reduceIte, reduceCtorEq])) ?_
    simp +contextual only [go_sem, hlen, harg, hb, lcondB_decide, lcondB_not, lguardB_decide_true, lguardB_decide_false, ldguardB_decide, Nat.reduceLT, Nat.reduceEqDiff, Nat.reduceAdd, Nat.reduceLeDiff, reduceIte, reduceCtorEq]
    refine lexit_pure ((OKo.refl s).upd hb h.lowO) (by simp only [low, lowL, and_self]) ⟨⟨_, _, y⟩, 6, rfl, hS, by omega, ?_⟩
    congr 2
    omega
  · refine lexit_pure ((OKo.refl s).upd hb h.lowO) (by simp only [low, lowL, and_self]) ⟨⟨_, _, y⟩, 4, rfl, hS, by omega, ?_⟩
    congr 2
    omega
end Go.S1N
end
section
set_option linter.unusedVariables false
set_option linter.unusedSimpArgs false
namespace Go.S1N
open Go Go.Am Go.Proofs Go.S1
set_option maxRecDepth 100000
set_option linter.unusedSimpArgs false
attribute [local irreducible] lopsB lvb lstepB lfunG lcondB lguardB ldrawB ldrunB ldstepB ldguardB lmem lval ldmem ldval ldfun lexit ldloadB ldlenB lpostB athen ablock
def edc (l : List Ed) : List AV := (l.map Ed.enc).flatMap AV.cells
theorem edc_len (l : List Ed) : (edc l).length = l.length * 3 := by
  unfold edc
  induction l with
  | nil => rfl
  | cons e l ih => simp only [List.map_cons, List.flatMap_cons, List.length_append, ih, List.length_cons, Ed.enc, AV.cells, List.length_nil]; omega
theorem edc_snoc (l : List Ed) (e : Ed) : edc (l ++ [e]) = edc l ++ [.int .i64 e.at_, .int .i64 e.cut, .str e.new] := by
  simp [edc, Ed.enc, AV.cells]
theorem edc_pul (l : List Ed) : PuL (edc l) := by
  unfold edc
  induction l with
  | nil => simp only [List.map_nil, List.flatMap_nil, PuL, lowL]
  | cons e l ih =>
    rw [List.map_cons, List.flatMap_cons, PuL, lowL_append]
    exact ⟨by simp only [Ed.enc, AV.cells, lowL, low, and_self], ih⟩
def edv (l : List Ed) : AV := fsv 3 (l.map Ed.enc)
theorem edv_sl (l : List Ed) : SlE (edv l) l := by
  unfold edv
  cases l with
  | nil => exact .inr ⟨rfl, rfl⟩
  | cons e l => exact .inl ⟨false, fsv_pos (by simp)⟩
theorem edv_pu (l : List Ed) : Pu (edv l) := (edv_sl l).pu
theorem enc_len (l : List Ed) : ∀ x ∈ l.map Ed.enc, x.cells.length = 3 := by
  intro x hx
  obtain ⟨e, _, rfl⟩ := List.mem_map.1 hx
  rfl
theorem len_fz {b : Nat} {l : List Ed} : fz b 3 (l.map Ed.enc) (gsv 3 b l.length) = edv l := by
  rw [show l.length = (l.map Ed.enc).length from (List.length_map ..).symm, fz_gsv]; rfl
theorem len_fz1 {b : Nat} {l : List Ed} {e : Ed} : fz b 3 ((l ++ [e]).map Ed.enc) (.rs 3 b 0 (l.length + 1)) = edv (l ++ [e]) := by
  simp only [fz, List.length_map, List.length_append, List.length_cons, List.length_nil, Nat.zero_add, and_self, if_true, edv]
  rw [fsv_pos (by simp)]
theorem loc_at {s : AHeap} {b : Nat} {Lv : AV} {a a' : Int} {n : Nat} {l : List (Nat × Option AObj)} (h : a = a') : loc (s.upd b (strm Lv a)) n l = loc (s.upd b (strm Lv a')) n l := by rw [h]
theorem getI_le {l : List Int} {lo hi : Int} (h0 : lo ≤ 0 ∧ 0 ≤ hi) (h : ∀ x ∈ l, lo ≤ x ∧ x ≤ hi) (j : Nat) : lo ≤ l.getD j 0 ∧ l.getD j 0 ≤ hi := by
  rw [List.getD_eq_getElem?_getD]
  cases hj : l[j]? with
  | none => simpa using h0
  | some x => exact h x (List.mem_of_getElem? hj)
theorem changeS {s : AHeap} {b : Nat} {Lv : AV} {L : List Int} {at_ : Int} (h : Sm s b Lv L at_) (h1 : at_ < 3800000000000000000) (n : Int) :
    ACall Tryz.prog 29 [.ptr b 0, .int .i64 n] s fun v t => ∃ (l : List Ed) (k : Nat), v = edv l ∧ l.length ≤ 4 ∧ (∀ e ∈ l, e.new.length ≤ 4) ∧ k ≤ 20 ∧ t = s.upd b (strm Lv (at_ + k)) := by
  refine gob29 (by simp) ?_
  intro tm hlen harg
  have hb := h.lt
  have h0 := h.at0
  simp +contextual only [go_sem, L29, hlen, harg, lcondB_decide, lcondB_not, lguardB_decide_true, lguardB_decide_false, ldguardB_decide, Nat.reduceLT, Nat.reduceEqDiff, Nat.reduceAdd, Nat.reduceLeDiff, reduceIte, reduceCtorEq]
  refine lfunG_eq (rangeS h.loc 0 3 (by omega) (by omega) (by omega)) ?_
  simp +contextual only [go_sem, hlen, harg, hb, lcondB_decide, lcondB_not, lguardB_decide_true, lguardB_decide_false, ldguardB_decide, Nat.reduceLT, Nat.reduceEqDiff, Nat.reduceAdd, Nat.reduceLeDiff, reduceIte, reduceCtorEq]
  refine lfunG_eq (pickS ((h.upd (by omega) (by omega)).loc) (nm s.nx 0) [0, 1, 1, 2, 3] (some 3) (by simp) (by simp) (by simp only [go_sem, List.map_cons, lcondB_decide, lcondB_not, lguardB_decide_true, lguardB_decide_false, ldguardB_decide, Nat.reduceLT, Nat.reduceEqDiff, Nat.reduceAdd, Nat.reduceLeDiff, reduceIte, reduceCtorEq]) (by rw [ne_eq, nm_ne hb]; simp) (by simp only [go_sem, lcondB_decide, lcondB_not, lguardB_decide_true, lguardB_decide_false, ldguardB_decide, Nat.reduceLT, Nat.reduceEqDiff, Nat.reduceAdd, Nat.reduceLeDiff, reduceIte, reduceCtorEq])) ?_
  have hN := getI_le (l := [0, 1, 1, 2, 3]) (lo := 0) (hi := 3) (by omega) (by simp) (nextOf L (at_ + 1) (([0, 1, 1, 2, 3] : List Int).length)).toNat
  generalize ([0, 1, 1, 2, 3] : List Int).getD _ 0 = N at hN ⊢
  simp +contextual only [go_sem, hlen, harg, hb, lcondB_decide, lcondB_not, lguardB_decide_true, lguardB_decide_false, ldguardB_decide, Nat.reduceLT, Nat.reduceEqDiff, Nat.reduceAdd, Nat.reduceLeDiff, reduceIte, reduceCtorEq]
  refine ⟨Nat × Int × Nat × List Ed, fun a => [(0, .ptr b 0), (1, .int .i64 n), (5, gsv 3 (nm s.nx 0) a.2.2.2.length), (6, .int .i64 a.2.1), (12, .int .i64 N), (13, .int .i64 a.1)],
    fun a => loc (s.upd b (strm Lv (at_ + a.2.2.1))) 1 [(0, gso 37 (edc a.2.2.2))], fun a => (a.1 : Int) ≤ N ∧ a.2.2.1 ≤ 2 + 3 * a.1 ∧ a.2.2.2.length ≤ a.1 ∧ ∀ e ∈ a.2.2.2, e.new.length ≤ 4, fun a => N.toNat - a.1, (0, 0 + nextOf L at_ (3 - 0 + 1), 2, []),
    ⟨by simp only; omega, by simp only; omega, by simp, by simp⟩, ?_, ?_⟩
  · refine To.go [9] [(0, none)] (by simp only [edc, List.map_nil, List.flatMap_nil, gso_nil]; congr 3; omega) ((OKo.refl s).upd hb h.lowO) (by decide) (by simp) ?_ ?_
    · simp +contextual only [go_sem, hlen, harg, gsv_zero, rnm_low hb, lcondB_decide, lcondB_not, lguardB_decide_true, lguardB_decide_false, ldguardB_decide, Nat.reduceLT, Nat.reduceEqDiff, Nat.reduceAdd, Nat.reduceLeDiff, reduceIte, reduceCtorEq]
      simp
    · simp only [go_sem, lcondB_decide, lcondB_not, lguardB_decide_true, lguardB_decide_false, ldguardB_decide, Nat.reduceLT, Nat.reduceEqDiff, Nat.reduceAdd, Nat.reduceLeDiff, reduceIte, reduceCtorEq]
  · rintro ⟨i, at1, k, l⟩ tm1 ⟨hi, hk, hl, hnew⟩ hlen1 hlv
    simp only [go_sem, hlen, lcondB_decide, lcondB_not, lguardB_decide_true, lguardB_decide_false, ldguardB_decide, Nat.reduceLT, Nat.reduceEqDiff, Nat.reduceAdd, Nat.reduceLeDiff, reduceIte, reduceCtorEq] at hlen1 hlv hi hk hl hnew
    simp +contextual only [go_sem, hlen, hlen1, hlv, lcondB_decide, lcondB_not, lguardB_decide_true, lguardB_decide_false, ldguardB_decide, Nat.reduceLT, Nat.reduceEqDiff, Nat.reduceAdd, Nat.reduceLeDiff, reduceIte, reduceCtorEq]
    refine ⟨fun hlt => ⟨fun hbr => ?_, fun hnb => ?_⟩, fun hge => ?_⟩
    rotate_left
    · refine lfunG_eq (pickS ((h.upd (by omega) (by omega)).loc) (nm s.nx 1) [0, 1, 1, 2, 4] (some 3) (by simp) (by simp) (by simp only [go_sem, List.map_cons, lcondB_decide, lcondB_not, lguardB_decide_true, lguardB_decide_false, ldguardB_decide, Nat.reduceLT, Nat.reduceEqDiff, Nat.reduceAdd, Nat.reduceLeDiff, reduceIte, reduceCtorEq]) (by rw [ne_eq, nm_ne hb]; simp) (by simp only [go_sem, lcondB_decide, lcondB_not, lguardB_decide_true, lguardB_decide_false, ldguardB_decide, Nat.reduceLT, Nat.reduceEqDiff, Nat.reduceAdd, Nat.reduceLeDiff, reduceIte, reduceCtorEq])) ?_
      simp +contextual only [go_sem, hlen1, hlv, hb, lcondB_decide, lcondB_not, lguardB_decide_true, lguardB_decide_false, ldguardB_decide, Nat.reduceLT, Nat.reduceEqDiff, Nat.reduceAdd, Nat.reduceLeDiff, reduceIte, reduceCtorEq]
      refine lfunG_eq (someS ((h.upd (by omega) (by omega)).loc) (nm s.nx 2) [[], [120], [121, 122], [120], [195, 169]] (some 9) (by simp) (by simp) (by simp only [go_sem, List.map_cons, lcondB_decide, lcondB_not, lguardB_decide_true, lguardB_decide_false, ldguardB_decide, Nat.reduceLT, Nat.reduceEqDiff, Nat.reduceAdd, Nat.reduceLeDiff, reduceIte, reduceCtorEq]) (by rw [ne_eq, nm_ne hb]; simp) (by simp only [go_sem, lcondB_decide, lcondB_not, lguardB_decide_true, lguardB_decide_false, ldguardB_decide, Nat.reduceLT, Nat.reduceEqDiff, Nat.reduceAdd, Nat.reduceLeDiff, reduceIte, reduceCtorEq])) ?_
      have hS := getD_le (l := [[], [120], [121, 122], [120], [195, 169]]) (k := 4) (by simp) (nextOf L (at_ + k + 1) (([[], [120], [121, 122], [120], [195, 169]] : List (List UInt8)).length)).toNat
      generalize ([[], [120], [121, 122], [120], [195, 169]] : List (List UInt8)).getD _ [] = y at hS ⊢
      generalize ([0, 1, 1, 2, 4] : List Int).getD _ 0 = z
      simp +contextual only [go_sem, hlen1, hlv, hb, lcondB_decide, lcondB_not, lguardB_decide_true, lguardB_decide_false, ldguardB_decide, Nat.reduceLT, Nat.reduceEqDiff, Nat.reduceAdd, Nat.reduceLeDiff, reduceIte, reduceCtorEq]
      generalize (if IntKind.i64.wrap (n - at1) < z then IntKind.i64.wrap (n - at1) else z) = w
      have hw : IntKind.i64.wrap ((i : Int) + 1) = ((i + 1 : Nat) : Int) := by rw [wrap_id (by omega)]; rfl
      refine ⟨fun c1 => ⟨fun c2 => ?_, fun c2 => ?_⟩, fun c1 => ?_⟩
      all_goals
        refine lmem_eq (app27 (acellsOf_rs (by simp only [go_sem, lcondB_decide, lcondB_not, lguardB_decide_true, lguardB_decide_false, ldguardB_decide, Nat.reduceLT, Nat.reduceEqDiff, Nat.reduceAdd, Nat.reduceLeDiff, reduceIte, reduceCtorEq]; rfl) (by rfl) (AHeap.nx_upd _ _ _)) (by decide) (by simp only [go_sem, lcondB_decide, lcondB_not, lguardB_decide_true, lguardB_decide_false, ldguardB_decide, Nat.reduceLT, Nat.reduceEqDiff, Nat.reduceAdd, Nat.reduceLeDiff, reduceIte, reduceCtorEq]) (by simp only [go_sem, lcondB_decide, lcondB_not, lguardB_decide_true, lguardB_decide_false, ldguardB_decide, Nat.reduceLT, Nat.reduceEqDiff, Nat.reduceAdd, Nat.reduceLeDiff, reduceIte, reduceCtorEq]) (edc_len l) (by omega) (AHeap.nx_upd _ _ _)) ?_
        simp +contextual only [go_sem, hlen1, hlv, hb, lcondB_decide, lcondB_not, lguardB_decide_true, lguardB_decide_false, ldguardB_decide, Nat.reduceLT, Nat.reduceEqDiff, Nat.reduceAdd, Nat.reduceLeDiff, reduceIte, reduceCtorEq]
        refine ldrawB_go [] [(2, 1), (2, 2)] 7 (by decide) ?_
        simp +contextual only [go_sem, hlen1, hlv, hb, lcondB_decide, lcondB_not, lguardB_decide_true, lguardB_decide_false, ldguardB_decide, Nat.reduceLT, Nat.reduceEqDiff, Nat.reduceAdd, Nat.reduceLeDiff, reduceIte, reduceCtorEq]
        refine ldfun_eff _ _ (pickS ((h.upd (by omega) (by omega)).loc) _ [1, 1, 2, 5] (some 3) (by simp) (by simp) (by simp only [go_sem, List.map_cons, lcondB_decide, lcondB_not, lguardB_decide_true, lguardB_decide_false, ldguardB_decide, Nat.reduceLT, Nat.reduceEqDiff, Nat.reduceAdd, Nat.reduceLeDiff, reduceIte, reduceCtorEq]) (by rw [ne_eq, nm_ne hb]; simp) (by simp only [go_sem, lcondB_decide, lcondB_not, lguardB_decide_true, lguardB_decide_false, ldguardB_decide, Nat.reduceLT, Nat.reduceEqDiff, Nat.reduceAdd, Nat.reduceLeDiff, reduceIte, reduceCtorEq])) ?_
        simp +contextual only [go_sem, hlen1, hlv, hb, lcondB_decide, lcondB_not, lguardB_decide_true, lguardB_decide_false, ldguardB_decide, Nat.reduceLT, Nat.reduceEqDiff, Nat.reduceAdd, Nat.reduceLeDiff, reduceIte, reduceCtorEq]
        generalize ([1, 1, 2, 5] : List Int).getD _ 0 = p
      · refine ⟨by kernel_rfl, (i + 1, IntKind.i64.wrap (at1 + IntKind.i64.wrap (0 + p)), k + 3, l ++ [⟨at1, 0, [119]⟩]), ⟨by simp only; omega, by simp only; omega, by simp only [List.length_append, List.length_cons, List.length_nil]; omega, ?_⟩, by simp only; omega, ?_⟩
        · intro e he
          rcases List.mem_append.1 he with he | he
          · exact hnew e he
          · rw [List.mem_singleton.1 he]; simp
        · refine To.go [5] [(0, gso 37 (edc (l ++ [⟨at1, 0, [119]⟩])))] (loc_at (by simp only; omega)) ((OKo.refl s).upd hb h.lowO) (by decide) (by simp) ?_ ?_
          · simp +contextual only [go_sem, hlen1, hlv, hw, rnm_low hb, List.length_append, gsv_pos (Nat.succ_ne_zero l.length), lcondB_decide, lcondB_not, lguardB_decide_true, lguardB_decide_false, ldguardB_decide, Nat.reduceLT, Nat.reduceEqDiff, Nat.reduceAdd, Nat.reduceLeDiff, reduceIte, reduceCtorEq]
          · simp only [go_sem, map_gso_pu (edc_pul _), lcondB_decide, lcondB_not, lguardB_decide_true, lguardB_decide_false, ldguardB_decide, Nat.reduceLT, Nat.reduceEqDiff, Nat.reduceAdd, Nat.reduceLeDiff, reduceIte, reduceCtorEq]
            simp only [edc_snoc, gso_pos (List.append_ne_nil_of_right_ne_nil (edc l) (List.cons_ne_nil _ _))]
      · refine ⟨by kernel_rfl, (i + 1, IntKind.i64.wrap (at1 + IntKind.i64.wrap (0 + p)), k + 3, l ++ [⟨at1, 0, y⟩]), ⟨by simp only; omega, by simp only; omega, by simp only [List.length_append, List.length_cons, List.length_nil]; omega, ?_⟩, by simp only; omega, ?_⟩
        · intro e he
          rcases List.mem_append.1 he with he | he
          · exact hnew e he
          · rw [List.mem_singleton.1 he]; exact hS
        · refine To.go [5] [(0, gso 37 (edc (l ++ [⟨at1, 0, y⟩])))] (loc_at (by simp only; omega)) ((OKo.refl s).upd hb h.lowO) (by decide) (by simp) ?_ ?_
          · simp +contextual only [go_sem, hlen1, hlv, hw, rnm_low hb, List.length_append, gsv_pos (Nat.succ_ne_zero l.length), lcondB_decide, lcondB_not, lguardB_decide_true, lguardB_decide_false, ldguardB_decide, Nat.reduceLT, Nat.reduceEqDiff, Nat.reduceAdd, Nat.reduceLeDiff, reduceIte, reduceCtorEq]
          · simp only [go_sem, map_gso_pu (edc_pul _), lcondB_decide, lcondB_not, lguardB_decide_true, lguardB_decide_false, ldguardB_decide, Nat.reduceLT, Nat.reduceEqDiff, Nat.reduceAdd, Nat.reduceLeDiff, reduceIte, reduceCtorEq]
            simp only [edc_snoc, gso_pos (List.append_ne_nil_of_right_ne_nil (edc l) (List.cons_ne_nil _ _))]
      · refine ⟨by kernel_rfl, (i + 1, IntKind.i64.wrap (at1 + IntKind.i64.wrap (w + p)), k + 3, l ++ [⟨at1, w, y⟩]), ⟨by simp only; omega, by simp only; omega, by simp only [List.length_append, List.length_cons, List.length_nil]; omega, ?_⟩, by simp only; omega, ?_⟩
        · intro e he
          rcases List.mem_append.1 he with he | he
          · exact hnew e he
          · rw [List.mem_singleton.1 he]; exact hS
        · refine To.go [5] [(0, gso 37 (edc (l ++ [⟨at1, w, y⟩])))] (loc_at (by simp only; omega)) ((OKo.refl s).upd hb h.lowO) (by decide) (by simp) ?_ ?_
          · simp +contextual only [go_sem, hlen1, hlv, hw, rnm_low hb, List.length_append, gsv_pos (Nat.succ_ne_zero l.length), lcondB_decide, lcondB_not, lguardB_decide_true, lguardB_decide_false, ldguardB_decide, Nat.reduceLT, Nat.reduceEqDiff, Nat.reduceAdd, Nat.reduceLeDiff, reduceIte, reduceCtorEq]
          · simp only [go_sem, map_gso_pu (edc_pul _), lcondB_decide, lcondB_not, lguardB_decide_true, lguardB_decide_false, ldguardB_decide, Nat.reduceLT, Nat.reduceEqDiff, Nat.reduceAdd, Nat.reduceLeDiff, reduceIte, reduceCtorEq]
            simp only [edc_snoc, gso_pos (List.append_ne_nil_of_right_ne_nil (edc l) (List.cons_ne_nil _ _))]
    all_goals
      refine lfunG_eq (flipS ((h.upd (by omega) (by omega)).loc) _) ?_
      simp +contextual only [go_sem, hlen1, hlv, hb, lcondB_decide, lcondB_not, lguardB_decide_true, lguardB_decide_false, ldguardB_decide, Nat.reduceLT, Nat.reduceEqDiff, Nat.reduceAdd, Nat.reduceLeDiff, reduceIte, reduceCtorEq]
      refine ⟨fun hf => ?_, fun hf => ?_⟩
      · refine lfunG_of (anEditS ((h.upd (by omega) (by omega)).loc) (by omega) _) ?_
        rintro _ _ ⟨e, m, rfl, he, hm, rfl⟩
        simp +contextual only [go_sem, hlen1, hlv, hb, Ed.enc, lcondB_decide, lcondB_not, lguardB_decide_true, lguardB_decide_false, ldguardB_decide, Nat.reduceLT, Nat.reduceEqDiff, Nat.reduceAdd, Nat.reduceLeDiff, reduceIte, reduceCtorEq]
        refine lmem_eq (app27 (acellsOf_rs (by simp only [go_sem, lcondB_decide, lcondB_not, lguardB_decide_true, lguardB_decide_false, ldguardB_decide, Nat.reduceLT, Nat.reduceEqDiff, Nat.reduceAdd, Nat.reduceLeDiff, reduceIte, reduceCtorEq]; rfl) (by rfl) (AHeap.nx_upd _ _ _)) (by decide) (by simp only [go_sem, lcondB_decide, lcondB_not, lguardB_decide_true, lguardB_decide_false, ldguardB_decide, Nat.reduceLT, Nat.reduceEqDiff, Nat.reduceAdd, Nat.reduceLeDiff, reduceIte, reduceCtorEq]) (by simp only [go_sem, lcondB_decide, lcondB_not, lguardB_decide_true, lguardB_decide_false, ldguardB_decide, Nat.reduceLT, Nat.reduceEqDiff, Nat.reduceAdd, Nat.reduceLeDiff, reduceIte, reduceCtorEq]) (edc_len l) (by omega) (AHeap.nx_upd _ _ _)) ?_
        simp +contextual only [go_sem, hlen1, hlv, hb, lcondB_decide, lcondB_not, lguardB_decide_true, lguardB_decide_false, ldguardB_decide, Nat.reduceLT, Nat.reduceEqDiff, Nat.reduceAdd, Nat.reduceLeDiff, reduceIte, reduceCtorEq]
        refine lexit_freeze 2 3 ((l ++ [e]).map Ed.enc) (by simp only [go_sem, lcondB_decide, lcondB_not, lguardB_decide_true, lguardB_decide_false, ldguardB_decide, Nat.reduceLT, Nat.reduceEqDiff, Nat.reduceAdd, Nat.reduceLeDiff, reduceIte, reduceCtorEq]; exact congrArg (fun c => some (AObj.cells c (some 37))) (edc_snoc l e).symm) (enc_len _) ?_
        simp only [AHeap.nx_upd, len_fz1]
        refine lexit_pure ((OKo.refl s).upd hb h.lowO) (low.mono (Nat.zero_le _) (edv_pu _)) ⟨_, k + 1 + m, rfl, by simp only [List.length_append, List.length_cons, List.length_nil]; omega, ?_, by omega, by congr 2; omega⟩
        intro x hx
        rcases List.mem_append.1 hx with hx | hx
        · exact hnew x hx
        · rw [List.mem_singleton.1 hx]; exact he
      · refine lexit_freezeG 0 3 (l.map Ed.enc) (by simp only [go_sem, lcondB_decide, lcondB_not, lguardB_decide_true, lguardB_decide_false, ldguardB_decide, Nat.reduceLT, Nat.reduceEqDiff, Nat.reduceAdd, Nat.reduceLeDiff, reduceIte, reduceCtorEq]; rfl) (enc_len l) (by decide) ?_
        simp only [AHeap.nx_upd, len_fz]
        exact lexit_pure ((OKo.refl s).upd hb h.lowO) (low.mono (Nat.zero_le _) (edv_pu _)) ⟨_, k + 1, rfl, by omega, hnew, by omega, by congr 2; omega⟩
end Go.S1N
end
section
set_option linter.unusedVariables false
set_option linter.unusedSimpArgs false
namespace Go.S1N
open Go Go.Am Go.Proofs Go.S1
set_option maxRecDepth 100000
set_option linter.unusedSimpArgs false
attribute [local irreducible] lopsB lvb lstepB lfunG lcondB lguardB ldrawB ldrunB ldstepB ldguardB lmem lval ldmem ldval ldfun lexit ldloadB ldlenB lpostB athen ablock
theorem scan_range {n : Int} : ∀ (l : List Ed) (B : Int), scan n B l = 0 → ∀ z ∈ l, 0 ≤ z.at_ ∧ 0 ≤ z.cut ∧ z.at_ ≤ n ∧ z.cut ≤ n
  | [], B, _, z, hz => by cases hz
  | a :: l, B, h, z, hz => by
    obtain ⟨d1, d2, d3, d4, d5, d6⟩ := scan_cons h
    rcases List.mem_cons.1 hz with rfl | hz
    · omega
    · exact scan_range l _ d6 z hz
end Go.S1N
end
section
set_option linter.unusedVariables false
set_option linter.unusedSimpArgs false
namespace Go.S1
open Go Go.Am Go.Proofs
set_option maxRecDepth 100000
noncomputable def L16 : LCode := LCode.seq (LCode.ops [⟨Op.assign (Operand.const (Value.int IntKind.i64 0)), some 4, none⟩, ⟨Op.assign (Operand.const (Value.int IntKind.i64 0)), some 5, none⟩]) (LCode.seq (LCode.seq (LCode.ops [⟨Op.move (Operand.tmp 0), some 7, none⟩, ⟨Op.move (Operand.tmp 1), some 8, none⟩, ⟨Op.call { callee := Callee.value (Operand.func 37), args := { toList := [Operand.tmp 7, Operand.tmp 8] }, argTypes := { toList := [3, 27] } }, some 9, none⟩, ⟨Op.assign (Operand.tmp 9), some 6, none⟩]) (LCode.seq (LCode.ops [⟨Op.move (Operand.tmp 6), some 10, none⟩, ⟨Op.binOp BinOp.neq 29 (Operand.tmp 10) (Operand.const (Value.int IntKind.i64 0)) 29, some 11, none⟩]) (LCode.cond (Operand.tmp 11) (LCode.seq (LCode.ops [⟨Op.move (Operand.tmp 6), some 12, none⟩, ⟨Op.assign (Operand.const (Value.int IntKind.i64 0)), some 4, none⟩, ⟨Op.assign (Operand.tmp 12), some 5, none⟩]) LCode.ret) LCode.skip))) (LCode.seq (LCode.ops [⟨Op.move (Operand.tmp 0), some 13, none⟩, ⟨Op.move (Operand.tmp 1), some 14, none⟩, ⟨Op.call { callee := Callee.value (Operand.func 38), args := { toList := [Operand.tmp 13, Operand.tmp 14] }, argTypes := { toList := [3, 27] } }, some 15, none⟩, ⟨Op.assign (Operand.tmp 15), some 4, none⟩, ⟨Op.assign (Operand.const (Value.int IntKind.i64 0)), some 5, none⟩]) LCode.ret))
theorem l16 : Tryz.f16.body.map lighten = some L16 := by kernel_rfl
theorem rs16 : Tryz.f16.results.toList = [ResultVar.tmp 4, ResultVar.tmp 5] := by kernel_rfl
theorem nt16 : Tryz.f16.ntmps = 16 := by kernel_rfl
theorem gob16 {args : List AV} {s : AHeap} {R : AV → AHeap → Prop} (hl : args.length ≤ 16) (h : ∀ tm, tm.length = 16 → (∀ i, aev tm (.tmp i) = args.getD i aundef) → lvb Tryz.prog tab s L16 (lpostB tab s [ResultVar.tmp 4, ResultVar.tmp 5] R) tm (loc s 0 [])) : ACall Tryz.prog 16 args s R := ACall.goB tab_ok mixed Tryz.func16 l16 nm16 rs16 nt16 hl h
noncomputable def L14 : LCode := LCode.seq (LCode.ops [⟨Op.assign (Operand.const (Value.bool false)), some 4, none⟩]) (LCode.seq (LCode.seq (LCode.ops [⟨Op.move (Operand.tmp 0), some 6, none⟩, ⟨Op.call { callee := Callee.builtin Builtin.len, args := { toList := [Operand.tmp 6] }, argTypes := { toList := [27] } }, some 7, none⟩, ⟨Op.move (Operand.tmp 1), some 8, none⟩, ⟨Op.call { callee := Callee.builtin Builtin.len, args := { toList := [Operand.tmp 8] }, argTypes := { toList := [27] } }, some 9, none⟩, ⟨Op.binOp BinOp.neq 3 (Operand.tmp 7) (Operand.tmp 9) 3, some 10, none⟩]) (LCode.cond (Operand.tmp 10) (LCode.seq (LCode.ops [⟨Op.assign (Operand.const (Value.bool false)), some 4, none⟩]) LCode.ret) LCode.skip)) (LCode.seq (LCode.seq (LCode.ops [⟨Op.move (Operand.tmp 0), some 11, none⟩, ⟨Op.call { callee := Callee.builtin Builtin.len, args := { toList := [Operand.tmp 11] }, argTypes := { toList := [27] } }, some 12, none⟩, ⟨Op.move (Operand.const (Value.int IntKind.i64 0)), some 13, none⟩]) (LCode.block 0 (LCode.loop (LCode.seq (LCode.ops [⟨Op.binOp BinOp.lss 3 (Operand.tmp 13) (Operand.tmp 12) 3, some 14, none⟩]) (LCode.seq (LCode.cond (Operand.tmp 14) LCode.skip (LCode.exit 0)) (LCode.seq (LCode.block 1 (LCode.seq (LCode.ops [⟨Op.move (Operand.tmp 13), some 15, none⟩, ⟨Op.assign (Operand.tmp 15), some 5, none⟩]) (LCode.seq (LCode.draw [0, 0, 3, 7, 0, 0, 48, 112, 255] [⟨Op.move (Operand.tmp 0), some 16, none⟩, ⟨Op.move (Operand.tmp 5), some 17, none⟩, ⟨Op.indexAddr 27 (Operand.tmp 16) (Operand.tmp 17), some 18, none⟩, ⟨Op.load 37 (Operand.tmp 18), some 19, none⟩, ⟨Op.move (Operand.tmp 1), some 20, none⟩, ⟨Op.move (Operand.tmp 5), some 21, none⟩, ⟨Op.indexAddr 27 (Operand.tmp 20) (Operand.tmp 21), some 22, none⟩, ⟨Op.load 37 (Operand.tmp 22), some 23, none⟩, ⟨Op.binOp BinOp.neq 37 (Operand.tmp 19) (Operand.tmp 23) 37, some 24, none⟩]) (LCode.cond (Operand.tmp 24) (LCode.seq (LCode.ops [⟨Op.assign (Operand.const (Value.bool false)), some 4, none⟩]) LCode.ret) LCode.skip)))) (LCode.ops [⟨Op.binOp BinOp.add 3 (Operand.tmp 13) (Operand.const (Value.int IntKind.i64 1)) 3, some 25, none⟩, ⟨Op.move (Operand.tmp 25), some 13, none⟩]))))))) (LCode.seq (LCode.ops [⟨Op.assign (Operand.const (Value.bool true)), some 4, none⟩]) LCode.ret)))
theorem l14 : Tryz.f14.body.map lighten = some L14 := by kernel_rfl
theorem rs14 : Tryz.f14.results.toList = [ResultVar.tmp 4] := by kernel_rfl
theorem nt14 : Tryz.f14.ntmps = 26 := by kernel_rfl
theorem gob14 {args : List AV} {s : AHeap} {R : AV → AHeap → Prop} (hl : args.length ≤ 26) (h : ∀ tm, tm.length = 26 → (∀ i, aev tm (.tmp i) = args.getD i aundef) → lvb Tryz.prog tab s L14 (lpostB tab s [ResultVar.tmp 4] R) tm (loc s 0 [])) : ACall Tryz.prog 14 args s R := ACall.goB tab_ok mixed Tryz.func14 l14 nm14 rs14 nt14 hl h
noncomputable def L68 : LCode := LCode.seq (LCode.ops [⟨Op.assign (Operand.const (Value.slice none 0 0)), some 4, none⟩]) (LCode.seq (LCode.ops [⟨Op.assign (Operand.const (Value.slice none 0 0)), some 5, none⟩]) (LCode.seq (LCode.ops [⟨Op.assign (Operand.const (Value.int IntKind.i64 0)), some 6, none⟩]) (LCode.seq (LCode.seq (LCode.ops [⟨Op.move (Operand.tmp 1), some 9, none⟩, ⟨Op.call { callee := Callee.builtin Builtin.len, args := { toList := [Operand.tmp 9] }, argTypes := { toList := [27] } }, some 10, none⟩, ⟨Op.move (Operand.const (Value.int IntKind.i64 0)), some 11, none⟩]) (LCode.block 0 (LCode.loop (LCode.seq (LCode.ops [⟨Op.binOp BinOp.lss 3 (Operand.tmp 11) (Operand.tmp 10) 3, some 12, none⟩]) (LCode.seq (LCode.cond (Operand.tmp 12) LCode.skip (LCode.exit 0)) (LCode.seq (LCode.block 1 (LCode.seq (LCode.ops [⟨Op.indexAddr 27 (Operand.tmp 9) (Operand.tmp 11), some 13, none⟩, ⟨Op.load 37 (Operand.tmp 13), some 14, none⟩, ⟨Op.alloc 37, some 8, none⟩, ⟨Op.store 37 (Operand.tmp 8) (Operand.tmp 14), none, none⟩]) (LCode.seq (LCode.draw [0, 0, 0, 4, 0, 28, 62, 0, 128, 510, 1022, 2047, 4095] [⟨Op.move (Operand.tmp 5), some 15, none⟩, ⟨Op.move (Operand.tmp 6), some 16, none⟩, ⟨Op.fieldAddr 37 (Operand.tmp 8) 0, some 17, none⟩, ⟨Op.load 3 (Operand.tmp 17), some 18, none⟩, ⟨Op.move (Operand.tmp 6), some 19, none⟩, ⟨Op.binOp BinOp.sub 3 (Operand.tmp 18) (Operand.tmp 19) 3, some 20, none⟩, ⟨Op.call { callee := Callee.value (Operand.func 48), args := { toList := [Operand.tmp 16, Operand.tmp 20] }, argTypes := { toList := [3, 3] } }, some 21, none⟩, ⟨Op.fieldAddr 37 (Operand.tmp 8) 2, some 22, none⟩, ⟨Op.load 9 (Operand.tmp 22), some 23, none⟩, ⟨Op.call { callee := Callee.value (Operand.func 47), args := { toList := [Operand.tmp 23] }, argTypes := { toList := [9] } }, some 24, none⟩, ⟨Op.buildSlice 89 2 { toList := [(0, Operand.tmp 21), (1, Operand.tmp 24)] }, some 25, none⟩, ⟨Op.call { callee := Callee.builtin Builtin.append, args := { toList := [Operand.tmp 15, Operand.tmp 25] }, argTypes := { toList := [89, 89] } }, some 26, none⟩, ⟨Op.assign (Operand.tmp 26), some 5, none⟩]) (LCode.ops [⟨Op.fieldAddr 37 (Operand.tmp 8) 0, some 27, none⟩, ⟨Op.load 3 (Operand.tmp 27), some 28, none⟩, ⟨Op.fieldAddr 37 (Operand.tmp 8) 1, some 29, none⟩, ⟨Op.load 3 (Operand.tmp 29), some 30, none⟩, ⟨Op.binOp BinOp.add 3 (Operand.tmp 28) (Operand.tmp 30) 3, some 31, none⟩, ⟨Op.assign (Operand.tmp 31), some 6, none⟩])))) (LCode.ops [⟨Op.binOp BinOp.add 3 (Operand.tmp 11) (Operand.const (Value.int IntKind.i64 1)) 3, some 32, none⟩, ⟨Op.move (Operand.tmp 32), some 11, none⟩]))))))) (LCode.seq (LCode.ops [⟨Op.move (Operand.tmp 5), some 33, none⟩, ⟨Op.move (Operand.tmp 6), some 34, none⟩, ⟨Op.move (Operand.tmp 0), some 35, none⟩, ⟨Op.move (Operand.tmp 6), some 36, none⟩, ⟨Op.binOp BinOp.sub 3 (Operand.tmp 35) (Operand.tmp 36) 3, some 37, none⟩, ⟨Op.call { callee := Callee.value (Operand.func 48), args := { toList := [Operand.tmp 34, Operand.tmp 37] }, argTypes := { toList := [3, 3] } }, some 38, none⟩, ⟨Op.buildSlice 89 1 { toList := [(0, Operand.tmp 38)] }, some 39, none⟩, ⟨Op.call { callee := Callee.builtin Builtin.append, args := { toList := [Operand.tmp 33, Operand.tmp 39] }, argTypes := { toList := [89, 89] } }, some 40, none⟩, ⟨Op.assign (Operand.tmp 40), some 4, none⟩]) LCode.ret))))
theorem l68 : Tryz.f68.body.map lighten = some L68 := by kernel_rfl
theorem rs68 : Tryz.f68.results.toList = [ResultVar.tmp 4] := by kernel_rfl
theorem nt68 : Tryz.f68.ntmps = 41 := by kernel_rfl
theorem gob68 {args : List AV} {s : AHeap} {R : AV → AHeap → Prop} (hl : args.length ≤ 41) (h : ∀ tm, tm.length = 41 → (∀ i, aev tm (.tmp i) = args.getD i aundef) → lvb Tryz.prog tab s L68 (lpostB tab s [ResultVar.tmp 4] R) tm (loc s 0 [])) : ACall Tryz.prog 68 args s R := ACall.goB tab_ok mixed Tryz.func68 l68 nm68 rs68 nt68 hl h
noncomputable def L48 : LCode := LCode.seq (LCode.ops [⟨Op.alloc 98, some 4, none⟩]) (LCode.seq (LCode.ops [⟨Op.move (Operand.tmp 0), some 5, none⟩, ⟨Op.move (Operand.tmp 1), some 6, none⟩, ⟨Op.build 98 { toList := [(0, Operand.tmp 5), (1, Operand.tmp 6)] }, some 7, none⟩, ⟨Op.store 98 (Operand.tmp 4) (Operand.tmp 7), none, none⟩]) LCode.ret)
theorem l48 : Tryz.f48.body.map lighten = some L48 := by kernel_rfl
theorem rs48 : Tryz.f48.results.toList = [ResultVar.cell 4 98] := by kernel_rfl
theorem nt48 : Tryz.f48.ntmps = 8 := by kernel_rfl
theorem gob48 {args : List AV} {s : AHeap} {R : AV → AHeap → Prop} (hl : args.length ≤ 8) (h : ∀ tm, tm.length = 8 → (∀ i, aev tm (.tmp i) = args.getD i aundef) → lvb Tryz.prog tab s L48 (lpostB tab s [ResultVar.cell 4 98] R) tm (loc s 0 [])) : ACall Tryz.prog 48 args s R := ACall.goB tab_ok mixed Tryz.func48 l48 nm48 rs48 nt48 hl h
noncomputable def L47 : LCode := LCode.seq (LCode.ops [⟨Op.alloc 98, some 2, none⟩]) (LCode.seq (LCode.ops [⟨Op.move (Operand.tmp 0), some 3, none⟩, ⟨Op.build 98 { toList := [(2, Operand.tmp 3)] }, some 4, none⟩, ⟨Op.store 98 (Operand.tmp 2) (Operand.tmp 4), none, none⟩]) LCode.ret)
theorem l47 : Tryz.f47.body.map lighten = some L47 := by kernel_rfl
theorem rs47 : Tryz.f47.results.toList = [ResultVar.cell 2 98] := by kernel_rfl
theorem nt47 : Tryz.f47.ntmps = 5 := by kernel_rfl
theorem gob47 {args : List AV} {s : AHeap} {R : AV → AHeap → Prop} (hl : args.length ≤ 5) (h : ∀ tm, tm.length = 5 → (∀ i, aev tm (.tmp i) = args.getD i aundef) → lvb Tryz.prog tab s L47 (lpostB tab s [ResultVar.cell 2 98] R) tm (loc s 0 [])) : ACall Tryz.prog 47 args s R := ACall.goB tab_ok mixed Tryz.func47 l47 nm47 rs47 nt47 hl h
end Go.S1
end
section
set_option linter.unusedVariables false
set_option linter.unusedSimpArgs false
namespace Go.S1N
open Go Go.Am Go.Proofs Go.S1
set_option maxRecDepth 100000
set_option linter.unusedSimpArgs false
attribute [local irreducible] lopsB lvb lstepB lfunG lcondB lguardB ldrawB ldrunB ldstepB ldguardB lmem lval ldmem ldval ldfun lexit ldloadB ldlenB lpostB athen ablock
theorem longE (n : Int) (v : AV) (l : List Ed) (hv : SlE v l) (hl : l.length < 4611686018427387904) (s : AHeap) : ACall Tryz.prog 38 [.int .i64 n, v] s fun r t => r = .int .i64 (longOf n l) ∧ t = s :=
  exact_of (by simp only [Pu, low]) (long_ok n v l hv hl s)
theorem checkE (n : Int) (v : AV) (l : List Ed) (hv : SlE v l) (hl : l.length < 4611686018427387904) (s : AHeap) : ACall Tryz.prog 37 [.int .i64 n, v] s fun r t => r = .int .i64 (faultOf n l) ∧ t = s :=
  exact_of (by simp only [Pu, low]) (check_ok n v l hv hl s)
theorem checkTextE (x : List UInt8) (v : AV) (l : List Ed) (hv : SlE v l) (hl : l.length < 4611686018427387904) (s : AHeap) : ACall Tryz.prog 31 [.str x, v] s fun r t => r = .int .i64 (textFault x l) ∧ t = s :=
  exact_of (by simp only [Pu, low]) (checkText_ok x v l hv hl s)
def lengthVal (n : Int) (l : List Ed) : Int × Int := if faultOf n l ≠ 0 then (0, faultOf n l) else (longOf n l, 0)
theorem length_ok (n : Int) (v : AV) (l : List Ed) (hv : SlE v l) (hl : l.length < 4611686018427387904) (s : AHeap) :
    ACall Tryz.prog 16 [.int .i64 n, v] s fun r t => r = .tuple [.int .i64 (lengthVal n l).1, .int .i64 (lengthVal n l).2] ∧ t = s := by
  refine gob16 (by simp) ?_
  intro tm hlen harg
  simp +contextual only [go_sem, L16, hlen, harg, lcondB_decide, lcondB_not, lguardB_decide_true, lguardB_decide_false, ldguardB_decide, Nat.reduceLT, Nat.reduceEqDiff, Nat.reduceAdd, Nat.reduceLeDiff, reduceIte, reduceCtorEq]
  refine lfunG_eq (checkE n v l hv hl _) ?_
  simp +contextual only [go_sem, hlen, harg, lcondB_decide, lcondB_not, lguardB_decide_true, lguardB_decide_false, ldguardB_decide, Nat.reduceLT, Nat.reduceEqDiff, Nat.reduceAdd, Nat.reduceLeDiff, reduceIte, reduceCtorEq]
  refine ⟨fun c => ?_, fun c => ?_⟩
  · refine lexit_pure (.refl s) (by simp only [low, lowL, and_self]) ⟨?_, rfl⟩
    rw [lengthVal, if_pos c]
  · refine lfunG_eq (longE n v l hv hl _) ?_
    simp +contextual only [go_sem, hlen, harg, lcondB_decide, lcondB_not, lguardB_decide_true, lguardB_decide_false, ldguardB_decide, Nat.reduceLT, Nat.reduceEqDiff, Nat.reduceAdd, Nat.reduceLeDiff, reduceIte, reduceCtorEq]
    refine lexit_pure (.refl s) (by simp only [low, lowL, and_self]) ⟨?_, rfl⟩
    rw [lengthVal, if_neg (by simpa using c)]
end Go.S1N
end
section
set_option linter.unusedVariables false
set_option linter.unusedSimpArgs false
namespace Go.S1N
open Go Go.Am Go.Proofs Go.S1
set_option maxRecDepth 100000
set_option linter.unusedSimpArgs false
attribute [local irreducible] lopsB lvb lstepB lfunG lcondB lguardB ldrawB ldrunB ldstepB ldguardB lmem lval ldmem ldval ldfun lexit ldloadB ldlenB lpostB athen ablock
theorem gso_ed {O : List Ed} {z : Ed} : gso 37 (edc (O ++ [z])) = some (.cells (edc (O ++ [z])) (some 37)) := gso_pos (by simp [edc_snoc])
end Go.S1N
end
section
set_option linter.unusedVariables false
set_option linter.unusedSimpArgs false
namespace Go.S1N
open Go Go.Am Go.Proofs Go.S1
set_option maxRecDepth 100000
set_option linter.unusedSimpArgs false
attribute [local irreducible] lopsB lvb lstepB lfunG lcondB lguardB ldrawB ldrunB ldstepB ldguardB lmem lval ldmem ldval ldfun lexit ldloadB ldlenB lpostB athen ablock
structure Rn where
  at_ : Int
  long : Int
  text : List UInt8
def Rn.enc (e : Rn) : AV := .agg [.int .i64 e.at_, .int .i64 e.long, .str e.text]
def rnc (l : List Rn) : List AV := (l.map Rn.enc).flatMap AV.cells
def rnv (l : List Rn) : AV := fsv 3 (l.map Rn.enc)
theorem rnc_len (l : List Rn) : (rnc l).length = l.length * 3 := by
  unfold rnc
  induction l with
  | nil => rfl
  | cons e l ih => simp only [List.map_cons, List.flatMap_cons, List.length_append, ih, List.length_cons, Rn.enc, AV.cells, List.length_nil]; omega
theorem rnc_snoc (l : List Rn) (e : Rn) : rnc (l ++ [e]) = rnc l ++ [.int .i64 e.at_, .int .i64 e.long, .str e.text] := by
  simp [rnc, Rn.enc, AV.cells]
theorem rnc_pul (l : List Rn) : PuL (rnc l) := by
  unfold rnc
  induction l with
  | nil => simp only [List.map_nil, List.flatMap_nil, PuL, lowL]
  | cons e l ih =>
    rw [List.map_cons, List.flatMap_cons, PuL, lowL_append]
    exact ⟨by simp only [Rn.enc, AV.cells, lowL, low, and_self], ih⟩
theorem rn_len (l : List Rn) : ∀ x ∈ l.map Rn.enc, x.cells.length = 3 := by
  intro x hx
  obtain ⟨e, _, rfl⟩ := List.mem_map.1 hx
  rfl
theorem rnv_pu (l : List Rn) : Pu (rnv l) := pu_fsv (by
  simp only [PuL, lowL_iff]
  intro x hx
  obtain ⟨e, _, rfl⟩ := List.mem_map.1 hx
  simp only [Rn.enc, low, lowL, and_self])
theorem kept_ok (a n : Int) (s : AHeap) : ACall Tryz.prog 48 [.int .i64 a, .int .i64 n] s fun r t => r = Rn.enc ⟨a, n, []⟩ ∧ t = s := by
  refine gob48 (by simp) ?_
  intro tm hlen harg
  simp +contextual only [go_sem, L48, hlen, harg, lcondB_decide, lcondB_not, lguardB_decide_true, lguardB_decide_false, ldguardB_decide, Nat.reduceLT, Nat.reduceEqDiff, Nat.reduceAdd, Nat.reduceLeDiff, reduceIte, reduceCtorEq]
  exact lexit_pure (.refl s) (by simp only [low, lowL, and_self]) ⟨rfl, rfl⟩
theorem fresh_ok (x : List UInt8) (s : AHeap) : ACall Tryz.prog 47 [.str x] s fun r t => r = Rn.enc ⟨0, 0, x⟩ ∧ t = s := by
  refine gob47 (by simp) ?_
  intro tm hlen harg
  simp +contextual only [go_sem, L47, hlen, harg, lcondB_decide, lcondB_not, lguardB_decide_true, lguardB_decide_false, ldguardB_decide, Nat.reduceLT, Nat.reduceEqDiff, Nat.reduceAdd, Nat.reduceLeDiff, reduceIte, reduceCtorEq]
  exact lexit_pure (.refl s) (by simp only [low, lowL, and_self]) ⟨rfl, rfl⟩
def runsFrom (n : Int) : Int → List Ed → List Rn
  | a, [] => [⟨a, n - a, []⟩]
  | a, e :: r => ⟨a, e.at_ - a, []⟩ :: ⟨0, 0, e.new⟩ :: runsFrom n (e.at_ + e.cut) r
theorem len_rnfz {b : Nat} {l : List Rn} : fz b 3 (l.map Rn.enc) (gsv 3 b l.length) = rnv l := by
  rw [show l.length = (l.map Rn.enc).length from (List.length_map ..).symm, fz_gsv]; rfl
end Go.S1N
end
section
set_option linter.unusedVariables false
set_option linter.unusedSimpArgs false
namespace Go.S1N
open Go Go.Am Go.Proofs Go.S1
set_option maxRecDepth 100000
set_option linter.unusedSimpArgs false
attribute [local irreducible] lopsB lvb lstepB lfunG lcondB lguardB ldrawB ldrunB ldstepB ldguardB lmem lval ldmem ldval ldfun lexit ldloadB ldlenB lpostB athen ablock
theorem runs_len (n : Int) : ∀ (l : List Ed) (a : Int), (runsFrom n a l).length = 2 * l.length + 1
  | [], a => rfl
  | e :: l, a => by simp only [runsFrom, List.length_cons, runs_len n l]; omega
theorem rn_at (RS : List Rn) {j : Nat} {r : Rn} (h : RS[j]? = some r) : aindexAddr tab 89 (rnv RS) (.int .i64 j) = some (.rptr [.int .i64 r.at_, .int .i64 r.long, .str r.text]) :=
  ix89f (v := r.enc) (by omega) (by rw [List.getElem?_map, Int.toNat_natCast, h]; rfl) rfl
end Go.S1N
end
section
set_option linter.unusedVariables false
set_option linter.unusedSimpArgs false
namespace Go.S1N
open Go Go.Am Go.Proofs Go.S1
set_option maxRecDepth 100000
set_option linter.unusedSimpArgs false
theorem lfunG_eqc' {P : Program} {s0 s : AHeap} {N : List AV → AHeap → Prop} {f : Operand} {args : List Operand} {d : Option Nat} {tm : List AV} {g : FuncId} {av fi ca av' : List AV} {R : AV → AHeap → Prop} (he : fi ++ av ++ ca = av') (h : ACall P g av' s R) (k : ∀ v t, R v t → N (aput tm d v) t) :
    lfunG P s0 N f args d tm s (.func (.func g) fi ca) av := by
  intro hf ha
  refine .now ?_
  rw [← hf, ← ha]
  show lcall P N g (fi ++ av ++ ca) s d tm
  rw [he]
  exact lcall_of h k
theorem lexit_now {s0 s : AHeap} {R : AV → AHeap → Prop} {v : AV} (h : R v s) : lexit s0 R (some v) s := Gh.now ⟨v, rfl, h⟩
attribute [local irreducible] lopsB lvb lstepB lfunG lcondB lguardB ldrawB ldrunB ldstepB ldguardB lmem lval ldmem ldval ldfun lexit ldloadB ldlenB lpostB athen ablock
def pushE (a : Int) (w : List UInt8) (to : Int) : List Ed := if a < to ∨ w ≠ [] then [⟨a, to - a, w⟩] else []
def edGo (n : Int) : Int → List UInt8 → List (Int × UInt8) → List Ed
  | a, w, [] => pushE a w n
  | a, w, p :: r => if p.1 < 0 then edGo n a (w ++ [p.2]) r else pushE a w p.1 ++ edGo n (p.1 + 1) [] r
end Go.S1N
end
section
set_option linter.unusedVariables false
set_option linter.unusedSimpArgs false
namespace Go.S1N
open Go Go.Am Go.Proofs Go.S1
set_option maxRecDepth 100000
set_option linter.unusedSimpArgs false
attribute [local irreducible] lopsB lvb lstepB lfunG lcondB lguardB ldrawB ldrunB ldstepB ldguardB lmem lval ldmem ldval ldfun lexit ldloadB ldlenB lpostB athen ablock
end Go.S1N
end
section
set_option linter.unusedVariables false
set_option linter.unusedSimpArgs false
namespace Go.S1N
open Go Go.Am Go.Proofs Go.S1
set_option maxRecDepth 100000
set_option linter.unusedSimpArgs false
attribute [local irreducible] lopsB lvb lstepB lfunG lcondB lguardB ldrawB ldrunB ldstepB ldguardB lmem lval ldmem ldval ldfun lexit ldloadB ldlenB lpostB athen ablock
theorem eq_of_take {α : Type} {a b : List α} {i : Nat} (h : a.take i = b.take i) (hi : i = a.length) (hl : a.length = b.length) : a = b := by
  subst hi
  rw [List.take_length, hl, List.take_length] at h
  exact h
theorem take_snoc {α : Type} {a b : List α} {i : Nat} {x : α} (h : a.take i = b.take i) (ha : a[i]? = some x) (hb : b[i]? = some x) : a.take (i + 1) = b.take (i + 1) := by
  rw [List.take_add_one, List.take_add_one, h, ha, hb]
theorem Ed.ext' {a b : Ed} (h1 : a.at_ = b.at_) (h2 : a.cut = b.cut) (h3 : a.new = b.new) : a = b := by cases a; cases b; simp_all
theorem beqd {α : Type} [BEq α] [LawfulBEq α] [DecidableEq α] {a b : α} : (a == b) = decide (a = b) := by
  by_cases h : a = b <;> simp [h]
theorem neq35 {a b a' b' : Int} {c c' : List UInt8} : abin tab .neq 37 (.agg [.int .i64 a, .int .i64 b, .str c]) (.agg [.int .i64 a', .int .i64 b', .str c']) = some (.bool (decide (¬ (a = a' ∧ b = b' ∧ c = c')))) := by
  simp [abin, abin1, aeq, ty37, ty3, ty9, aeqFields, apart, TD.isAgg, beqd]
  by_cases h1 : a = a' <;> by_cases h2 : b = b' <;> by_cases h3 : c = c' <;> simp [h1, h2, h3]
theorem equalEds_ok {v w : AV} {a b : List Ed} (hv : SlE v a) (hw : SlE w b) (ha : a.length < 4611686018427387904) (s : AHeap) [Decidable (a = b)] :
    ACall Tryz.prog 14 [v, w] s fun r t => r = .bool (decide (a = b)) ∧ t = s := by
  refine gob14 (by simp) ?_
  intro tm hlen harg
  simp +contextual only [go_sem, L14, hlen, harg, hv.len, hw.len, lcondB_decide, lcondB_not, lguardB_decide_true, lguardB_decide_false, ldguardB_decide, Nat.reduceLT, Nat.reduceEqDiff, Nat.reduceAdd, Nat.reduceLeDiff, reduceIte, reduceCtorEq]
  refine ⟨fun c => ?_, fun c => ?_⟩
  · refine lexit_pure (.refl s) (by simp only [low]) ⟨?_, rfl⟩
    have : a ≠ b := by rintro rfl; exact c rfl
    simp [this]
  · have hl : a.length = b.length := by omega
    refine ⟨Nat, fun i => [(0, v), (1, w), (12, .int .i64 a.length), (13, .int .i64 i)], fun i => loc s 0 [], fun i => i ≤ a.length ∧ a.take i = b.take i, fun i => a.length - i, 0, by simp, ?_, ?_⟩
    · refine To.go [] [] rfl (.refl s) (by decide) (by simp) ?_ trivial
      simp +contextual only [go_sem, hlen, harg, pu_ren hv.pu, pu_ren hw.pu, lcondB_decide, lcondB_not, lguardB_decide_true, lguardB_decide_false, ldguardB_decide, Nat.reduceLT, Nat.reduceEqDiff, Nat.reduceAdd, Nat.reduceLeDiff, reduceIte, reduceCtorEq]
      simp [hl]
    · rintro i tm1 ⟨hi, ht⟩ hlen1 hlv
      simp only [go_sem, hlen, lcondB_decide, lcondB_not, lguardB_decide_true, lguardB_decide_false, ldguardB_decide, Nat.reduceLT, Nat.reduceEqDiff, Nat.reduceAdd, Nat.reduceLeDiff, reduceIte, reduceCtorEq] at hlen1 hlv
      simp +contextual only [go_sem, hlen, hlen1, hlv, lcondB_decide, lcondB_not, lguardB_decide_true, lguardB_decide_false, ldguardB_decide, Nat.reduceLT, Nat.reduceEqDiff, Nat.reduceAdd, Nat.reduceLeDiff, reduceIte, reduceCtorEq]
      refine ⟨fun hlt => ?_, fun hge => ?_⟩
      · have hea := List.getElem?_eq_getElem (show i < a.length by omega)
        have heb := List.getElem?_eq_getElem (show i < b.length by omega)
        generalize a[i] = x at hea
        generalize b[i] = y at heb
        have hw1 : IntKind.i64.wrap ((i : Int) + 1) = ((i + 1 : Nat) : Int) := by rw [wrap_id (by omega)]; rfl
        refine ldrawB_go [] [] 8 (by decide) ?_
        simp only [go_sem, hlen1, hlv, hv.at hea, hw.at heb, neq35, hw1, lcondB_decide, Nat.reduceLT, Nat.reduceEqDiff, Nat.reduceAdd, Nat.reduceLeDiff, reduceIte, reduceCtorEq]
        refine ⟨by kernel_rfl, fun hne => ?_, fun he => ?_⟩
        · refine lexit_pure (.refl s) (by simp only [low]) ⟨?_, rfl⟩
          have : a ≠ b := by rintro rfl; rw [hea] at heb; cases heb; exact hne ⟨rfl, rfl, rfl⟩
          simp [this]
        · have he : _ ∧ _ ∧ _ := he
          have hxy : y = x := (Ed.ext' he.1 he.2.1 he.2.2).symm
          refine ⟨i + 1, ⟨by omega, take_snoc ht hea (by rw [heb, hxy])⟩, by omega, ?_⟩
          refine To.go [] [] rfl (.refl s) (by decide) (by simp) ?_ trivial
          simp +contextual only [go_sem, hlen1, hlv, pu_ren hv.pu, pu_ren hw.pu, lcondB_decide, lcondB_not, lguardB_decide_true, lguardB_decide_false, ldguardB_decide, Nat.reduceLT, Nat.reduceEqDiff, Nat.reduceAdd, Nat.reduceLeDiff, reduceIte, reduceCtorEq]
      · refine lexit_pure (.refl s) (by simp only [low]) ⟨?_, rfl⟩
        simp [eq_of_take ht (by omega) hl]
end Go.S1N
end
section
set_option linter.unusedVariables false
set_option linter.unusedSimpArgs false
namespace Go.S1N
open Go Go.Am Go.Proofs Go.S1
set_option maxRecDepth 100000
set_option linter.unusedSimpArgs false
attribute [local irreducible] lopsB lvb lstepB lfunG lcondB lguardB ldrawB ldrunB ldstepB ldguardB lmem lval ldmem ldval ldfun lexit ldloadB ldlenB lpostB athen ablock
end Go.S1N
end
section
set_option linter.unusedVariables false
set_option linter.unusedSimpArgs false
namespace Go.S1N
open Go Go.Am Go.Proofs Go.S1
set_option maxRecDepth 100000
set_option linter.unusedSimpArgs false
attribute [local irreducible] lopsB lvb lstepB lfunG lcondB lguardB ldrawB ldrunB ldstepB ldguardB lmem lval ldmem ldval ldfun lexit ldloadB ldlenB lpostB athen ablock
end Go.S1N
end
section
set_option linter.unusedVariables false
set_option linter.unusedSimpArgs false
namespace Go.S1N
open Go Go.Am Go.Proofs Go.S1
set_option maxRecDepth 100000
set_option linter.unusedSimpArgs false
def dl : List Ed → Int
  | [] => 0
  | e :: r => (e.new.length - e.cut) + dl r
theorem long_dl : ∀ (l : List Ed) (m : Int), (∀ e ∈ l, e.new.length ≤ 100000 ∧ 0 ≤ e.cut ∧ e.cut ≤ 100000) → -1000000000000 ≤ m - 100000 * (l.length : Int) → m + 100000 * (l.length : Int) ≤ 1000000000000 → longOf m l = m + dl l
  | [], m, _, _, _ => by simp [longOf, dl]
  | e :: r, m, h, h1, h2 => by
    have he := h e (List.mem_cons_self ..)
    simp only [List.length_cons] at h1 h2
    have hw1 : IntKind.i64.wrap ((e.new.length : Int) - e.cut) = (e.new.length : Int) - e.cut := wrap_id (by omega)
    have hw2 : IntKind.i64.wrap (m + ((e.new.length : Int) - e.cut)) = m + ((e.new.length : Int) - e.cut) := wrap_id (by omega)
    have := long_dl r (m + ((e.new.length : Int) - e.cut)) (fun x hx => h x (List.mem_cons_of_mem _ hx)) (by omega) (by omega)
    rw [longOf, List.foldl_cons, hw1, hw2]
    rw [longOf] at this
    rw [this, dl]
    omega
theorem run_len (a k : Nat) : (runOf a k).length = k := by simp [runOf]
theorem flow_dl (n : Nat) : ∀ (l : List Ed) (a : Nat) (B : Int), (B = a ∨ (B = -1 ∧ a = 0)) → a ≤ n → scan n B l = 0 → ((flowFrom n a l).length : Int) = (n - a) + dl l
  | [], a, B, _, ha, _ => by simp only [flowFrom, run_len, dl]; omega
  | e :: r, a, B, hB, ha, h => by
    obtain ⟨c1, c2, c3, c4, c5, c6⟩ := scan_cons h
    have := flow_dl n r (e.at_ + e.cut).toNat (e.at_ + e.cut) (.inl (by omega)) (by omega) c6
    simp only [flowFrom, List.length_append, run_len, List.length_map, dl]
    omega
def negL (w : List UInt8) : List (Int × UInt8) := w.map fun c => ((-1 : Int), c)
theorem push_same {p : Int} : pushE p [] p = [] := if_neg (by rintro (h | h); omega; exact h rfl)
theorem ed_neg (N : Int) : ∀ (u : List UInt8) (q : Int) (w : List UInt8) (t : List (Int × UInt8)), edGo N q w (negL u ++ t) = edGo N q (w ++ u) t
  | [], q, w, t => by simp [negL]
  | c :: u, q, w, t => by
    have ih := ed_neg N u q (w ++ [c]) t
    simp only [negL, List.map_cons, List.cons_append] at ih ⊢
    rw [edGo, if_pos (by simp only; omega), ih, List.append_assoc]; rfl
theorem runOf_cons (a k : Nat) : runOf a (k + 1) = ((a : Int), 0) :: runOf (a + 1) k := rfl
theorem run_mem {a k : Nat} {q : Int × UInt8} (h : q ∈ runOf a k) : (a : Int) ≤ q.1 ∧ q.1 < a + k := by
  obtain ⟨i, hi, rfl⟩ := List.mem_map.1 h
  have := List.mem_range'_1.1 hi
  simp only; omega
end Go.S1N
end
section
set_option linter.unusedVariables false
set_option linter.unusedSimpArgs false
namespace Go.S1N
open Go Go.Am Go.Proofs Go.S1
set_option maxRecDepth 100000
set_option linter.unusedSimpArgs false
attribute [local irreducible] lopsB lvb lstepB lfunG lcondB lguardB ldrawB ldrunB ldstepB ldguardB lmem lval ldmem ldval ldfun lexit ldloadB ldlenB lpostB athen ablock
theorem ints_cells {v : AV} {l : List Int} (h : IsInts v l) : v.cells = [v] := by rcases h with ⟨f, rfl⟩ | ⟨rfl, rfl⟩ <;> rfl
theorem ints_israw {v : AV} {l : List Int} (h : IsInts v l) : v.israw = false := by rcases h with ⟨f, rfl⟩ | ⟨rfl, rfl⟩ <;> rfl
def applyVal (x : List UInt8) (l : List Ed) : List UInt8 × Int := if textFault x l ≠ 0 then ([], textFault x l) else (applyFrom x 0 l, 0)
theorem apply21_ok (x : List UInt8) (v : AV) (l : List Ed) (hv : SlE v l) (hl : l.length < 4611686018427387904) (hnew : ∀ e ∈ l, e.new.length ≤ 100000) (s : AHeap) :
    ACall Tryz.prog 11 [.str x, v] s fun r t => r = .tuple [.str (applyVal x l).1, .int .i64 (applyVal x l).2] ∧ t = s := by
  refine gob11 (by simp) ?_
  intro tm hlen harg
  simp +contextual only [go_sem, L11, hlen, harg, lcondB_decide, lcondB_not, lguardB_decide_true, lguardB_decide_false, ldguardB_decide, Nat.reduceLT, Nat.reduceEqDiff, Nat.reduceAdd, Nat.reduceLeDiff, reduceIte, reduceCtorEq]
  refine lfunG_eq (checkTextE x v l hv hl _) ?_
  simp +contextual only [go_sem, hlen, harg, lcondB_decide, lcondB_not, lguardB_decide_true, lguardB_decide_false, ldguardB_decide, Nat.reduceLT, Nat.reduceEqDiff, Nat.reduceAdd, Nat.reduceLeDiff, reduceIte, reduceCtorEq]
  refine ⟨fun c => ?_, fun c => ?_⟩
  · refine lexit_pure (.refl s) (by simp only [low, lowL, and_self]) ⟨?_, rfl⟩
    rw [applyVal, if_pos c]
  · obtain ⟨hx, hl2, hsc⟩ := textFault_zero c
    have hval : applyVal x l = (applyFrom x 0 l, 0) := by rw [applyVal, if_neg (by simpa using c)]
    rw [hval]
    refine lfunG_eq (exact_of (by simp only [Pu, low]) (apply_ok x v l hv hl2 hx (fun e he => by have := hnew e he; omega) hsc _)) ?_
    simp +contextual only [go_sem, hlen, harg, lcondB_decide, lcondB_not, lguardB_decide_true, lguardB_decide_false, ldguardB_decide, Nat.reduceLT, Nat.reduceEqDiff, Nat.reduceAdd, Nat.reduceLeDiff, reduceIte, reduceCtorEq]
    exact lexit_pure (.refl s) (by simp only [low, lowL, and_self]) ⟨rfl, rfl⟩
theorem faultOf_zero {n : Int} {l : List Ed} (h : faultOf n l = 0) : 0 ≤ n ∧ n ≤ 20000 ∧ l.length ≤ 2000 ∧ scan n (-1) l = 0 := by
  rw [faultOf] at h
  split at h
  · cases h
  · rename_i h1
    have h1 := Classical.not_not.1 h1
    split at h
    · cases h
    · split at h
      · rename_i h3; exact absurd h h3
      · rename_i h2 h3
        exact ⟨h1.1, h1.2, by omega, Classical.not_not.1 h3⟩
theorem same33 (l : List Ed) (h : l.length < 4611686018427387904) (s : AHeap) : ACall Tryz.prog 14 [edv l, edv l] s fun r t => r = .bool true ∧ t = s := by
  classical
  have := equalEds_ok (edv_sl l) (edv_sl l) h s
  simpa using this
end Go.S1N
end
section
set_option linter.unusedVariables false
set_option linter.unusedSimpArgs false
namespace Go.S1
open Go Go.Am Go.Proofs
set_option maxRecDepth 100000
noncomputable def L17 : LCode := LCode.seq (LCode.ops [⟨Op.assign (Operand.const (Value.slice none 0 0)), some 6, none⟩, ⟨Op.assign (Operand.const (Value.int IntKind.i64 0)), some 7, none⟩]) (LCode.seq (LCode.seq (LCode.ops [⟨Op.move (Operand.tmp 0), some 11, none⟩, ⟨Op.move (Operand.tmp 1), some 12, none⟩, ⟨Op.call { callee := Callee.value (Operand.func 37), args := { toList := [Operand.tmp 11, Operand.tmp 12] }, argTypes := { toList := [3, 27] } }, some 13, none⟩, ⟨Op.assign (Operand.tmp 13), some 8, none⟩]) (LCode.seq (LCode.ops [⟨Op.move (Operand.tmp 8), some 14, none⟩, ⟨Op.binOp BinOp.neq 29 (Operand.tmp 14) (Operand.const (Value.int IntKind.i64 0)) 29, some 15, none⟩]) (LCode.cond (Operand.tmp 15) (LCode.seq (LCode.ops [⟨Op.move (Operand.tmp 8), some 16, none⟩, ⟨Op.assign (Operand.const (Value.slice none 0 0)), some 6, none⟩, ⟨Op.assign (Operand.tmp 16), some 7, none⟩]) LCode.ret) LCode.skip))) (LCode.seq (LCode.seq (LCode.ops [⟨Op.move (Operand.tmp 0), some 17, none⟩, ⟨Op.move (Operand.tmp 1), some 18, none⟩, ⟨Op.call { callee := Callee.value (Operand.func 38), args := { toList := [Operand.tmp 17, Operand.tmp 18] }, argTypes := { toList := [3, 27] } }, some 19, none⟩, ⟨Op.move (Operand.tmp 2), some 20, none⟩, ⟨Op.call { callee := Callee.value (Operand.func 37), args := { toList := [Operand.tmp 19, Operand.tmp 20] }, argTypes := { toList := [3, 27] } }, some 21, none⟩, ⟨Op.assign (Operand.tmp 21), some 9, none⟩]) (LCode.seq (LCode.ops [⟨Op.move (Operand.tmp 9), some 22, none⟩, ⟨Op.binOp BinOp.neq 29 (Operand.tmp 22) (Operand.const (Value.int IntKind.i64 0)) 29, some 23, none⟩]) (LCode.cond (Operand.tmp 23) (LCode.seq (LCode.ops [⟨Op.move (Operand.tmp 9), some 24, none⟩, ⟨Op.assign (Operand.const (Value.slice none 0 0)), some 6, none⟩, ⟨Op.assign (Operand.tmp 24), some 7, none⟩]) LCode.ret) LCode.skip))) (LCode.seq (LCode.ops [⟨Op.move (Operand.tmp 0), some 25, none⟩, ⟨Op.move (Operand.tmp 1), some 26, none⟩, ⟨Op.move (Operand.tmp 2), some 27, none⟩, ⟨Op.call { callee := Callee.value (Operand.func 39), args := { toList := [Operand.tmp 25, Operand.tmp 26, Operand.tmp 27] }, argTypes := { toList := [3, 27, 27] } }, some 28, none⟩, ⟨Op.assign (Operand.tmp 28), some 10, none⟩]) (LCode.seq (LCode.seq (LCode.ops [⟨Op.move (Operand.tmp 10), some 29, none⟩, ⟨Op.call { callee := Callee.builtin Builtin.len, args := { toList := [Operand.tmp 29] }, argTypes := { toList := [27] } }, some 30, none⟩, ⟨Op.binOp BinOp.gtr 3 (Operand.tmp 30) (Operand.const (Value.int IntKind.i64 2000)) 3, some 31, none⟩]) (LCode.cond (Operand.tmp 31) (LCode.seq (LCode.ops [⟨Op.assign (Operand.const (Value.slice none 0 0)), some 6, none⟩, ⟨Op.assign (Operand.const (Value.int IntKind.i64 2)), some 7, none⟩]) LCode.ret) LCode.skip)) (LCode.seq (LCode.ops [⟨Op.move (Operand.tmp 10), some 32, none⟩, ⟨Op.assign (Operand.tmp 32), some 6, none⟩, ⟨Op.assign (Operand.const (Value.int IntKind.i64 0)), some 7, none⟩]) LCode.ret)))))
theorem l17 : Tryz.f17.body.map lighten = some L17 := by kernel_rfl
theorem rs17 : Tryz.f17.results.toList = [ResultVar.tmp 6, ResultVar.tmp 7] := by kernel_rfl
theorem nt17 : Tryz.f17.ntmps = 33 := by kernel_rfl
theorem gob17 {args : List AV} {s : AHeap} {R : AV → AHeap → Prop} (hl : args.length ≤ 33) (h : ∀ tm, tm.length = 33 → (∀ i, aev tm (.tmp i) = args.getD i aundef) → lvb Tryz.prog tab s L17 (lpostB tab s [ResultVar.tmp 6, ResultVar.tmp 7] R) tm (loc s 0 [])) : ACall Tryz.prog 17 args s R := ACall.goB tab_ok mixed Tryz.func17 l17 nm17 rs17 nt17 hl h
noncomputable def L18 : LCode := LCode.seq (LCode.ops [⟨Op.assign (Operand.const (Value.slice none 0 0)), some 4, none⟩, ⟨Op.assign (Operand.const (Value.int IntKind.i64 0)), some 5, none⟩]) (LCode.seq (LCode.seq (LCode.ops [⟨Op.move (Operand.tmp 0), some 13, none⟩, ⟨Op.call { callee := Callee.value (Operand.func 40), args := { toList := [Operand.tmp 13, Operand.const (Value.int IntKind.i64 0), Operand.const (Value.int IntKind.i64 20000)] }, argTypes := { toList := [3, 3, 3] } }, some 14, none⟩, ⟨Op.unOp UnOp.not 4 (Operand.tmp 14), some 15, none⟩]) (LCode.cond (Operand.tmp 15) (LCode.seq (LCode.ops [⟨Op.assign (Operand.const (Value.slice none 0 0)), some 4, none⟩, ⟨Op.assign (Operand.const (Value.int IntKind.i64 1)), some 5, none⟩]) LCode.ret) LCode.skip)) (LCode.seq (LCode.ops [⟨Op.move (Operand.tmp 0), some 16, none⟩, ⟨Op.assign (Operand.tmp 16), some 6, none⟩]) (LCode.seq (LCode.seq (LCode.ops [⟨Op.move (Operand.tmp 1), some 17, none⟩, ⟨Op.call { callee := Callee.builtin Builtin.len, args := { toList := [Operand.tmp 17] }, argTypes := { toList := [44] } }, some 18, none⟩, ⟨Op.move (Operand.const (Value.int IntKind.i64 0)), some 19, none⟩]) (LCode.block 0 (LCode.loop (LCode.seq (LCode.ops [⟨Op.binOp BinOp.lss 3 (Operand.tmp 19) (Operand.tmp 18) 3, some 20, none⟩]) (LCode.seq (LCode.cond (Operand.tmp 20) LCode.skip (LCode.exit 0)) (LCode.seq (LCode.block 1 (LCode.seq (LCode.ops [⟨Op.indexAddr 44 (Operand.tmp 17) (Operand.tmp 19), some 21, none⟩, ⟨Op.load 27 (Operand.tmp 21), some 22, none⟩, ⟨Op.assign (Operand.tmp 22), some 8, none⟩]) (LCode.seq (LCode.seq (LCode.ops [⟨Op.move (Operand.tmp 6), some 23, none⟩, ⟨Op.move (Operand.tmp 8), some 24, none⟩, ⟨Op.call { callee := Callee.value (Operand.func 37), args := { toList := [Operand.tmp 23, Operand.tmp 24] }, argTypes := { toList := [3, 27] } }, some 25, none⟩, ⟨Op.assign (Operand.tmp 25), some 9, none⟩]) (LCode.seq (LCode.ops [⟨Op.move (Operand.tmp 9), some 26, none⟩, ⟨Op.binOp BinOp.neq 29 (Operand.tmp 26) (Operand.const (Value.int IntKind.i64 0)) 29, some 27, none⟩]) (LCode.cond (Operand.tmp 27) (LCode.seq (LCode.ops [⟨Op.move (Operand.tmp 9), some 28, none⟩, ⟨Op.assign (Operand.const (Value.slice none 0 0)), some 4, none⟩, ⟨Op.assign (Operand.tmp 28), some 5, none⟩]) LCode.ret) LCode.skip))) (LCode.ops [⟨Op.move (Operand.tmp 6), some 29, none⟩, ⟨Op.move (Operand.tmp 8), some 30, none⟩, ⟨Op.call { callee := Callee.value (Operand.func 38), args := { toList := [Operand.tmp 29, Operand.tmp 30] }, argTypes := { toList := [3, 27] } }, some 31, none⟩, ⟨Op.assign (Operand.tmp 31), some 6, none⟩])))) (LCode.ops [⟨Op.binOp BinOp.add 3 (Operand.tmp 19) (Operand.const (Value.int IntKind.i64 1)) 3, some 32, none⟩, ⟨Op.move (Operand.tmp 32), some 19, none⟩]))))))) (LCode.seq (LCode.ops [⟨Op.assign (Operand.const (Value.slice none 0 0)), some 10, none⟩]) (LCode.seq (LCode.seq (LCode.ops [⟨Op.move (Operand.tmp 1), some 33, none⟩, ⟨Op.call { callee := Callee.builtin Builtin.len, args := { toList := [Operand.tmp 33] }, argTypes := { toList := [44] } }, some 34, none⟩, ⟨Op.move (Operand.const (Value.int IntKind.i64 0)), some 35, none⟩]) (LCode.block 2 (LCode.loop (LCode.seq (LCode.ops [⟨Op.binOp BinOp.lss 3 (Operand.tmp 35) (Operand.tmp 34) 3, some 36, none⟩]) (LCode.seq (LCode.cond (Operand.tmp 36) LCode.skip (LCode.exit 2)) (LCode.seq (LCode.block 3 (LCode.seq (LCode.ops [⟨Op.indexAddr 44 (Operand.tmp 33) (Operand.tmp 35), some 37, none⟩, ⟨Op.load 27 (Operand.tmp 37), some 38, none⟩, ⟨Op.assign (Operand.tmp 38), some 12, none⟩]) (LCode.seq (LCode.ops [⟨Op.move (Operand.tmp 0), some 39, none⟩, ⟨Op.move (Operand.tmp 10), some 40, none⟩, ⟨Op.move (Operand.tmp 12), some 41, none⟩, ⟨Op.call { callee := Callee.value (Operand.func 39), args := { toList := [Operand.tmp 39, Operand.tmp 40, Operand.tmp 41] }, argTypes := { toList := [3, 27, 27] } }, some 42, none⟩, ⟨Op.assign (Operand.tmp 42), some 10, none⟩]) (LCode.seq (LCode.ops [⟨Op.move (Operand.tmp 10), some 43, none⟩, ⟨Op.call { callee := Callee.builtin Builtin.len, args := { toList := [Operand.tmp 43] }, argTypes := { toList := [27] } }, some 44, none⟩, ⟨Op.binOp BinOp.gtr 3 (Operand.tmp 44) (Operand.const (Value.int IntKind.i64 2000)) 3, some 45, none⟩]) (LCode.cond (Operand.tmp 45) (LCode.seq (LCode.ops [⟨Op.assign (Operand.const (Value.slice none 0 0)), some 4, none⟩, ⟨Op.assign (Operand.const (Value.int IntKind.i64 2)), some 5, none⟩]) LCode.ret) LCode.skip))))) (LCode.ops [⟨Op.binOp BinOp.add 3 (Operand.tmp 35) (Operand.const (Value.int IntKind.i64 1)) 3, some 46, none⟩, ⟨Op.move (Operand.tmp 46), some 35, none⟩]))))))) (LCode.seq (LCode.ops [⟨Op.move (Operand.tmp 10), some 47, none⟩, ⟨Op.assign (Operand.tmp 47), some 4, none⟩, ⟨Op.assign (Operand.const (Value.int IntKind.i64 0)), some 5, none⟩]) LCode.ret))))))
theorem l18 : Tryz.f18.body.map lighten = some L18 := by kernel_rfl
theorem rs18 : Tryz.f18.results.toList = [ResultVar.tmp 4, ResultVar.tmp 5] := by kernel_rfl
theorem nt18 : Tryz.f18.ntmps = 48 := by kernel_rfl
theorem gob18 {args : List AV} {s : AHeap} {R : AV → AHeap → Prop} (hl : args.length ≤ 48) (h : ∀ tm, tm.length = 48 → (∀ i, aev tm (.tmp i) = args.getD i aundef) → lvb Tryz.prog tab s L18 (lpostB tab s [ResultVar.tmp 4, ResultVar.tmp 5] R) tm (loc s 0 [])) : ACall Tryz.prog 18 args s R := ACall.goB tab_ok mixed Tryz.func18 l18 nm18 rs18 nt18 hl h
noncomputable def L39 : LCode := LCode.seq (LCode.ops [⟨Op.assign (Operand.const (Value.slice none 0 0)), some 6, none⟩]) (LCode.seq (LCode.ops [⟨Op.move (Operand.tmp 0), some 11, none⟩, ⟨Op.move (Operand.tmp 1), some 12, none⟩, ⟨Op.call { callee := Callee.value (Operand.func 68), args := { toList := [Operand.tmp 11, Operand.tmp 12] }, argTypes := { toList := [3, 27] } }, some 13, none⟩, ⟨Op.call { callee := Callee.value (Operand.func 67), args := { toList := [Operand.tmp 13, Operand.func 69] }, argTypes := { toList := [89, 133] } }, some 14, none⟩, ⟨Op.build 135 { toList := [(0, Operand.tmp 14)] }, some 15, none⟩, ⟨Op.box 135 (Operand.tmp 15), some 16, none⟩, ⟨Op.assign (Operand.tmp 16), some 7, none⟩]) (LCode.seq (LCode.ops [⟨Op.assign (Operand.const (Value.int IntKind.i64 0)), some 8, none⟩]) (LCode.seq (LCode.seq (LCode.ops [⟨Op.move (Operand.tmp 2), some 17, none⟩, ⟨Op.call { callee := Callee.builtin Builtin.len, args := { toList := [Operand.tmp 17] }, argTypes := { toList := [27] } }, some 18, none⟩, ⟨Op.move (Operand.const (Value.int IntKind.i64 0)), some 19, none⟩]) (LCode.block 0 (LCode.loop (LCode.seq (LCode.ops [⟨Op.binOp BinOp.lss 3 (Operand.tmp 19) (Operand.tmp 18) 3, some 20, none⟩]) (LCode.seq (LCode.cond (Operand.tmp 20) LCode.skip (LCode.exit 0)) (LCode.seq (LCode.block 1 (LCode.seq (LCode.ops [⟨Op.indexAddr 27 (Operand.tmp 17) (Operand.tmp 19), some 21, none⟩, ⟨Op.load 37 (Operand.tmp 21), some 22, none⟩, ⟨Op.alloc 37, some 10, none⟩, ⟨Op.store 37 (Operand.tmp 10) (Operand.tmp 22), none, none⟩]) (LCode.seq (LCode.ops [⟨Op.move (Operand.tmp 7), some 23, none⟩, ⟨Op.fieldAddr 37 (Operand.tmp 10) 0, some 24, none⟩, ⟨Op.load 3 (Operand.tmp 24), some 25, none⟩, ⟨Op.move (Operand.tmp 8), some 26, none⟩, ⟨Op.binOp BinOp.sub 3 (Operand.tmp 25) (Operand.tmp 26) 3, some 27, none⟩, ⟨Op.call { callee := Callee.value (Operand.func 70), args := { toList := [Operand.tmp 23, Operand.tmp 27, Operand.const (Value.bool true)] }, argTypes := { toList := [130, 3, 4] } }, some 28, none⟩]) (LCode.seq (LCode.ops [⟨Op.move (Operand.tmp 7), some 29, none⟩, ⟨Op.fieldAddr 37 (Operand.tmp 10) 1, some 30, none⟩, ⟨Op.load 3 (Operand.tmp 30), some 31, none⟩, ⟨Op.call { callee := Callee.value (Operand.func 70), args := { toList := [Operand.tmp 29, Operand.tmp 31, Operand.const (Value.bool false)] }, argTypes := { toList := [130, 3, 4] } }, some 32, none⟩]) (LCode.seq (LCode.draw [0, 0, 2, 6, 14, 0, 32, 96, 224, 510, 1023, 2047, 4095] [⟨Op.move (Operand.tmp 7), some 33, none⟩, ⟨Op.move (Operand.tmp 7), some 34, none⟩, ⟨Op.nilCheck (Operand.tmp 34), some 35, none⟩, ⟨Op.fieldAddr 135 (Operand.tmp 35) 1, some 36, none⟩, ⟨Op.load 89 (Operand.tmp 36), some 37, none⟩, ⟨Op.fieldAddr 37 (Operand.tmp 10) 2, some 38, none⟩, ⟨Op.load 9 (Operand.tmp 38), some 39, none⟩, ⟨Op.call { callee := Callee.value (Operand.func 47), args := { toList := [Operand.tmp 39] }, argTypes := { toList := [9] } }, some 40, none⟩, ⟨Op.buildSlice 89 1 { toList := [(0, Operand.tmp 40)] }, some 41, none⟩, ⟨Op.call { callee := Callee.builtin Builtin.append, args := { toList := [Operand.tmp 37, Operand.tmp 41] }, argTypes := { toList := [89, 89] } }, some 42, none⟩, ⟨Op.nilCheck (Operand.tmp 33), some 43, none⟩, ⟨Op.fieldAddr 135 (Operand.tmp 43) 1, some 44, none⟩, ⟨Op.store 89 (Operand.tmp 44) (Operand.tmp 42), none, none⟩]) (LCode.ops [⟨Op.fieldAddr 37 (Operand.tmp 10) 0, some 45, none⟩, ⟨Op.load 3 (Operand.tmp 45), some 46, none⟩, ⟨Op.fieldAddr 37 (Operand.tmp 10) 1, some 47, none⟩, ⟨Op.load 3 (Operand.tmp 47), some 48, none⟩, ⟨Op.binOp BinOp.add 3 (Operand.tmp 46) (Operand.tmp 48) 3, some 49, none⟩, ⟨Op.assign (Operand.tmp 49), some 8, none⟩])))))) (LCode.ops [⟨Op.binOp BinOp.add 3 (Operand.tmp 19) (Operand.const (Value.int IntKind.i64 1)) 3, some 50, none⟩, ⟨Op.move (Operand.tmp 50), some 19, none⟩]))))))) (LCode.seq (LCode.ops [⟨Op.move (Operand.tmp 7), some 51, none⟩, ⟨Op.move (Operand.tmp 0), some 52, none⟩, ⟨Op.move (Operand.tmp 1), some 53, none⟩, ⟨Op.call { callee := Callee.value (Operand.func 38), args := { toList := [Operand.tmp 52, Operand.tmp 53] }, argTypes := { toList := [3, 27] } }, some 54, none⟩, ⟨Op.move (Operand.tmp 8), some 55, none⟩, ⟨Op.binOp BinOp.sub 3 (Operand.tmp 54) (Operand.tmp 55) 3, some 56, none⟩, ⟨Op.call { callee := Callee.value (Operand.func 70), args := { toList := [Operand.tmp 51, Operand.tmp 56, Operand.const (Value.bool true)] }, argTypes := { toList := [130, 3, 4] } }, some 57, none⟩]) (LCode.seq (LCode.ops [⟨Op.move (Operand.tmp 0), some 58, none⟩, ⟨Op.move (Operand.tmp 7), some 59, none⟩, ⟨Op.nilCheck (Operand.tmp 59), some 60, none⟩, ⟨Op.fieldAddr 135 (Operand.tmp 60) 1, some 61, none⟩, ⟨Op.load 89 (Operand.tmp 61), some 62, none⟩, ⟨Op.call { callee := Callee.value (Operand.func 44), args := { toList := [Operand.tmp 58, Operand.tmp 62] }, argTypes := { toList := [3, 89] } }, some 63, none⟩, ⟨Op.assign (Operand.tmp 63), some 6, none⟩]) LCode.ret)))))
theorem l39 : Tryz.f39.body.map lighten = some L39 := by kernel_rfl
theorem rs39 : Tryz.f39.results.toList = [ResultVar.tmp 6] := by kernel_rfl
theorem nt39 : Tryz.f39.ntmps = 64 := by kernel_rfl
theorem gob39 {args : List AV} {s : AHeap} {R : AV → AHeap → Prop} (hl : args.length ≤ 64) (h : ∀ tm, tm.length = 64 → (∀ i, aev tm (.tmp i) = args.getD i aundef) → lvb Tryz.prog tab s L39 (lpostB tab s [ResultVar.tmp 6] R) tm (loc s 0 [])) : ACall Tryz.prog 39 args s R := ACall.goB tab_ok mixed Tryz.func39 l39 nm39 rs39 nt39 hl h
noncomputable def L44 : LCode := LCode.seq (LCode.ops [⟨Op.assign (Operand.const (Value.slice none 0 0)), some 4, none⟩]) (LCode.seq (LCode.ops [⟨Op.alloc 27, some 5, none⟩]) (LCode.seq (LCode.ops [⟨Op.alloc 3, some 6, none⟩, ⟨Op.alloc 9, some 7, none⟩, ⟨Op.store 3 (Operand.tmp 6) (Operand.const (Value.int IntKind.i64 0)), none, none⟩, ⟨Op.store 9 (Operand.tmp 7) (Operand.const (Value.string { data := { toList := [] } })), none, none⟩]) (LCode.seq (LCode.ops [⟨Op.makeFunc (Fn.func 75) { toList := [] } { toList := [Operand.tmp 6, Operand.tmp 7, Operand.tmp 5] }, some 11, none⟩, ⟨Op.assign (Operand.tmp 11), some 8, none⟩]) (LCode.seq (LCode.seq (LCode.ops [⟨Op.move (Operand.tmp 1), some 12, none⟩, ⟨Op.call { callee := Callee.builtin Builtin.len, args := { toList := [Operand.tmp 12] }, argTypes := { toList := [89] } }, some 13, none⟩, ⟨Op.move (Operand.const (Value.int IntKind.i64 0)), some 14, none⟩]) (LCode.block 0 (LCode.loop (LCode.seq (LCode.ops [⟨Op.binOp BinOp.lss 3 (Operand.tmp 14) (Operand.tmp 13) 3, some 15, none⟩]) (LCode.seq (LCode.cond (Operand.tmp 15) LCode.skip (LCode.exit 0)) (LCode.seq (LCode.block 1 (LCode.seq (LCode.ops [⟨Op.indexAddr 89 (Operand.tmp 12) (Operand.tmp 14), some 16, none⟩, ⟨Op.load 98 (Operand.tmp 16), some 17, none⟩, ⟨Op.alloc 98, some 10, none⟩, ⟨Op.store 98 (Operand.tmp 10) (Operand.tmp 17), none, none⟩]) (LCode.block 2 (LCode.seq (LCode.ops [⟨Op.fieldAddr 98 (Operand.tmp 10) 2, some 19, none⟩, ⟨Op.load 9 (Operand.tmp 19), some 20, none⟩, ⟨Op.binOp BinOp.neq 9 (Operand.tmp 20) (Operand.const (Value.string { data := { toList := [] } })) 9, some 21, none⟩, ⟨Op.assign (Operand.tmp 21), some 18, none⟩]) (LCode.cond (Operand.tmp 18) (LCode.ops [⟨Op.load 9 (Operand.tmp 7), some 22, none⟩, ⟨Op.fieldAddr 98 (Operand.tmp 10) 2, some 23, none⟩, ⟨Op.load 9 (Operand.tmp 23), some 24, none⟩, ⟨Op.binOp BinOp.add 9 (Operand.tmp 22) (Operand.tmp 24) 9, some 25, none⟩, ⟨Op.store 9 (Operand.tmp 7) (Operand.tmp 25), none, none⟩]) (LCode.seq (LCode.ops [⟨Op.fieldAddr 98 (Operand.tmp 10) 1, some 27, none⟩, ⟨Op.load 3 (Operand.tmp 27), some 28, none⟩, ⟨Op.binOp BinOp.gtr 3 (Operand.tmp 28) (Operand.const (Value.int IntKind.i64 0)) 3, some 29, none⟩, ⟨Op.assign (Operand.tmp 29), some 26, none⟩]) (LCode.cond (Operand.tmp 26) (LCode.seq (LCode.ops [⟨Op.move (Operand.tmp 8), some 30, none⟩, ⟨Op.fieldAddr 98 (Operand.tmp 10) 0, some 31, none⟩, ⟨Op.load 3 (Operand.tmp 31), some 32, none⟩, ⟨Op.call { callee := Callee.value (Operand.tmp 30), args := { toList := [Operand.tmp 32] }, argTypes := { toList := [3] } }, some 33, none⟩]) (LCode.ops [⟨Op.fieldAddr 98 (Operand.tmp 10) 0, some 34, none⟩, ⟨Op.load 3 (Operand.tmp 34), some 35, none⟩, ⟨Op.fieldAddr 98 (Operand.tmp 10) 1, some 36, none⟩, ⟨Op.load 3 (Operand.tmp 36), some 37, none⟩, ⟨Op.binOp BinOp.add 3 (Operand.tmp 35) (Operand.tmp 37) 3, some 38, none⟩, ⟨Op.store 3 (Operand.tmp 6) (Operand.tmp 38), none, none⟩, ⟨Op.store 9 (Operand.tmp 7) (Operand.const (Value.string { data := { toList := [] } })), none, none⟩])) LCode.skip))))))) (LCode.ops [⟨Op.binOp BinOp.add 3 (Operand.tmp 14) (Operand.const (Value.int IntKind.i64 1)) 3, some 39, none⟩, ⟨Op.move (Operand.tmp 39), some 14, none⟩]))))))) (LCode.seq (LCode.ops [⟨Op.move (Operand.tmp 8), some 40, none⟩, ⟨Op.move (Operand.tmp 0), some 41, none⟩, ⟨Op.call { callee := Callee.value (Operand.tmp 40), args := { toList := [Operand.tmp 41] }, argTypes := { toList := [3] } }, some 42, none⟩]) (LCode.seq (LCode.ops [⟨Op.load 27 (Operand.tmp 5), some 43, none⟩, ⟨Op.assign (Operand.tmp 43), some 4, none⟩]) LCode.ret))))))
theorem l44 : Tryz.f44.body.map lighten = some L44 := by kernel_rfl
theorem rs44 : Tryz.f44.results.toList = [ResultVar.tmp 4] := by kernel_rfl
theorem nt44 : Tryz.f44.ntmps = 44 := by kernel_rfl
theorem gob44 {args : List AV} {s : AHeap} {R : AV → AHeap → Prop} (hl : args.length ≤ 44) (h : ∀ tm, tm.length = 44 → (∀ i, aev tm (.tmp i) = args.getD i aundef) → lvb Tryz.prog tab s L44 (lpostB tab s [ResultVar.tmp 4] R) tm (loc s 0 [])) : ACall Tryz.prog 44 args s R := ACall.goB tab_ok mixed Tryz.func44 l44 nm44 rs44 nt44 hl h
noncomputable def L67 : LCode := LCode.seq (LCode.ops [⟨Op.assign (Operand.const (Value.slice none 0 0)), some 4, none⟩]) (LCode.seq (LCode.ops [⟨Op.move (Operand.tmp 0), some 8, none⟩, ⟨Op.move (Operand.tmp 1), some 9, none⟩, ⟨Op.call { callee := Callee.value (Operand.func 93), args := { toList := [Operand.tmp 8, Operand.tmp 9] }, argTypes := { toList := [89, 133] } }, some 10, none⟩, ⟨Op.assign (Operand.tmp 10), some 5, none⟩]) (LCode.seq (LCode.seq (LCode.ops [⟨Op.move (Operand.tmp 5), some 11, none⟩, ⟨Op.binOp BinOp.eql 3 (Operand.tmp 11) (Operand.const (Value.int IntKind.i64 (-1))) 3, some 12, none⟩]) (LCode.cond (Operand.tmp 12) (LCode.seq (LCode.ops [⟨Op.move (Operand.tmp 0), some 13, none⟩, ⟨Op.assign (Operand.tmp 13), some 4, none⟩]) LCode.ret) LCode.skip)) (LCode.seq (LCode.seq (LCode.ops [⟨Op.move (Operand.tmp 5), some 14, none⟩, ⟨Op.binOp BinOp.add 3 (Operand.tmp 14) (Operand.const (Value.int IntKind.i64 1)) 3, some 15, none⟩, ⟨Op.assign (Operand.tmp 15), some 6, none⟩]) (LCode.block 0 (LCode.loop (LCode.seq (LCode.seq (LCode.ops [⟨Op.move (Operand.tmp 6), some 16, none⟩, ⟨Op.move (Operand.tmp 0), some 17, none⟩, ⟨Op.call { callee := Callee.builtin Builtin.len, args := { toList := [Operand.tmp 17] }, argTypes := { toList := [89] } }, some 18, none⟩, ⟨Op.binOp BinOp.lss 3 (Operand.tmp 16) (Operand.tmp 18) 3, some 19, none⟩]) (LCode.cond (Operand.tmp 19) LCode.skip (LCode.exit 0))) (LCode.seq (LCode.block 1 (LCode.seq (LCode.ops [⟨Op.move (Operand.tmp 0), some 22, none⟩, ⟨Op.move (Operand.tmp 6), some 23, none⟩, ⟨Op.indexAddr 89 (Operand.tmp 22) (Operand.tmp 23), some 24, none⟩, ⟨Op.load 98 (Operand.tmp 24), some 25, none⟩, ⟨Op.alloc 98, some 7, none⟩, ⟨Op.store 98 (Operand.tmp 7) (Operand.tmp 25), none, none⟩]) (LCode.seq (LCode.ops [⟨Op.move (Operand.tmp 1), some 26, none⟩, ⟨Op.load 98 (Operand.tmp 7), some 27, none⟩, ⟨Op.call { callee := Callee.value (Operand.tmp 26), args := { toList := [Operand.tmp 27] }, argTypes := { toList := [98] } }, some 28, none⟩, ⟨Op.unOp UnOp.not 4 (Operand.tmp 28), some 29, none⟩]) (LCode.cond (Operand.tmp 29) (LCode.seq (LCode.ops [⟨Op.move (Operand.tmp 0), some 30, none⟩, ⟨Op.move (Operand.tmp 5), some 31, none⟩, ⟨Op.load 98 (Operand.tmp 7), some 32, none⟩, ⟨Op.indexAddr 89 (Operand.tmp 30) (Operand.tmp 31), some 33, none⟩, ⟨Op.store 98 (Operand.tmp 33) (Operand.tmp 32), none, none⟩]) (LCode.ops [⟨Op.move (Operand.tmp 5), some 34, none⟩, ⟨Op.binOp BinOp.add 3 (Operand.tmp 34) (Operand.const (Value.int IntKind.i64 1)) 3, some 35, none⟩, ⟨Op.assign (Operand.tmp 35), some 5, none⟩])) LCode.skip)))) (LCode.ops [⟨Op.move (Operand.tmp 6), some 20, none⟩, ⟨Op.binOp BinOp.add 3 (Operand.tmp 20) (Operand.const (Value.int IntKind.i64 1)) 3, some 21, none⟩, ⟨Op.assign (Operand.tmp 21), some 6, none⟩])))))) (LCode.seq (LCode.ops [⟨Op.move (Operand.tmp 0), some 36, none⟩, ⟨Op.move (Operand.tmp 5), some 37, none⟩, ⟨Op.slice 89 (Operand.tmp 36) (some (Operand.tmp 37)) none none, some 38, none⟩, ⟨Op.call { callee := Callee.builtin Builtin.clear, args := { toList := [Operand.tmp 38] }, argTypes := { toList := [89] } }, none, none⟩]) (LCode.seq (LCode.ops [⟨Op.move (Operand.tmp 0), some 39, none⟩, ⟨Op.move (Operand.tmp 5), some 40, none⟩, ⟨Op.slice 89 (Operand.tmp 39) none (some (Operand.tmp 40)) none, some 41, none⟩, ⟨Op.assign (Operand.tmp 41), some 4, none⟩]) LCode.ret)))))
theorem l67 : Tryz.f67.body.map lighten = some L67 := by kernel_rfl
theorem rs67 : Tryz.f67.results.toList = [ResultVar.tmp 4] := by kernel_rfl
theorem nt67 : Tryz.f67.ntmps = 42 := by kernel_rfl
theorem gob67 {args : List AV} {s : AHeap} {R : AV → AHeap → Prop} (hl : args.length ≤ 42) (h : ∀ tm, tm.length = 42 → (∀ i, aev tm (.tmp i) = args.getD i aundef) → lvb Tryz.prog tab s L67 (lpostB tab s [ResultVar.tmp 4] R) tm (loc s 0 [])) : ACall Tryz.prog 67 args s R := ACall.goB tab_ok mixed Tryz.func67 l67 nm67 rs67 nt67 hl h
noncomputable def L69 : LCode := LCode.seq (LCode.ops [⟨Op.box 98 (Operand.tmp 0), some 1, none⟩, ⟨Op.assign (Operand.const (Value.bool false)), some 2, none⟩]) (LCode.seq (LCode.ops [⟨Op.fieldAddr 98 (Operand.tmp 1) 1, some 3, none⟩, ⟨Op.load 3 (Operand.tmp 3), some 4, none⟩, ⟨Op.binOp BinOp.eql 3 (Operand.tmp 4) (Operand.const (Value.int IntKind.i64 0)) 3, some 5, none⟩, ⟨Op.move (Operand.tmp 5), some 6, none⟩, ⟨Op.fieldAddr 98 (Operand.tmp 1) 2, some 7, some (6, true)⟩, ⟨Op.load 9 (Operand.tmp 7), some 8, some (6, true)⟩, ⟨Op.binOp BinOp.eql 9 (Operand.tmp 8) (Operand.const (Value.string { data := { toList := [] } })) 9, some 9, some (6, true)⟩, ⟨Op.pick (Operand.tmp 6) (Operand.tmp 9) (Operand.const (Value.bool false)), some 10, none⟩, ⟨Op.assign (Operand.tmp 10), some 2, none⟩]) LCode.ret)
theorem l69 : Tryz.f69.body.map lighten = some L69 := by kernel_rfl
theorem rs69 : Tryz.f69.results.toList = [ResultVar.tmp 2] := by kernel_rfl
theorem nt69 : Tryz.f69.ntmps = 11 := by kernel_rfl
theorem gob69 {args : List AV} {s : AHeap} {R : AV → AHeap → Prop} (hl : args.length ≤ 11) (h : ∀ tm, tm.length = 11 → (∀ i, aev tm (.tmp i) = args.getD i aundef) → lvb Tryz.prog tab s L69 (lpostB tab s [ResultVar.tmp 2] R) tm (loc s 0 [])) : ACall Tryz.prog 69 args s R := ACall.goB tab_ok mixed Tryz.func69 l69 nm69 rs69 nt69 hl h
noncomputable def L70 : LCode := LCode.block 0 (LCode.loop (LCode.seq (LCode.seq (LCode.ops [⟨Op.move (Operand.tmp 1), some 9, none⟩, ⟨Op.binOp BinOp.gtr 3 (Operand.tmp 9) (Operand.const (Value.int IntKind.i64 0)) 3, some 10, none⟩]) (LCode.cond (Operand.tmp 10) LCode.skip (LCode.exit 0))) (LCode.block 1 (LCode.seq (LCode.ops [⟨Op.move (Operand.tmp 0), some 11, none⟩, ⟨Op.nilCheck (Operand.tmp 11), some 12, none⟩, ⟨Op.fieldAddr 135 (Operand.tmp 12) 0, some 13, none⟩, ⟨Op.load 89 (Operand.tmp 13), some 14, none⟩, ⟨Op.indexAddr 89 (Operand.tmp 14) (Operand.const (Value.int IntKind.i64 0)), some 15, none⟩, ⟨Op.load 98 (Operand.tmp 15), some 16, none⟩, ⟨Op.alloc 98, some 6, none⟩, ⟨Op.store 98 (Operand.tmp 6) (Operand.tmp 16), none, none⟩]) (LCode.seq (LCode.ops [⟨Op.fieldAddr 98 (Operand.tmp 6) 1, some 17, none⟩, ⟨Op.load 3 (Operand.tmp 17), some 18, none⟩, ⟨Op.fieldAddr 98 (Operand.tmp 6) 2, some 19, none⟩, ⟨Op.load 9 (Operand.tmp 19), some 20, none⟩, ⟨Op.call { callee := Callee.builtin Builtin.len, args := { toList := [Operand.tmp 20] }, argTypes := { toList := [9] } }, some 21, none⟩, ⟨Op.call { callee := Callee.builtin Builtin.max, args := { toList := [Operand.tmp 18, Operand.tmp 21] }, argTypes := { toList := [3, 3] } }, some 22, none⟩, ⟨Op.assign (Operand.tmp 22), some 7, none⟩]) (LCode.seq (LCode.ops [⟨Op.move (Operand.tmp 1), some 23, none⟩, ⟨Op.move (Operand.tmp 7), some 24, none⟩, ⟨Op.call { callee := Callee.builtin Builtin.min, args := { toList := [Operand.tmp 23, Operand.tmp 24] }, argTypes := { toList := [3, 3] } }, some 25, none⟩, ⟨Op.assign (Operand.tmp 25), some 8, none⟩]) (LCode.seq (LCode.seq (LCode.ops [⟨Op.move (Operand.tmp 2), some 26, none⟩, ⟨Op.move (Operand.tmp 26), some 27, none⟩, ⟨Op.fieldAddr 98 (Operand.tmp 6) 2, some 28, some (27, true)⟩, ⟨Op.load 9 (Operand.tmp 28), some 29, some (27, true)⟩, ⟨Op.binOp BinOp.neq 9 (Operand.tmp 29) (Operand.const (Value.string { data := { toList := [] } })) 9, some 30, some (27, true)⟩, ⟨Op.pick (Operand.tmp 27) (Operand.tmp 30) (Operand.const (Value.bool false)), some 31, none⟩]) (LCode.cond (Operand.tmp 31) (LCode.draw [0, 0, 2, 6, 14, 0, 32, 0, 224, 480, 992, 2046, 4095, 8191, 16383] [⟨Op.move (Operand.tmp 0), some 32, none⟩, ⟨Op.move (Operand.tmp 0), some 33, none⟩, ⟨Op.nilCheck (Operand.tmp 33), some 34, none⟩, ⟨Op.fieldAddr 135 (Operand.tmp 34) 1, some 35, none⟩, ⟨Op.load 89 (Operand.tmp 35), some 36, none⟩, ⟨Op.fieldAddr 98 (Operand.tmp 6) 2, some 37, none⟩, ⟨Op.load 9 (Operand.tmp 37), some 38, none⟩, ⟨Op.move (Operand.tmp 8), some 39, none⟩, ⟨Op.slice 9 (Operand.tmp 38) none (some (Operand.tmp 39)) none, some 40, none⟩, ⟨Op.call { callee := Callee.value (Operand.func 47), args := { toList := [Operand.tmp 40] }, argTypes := { toList := [9] } }, some 41, none⟩, ⟨Op.buildSlice 89 1 { toList := [(0, Operand.tmp 41)] }, some 42, none⟩, ⟨Op.call { callee := Callee.builtin Builtin.append, args := { toList := [Operand.tmp 36, Operand.tmp 42] }, argTypes := { toList := [89, 89] } }, some 43, none⟩, ⟨Op.nilCheck (Operand.tmp 32), some 44, none⟩, ⟨Op.fieldAddr 135 (Operand.tmp 44) 1, some 45, none⟩, ⟨Op.store 89 (Operand.tmp 45) (Operand.tmp 43), none, none⟩]) (LCode.seq (LCode.ops [⟨Op.move (Operand.tmp 2), some 46, none⟩]) (LCode.cond (Operand.tmp 46) (LCode.draw [0, 0, 2, 6, 14, 0, 32, 0, 224, 480, 1022, 2047, 4095, 8191] [⟨Op.move (Operand.tmp 0), some 47, none⟩, ⟨Op.move (Operand.tmp 0), some 48, none⟩, ⟨Op.nilCheck (Operand.tmp 48), some 49, none⟩, ⟨Op.fieldAddr 135 (Operand.tmp 49) 1, some 50, none⟩, ⟨Op.load 89 (Operand.tmp 50), some 51, none⟩, ⟨Op.fieldAddr 98 (Operand.tmp 6) 0, some 52, none⟩, ⟨Op.load 3 (Operand.tmp 52), some 53, none⟩, ⟨Op.move (Operand.tmp 8), some 54, none⟩, ⟨Op.call { callee := Callee.value (Operand.func 48), args := { toList := [Operand.tmp 53, Operand.tmp 54] }, argTypes := { toList := [3, 3] } }, some 55, none⟩, ⟨Op.buildSlice 89 1 { toList := [(0, Operand.tmp 55)] }, some 56, none⟩, ⟨Op.call { callee := Callee.builtin Builtin.append, args := { toList := [Operand.tmp 51, Operand.tmp 56] }, argTypes := { toList := [89, 89] } }, some 57, none⟩, ⟨Op.nilCheck (Operand.tmp 47), some 58, none⟩, ⟨Op.fieldAddr 135 (Operand.tmp 58) 1, some 59, none⟩, ⟨Op.store 89 (Operand.tmp 59) (Operand.tmp 57), none, none⟩]) LCode.skip)))) (LCode.seq (LCode.block 2 (LCode.seq (LCode.ops [⟨Op.move (Operand.tmp 8), some 75, none⟩, ⟨Op.move (Operand.tmp 7), some 76, none⟩, ⟨Op.binOp BinOp.eql 3 (Operand.tmp 75) (Operand.tmp 76) 3, some 77, none⟩, ⟨Op.assign (Operand.tmp 77), some 74, none⟩]) (LCode.cond (Operand.tmp 74) (LCode.ops [⟨Op.move (Operand.tmp 0), some 78, none⟩, ⟨Op.move (Operand.tmp 0), some 79, none⟩, ⟨Op.nilCheck (Operand.tmp 79), some 80, none⟩, ⟨Op.fieldAddr 135 (Operand.tmp 80) 0, some 81, none⟩, ⟨Op.load 89 (Operand.tmp 81), some 82, none⟩, ⟨Op.slice 89 (Operand.tmp 82) (some (Operand.const (Value.int IntKind.i64 1))) none none, some 83, none⟩, ⟨Op.nilCheck (Operand.tmp 78), some 84, none⟩, ⟨Op.fieldAddr 135 (Operand.tmp 84) 0, some 85, none⟩, ⟨Op.store 89 (Operand.tmp 85) (Operand.tmp 83), none, none⟩]) (LCode.seq (LCode.ops [⟨Op.fieldAddr 98 (Operand.tmp 6) 2, some 87, none⟩, ⟨Op.load 9 (Operand.tmp 87), some 88, none⟩, ⟨Op.binOp BinOp.neq 9 (Operand.tmp 88) (Operand.const (Value.string { data := { toList := [] } })) 9, some 89, none⟩, ⟨Op.assign (Operand.tmp 89), some 86, none⟩]) (LCode.cond (Operand.tmp 86) (LCode.draw [0, 1, 3, 7, 0, 16, 0, 112, 255, 511, 1023] [⟨Op.move (Operand.tmp 0), some 90, none⟩, ⟨Op.nilCheck (Operand.tmp 90), some 91, none⟩, ⟨Op.fieldAddr 135 (Operand.tmp 91) 0, some 92, none⟩, ⟨Op.load 89 (Operand.tmp 92), some 93, none⟩, ⟨Op.fieldAddr 98 (Operand.tmp 6) 2, some 94, none⟩, ⟨Op.load 9 (Operand.tmp 94), some 95, none⟩, ⟨Op.move (Operand.tmp 8), some 96, none⟩, ⟨Op.slice 9 (Operand.tmp 95) (some (Operand.tmp 96)) none none, some 97, none⟩, ⟨Op.indexAddr 89 (Operand.tmp 93) (Operand.const (Value.int IntKind.i64 0)), some 98, none⟩, ⟨Op.fieldAddr 98 (Operand.tmp 98) 2, some 99, none⟩, ⟨Op.store 9 (Operand.tmp 99) (Operand.tmp 97), none, none⟩]) (LCode.draw [0, 1, 3, 7, 0, 16, 0, 112, 0, 256, 0, 1792, 4080, 8191, 16383] [⟨Op.move (Operand.tmp 0), some 60, none⟩, ⟨Op.nilCheck (Operand.tmp 60), some 61, none⟩, ⟨Op.fieldAddr 135 (Operand.tmp 61) 0, some 62, none⟩, ⟨Op.load 89 (Operand.tmp 62), some 63, none⟩, ⟨Op.fieldAddr 98 (Operand.tmp 6) 0, some 64, none⟩, ⟨Op.load 3 (Operand.tmp 64), some 65, none⟩, ⟨Op.move (Operand.tmp 8), some 66, none⟩, ⟨Op.binOp BinOp.add 3 (Operand.tmp 65) (Operand.tmp 66) 3, some 67, none⟩, ⟨Op.fieldAddr 98 (Operand.tmp 6) 1, some 68, none⟩, ⟨Op.load 3 (Operand.tmp 68), some 69, none⟩, ⟨Op.move (Operand.tmp 8), some 70, none⟩, ⟨Op.binOp BinOp.sub 3 (Operand.tmp 69) (Operand.tmp 70) 3, some 71, none⟩, ⟨Op.call { callee := Callee.value (Operand.func 48), args := { toList := [Operand.tmp 67, Operand.tmp 71] }, argTypes := { toList := [3, 3] } }, some 72, none⟩, ⟨Op.indexAddr 89 (Operand.tmp 63) (Operand.const (Value.int IntKind.i64 0)), some 73, none⟩, ⟨Op.store 98 (Operand.tmp 73) (Operand.tmp 72), none, none⟩])))))) (LCode.ops [⟨Op.move (Operand.tmp 1), some 100, none⟩, ⟨Op.move (Operand.tmp 8), some 101, none⟩, ⟨Op.binOp BinOp.sub 3 (Operand.tmp 100) (Operand.tmp 101) 3, some 102, none⟩, ⟨Op.assign (Operand.tmp 102), some 1, none⟩])))))))))
theorem l70 : Tryz.f70.body.map lighten = some L70 := by kernel_rfl
theorem rs70 : Tryz.f70.results.toList = [] := by kernel_rfl
theorem nt70 : Tryz.f70.ntmps = 103 := by kernel_rfl
theorem gob70 {args : List AV} {s : AHeap} {R : AV → AHeap → Prop} (hl : args.length ≤ 103) (h : ∀ tm, tm.length = 103 → (∀ i, aev tm (.tmp i) = args.getD i aundef) → lvb Tryz.prog tab s L70 (lpostB tab s [] R) tm (loc s 0 [])) : ACall Tryz.prog 70 args s R := ACall.goB tab_ok mixed Tryz.func70 l70 nm70 rs70 nt70 hl h
noncomputable def L75 : LCode := LCode.seq (LCode.ops [⟨Op.move (Operand.tmp 0), some 5, none⟩, ⟨Op.load 3 (Operand.tmp 1), some 6, none⟩, ⟨Op.binOp BinOp.gtr 3 (Operand.tmp 5) (Operand.tmp 6) 3, some 7, none⟩, ⟨Op.move (Operand.tmp 7), some 8, none⟩, ⟨Op.load 9 (Operand.tmp 2), some 9, some (8, false)⟩, ⟨Op.binOp BinOp.neq 9 (Operand.tmp 9) (Operand.const (Value.string { data := { toList := [] } })) 9, some 10, some (8, false)⟩, ⟨Op.pick (Operand.tmp 8) (Operand.const (Value.bool true)) (Operand.tmp 10), some 11, none⟩]) (LCode.cond (Operand.tmp 11) (LCode.ops [⟨Op.load 27 (Operand.tmp 3), some 12, none⟩, ⟨Op.load 3 (Operand.tmp 1), some 13, none⟩, ⟨Op.move (Operand.tmp 0), some 14, none⟩, ⟨Op.load 3 (Operand.tmp 1), some 15, none⟩, ⟨Op.binOp BinOp.sub 3 (Operand.tmp 14) (Operand.tmp 15) 3, some 16, none⟩, ⟨Op.load 9 (Operand.tmp 2), some 17, none⟩, ⟨Op.build 37 { toList := [(0, Operand.tmp 13), (1, Operand.tmp 16), (2, Operand.tmp 17)] }, some 18, none⟩, ⟨Op.buildSlice 27 1 { toList := [(0, Operand.tmp 18)] }, some 19, none⟩, ⟨Op.call { callee := Callee.builtin Builtin.append, args := { toList := [Operand.tmp 12, Operand.tmp 19] }, argTypes := { toList := [27, 27] } }, some 20, none⟩, ⟨Op.store 27 (Operand.tmp 3) (Operand.tmp 20), none, none⟩]) LCode.skip)
theorem l75 : Tryz.f75.body.map lighten = some L75 := by kernel_rfl
theorem rs75 : Tryz.f75.results.toList = [] := by kernel_rfl
theorem nt75 : Tryz.f75.ntmps = 21 := by kernel_rfl
theorem gob75 {args : List AV} {s : AHeap} {R : AV → AHeap → Prop} (hl : args.length ≤ 21) (h : ∀ tm, tm.length = 21 → (∀ i, aev tm (.tmp i) = args.getD i aundef) → lvb Tryz.prog tab s L75 (lpostB tab s [] R) tm (loc s 0 [])) : ACall Tryz.prog 75 args s R := ACall.goB tab_ok mixed Tryz.func75 l75 nm75 rs75 nt75 hl h
noncomputable def L93 : LCode := LCode.seq (LCode.ops [⟨Op.assign (Operand.const (Value.int IntKind.i64 0)), some 4, none⟩]) (LCode.seq (LCode.seq (LCode.ops [⟨Op.move (Operand.tmp 0), some 6, none⟩, ⟨Op.call { callee := Callee.builtin Builtin.len, args := { toList := [Operand.tmp 6] }, argTypes := { toList := [89] } }, some 7, none⟩, ⟨Op.move (Operand.const (Value.int IntKind.i64 0)), some 8, none⟩]) (LCode.block 0 (LCode.loop (LCode.seq (LCode.ops [⟨Op.binOp BinOp.lss 3 (Operand.tmp 8) (Operand.tmp 7) 3, some 9, none⟩]) (LCode.seq (LCode.cond (Operand.tmp 9) LCode.skip (LCode.exit 0)) (LCode.seq (LCode.block 1 (LCode.seq (LCode.ops [⟨Op.move (Operand.tmp 8), some 10, none⟩, ⟨Op.assign (Operand.tmp 10), some 5, none⟩]) (LCode.seq (LCode.ops [⟨Op.move (Operand.tmp 1), some 11, none⟩, ⟨Op.move (Operand.tmp 0), some 12, none⟩, ⟨Op.move (Operand.tmp 5), some 13, none⟩, ⟨Op.indexAddr 89 (Operand.tmp 12) (Operand.tmp 13), some 14, none⟩, ⟨Op.load 98 (Operand.tmp 14), some 15, none⟩, ⟨Op.call { callee := Callee.value (Operand.tmp 11), args := { toList := [Operand.tmp 15] }, argTypes := { toList := [98] } }, some 16, none⟩]) (LCode.cond (Operand.tmp 16) (LCode.seq (LCode.ops [⟨Op.move (Operand.tmp 5), some 17, none⟩, ⟨Op.assign (Operand.tmp 17), some 4, none⟩]) LCode.ret) LCode.skip)))) (LCode.ops [⟨Op.binOp BinOp.add 3 (Operand.tmp 8) (Operand.const (Value.int IntKind.i64 1)) 3, some 18, none⟩, ⟨Op.move (Operand.tmp 18), some 8, none⟩]))))))) (LCode.seq (LCode.ops [⟨Op.assign (Operand.const (Value.int IntKind.i64 (-1))), some 4, none⟩]) LCode.ret))
theorem l93 : Tryz.f93.body.map lighten = some L93 := by kernel_rfl
theorem rs93 : Tryz.f93.results.toList = [ResultVar.tmp 4] := by kernel_rfl
theorem nt93 : Tryz.f93.ntmps = 19 := by kernel_rfl
theorem gob93 {args : List AV} {s : AHeap} {R : AV → AHeap → Prop} (hl : args.length ≤ 19) (h : ∀ tm, tm.length = 19 → (∀ i, aev tm (.tmp i) = args.getD i aundef) → lvb Tryz.prog tab s L93 (lpostB tab s [ResultVar.tmp 4] R) tm (loc s 0 [])) : ACall Tryz.prog 93 args s R := ACall.goB tab_ok mixed Tryz.func93 l93 nm93 rs93 nt93 hl h
end Go.S1
end
section
set_option linter.unusedVariables false
set_option linter.unusedSimpArgs false
namespace Go.S1N
open Go Go.Am Go.Proofs Go.S1
set_option maxRecDepth 100000
set_option linter.unusedSimpArgs false
attribute [local irreducible] lopsB lvb lstepB lfunG lcondB lguardB ldrawB ldrunB ldstepB ldguardB lmem lval ldmem ldval ldfun lexit ldloadB ldlenB lpostB athen ablock
def overL (F : List (Int × UInt8)) (p : Int × UInt8) : Int × UInt8 := if 0 ≤ p.1 then F.getD p.1.toNat (0, 0) else p
def overF (F G : List (Int × UInt8)) : List (Int × UInt8) := G.map (overL F)
def thenVal (n : Nat) (a b : List Ed) : List Ed × Int :=
  if faultOf n a ≠ 0 then ([], faultOf n a)
  else if faultOf (flowFrom n 0 a).length b ≠ 0 then ([], faultOf (flowFrom n 0 a).length b)
  else if 2000 < (edGo n 0 [] (overF (flowFrom n 0 a) (flowFrom (flowFrom n 0 a).length 0 b))).length then ([], 2)
  else (edGo n 0 [] (overF (flowFrom n 0 a) (flowFrom (flowFrom n 0 a).length 0 b)), 0)
end Go.S1N
end
section
set_option linter.unusedVariables false
set_option linter.unusedSimpArgs false
namespace Go.S1N
open Go Go.Am Go.Proofs Go.S1
set_option maxRecDepth 100000
set_option linter.unusedSimpArgs false
def okF (n : Nat) : Nat → List (Int × UInt8) → Prop
  | _, [] => True
  | a, p :: F => (p.1 = -1 ∧ okF n a F) ∨ ∃ o : Nat, p = ((o : Int), 0) ∧ a ≤ o ∧ o < n ∧ okF n (o + 1) F
theorem scan_one {n B : Int} {e : Ed} {r : List Ed} (h1 : 0 ≤ e.at_ ∧ e.at_ ≤ n) (h2 : 0 ≤ e.cut ∧ e.cut ≤ n - e.at_) (h3 : ¬ (e.cut = 0 ∧ e.new = [])) (h4 : B < e.at_) : scan n B (e :: r) = scan n (e.at_ + e.cut) r := by
  rw [scan, if_neg (Classical.not_not.2 h1), if_neg (Classical.not_not.2 h2), if_neg h3, if_neg (by omega)]
theorem ed_scan (n : Nat) : ∀ (F : List (Int × UInt8)) (a : Nat) (w : List UInt8) (B : Int), B < a → a ≤ n → okF n a F → scan n B (edGo n a w F) = 0
  | [], a, w, B, hB, ha, _ => by
    rw [edGo, pushE]
    split
    · rename_i h
      rw [scan_one (by simp only; omega) (by simp only; omega) (by
        simp only; rintro ⟨q1, q2⟩
        rcases h with h | h
        · omega
        · exact h q2) (by simp only; omega)]
      rfl
    · rfl
  | p :: F, a, w, B, hB, ha, h => by
    rcases h with ⟨hp, h⟩ | ⟨o, rfl, h1, h2, h3⟩
    · rw [edGo, if_pos (by omega)]
      exact ed_scan n F a _ B hB ha h
    · rw [edGo, if_neg (by simp only; omega)]
      have ih := fun B hB => ed_scan n F (o + 1) [] B hB (by omega) h3
      rw [show (((o + 1 : Nat) : Int)) = (o : Int) + 1 by omega] at ih
      simp only
      rw [pushE]
      split
      · rename_i h
        rw [List.cons_append, List.nil_append, scan_one (by simp only; omega) (by simp only; omega) (by
          simp only; rintro ⟨q1, q2⟩
          rcases h with h | h
          · omega
          · exact h q2) (by simp only; omega)]
        exact ih _ (by simp only; omega)
      · rw [List.nil_append]
        exact ih _ (by omega)
theorem ed_head (n : Nat) : ∀ (F : List (Int × UInt8)) (a : Nat) (w : List UInt8), okF n a F → ∀ e r, edGo n a w F = e :: r → (a : Int) ≤ e.at_
  | [], a, w, _, e, r, he => by
    rw [edGo, pushE] at he
    split at he
    · cases he; exact Int.le_refl _
    · cases he
  | p :: F, a, w, h, e, r, he => by
    rcases h with ⟨hp, h⟩ | ⟨o, rfl, h1, h2, h3⟩
    · rw [edGo, if_pos (by omega)] at he
      exact ed_head n F a _ h e r he
    · rw [edGo, if_neg (by simp only; omega)] at he
      simp only at he
      rw [pushE] at he
      split at he
      · cases he; exact Int.le_refl _
      · rw [List.nil_append, show (o : Int) + 1 = ((o + 1 : Nat) : Int) by omega] at he
        have := ed_head n F (o + 1) [] h3 e r he
        omega
theorem flow_step (n o : Nat) (E : List Ed) (ho : o < n) (h : ∀ e r, E = e :: r → ((o + 1 : Nat) : Int) ≤ e.at_) : flowFrom n o E = ((o : Int), 0) :: flowFrom n (o + 1) E := by
  cases E with
  | nil =>
    rw [flowFrom, flowFrom, show n - o = (n - (o + 1)) + 1 by omega, runOf_cons]
  | cons e r =>
    have := h e r rfl
    rw [flowFrom, flowFrom, show e.at_.toNat - o = (e.at_.toNat - (o + 1)) + 1 by omega, runOf_cons]
    rfl
theorem ed_round (n : Nat) : ∀ (F : List (Int × UInt8)) (a : Nat) (w : List UInt8), a ≤ n → okF n a F → flowFrom n a (edGo n a w F) = negL w ++ F
  | [], a, w, ha, _ => by
    rw [edGo, pushE]
    split
    · simp only [flowFrom]
      rw [show ((a : Int) + ((n : Int) - (a : Int))).toNat = n by omega]
      simp [runOf, negL]
    · rename_i h
      have hw : w = [] := by
        apply Classical.byContradiction; intro q; exact h (.inr q)
      have hn : ¬ (a : Int) < n := fun q => h (.inl q)
      subst hw
      rw [flowFrom, show n - a = 0 by omega]; rfl
  | p :: F, a, w, ha, h => by
    rcases h with ⟨hp, h⟩ | ⟨o, rfl, h1, h2, h3⟩
    · rw [edGo, if_pos (by omega), ed_round n F a _ ha h]
      simp only [negL, List.map_append, List.map_cons, List.map_nil, List.append_assoc, List.cons_append, List.nil_append]
      rw [← hp]
    · rw [edGo, if_neg (by simp only; omega)]
      simp only
      have ih := ed_round n F (o + 1) [] (by omega) h3
      have hh := ed_head n F (o + 1) [] h3
      rw [show (((o + 1 : Nat) : Int)) = (o : Int) + 1 by omega] at ih
      have hs := flow_step n o (edGo n ((o : Int) + 1) [] F) h2 (by
        intro e r he
        rw [show (o : Int) + 1 = ((o + 1 : Nat) : Int) by omega] at he
        exact hh e r he)
      rw [pushE]
      split
      · rw [List.cons_append, List.nil_append, flowFrom]
        simp only
        rw [show ((a : Int) + ((o : Int) - (a : Int))).toNat = o by omega, hs, ih]
        simp [runOf, negL]
      · rename_i h
        have hw : w = [] := by
          apply Classical.byContradiction; intro q; exact h (.inr q)
        have hn : ¬ (a : Int) < o := fun q => h (.inl q)
        have hao : a = o := by omega
        subst hw
        rw [List.nil_append, hao, hs, ih]
        rfl
theorem okF_mono {n : Nat} : ∀ {F : List (Int × UInt8)} {a b : Nat}, b ≤ a → okF n a F → okF n b F
  | [], _, _, _, _ => trivial
  | p :: F, a, b, hb, h => by
    rcases h with ⟨hp, h⟩ | ⟨o, hp, h1, h2, h3⟩
    · exact .inl ⟨hp, okF_mono hb h⟩
    · exact .inr ⟨o, hp, by omega, h2, h3⟩
theorem okF_tail {n a : Nat} {p : Int × UInt8} {F : List (Int × UInt8)} (h : okF n a (p :: F)) : okF n a F := by
  rcases h with ⟨hp, h⟩ | ⟨o, hp, h1, h2, h3⟩
  · exact h
  · exact okF_mono (by omega) h3
theorem okF_drop {n a : Nat} : ∀ (k : Nat) {F : List (Int × UInt8)}, okF n a F → okF n a (F.drop k)
  | 0, F, h => h
  | k + 1, [], h => h
  | k + 1, p :: F, h => okF_drop k (okF_tail h)
theorem ok_run {n : Nat} {F : List (Int × UInt8)} : ∀ (k a : Nat), a + k ≤ n → okF n (a + k) F → okF n a (runOf a k ++ F)
  | 0, a, _, h => h
  | k + 1, a, hk, h => by
    rw [runOf_cons, List.cons_append]
    exact .inr ⟨a, rfl, Nat.le_refl _, by omega, ok_run k (a + 1) (by omega) (by rwa [show a + 1 + k = a + (k + 1) by omega])⟩
theorem ok_neg {n a : Nat} {F : List (Int × UInt8)} (h : okF n a F) : ∀ w : List UInt8, okF n a (negL w ++ F)
  | [] => h
  | c :: w => .inl ⟨rfl, ok_neg h w⟩
theorem ok_flow (n : Nat) : ∀ (l : List Ed) (a : Nat) (B : Int), (B = a ∨ (B = -1 ∧ a = 0)) → a ≤ n → scan n B l = 0 → okF n a (flowFrom n a l)
  | [], a, B, _, ha, _ => by
    have := ok_run (n := n) (F := []) (n - a) a (by omega) trivial
    rwa [List.append_nil] at this
  | e :: r, a, B, hB, ha, hs => by
    obtain ⟨c1, c2, c3, c4, c5, c6⟩ := scan_cons hs
    have ih := ok_flow n r (e.at_ + e.cut).toNat (e.at_ + e.cut) (.inl (by omega)) (by omega) c6
    rw [flowFrom, List.append_assoc]
    refine ok_run _ _ (by omega) (ok_neg (okF_mono (by omega) ih) e.new)
theorem ok_over (n : Nat) (F : List (Int × UInt8)) : ∀ (G : List (Int × UInt8)) (b c : Nat), okF F.length b G → okF n c (F.drop b) → okF n c (overF F G)
  | [], _, _, _, _ => trivial
  | p :: G, b, c, hG, hF => by
    rcases hG with ⟨hp, hG⟩ | ⟨o, rfl, h1, h2, h3⟩
    · have : overL F p = p := by rw [overL, if_neg (by omega)]
      rw [overF, List.map_cons, this]
      exact .inl ⟨hp, ok_over n F G b c hG hF⟩
    · have hd : okF n c (F.drop o) := by
        have := okF_drop (o - b) hF
        rwa [List.drop_drop, show b + (o - b) = o by omega] at this
      rw [List.drop_eq_getElem_cons h2] at hd
      have hv : overL F ((o : Int), 0) = F[o] := by
        rw [overL, if_pos (by simp only; omega)]
        simp [List.getD_eq_getElem?_getD, h2]
      rw [overF, List.map_cons, hv]
      rcases hd with ⟨hp, hd⟩ | ⟨q, hp, q1, q2, q3⟩
      · exact .inl ⟨hp, ok_over n F G (o + 1) c h3 hd⟩
      · exact .inr ⟨q, hp, q1, q2, ok_over n F G (o + 1) (q + 1) h3 q3⟩
theorem over_right (n : Nat) (a b : List Ed) (ha : scan n (-1) a = 0) (hb : scan (flowFrom n 0 a).length (-1) b = 0) :
    scan n (-1) (edGo n 0 [] (overF (flowFrom n 0 a) (flowFrom (flowFrom n 0 a).length 0 b))) = 0 ∧
    flowFrom n 0 (edGo n 0 [] (overF (flowFrom n 0 a) (flowFrom (flowFrom n 0 a).length 0 b))) = overF (flowFrom n 0 a) (flowFrom (flowFrom n 0 a).length 0 b) := by
  have h1 := ok_flow n a 0 (-1) (.inr ⟨rfl, rfl⟩) (by omega) ha
  have h2 := ok_flow (flowFrom n 0 a).length b 0 (-1) (.inr ⟨rfl, rfl⟩) (by omega) hb
  have h3 := ok_over n (flowFrom n 0 a) _ 0 0 h2 h1
  refine ⟨ed_scan n _ 0 [] (-1) (by omega) (by omega) h3, ?_⟩
  have := ed_round n _ 0 [] (by omega) h3
  exact this
end Go.S1N
end
section
set_option linter.unusedVariables false
set_option linter.unusedSimpArgs false
namespace Go.S1N
open Go Go.Am Go.Proofs Go.S1
set_option maxRecDepth 100000
set_option linter.unusedSimpArgs false
def chkF : Nat → List (List Ed) → Int
  | _, [] => 0
  | m, c :: r => if faultOf m c ≠ 0 then faultOf m c else chkF (flowFrom m 0 c).length r
def foldR (n : Nat) : List Ed → List (List Ed) → List Ed × Int
  | out, [] => (out, 0)
  | out, c :: r => if (thenVal n out c).2 ≠ 0 then ([], (thenVal n out c).2) else foldR n (thenVal n out c).1 r
def foldVal (n : Nat) (l : List (List Ed)) : List Ed × Int := if 20000 < n then ([], 1) else if chkF n l ≠ 0 then ([], chkF n l) else foldR n [] l
theorem push_new {a to : Int} {w : List UInt8} {e : Ed} (h : e ∈ pushE a w to) : e.new.length = w.length := by
  rw [pushE] at h
  split at h
  · rw [List.mem_singleton.1 h]
  · cases h
theorem ed_new (n : Int) : ∀ (F : List (Int × UInt8)) (a : Int) (w : List UInt8), ∀ e ∈ edGo n a w F, e.new.length ≤ w.length + F.length
  | [], a, w, e, h => by rw [edGo] at h; rw [push_new h]; exact Nat.le_add_right _ _
  | p :: F, a, w, e, h => by
    rw [edGo] at h
    split at h
    · have := ed_new n F a _ e h
      simp only [List.length_append, List.length_cons, List.length_nil] at this ⊢
      omega
    · rcases List.mem_append.1 h with h | h
      · rw [push_new h]; exact Nat.le_add_right _ _
      · have := ed_new n F _ _ e h
        simp only [List.length_nil, List.length_cons] at this ⊢
        omega
theorem faultOf_long {n : Int} {l : List Ed} (h : faultOf n l = 0) : longOf n l ≤ 20000 := by
  rw [faultOf] at h
  split at h
  · cases h
  · split at h
    · cases h
    · split at h
      · rename_i h3; exact absurd h h3
      · split at h
        · cases h
        · omega
theorem flow_short {n : Nat} {l : List Ed} (h : faultOf n l = 0) (hnew : ∀ e ∈ l, e.new.length ≤ 100000) : (flowFrom n 0 l).length ≤ 20000 ∧ longOf n l = (flowFrom n 0 l).length := by
  obtain ⟨h0, h1, h2, hs⟩ := faultOf_zero h
  have q1 := flow_dl n l 0 (-1) (.inr ⟨rfl, rfl⟩) (by omega) hs
  have q2 := long_dl l n (fun e he => ⟨hnew e he, by have := scan_range l _ hs e he; omega⟩) (by omega) (by omega)
  have q3 := faultOf_long h
  omega
theorem then_right {n : Nat} {a b : List Ed} (hnb : ∀ e ∈ b, e.new.length ≤ 100000) (h : (thenVal n a b).2 = 0) :
    faultOf n a = 0 ∧ faultOf (flowFrom n 0 a).length b = 0 ∧ (thenVal n a b).1 = edGo n 0 [] (overF (flowFrom n 0 a) (flowFrom (flowFrom n 0 a).length 0 b)) ∧ (thenVal n a b).1.length ≤ 2000 ∧ ∀ e ∈ (thenVal n a b).1, e.new.length ≤ 20000 := by
  unfold thenVal at h ⊢
  split at h
  · rename_i q; exact absurd h q
  · rename_i q1
    split at h
    · rename_i q; exact absurd h q
    · rename_i q2
      split at h
      · cases h
      · rename_i q3
        have c := Classical.not_not.1 q1
        have d := Classical.not_not.1 q2
        rw [if_neg q1, if_neg q2, if_neg q3]
        refine ⟨c, d, rfl, by simp only; omega, fun e he => ?_⟩
        have := ed_new n _ 0 [] e he
        have hs := (flow_short d hnb).1
        simp only [overF, List.length_map, List.length_nil] at this
        omega
end Go.S1N
end
section
set_option linter.unusedVariables false
set_option linter.unusedSimpArgs false
namespace Go.S1N
open Go Go.Am Go.Proofs Go.S1
set_option maxRecDepth 100000
set_option linter.unusedSimpArgs false
end Go.S1N
end
section
set_option linter.unusedVariables false
set_option linter.unusedSimpArgs false
namespace Go.S1N
open Go Go.Am Go.Proofs Go.S1
set_option maxRecDepth 100000
set_option linter.unusedSimpArgs false
end Go.S1N
end
section
set_option linter.unusedVariables false
set_option linter.unusedSimpArgs false
namespace Go.S1N
open Go Go.Am Go.Proofs Go.S1
set_option maxRecDepth 100000
set_option linter.unusedSimpArgs false
attribute [local irreducible] lopsB lvb lstepB lfunG lcondB lguardB ldrawB ldrunB ldstepB ldguardB lmem lval ldmem ldval ldfun lexit ldloadB ldlenB lpostB athen ablock
def edsv (l : List (List Ed)) : AV := fsv 1 (l.map edv)
theorem edsv_len (l : List (List Ed)) : alen tab 44 (edsv l) = some (.int .i64 l.length) := by rw [edsv, len44f, List.length_map]
theorem edsv_at {l : List (List Ed)} {j : Nat} {c : List Ed} (h : l[j]? = some c) : aindexAddr tab 44 (edsv l) (.int .i64 j) = some (.rptr [edv c]) := by
  have hc : (edv c).cells = [edv c] := by rcases edv_sl c with ⟨f, h⟩ | ⟨h, _⟩ <;> rw [h] <;> rfl
  have hr : (edv c).israw = false := by rcases edv_sl c with ⟨f, h⟩ | ⟨h, _⟩ <;> rw [h] <;> rfl
  have := ix44f (xs := l.map edv) (n := j) (v := edv c) (by omega) (by rw [List.getElem?_map, Int.toNat_natCast, h]; rfl) hr
  rw [hc] at this
  exact this
theorem edsv_pu (l : List (List Ed)) : Pu (edsv l) := pu_fsv (by
  simp only [PuL, lowL_iff]
  intro x hx
  obtain ⟨c, _, rfl⟩ := List.mem_map.1 hx
  exact edv_pu c)
structure IsEds (v : AV) (l : List (List Ed)) : Prop where
  len : alen tab 44 v = some (.int .i64 l.length)
  at_ : ∀ {j : Nat} {c : List Ed}, l[j]? = some c → aindexAddr tab 44 v (.int .i64 j) = some (.rptr [edv c])
  pu : Pu v
theorem edsv_is (l : List (List Ed)) : IsEds (edsv l) l := ⟨edsv_len l, edsv_at, edsv_pu l⟩
theorem eds_is (l : List (List Ed)) : IsEds (.vs 1 false (l.map edv)) l := by
  by_cases h : l = []
  · subst h
    refine ⟨by rw [List.map_nil, len44v]; rfl, fun h => by simp at h, by simp only [List.map_nil, Pu, low, lowL]⟩
  · have : (.vs 1 false (l.map edv) : AV) = edsv l := by rw [edsv, fsv_pos (by simpa using h)]
    rw [this]; exact edsv_is l
theorem ld27r {c : List Ed} {s : AHeap} : aload tab 27 (.rptr [edv c]) s = some (edv c) := by rw [ld27]; rfl
end Go.S1N
end
section
set_option linter.unusedVariables false
set_option linter.unusedSimpArgs false
namespace Go.S1N
open Go Go.Am Go.Proofs Go.S1
set_option maxRecDepth 100000
set_option linter.unusedSimpArgs false
def rfl1 (r : Rn) : List (Int × UInt8) := if r.text ≠ [] then negL r.text else (List.range r.long.toNat).map fun (i : Nat) => (r.at_ + (i : Int), (0 : UInt8))
def rflow (l : List Rn) : List (Int × UInt8) := l.flatMap rfl1
def rGo (n : Int) : Int → List UInt8 → List Rn → List Ed
  | a, w, [] => pushE a w n
  | a, w, r :: l => if r.text ≠ [] then rGo n a (w ++ r.text) l else if 0 < r.long then pushE a w r.at_ ++ rGo n (r.at_ + r.long) [] l else rGo n a w l
theorem ed_kept (N : Int) (t : List (Int × UInt8)) : ∀ (k : Nat) (o q : Int) (w : List UInt8), 0 ≤ o → edGo N q w ((List.range (k + 1)).map (fun (i : Nat) => (o + (i : Int), (0 : UInt8))) ++ t) = pushE q w o ++ edGo N (o + (k + 1 : Nat)) [] t
  | 0, o, q, w, h => by
    simp only [List.range_succ, List.range_zero, List.nil_append, List.map_cons, List.map_nil, List.cons_append, edGo]
    rw [if_neg (by omega)]
    simp
  | k + 1, o, q, w, h => by
    have ih := ed_kept N t k (o + 1) (o + 1) [] (by omega)
    rw [List.range_succ_eq_map, List.map_cons, List.map_map, List.cons_append, edGo, if_neg (by simp only; omega)]
    have e : (List.range (k + 1)).map ((fun (i : Nat) => (o + (i : Int), (0 : UInt8))) ∘ Nat.succ) = (List.range (k + 1)).map (fun (i : Nat) => (o + 1 + (i : Int), (0 : UInt8))) := by
      refine List.map_congr_left fun i _ => ?_
      simp only [Function.comp_apply, Nat.succ_eq_add_one, Prod.mk.injEq, and_true]
      omega
    rw [e]
    simp only [Int.natCast_zero, Int.add_zero] at ih ⊢
    rw [ih, push_same, List.nil_append]
    congr 2; omega
theorem rGo_flow (n : Int) : ∀ (l : List Rn) (a : Int) (w : List UInt8), (∀ r ∈ l, 0 ≤ r.at_) → rGo n a w l = edGo n a w (rflow l)
  | [], a, w, _ => rfl
  | r :: l, a, w, h => by
    have ih := fun a w => rGo_flow n l a w fun x hx => h x (List.mem_cons_of_mem _ hx)
    have hr := h r (List.mem_cons_self ..)
    have hf : rflow (r :: l) = rfl1 r ++ rflow l := List.flatMap_cons
    rw [rGo, hf, rfl1]
    split
    · rw [ed_neg, ih]
    · split
      · rename_i h0
        obtain ⟨k, hk⟩ : ∃ k, r.long.toNat = k + 1 := ⟨r.long.toNat - 1, by omega⟩
        rw [hk, ed_kept _ _ _ _ _ _ hr, ih]
        congr 2; omega
      · rename_i h0
        rw [show r.long.toNat = 0 by omega, ih]; rfl
theorem rflow_app (a b : List Rn) : rflow (a ++ b) = rflow a ++ rflow b := List.flatMap_append
theorem rfl1_kept {a k : Nat} : rfl1 ⟨a, k, []⟩ = runOf a k := by
  simp only [rfl1, ne_eq, not_true_eq_false, if_false, runOf, Int.toNat_natCast]
  rw [List.range'_eq_map_range, List.map_map]
  refine List.map_congr_left fun i _ => ?_
  simp
theorem rfl1_fresh {w : List UInt8} : rfl1 ⟨0, 0, w⟩ = negL w := by
  unfold rfl1
  split
  · rfl
  · rename_i h
    have : w = [] := Classical.not_not.1 h
    subst this; rfl
theorem runs_flow (n : Nat) : ∀ (l : List Ed) (a : Nat) (B : Int), (B = a ∨ (B = -1 ∧ a = 0)) → a ≤ n → scan n B l = 0 → rflow (runsFrom n a l) = flowFrom n a l
  | [], a, B, _, ha, _ => by
    rw [runsFrom, flowFrom]
    rw [show ((n : Int) - (a : Int)) = ((n - a : Nat) : Int) by omega]
    simp only [rflow, List.flatMap_cons, List.flatMap_nil, List.append_nil]
    exact rfl1_kept
  | e :: r, a, B, hB, ha, hs => by
    obtain ⟨c1, c2, c3, c4, c5, c6⟩ := scan_cons hs
    have ih := runs_flow n r (e.at_ + e.cut).toNat (e.at_ + e.cut) (.inl (by omega)) (by omega) c6
    rw [show (((e.at_ + e.cut).toNat : Nat) : Int) = e.at_ + e.cut by omega] at ih
    rw [runsFrom, flowFrom, show e.at_ - (a : Int) = ((e.at_.toNat - a : Nat) : Int) by omega]
    simp only [rflow, List.flatMap_cons] at ih ⊢
    rw [ih, rfl1_kept, rfl1_fresh, List.append_assoc]
    rfl
def rsize (r : Rn) : Nat := max r.long.toNat r.text.length
def cutR (r : Rn) (k : Nat) : Rn := if r.text ≠ [] then ⟨0, 0, r.text.take k⟩ else ⟨r.at_, k, []⟩
def restR (r : Rn) (k : Nat) : Rn := if r.text ≠ [] then ⟨r.at_, r.long, r.text.drop k⟩ else ⟨r.at_ + k, r.long - k, []⟩
def takeO : Nat → List Rn → List Rn
  | _, [] => []
  | n, r :: l => if n = 0 then [] else if n < rsize r then [cutR r n] else cutR r (rsize r) :: takeO (n - rsize r) l
def restO : Nat → List Rn → List Rn
  | _, [] => []
  | n, r :: l => if n = 0 then r :: l else if n < rsize r then restR r n :: l else restO (n - rsize r) l
def okR (r : Rn) : Prop := 0 ≤ r.at_ ∧ 0 ≤ r.long ∧ (r.text = [] ∨ r.long = 0)
theorem rfl1_len {r : Rn} (h : okR r) : (rfl1 r).length = rsize r := by
  obtain ⟨h1, h2, h3⟩ := h
  unfold rfl1 rsize
  split
  · rename_i ht
    rcases h3 with h3 | h3
    · exact absurd h3 ht
    · rw [h3]; simp [negL]
  · rename_i ht
    have : r.text = [] := Classical.not_not.1 ht
    rw [this]; simp
theorem rfl1_cut {r : Rn} (h : okR r) {k : Nat} (hk : k ≤ rsize r) : rfl1 (cutR r k) = (rfl1 r).take k := by
  obtain ⟨h1, h2, h3⟩ := h
  unfold cutR
  by_cases ht : r.text = []
  · rw [if_neg (by simpa using ht)]
    simp only [rfl1, ht, ne_eq, not_true_eq_false, if_false, Int.toNat_natCast]
    rw [← List.map_take, List.take_range]
    congr 2
    unfold rsize at hk
    rw [ht] at hk
    simp at hk
    omega
  · rw [if_pos ht, rfl1_fresh]
    simp only [rfl1, ne_eq, ht, not_false_eq_true, if_true, negL, List.map_take]
theorem rfl1_rest {r : Rn} (h : okR r) {k : Nat} (hk : k < rsize r) : rfl1 (restR r k) = (rfl1 r).drop k ∧ okR (restR r k) := by
  obtain ⟨h1, h2, h3⟩ := h
  unfold restR
  by_cases ht : r.text = []
  · rw [if_neg (by simpa using ht)]
    unfold rsize at hk
    rw [ht] at hk
    simp at hk
    refine ⟨?_, by simp only; omega, by simp only; omega, .inl rfl⟩
    simp only [rfl1, ht, ne_eq, not_true_eq_false, if_false]
    rw [← List.map_drop]
    apply List.ext_getElem
    · simp <;> omega
    · intro i g1 g2
      simp at g1 g2 ⊢
      omega
  · rw [if_pos ht]
    have hl : r.long = 0 := by rcases h3 with h3 | h3; exact absurd h3 ht; exact h3
    refine ⟨?_, h1, h2, .inr hl⟩
    unfold rsize at hk
    rw [hl] at hk
    simp at hk
    have hd : r.text.drop k ≠ [] := by simp; omega
    simp only [rfl1, ne_eq, ht, hd, not_false_eq_true, if_true, negL, List.map_drop]
theorem take_flow : ∀ (l : List Rn) (n : Nat), (∀ r ∈ l, okR r) → rflow (takeO n l) = (rflow l).take n ∧ rflow (restO n l) = (rflow l).drop n ∧ ∀ r ∈ restO n l, okR r
  | [], n, _ => ⟨by simp [takeO, rflow], by simp [restO, rflow], fun r hr => by simp [restO] at hr⟩
  | r :: l, n, h => by
    have hr := h r (List.mem_cons_self ..)
    have hl := fun x hx => h x (List.mem_cons_of_mem r hx)
    have hf : ∀ (r : Rn) l, rflow (r :: l) = rfl1 r ++ rflow l := fun r l => List.flatMap_cons
    have hlen := rfl1_len hr
    rw [takeO, restO, hf]
    by_cases h0 : n = 0
    · subst h0
      simp only [if_true, List.take_zero, List.drop_zero]
      exact ⟨rfl, hf r l, h⟩
    · rw [if_neg h0, if_neg h0]
      by_cases h1 : n < rsize r
      · rw [if_pos h1, if_pos h1, hf, hf]
        have q := rfl1_rest hr h1
        refine ⟨?_, ?_, ?_⟩
        · rw [rfl1_cut hr (by omega), List.take_append_of_le_length (by omega)]
          simp [rflow]
        · rw [q.1, List.drop_append_of_le_length (by omega)]
        · intro x hx
          rcases List.mem_cons.1 hx with rfl | hx
          · exact q.2
          · exact hl x hx
      · rw [if_neg h1, if_neg h1, hf]
        have ih := take_flow l (n - rsize r) hl
        refine ⟨?_, ?_, ih.2.2⟩
        · rw [rfl1_cut hr (Nat.le_refl _), ih.1, List.take_append, hlen, List.take_of_length_le (l := rfl1 r) (i := rsize r) (by omega), List.take_of_length_le (l := rfl1 r) (i := n) (by omega)]
        · rw [ih.2.1, List.drop_append, hlen, List.drop_of_length_le (l := rfl1 r) (i := n) (by omega), List.nil_append]
end Go.S1N
end
section
set_option linter.unusedVariables false
set_option linter.unusedSimpArgs false
namespace Go.S1N
open Go Go.Am Go.Proofs Go.S1
set_option maxRecDepth 100000
set_option linter.unusedSimpArgs false
set_option linter.unusedVariables false
theorem ty135 : tab.ty 135 = some { td := .struct [(89, 0, true), (89, 1, true)], size := 2, bytes := 48, zero := .agg #[.slice none 0 0, .slice none 0 0], eqok := false } := by kernel_rfl
@[go_sem] theorem fa135_0p {b o : Nat} : afieldAddr tab 135 (.ptr b o) 0 = some (.ptr b (o + 0)) := by simp [afieldAddr, ty135, Tab.size, ty89]
@[go_sem] theorem fa135_1p {b o : Nat} : afieldAddr tab 135 (.ptr b o) 1 = some (.ptr b (o + 1)) := by simp [afieldAddr, ty135, Tab.size, ty89]
@[go_sem] theorem bd135 {parts : List (Nat × AV)} : abuild tab 135 parts = if parts.any (·.2.israw) = true then none else (afill (fun i => ([(0, 1), (1, 1)] : List (Nat × Nat))[i]?) [.nils, .nils] parts).map .agg := abuild_struct ty135 rfl rfl (by simp [Tab.size, ty89])
end Go.S1N
end
section
set_option linter.unusedVariables false
set_option linter.unusedSimpArgs false
namespace Go.S1N
open Go Go.Am Go.Proofs Go.S1
set_option maxRecDepth 100000
set_option linter.unusedSimpArgs false
attribute [local irreducible] lopsB lvb lstepB lfunG lcondB lguardB ldrawB ldrunB ldstepB ldguardB lmem lval ldmem ldval ldfun lexit ldloadB ldlenB lpostB athen ablock
theorem runs_own (n : Int) (v : AV) (l : List Ed) (hv : SlE v l) (hl : l.length ≤ 2000) (hn0 : 0 ≤ n) (hn : n ≤ 20000) (hsc : scan n (-1) l = 0) (s : AHeap) :
    ACall Tryz.prog 68 [.int .i64 n, v] s fun r t => r = .rs 3 (nm s.nx 0) 0 (runsFrom n 0 l).length ∧ t = loc s 1 [(0, some (.cells (rnc (runsFrom n 0 l)) (some 98)))] := by
  refine gob68 (by simp) ?_
  intro tm hlen harg
  simp +contextual only [go_sem, L68, hlen, harg, hv.len, lcondB_decide, lcondB_not, lguardB_decide_true, lguardB_decide_false, ldguardB_decide, Nat.reduceLT, Nat.reduceEqDiff, Nat.reduceAdd, Nat.reduceLeDiff, reduceIte, reduceCtorEq]
  refine ⟨Nat × Int × Int × List Rn, fun a => [(0, .int .i64 n), (5, gsv 3 (nm s.nx 0) a.2.2.2.length), (6, .int .i64 a.2.1), (9, v), (10, .int .i64 l.length), (11, .int .i64 a.1)],
    fun a => loc s 1 [(0, gso 98 (rnc a.2.2.2))], fun a => a.1 ≤ l.length ∧ a.2.2.2.length ≤ 2 * a.1 ∧ 0 ≤ a.2.1 ∧ a.2.1 ≤ n ∧ (a.2.2.1 = a.2.1 ∨ (a.2.2.1 = -1 ∧ a.2.1 = 0)) ∧ scan n a.2.2.1 (l.drop a.1) = 0 ∧ a.2.2.2 ++ runsFrom n a.2.1 (l.drop a.1) = runsFrom n 0 l,
    fun a => l.length - a.1, (0, 0, -1, []), ⟨by simp, by simp, by simp, hn0, by simp, by simpa using hsc, by simp⟩, ?_, ?_⟩
  · refine To.go [9] [(0, none)] (by simp only [rnc, List.map_nil, List.flatMap_nil, gso_nil]; rfl) (.refl s) (by decide) (by simp) ?_ ?_
    · simp +contextual only [go_sem, hlen, harg, hv.pu, pu_ren hv.pu, List.length_nil, gsv_zero, lcondB_decide, lcondB_not, lguardB_decide_true, lguardB_decide_false, ldguardB_decide, Nat.reduceLT, Nat.reduceEqDiff, Nat.reduceAdd, Nat.reduceLeDiff, reduceIte, reduceCtorEq]
      simp
    · simp only [go_sem, lcondB_decide, lcondB_not, lguardB_decide_true, lguardB_decide_false, ldguardB_decide, Nat.reduceLT, Nat.reduceEqDiff, Nat.reduceAdd, Nat.reduceLeDiff, reduceIte, reduceCtorEq]
  · rintro ⟨i, a, B, R⟩ tm1 ⟨hi, hR, ha0, ha, hB, hs, hL⟩ hlen1 hlv
    simp only [go_sem, hlen, lcondB_decide, lcondB_not, lguardB_decide_true, lguardB_decide_false, ldguardB_decide, Nat.reduceLT, Nat.reduceEqDiff, Nat.reduceAdd, Nat.reduceLeDiff, reduceIte, reduceCtorEq] at hlen1 hlv hi hR ha0 ha hB hs hL
    simp +contextual only [go_sem, hlen, hlen1, hlv, lcondB_decide, lcondB_not, lguardB_decide_true, lguardB_decide_false, ldguardB_decide, Nat.reduceLT, Nat.reduceEqDiff, Nat.reduceAdd, Nat.reduceLeDiff, reduceIte, reduceCtorEq]
    refine ⟨fun hlt => ?_, fun hge => ?_⟩
    · have hi2 : i < l.length := by omega
      have he := List.getElem?_eq_getElem hi2
      have hdrop := List.drop_eq_getElem_cons hi2
      generalize l[i] = e at he hdrop
      rw [hdrop] at hs hL
      obtain ⟨c1, c2, c3, c4, c5, c6⟩ := scan_cons hs
      have hw1 : IntKind.i64.wrap (e.at_ - a) = e.at_ - a := wrap_id (by omega)
      have hw2 : IntKind.i64.wrap (e.at_ + e.cut) = e.at_ + e.cut := wrap_id (by omega)
      have hw3 : IntKind.i64.wrap ((i : Int) + 1) = ((i + 1 : Nat) : Int) := by rw [wrap_id (by omega)]; rfl
      simp +contextual only [go_sem, hlen, hlen1, hlv, hv.at he, lcondB_decide, lcondB_not, lguardB_decide_true, lguardB_decide_false, ldguardB_decide, Nat.reduceLT, Nat.reduceEqDiff, Nat.reduceAdd, Nat.reduceLeDiff, reduceIte, reduceCtorEq]
      refine ldrawB_go [] [] 11 (by decide) ?_
      simp +contextual only [go_sem, hlen1, hlv, hw1, lcondB_decide, lcondB_not, lguardB_decide_true, lguardB_decide_false, ldguardB_decide, Nat.reduceLT, Nat.reduceEqDiff, Nat.reduceAdd, Nat.reduceLeDiff, reduceIte, reduceCtorEq]
      refine ldfun_pure _ (kept_ok _ _) ?_
      simp +contextual only [go_sem, hlen1, hlv, lcondB_decide, lcondB_not, lguardB_decide_true, lguardB_decide_false, ldguardB_decide, Nat.reduceLT, Nat.reduceEqDiff, Nat.reduceAdd, Nat.reduceLeDiff, reduceIte, reduceCtorEq]
      refine ldfun_pure _ (fresh_ok _) ?_
      simp +contextual only [go_sem, hlen1, hlv, Rn.enc, lcondB_decide, lcondB_not, lguardB_decide_true, lguardB_decide_false, ldguardB_decide, Nat.reduceLT, Nat.reduceEqDiff, Nat.reduceAdd, Nat.reduceLeDiff, reduceIte, reduceCtorEq]
      refine ⟨by kernel_rfl, ?_⟩
      refine lmem_eq (app89 (acellsOf_rs (by simp only [go_sem, lcondB_decide, lcondB_not, lguardB_decide_true, lguardB_decide_false, ldguardB_decide, Nat.reduceLT, Nat.reduceEqDiff, Nat.reduceAdd, Nat.reduceLeDiff, reduceIte, reduceCtorEq]; rfl) (by rfl) rfl) (by decide) (by simp only [go_sem, lcondB_decide, lcondB_not, lguardB_decide_true, lguardB_decide_false, ldguardB_decide, Nat.reduceLT, Nat.reduceEqDiff, Nat.reduceAdd, Nat.reduceLeDiff, reduceIte, reduceCtorEq]) (by simp only [go_sem, lcondB_decide, lcondB_not, lguardB_decide_true, lguardB_decide_false, ldguardB_decide, Nat.reduceLT, Nat.reduceEqDiff, Nat.reduceAdd, Nat.reduceLeDiff, reduceIte, reduceCtorEq]) (rnc_len R) (by omega) rfl) ?_
      simp +contextual only [go_sem, hlen1, hlv, hw2, hw3, lcondB_decide, lcondB_not, lguardB_decide_true, lguardB_decide_false, ldguardB_decide, Nat.reduceLT, Nat.reduceEqDiff, Nat.reduceAdd, Nat.reduceLeDiff, reduceIte, reduceCtorEq]
      refine ⟨(i + 1, e.at_ + e.cut, e.at_ + e.cut, R ++ [⟨a, e.at_ - a, []⟩, ⟨0, 0, e.new⟩]), ⟨by simp only; omega, by simp only [List.length_append, List.length_cons, List.length_nil]; omega, by simp only; omega, by simp only; omega, .inl rfl, c6, ?_⟩, by simp only; omega, ?_⟩
      · rw [← hL]
        simp only [runsFrom, List.append_assoc, List.cons_append, List.nil_append]
      · refine To.go [14] [(0, gso 98 (rnc (R ++ [⟨a, e.at_ - a, []⟩, ⟨0, 0, e.new⟩])))] rfl (.refl s) (by decide) (by simp) ?_ ?_
        · simp +contextual only [go_sem, hlen1, hlv, pu_ren hv.pu, List.length_append, gsv_pos (Nat.succ_ne_zero (R.length + 1)), lcondB_decide, lcondB_not, lguardB_decide_true, lguardB_decide_false, ldguardB_decide, Nat.reduceLT, Nat.reduceEqDiff, Nat.reduceAdd, Nat.reduceLeDiff, reduceIte, reduceCtorEq]
        · simp only [go_sem, map_gso_pu (rnc_pul _), lcondB_decide, lcondB_not, lguardB_decide_true, lguardB_decide_false, ldguardB_decide, Nat.reduceLT, Nat.reduceEqDiff, Nat.reduceAdd, Nat.reduceLeDiff, reduceIte, reduceCtorEq]
          rw [show R ++ [⟨a, e.at_ - a, []⟩, ⟨0, 0, e.new⟩] = (R ++ [⟨a, e.at_ - a, []⟩]) ++ [⟨0, 0, e.new⟩] from by simp, rnc_snoc, rnc_snoc, List.append_assoc]
          exact (gso_pos (by simp)).symm
    · have hi2 : i = l.length := by omega
      have hw1 : IntKind.i64.wrap (n - a) = n - a := wrap_id (by omega)
      rw [hi2, List.drop_length, runsFrom] at hL
      simp +contextual only [go_sem, hlen1, hlv, hw1, lcondB_decide, lcondB_not, lguardB_decide_true, lguardB_decide_false, ldguardB_decide, Nat.reduceLT, Nat.reduceEqDiff, Nat.reduceAdd, Nat.reduceLeDiff, reduceIte, reduceCtorEq]
      refine lfunG_eq (kept_ok _ _ _) ?_
      simp +contextual only [go_sem, hlen1, hlv, Rn.enc, lcondB_decide, lcondB_not, lguardB_decide_true, lguardB_decide_false, ldguardB_decide, Nat.reduceLT, Nat.reduceEqDiff, Nat.reduceAdd, Nat.reduceLeDiff, reduceIte, reduceCtorEq]
      refine lmem_eq (app89 (acellsOf_rs (by simp only [go_sem, lcondB_decide, lcondB_not, lguardB_decide_true, lguardB_decide_false, ldguardB_decide, Nat.reduceLT, Nat.reduceEqDiff, Nat.reduceAdd, Nat.reduceLeDiff, reduceIte, reduceCtorEq]; rfl) (by rfl) rfl) (by decide) (by simp only [go_sem, lcondB_decide, lcondB_not, lguardB_decide_true, lguardB_decide_false, ldguardB_decide, Nat.reduceLT, Nat.reduceEqDiff, Nat.reduceAdd, Nat.reduceLeDiff, reduceIte, reduceCtorEq]) (by simp only [go_sem, lcondB_decide, lcondB_not, lguardB_decide_true, lguardB_decide_false, ldguardB_decide, Nat.reduceLT, Nat.reduceEqDiff, Nat.reduceAdd, Nat.reduceLeDiff, reduceIte, reduceCtorEq]) (rnc_len R) (by omega) rfl) ?_
      simp +contextual only [go_sem, hlen1, hlv, lcondB_decide, lcondB_not, lguardB_decide_true, lguardB_decide_false, ldguardB_decide, Nat.reduceLT, Nat.reduceEqDiff, Nat.reduceAdd, Nat.reduceLeDiff, reduceIte, reduceCtorEq]
      refine lexit_ren [2] (.refl s) (by decide) (v' := .rs 3 (nm s.nx 0) 0 (runsFrom n 0 l).length) (l' := [(0, some (.cells (rnc (runsFrom n 0 l)) (some 98)))]) ?_ ?_ ⟨rfl, rfl⟩
      · simp only [go_sem, lcondB_decide, lcondB_not, lguardB_decide_true, lguardB_decide_false, ldguardB_decide, Nat.reduceLT, Nat.reduceEqDiff, Nat.reduceAdd, Nat.reduceLeDiff, reduceIte, reduceCtorEq]
        rw [← hL, List.length_append]; rfl
      · simp only [go_sem, pul_ren (rnc_pul _), lcondB_decide, lcondB_not, lguardB_decide_true, lguardB_decide_false, ldguardB_decide, Nat.reduceLT, Nat.reduceEqDiff, Nat.reduceAdd, Nat.reduceLeDiff, reduceIte, reduceCtorEq]
        rw [← hL, rnc_snoc]
theorem loc_loc0 {s : AHeap} {n : Nat} {l : List (Nat × Option AObj)} : loc (loc s 0 []) n l = loc s n l := by
  have h2 : ∀ b, b < s.nx → (loc s 0 []).get b = s.get b := fun b hb => get_loc_out hb
  show AHeap.mk ((loc s 0 []).nx + n) true .nil (fun b => if b < (loc s 0 []).nx then (loc s 0 []).get b else lget l (b - (loc s 0 []).nx)) = AHeap.mk (s.nx + n) true .nil (fun b => if b < s.nx then s.get b else lget l (b - s.nx))
  congr 1
  funext b
  show (if b < s.nx then (loc s 0 []).get b else lget l (b - s.nx)) = if b < s.nx then s.get b else lget l (b - s.nx)
  by_cases hb : b < s.nx
  · rw [if_pos hb, if_pos hb, h2 b hb]
  · rw [if_neg hb, if_neg hb]
theorem runs_own' (n : Int) (v : AV) (l : List Ed) (hv : SlE v l) (hl : l.length ≤ 2000) (hn0 : 0 ≤ n) (hn : n ≤ 20000) (hsc : scan n (-1) l = 0) (s : AHeap) :
    ACall Tryz.prog 68 [.int .i64 n, v] (loc s 0 []) fun r t => r = .rs 3 (nm s.nx 0) 0 (runsFrom n 0 l).length ∧ t = loc s 1 [(0, some (.cells (rnc (runsFrom n 0 l)) (some 98)))] := by
  refine (runs_own n v l hv hl hn0 hn hsc (loc s 0 [])).mono ?_
  rintro r t ⟨rfl, rfl⟩
  exact ⟨rfl, loc_loc0⟩
def Rn.emp (r : Rn) : Prop := r.long = 0 ∧ r.text = []
instance (r : Rn) : Decidable r.emp := inferInstanceAs (Decidable (_ ∧ _))
theorem emp_ok (r : Rn) (s : AHeap) : ACall Tryz.prog 69 [Rn.enc r] s fun v t => v = .bool (decide r.emp) ∧ t = s := by
  refine gob69 (by simp) ?_
  intro tm hlen harg
  simp +contextual only [go_sem, L69, hlen, harg, Rn.enc, lcondB_decide, lcondB_not, lguardB_decide_true, lguardB_decide_false, ldguardB_decide, Nat.reduceLT, Nat.reduceEqDiff, Nat.reduceAdd, Nat.reduceLeDiff, reduceIte, reduceCtorEq]
  refine ⟨fun h => ?_, fun h => ?_⟩
  · exact lexit_pure (.refl s) (by simp only [low]) ⟨by simp only [Rn.emp, h, true_and], rfl⟩
  · exact lexit_pure (.refl s) (by simp only [low]) ⟨by simp only [Rn.emp, h, false_and, decide_false], rfl⟩
theorem rnc_cons (r : Rn) (l : List Rn) : rnc (r :: l) = .int .i64 r.at_ :: .int .i64 r.long :: .str r.text :: rnc l := rfl
theorem rnc_app (a b : List Rn) : rnc (a ++ b) = rnc a ++ rnc b := by simp [rnc]
theorem rnc_drop : ∀ (j : Nat) (l : List Rn), (rnc l).drop (j * 3) = rnc (l.drop j)
  | 0, l => by simp
  | j + 1, [] => by simp [rnc]
  | j + 1, r :: l => by
    rw [rnc_cons, show (j + 1) * 3 = j * 3 + 1 + 1 + 1 by omega, List.drop_succ_cons, List.drop_succ_cons, List.drop_succ_cons, List.drop_succ_cons]
    exact rnc_drop j l
theorem index_ok {s : AHeap} {b : Nat} {L : List Rn} (hb : s.get b = some (.cells (rnc L) (some 98))) (hlt : b < s.nx) (hL : L.length ≤ 1000000000) :
    ACall Tryz.prog 93 [.rs 3 b 0 L.length, .func (.func 69) [] []] s fun r t => ((r = .int .i64 (-1) ∧ ∀ x ∈ L, ¬ x.emp) ∨ ∃ k : Nat, r = .int .i64 k ∧ k < L.length ∧ (∀ x ∈ L.take k, ¬ x.emp) ∧ ∃ x, L[k]? = some x ∧ x.emp) ∧ t = s := by
  refine gob93 (by simp) ?_
  intro tm hlen harg
  simp +contextual only [go_sem, L93, hlen, harg, lcondB_decide, lcondB_not, lguardB_decide_true, lguardB_decide_false, ldguardB_decide, Nat.reduceLT, Nat.reduceEqDiff, Nat.reduceAdd, Nat.reduceLeDiff, reduceIte, reduceCtorEq]
  refine ⟨Nat, fun j => [(0, .rs 3 b 0 L.length), (1, .func (.func 69) [] []), (7, .int .i64 L.length), (8, .int .i64 j)], fun j => loc s 0 [], fun j => j ≤ L.length ∧ ∀ x ∈ L.take j, ¬ x.emp, fun j => L.length - j, 0, by simp, ?_, ?_⟩
  · refine To.go [] [] rfl (.refl s) (by decide) (by simp) ?_ trivial
    simp +contextual only [go_sem, hlen, harg, rnm_low hlt, lcondB_decide, lcondB_not, lguardB_decide_true, lguardB_decide_false, ldguardB_decide, Nat.reduceLT, Nat.reduceEqDiff, Nat.reduceAdd, Nat.reduceLeDiff, reduceIte, reduceCtorEq]
    simp
  · rintro j tm1 ⟨hj, hx⟩ hlen1 hlv
    simp only [go_sem, hlen, lcondB_decide, lcondB_not, lguardB_decide_true, lguardB_decide_false, ldguardB_decide, Nat.reduceLT, Nat.reduceEqDiff, Nat.reduceAdd, Nat.reduceLeDiff, reduceIte, reduceCtorEq] at hlen1 hlv
    simp +contextual only [go_sem, hlen, hlen1, hlv, lcondB_decide, lcondB_not, lguardB_decide_true, lguardB_decide_false, ldguardB_decide, Nat.reduceLT, Nat.reduceEqDiff, Nat.reduceAdd, Nat.reduceLeDiff, reduceIte, reduceCtorEq]
    refine ⟨fun hl => ?_, fun hge => ?_⟩
    · have hj2 : j < L.length := by omega
      have he := List.getElem?_eq_getElem hj2
      have hdrop := List.drop_eq_getElem_cons hj2
      generalize L[j] = r at he hdrop
      have hd : (rnc L).drop (j * 3) = .int .i64 r.at_ :: .int .i64 r.long :: .str r.text :: rnc (L.drop (j + 1)) := by rw [rnc_drop, hdrop, rnc_cons]
      have hw3 : IntKind.i64.wrap ((j : Int) + 1) = ((j + 1 : Nat) : Int) := by rw [wrap_id (by omega)]; rfl
      have hix : aindexAddr tab 89 (.rs 3 b 0 L.length) (.int .i64 j) = some (.ptr b (j * 3)) := by
        have := ix89r (b := b) (o := 0) (m := L.length) (n := j) (by omega) (by omega)
        simpa using this
      simp +contextual only [go_sem, hlen1, hlv, hix, hb, hlt, hd, lcondB_decide, lcondB_not, lguardB_decide_true, lguardB_decide_false, ldguardB_decide, Nat.reduceLT, Nat.reduceEqDiff, Nat.reduceAdd, Nat.reduceLeDiff, reduceIte, reduceCtorEq]
      refine lfunG_eq (emp_ok r _) ?_
      simp +contextual only [go_sem, hlen1, hlv, hw3, lcondB_decide, lcondB_not, lguardB_decide_true, lguardB_decide_false, ldguardB_decide, Nat.reduceLT, Nat.reduceEqDiff, Nat.reduceAdd, Nat.reduceLeDiff, reduceIte, reduceCtorEq]
      refine ⟨fun hemp => ?_, fun hemp => ?_⟩
      · exact lexit_pure (.refl s) (by simp only [low]) ⟨.inr ⟨j, rfl, hj2, hx, r, he, hemp⟩, rfl⟩
      · refine ⟨j + 1, ⟨by omega, ?_⟩, by omega, ?_⟩
        · intro x hm
          rw [List.take_add_one, he] at hm
          rcases List.mem_append.1 hm with q | q
          · exact hx x q
          · have : x = r := by simpa using q
            rw [this]; exact hemp
        · refine To.go [] [] rfl (.refl s) (by decide) (by simp) ?_ trivial
          simp +contextual only [go_sem, hlen1, hlv, rnm_low hlt, lcondB_decide, lcondB_not, lguardB_decide_true, lguardB_decide_false, ldguardB_decide, Nat.reduceLT, Nat.reduceEqDiff, Nat.reduceAdd, Nat.reduceLeDiff, reduceIte, reduceCtorEq]
    · have hj2 : j = L.length := by omega
      rw [hj2, List.take_length] at hx
      exact lexit_pure (.refl s) (by simp only [low]) ⟨.inl ⟨rfl, hx⟩, rfl⟩
structure LB (C : List AV) (off : Nat) (R : List Rn) : Prop where
  pu : PuL C
  rest : ∃ J, C.drop off = rnc R ++ J
theorem LB.head {C : List AV} {off : Nat} {r : Rn} {R : List Rn} (h : LB C off (r :: R)) : ∃ T, C.drop off = .int .i64 r.at_ :: .int .i64 r.long :: .str r.text :: T := by
  obtain ⟨J, hJ⟩ := h.rest
  exact ⟨rnc R ++ J, by rw [hJ, rnc_cons]; rfl⟩
theorem LB.le {C : List AV} {off : Nat} {r : Rn} {R : List Rn} (h : LB C off (r :: R)) : off + 3 ≤ C.length := by
  obtain ⟨T, hT⟩ := h.head
  have := congrArg List.length hT
  simp only [List.length_drop, List.length_cons] at this
  omega
theorem LB.tail {C : List AV} {off : Nat} {r : Rn} {R : List Rn} (h : LB C off (r :: R)) : LB C (off + 3) R := by
  obtain ⟨J, hJ⟩ := h.rest
  refine ⟨h.pu, J, ?_⟩
  rw [show off + 3 = off + 3 from rfl, ← List.drop_drop, hJ, rnc_cons]
  rfl
theorem pul_set {C : List AV} (h : PuL C) (i : Nat) {v : AV} (hv : low 0 v) : PuL (C.set i v) := by
  unfold PuL at *
  rw [lowL_iff] at *
  intro x hx
  rcases List.mem_or_eq_of_mem_set hx with q | rfl
  · exact h x q
  · exact hv
theorem drop_set_at {C : List AV} (off k : Nat) (v : AV) : (C.set (off + k) v).drop off = (C.drop off).set k v := by
  rw [List.drop_set, if_neg (by omega), Nat.add_sub_cancel_left]
theorem LB.text {C : List AV} {off : Nat} {r : Rn} {R : List Rn} (h : LB C off (r :: R)) (x : List UInt8) : LB (C.set (off + 2) (.str x)) off (⟨r.at_, r.long, x⟩ :: R) := by
  obtain ⟨J, hJ⟩ := h.rest
  refine ⟨pul_set h.pu _ (by simp only [low]), J, ?_⟩
  rw [drop_set_at, hJ, rnc_cons, rnc_cons]
  rfl
theorem LB.set {C : List AV} {off : Nat} {r : Rn} {R : List Rn} (h : LB C off (r :: R)) (a b : Int) (x : List UInt8) : LB (((C.set off (.int .i64 a)).set (off + 1) (.int .i64 b)).set (off + 1 + 1) (.str x)) off (⟨a, b, x⟩ :: R) := by
  obtain ⟨J, hJ⟩ := h.rest
  refine ⟨pul_set (pul_set (pul_set h.pu _ (by simp only [low])) _ (by simp only [low])) _ (by simp only [low]), J, ?_⟩
  rw [show off + 1 + 1 = off + 2 from rfl, drop_set_at, drop_set_at, show C.set off (.int .i64 a) = C.set (off + 0) (.int .i64 a) from rfl, drop_set_at, hJ, rnc_cons, rnc_cons]
  rfl
end Go.S1N
end
section
set_option linter.unusedVariables false
set_option linter.unusedSimpArgs false
namespace Go.S1N
open Go Go.Am Go.Proofs Go.S1
set_option maxRecDepth 100000
set_option linter.unusedSimpArgs false
attribute [local irreducible] lopsB lvb lstepB lfunG lcondB lguardB ldrawB ldrunB ldstepB ldguardB lmem lval ldmem ldval ldfun lexit ldloadB ldlenB lpostB athen ablock
theorem splice_take : ∀ (vs c : List AV) (off : Nat), (splice c off vs).take off = c.take off
  | [], c, off => rfl
  | v :: vs, c, off => by
    rw [splice]
    have ih := splice_take vs (c.set off v) (off + 1)
    have := congrArg (List.take off) ih
    rw [List.take_take, List.take_take, Nat.min_eq_left (by omega)] at this
    rw [this, List.take_set_of_le (Nat.le_refl _)]
theorem splice_pul : ∀ (vs c : List AV) (off : Nat), PuL c → PuL vs → PuL (splice c off vs)
  | [], c, off, h, _ => h
  | v :: vs, c, off, h, hv => by
    rw [splice]
    simp only [PuL, lowL] at hv
    exact splice_pul vs _ _ (pul_set h _ hv.1) hv.2
theorem set3 {D : List AV} {i : Nat} (h : i + 3 ≤ D.length) (a b c : AV) : ((D.set i a).set (i + 1) b).set (i + 1 + 1) c = D.take i ++ a :: b :: c :: D.drop (i + 3) := by
  obtain ⟨X, y0, y1, y2, Z, rfl, rfl⟩ : ∃ X y0 y1 y2 Z, D = X ++ y0 :: y1 :: y2 :: Z ∧ i = X.length := by
    have h1 := List.take_append_drop i D
    have hl : (D.drop i).length = D.length - i := List.length_drop ..
    match hd : D.drop i with
    | [] => rw [hd] at hl; simp at hl; omega
    | [_] => rw [hd] at hl; simp at hl; omega
    | [_, _] => rw [hd] at hl; simp at hl; omega
    | y0 :: y1 :: y2 :: Z => exact ⟨D.take i, y0, y1, y2, Z, by rw [← hd, h1], by rw [List.length_take]; omega⟩
  simp [List.set_append]
  rw [if_neg (by omega), show X.length + 1 + 1 - X.length = 2 by omega]; rfl
theorem sl108_lo {b m i : Nat} (h : i ≤ m) : aslice tab 89 (.rs 3 b 0 m) (some (.int .i64 i)) none none = some (.rs 3 b (i * 3) (m - i)) := by
  simp [aslice, ty89, Tab.size, ty98, abounds, aidx, h]
theorem sl108_hi {b m i : Nat} (h : i ≤ m) : aslice tab 89 (.rs 3 b 0 m) none (some (.int .i64 i)) none = some (.rs 3 b 0 i) := by
  simp [aslice, ty89, Tab.size, ty98, abounds, aidx, h]
theorem clear108 {s : AHeap} {n k i m : Nat} {l : List (Nat × Option AObj)} {D : List AV} (hl : lget l k = some (.cells D (some 98))) (h : i * 3 + m * 3 ≤ D.length) (hm : m ≠ 0) :
    lclear tab 89 (.rs 3 (nm s.nx k) (i * 3) m) (loc s n l) = some (.tuple [], loc s n (lput l k (.cells (splice D (i * 3) (List.replicate m [.int .i64 0, .int .i64 0, .str []]).flatten) (some 98)))) := by
  simp only [lclear, ty89, aclear, ty98]
  have hz : (AV.ofV (Value.agg #[Value.int IntKind.i64 0, Value.int IntKind.i64 0, Value.string { data := #[] }])).cells = [.int .i64 0, .int .i64 0, .str []] := rfl
  rw [if_neg (by decide), if_neg hm, get_loc_nm, hl]
  simp only [AObj.cells?, hz]
  rw [if_pos ⟨trivial, h, rfl⟩, upd_loc_nm]
def live (L : List Rn) : List Rn := L.filter fun x => !decide x.emp
theorem del_ok {s : AHeap} {L : List Rn} (hL : L.length ≤ 1000000000) : ACall Tryz.prog 67 [.rs 3 (nm s.nx 0) 0 L.length, .func (.func 69) [] []] (loc s 1 [(0, some (.cells (rnc L) (some 98)))])
    fun r t => ∃ C, LB C 0 (live L) ∧ r = .rs 3 (nm s.nx 0) 0 (live L).length ∧ t = loc s 1 [(0, some (.cells C (some 98)))] := by
  refine gob67 (by simp) ?_
  intro tm hlen harg
  rw [loc_flat (by intro j hj; simp only [lget]; rw [if_neg (by omega)])]
  simp +contextual only [go_sem, L67, hlen, harg, lcondB_decide, lcondB_not, lguardB_decide_true, lguardB_decide_false, ldguardB_decide, Nat.reduceLT, Nat.reduceEqDiff, Nat.reduceAdd, Nat.reduceLeDiff, reduceIte, reduceCtorEq]
  refine lfunG_of (index_ok (L := L) (by simp only [go_sem, lcondB_decide, lcondB_not, lguardB_decide_true, lguardB_decide_false, ldguardB_decide, Nat.reduceLT, Nat.reduceEqDiff, Nat.reduceAdd, Nat.reduceLeDiff, reduceIte, reduceCtorEq]) (by simp only [go_sem, lcondB_decide, lcondB_not, lguardB_decide_true, lguardB_decide_false, ldguardB_decide, Nat.reduceLT, Nat.reduceEqDiff, Nat.reduceAdd, Nat.reduceLeDiff, reduceIte, reduceCtorEq]) hL) ?_
  rintro v t ⟨⟨rfl, hno⟩ | ⟨k, rfl, hk, hno, x, hx, hemp⟩, rfl⟩
  · simp +contextual only [go_sem, hlen, harg, lcondB_decide, lcondB_not, lguardB_decide_true, lguardB_decide_false, ldguardB_decide, Nat.reduceLT, Nat.reduceEqDiff, Nat.reduceAdd, Nat.reduceLeDiff, reduceIte, reduceCtorEq]
    have hf : live L = L := List.filter_eq_self.2 fun x hx => by simp [hno x hx]
    refine lexit_now ⟨rnc L, ⟨rnc_pul L, [], by rw [hf]; simp⟩, by rw [hf], rfl⟩
  · have hw1 : IntKind.i64.wrap ((k : Int) + 1) = ((k + 1 : Nat) : Int) := by rw [wrap_id (by omega)]; rfl
    simp +contextual only [go_sem, hlen, harg, hw1, lcondB_decide, lcondB_not, lguardB_decide_true, lguardB_decide_false, ldguardB_decide, Nat.reduceLT, Nat.reduceEqDiff, Nat.reduceAdd, Nat.reduceLeDiff, reduceIte, reduceCtorEq]
    have hxs := List.drop_eq_getElem_cons hk
    rw [List.getElem?_eq_getElem hk] at hx
    cases hx
    have hlive : L.take k ++ (L.drop (k + 1)).filter (fun x => !decide x.emp) = live L := by
      unfold live
      have hft : (L.take k).filter (fun x => !decide x.emp) = L.take k := List.filter_eq_self.2 fun x hx => by simp [hno x hx]
      conv => rhs; rw [← List.take_append_drop k L, hxs, List.filter_append, List.filter_cons]
      rw [if_neg (by simp [hemp]), hft]
    have hwi : IntKind.i64.wrap ((k : Int)) = (k : Int) := wrap_id (by omega)
    refine ⟨Nat × List Rn × List AV, fun a => [(0, .rs 3 (nm s.nx 0) 0 L.length), (1, .func (.func 69) [] []), (5, .int .i64 a.2.1.length), (6, .int .i64 a.1)], fun a => loc s 1 [(0, some (.cells a.2.2 (some 98)))],
      fun a => a.1 ≤ L.length ∧ a.2.1.length < a.1 ∧ a.2.1 ++ (L.drop a.1).filter (fun x => !decide x.emp) = live L ∧ a.2.2.length = L.length * 3 ∧ a.2.2.take (a.2.1.length * 3) = rnc a.2.1 ∧ a.2.2.drop (a.1 * 3) = rnc (L.drop a.1) ∧ PuL a.2.2,
      fun a => L.length - a.1, (k + 1, L.take k, rnc L), ⟨by simp only; omega, by simp only [List.length_take]; omega, hlive, rnc_len L, ?_, rnc_drop _ _, rnc_pul L⟩, ?_, ?_⟩
    · simp only [List.length_take, Nat.min_eq_left (Nat.le_of_lt hk)]
      conv => lhs; rw [← List.take_append_drop k L, rnc_app]
      rw [List.take_append_of_le_length (by rw [rnc_len, List.length_take]; omega), List.take_of_length_le (by rw [rnc_len, List.length_take]; omega)]
    · refine To.goK [0] _ rfl rfl (.refl s) (by decide) (by decide) (by simp) ?_ ?_
      · simp +contextual only [go_sem, hlen, harg, List.length_take, Nat.min_eq_left (Nat.le_of_lt hk), lcondB_decide, lcondB_not, lguardB_decide_true, lguardB_decide_false, ldguardB_decide, Nat.reduceLT, Nat.reduceEqDiff, Nat.reduceAdd, Nat.reduceLeDiff, reduceIte, reduceCtorEq]
      · simp only [go_sem, pul_ren (rnc_pul _), lcondB_decide, lcondB_not, lguardB_decide_true, lguardB_decide_false, ldguardB_decide, Nat.reduceLT, Nat.reduceEqDiff, Nat.reduceAdd, Nat.reduceLeDiff, reduceIte, reduceCtorEq]
    · rintro ⟨j, F, D⟩ tm1 ⟨hj, hF, hl, hDl, hDt, hDd, hDp⟩ hlen1 hlv
      simp only [go_sem, hlen, lcondB_decide, lcondB_not, lguardB_decide_true, lguardB_decide_false, ldguardB_decide, Nat.reduceLT, Nat.reduceEqDiff, Nat.reduceAdd, Nat.reduceLeDiff, reduceIte, reduceCtorEq] at hlen1 hlv hj hF hl hDl hDt hDd hDp
      simp +contextual only [go_sem, hlen, hlen1, hlv, lcondB_decide, lcondB_not, lguardB_decide_true, lguardB_decide_false, ldguardB_decide, Nat.reduceLT, Nat.reduceEqDiff, Nat.reduceAdd, Nat.reduceLeDiff, reduceIte, reduceCtorEq]
      refine ⟨fun hlt => ?_, fun hge => ?_⟩
      · have hj2 : j < L.length := by omega
        have he := List.getElem?_eq_getElem hj2
        have hdrop := List.drop_eq_getElem_cons hj2
        generalize L[j] = r at he hdrop
        rw [hdrop] at hl hDd
        have hd : D.drop (j * 3) = .int .i64 r.at_ :: .int .i64 r.long :: .str r.text :: rnc (L.drop (j + 1)) := by rw [hDd, rnc_cons]
        have hd1 : D.drop ((j + 1) * 3) = rnc (L.drop (j + 1)) := by
          rw [show (j + 1) * 3 = j * 3 + 3 by omega, ← List.drop_drop, hd]; rfl
        have hw3 : IntKind.i64.wrap ((j : Int) + 1) = ((j + 1 : Nat) : Int) := by rw [wrap_id (by omega)]; rfl
        have hw4 : IntKind.i64.wrap ((F.length : Int) + 1) = ((F.length + 1 : Nat) : Int) := by rw [wrap_id (by omega)]; rfl
        have hix : ∀ i : Nat, i < L.length → aindexAddr tab 89 (.rs 3 (nm s.nx 0) 0 L.length) (.int .i64 i) = some (.ptr (nm s.nx 0) (i * 3)) := by
          intro i hi
          have := ix89r (b := nm s.nx 0) (o := 0) (m := L.length) (n := i) (by omega) (by omega)
          simpa using this
        simp +contextual only [go_sem, hlen1, hlv, hix j hj2, hd, lcondB_decide, lcondB_not, lguardB_decide_true, lguardB_decide_false, ldguardB_decide, Nat.reduceLT, Nat.reduceEqDiff, Nat.reduceAdd, Nat.reduceLeDiff, reduceIte, reduceCtorEq]
        refine lfunG_eq (emp_ok r _) ?_
        simp +contextual only [go_sem, hlen1, hlv, hw3, hw4, hix F.length (by omega), show F.length * 3 + 3 ≤ D.length by omega, lcondB_decide, lcondB_not, lguardB_decide_true, lguardB_decide_false, ldguardB_decide, Nat.reduceLT, Nat.reduceEqDiff, Nat.reduceAdd, Nat.reduceLeDiff, reduceIte, reduceCtorEq]
        refine ⟨fun hemp => ?_, fun hemp => ?_⟩
        · obtain ⟨D', hD', g1, g2, g3, g4⟩ : ∃ D', ((D.set (F.length * 3) (.int .i64 r.at_)).set (F.length * 3 + 1) (.int .i64 r.long)).set (F.length * 3 + 1 + 1) (.str r.text) = D' ∧ D'.length = L.length * 3 ∧
              D'.take ((F ++ [r]).length * 3) = rnc (F ++ [r]) ∧ D'.drop ((j + 1) * 3) = rnc (L.drop (j + 1)) ∧ PuL D' := by
            refine ⟨_, rfl, ?_, ?_, ?_, ?_⟩
            · simp only [List.length_set, hDl]
            · rw [set3 (by omega), hDt, rnc_snoc, show ∀ a b c Z, rnc F ++ a :: b :: c :: Z = (rnc F ++ [a, b, c]) ++ Z from fun a b c Z => by simp, List.take_left' (by simp [rnc_len]; omega)]
            · rw [List.drop_set, if_pos (by omega), List.drop_set, if_pos (by omega), List.drop_set, if_pos (by omega), hd1]
            · exact pul_set (pul_set (pul_set hDp _ (by simp only [low])) _ (by simp only [low])) _ (by simp only [low])
          rw [hD']
          refine ⟨(j + 1, F ++ [r], D'), ⟨by simp only; omega, by simp only [List.length_append, List.length_singleton]; omega, ?_, g1, g2, g3, g4⟩, by simp only; omega, ?_⟩
          · rw [← hl, List.filter_cons, if_pos (by simp [hemp])]
            simp
          · refine To.goK [0] [(0, some (.cells D' (some 98)))] rfl rfl (.refl s) (by decide) (by decide) (by simp) ?_ ?_
            · simp +contextual only [go_sem, hlen1, hlv, List.length_append, lcondB_decide, lcondB_not, lguardB_decide_true, lguardB_decide_false, ldguardB_decide, Nat.reduceLT, Nat.reduceEqDiff, Nat.reduceAdd, Nat.reduceLeDiff, reduceIte, reduceCtorEq]
            · simp only [go_sem, pul_ren g4, lcondB_decide, lcondB_not, lguardB_decide_true, lguardB_decide_false, ldguardB_decide, Nat.reduceLT, Nat.reduceEqDiff, Nat.reduceAdd, Nat.reduceLeDiff, reduceIte, reduceCtorEq]
        · refine ⟨(j + 1, F, D), ⟨by simp only; omega, by simp only; omega, ?_, hDl, hDt, hd1, hDp⟩, by simp only; omega, ?_⟩
          · rw [← hl, List.filter_cons, if_neg (by simp [hemp])]
          · refine To.goK [0] [(0, some (.cells D (some 98)))] rfl rfl (.refl s) (by decide) (by decide) (by simp) ?_ ?_
            · simp +contextual only [go_sem, hlen1, hlv, lcondB_decide, lcondB_not, lguardB_decide_true, lguardB_decide_false, ldguardB_decide, Nat.reduceLT, Nat.reduceEqDiff, Nat.reduceAdd, Nat.reduceLeDiff, reduceIte, reduceCtorEq]
            · simp only [go_sem, pul_ren hDp, lcondB_decide, lcondB_not, lguardB_decide_true, lguardB_decide_false, ldguardB_decide, Nat.reduceLT, Nat.reduceEqDiff, Nat.reduceAdd, Nat.reduceLeDiff, reduceIte, reduceCtorEq]
      · have hj2 : j = L.length := by omega
        rw [hj2, List.drop_length, List.filter_nil, List.append_nil] at hl
        simp +contextual only [go_sem, hlen1, hlv, sl108_lo (show F.length ≤ L.length by omega), lcondB_decide, lcondB_not, lguardB_decide_true, lguardB_decide_false, ldguardB_decide, Nat.reduceLT, Nat.reduceEqDiff, Nat.reduceAdd, Nat.reduceLeDiff, reduceIte, reduceCtorEq]
        refine lmem_eq (clear108 (l := [(0, some (.cells D (some 98)))]) rfl (by omega) (by omega)) ?_
        simp +contextual only [go_sem, hlen1, hlv, sl108_hi (show F.length ≤ L.length by omega), lcondB_decide, lcondB_not, lguardB_decide_true, lguardB_decide_false, ldguardB_decide, Nat.reduceLT, Nat.reduceEqDiff, Nat.reduceAdd, Nat.reduceLeDiff, reduceIte, reduceCtorEq]
        refine lexit_now ⟨_, ⟨splice_pul _ _ _ hDp ?_, (splice D (F.length * 3) (List.replicate (L.length - F.length) [AV.int IntKind.i64 0, AV.int IntKind.i64 0, AV.str []]).flatten).drop (F.length * 3), ?_⟩, by rw [← hl], rfl⟩
        · unfold PuL
          rw [lowL_iff]
          intro x hx
          obtain ⟨y, hy, hx⟩ := List.mem_flatten.1 hx
          rw [(List.mem_replicate.1 hy).2] at hx
          simp only [List.mem_cons, List.not_mem_nil, or_false] at hx
          rcases hx with rfl | rfl | rfl <;> simp only [low]
        · rw [List.drop_zero, ← hl, ← hDt, ← splice_take (List.replicate (L.length - F.length) [AV.int IntKind.i64 0, AV.int IntKind.i64 0, AV.str []]).flatten, List.take_append_drop]
end Go.S1N
end
section
set_option linter.unusedVariables false
set_option linter.unusedSimpArgs false
namespace Go.S1N
open Go Go.Am Go.Proofs Go.S1
set_option maxRecDepth 100000
set_option linter.unusedSimpArgs false
attribute [local irreducible] lopsB lvb lstepB lfunG lcondB lguardB ldrawB ldrunB ldstepB ldguardB lmem lval ldmem ldval ldfun lexit ldloadB ldlenB lpostB athen ablock
theorem ix89z {b o m : Nat} : aindexAddr tab 89 (.rs 3 b o (m + 1)) (.int .i64 0) = some (.ptr b o) := by
  rw [ix89r (by omega) (by omega)]; rfl
theorem sl108_1 {b o m : Nat} : aslice tab 89 (.rs 3 b o (m + 1)) (some (.int .i64 1)) none none = some (.rs 3 b (o + 3) m) := by
  simp [aslice, ty89, Tab.size, ty98, abounds, aidx, show (1 : Int) ≤ (m : Int) + 1 by omega]
def tot : List Rn → Nat
  | [] => 0
  | r :: R => rsize r + tot R
structure RB (r : Rn) : Prop where
  ok : okR r
  pos : 0 < rsize r
  lo : 0 ≤ r.at_
  hi : r.at_ + r.long ≤ 1000000000
theorem takeO_cons {n : Nat} {r : Rn} {R : List Rn} (h0 : n ≠ 0) (h : rsize r ≤ n) : takeO n (r :: R) = cutR r (rsize r) :: takeO (n - rsize r) R := by rw [takeO, if_neg h0, if_neg (by omega)]
theorem restO_cons {n : Nat} {r : Rn} {R : List Rn} (h0 : n ≠ 0) (h : rsize r ≤ n) : restO n (r :: R) = restO (n - rsize r) R := by rw [restO, if_neg h0, if_neg (by omega)]
theorem takeO_lt {n : Nat} {r : Rn} {R : List Rn} (h0 : n ≠ 0) (h : n < rsize r) : takeO n (r :: R) = [cutR r n] := by rw [takeO, if_neg h0, if_pos h]
theorem restO_lt {n : Nat} {r : Rn} {R : List Rn} (h0 : n ≠ 0) (h : n < rsize r) : restO n (r :: R) = restR r n :: R := by rw [restO, if_neg h0, if_pos h]
theorem takeO_zero (R : List Rn) : takeO 0 R = [] := by cases R <;> simp [takeO]
theorem restO_zero (R : List Rn) : restO 0 R = R := by cases R <;> simp [restO]
theorem RB.rest {r : Rn} (h : RB r) {m : Nat} (hm : m < rsize r) : RB (restR r m) := by
  obtain ⟨⟨a1, a2, a3⟩, a4, a5, a6⟩ := h
  refine ⟨(rfl1_rest ⟨a1, a2, a3⟩ hm).2, ?_, ?_, ?_⟩
  · unfold restR
    split
    · rename_i ht
      unfold rsize at hm ⊢
      rcases a3 with a3 | a3
      · exact absurd a3 ht
      · simp only [List.length_drop]; omega
    · rename_i ht
      have ht : r.text = [] := by simpa using ht
      unfold rsize at hm ⊢
      rw [ht] at hm
      simp at hm ⊢
      omega
  · unfold restR; split <;> simp only <;> omega
  · unfold restR; split <;> simp only <;> omega
theorem RB.restL {r : Rn} {R : List Rn} (h : ∀ x ∈ r :: R, RB x) {m : Nat} (hm : m < rsize r) {r' : Rn} (hr : restR r m = r') : ∀ x ∈ r' :: R, RB x := by
  intro x hx
  rcases List.mem_cons.1 hx with rfl | hx
  · rw [← hr]; exact (h r (List.mem_cons_self ..)).rest hm
  · exact h x (List.mem_cons_of_mem _ hx)
theorem drop_ok {s : AHeap} (n : Nat) (C : List AV) (off : Nat) (R O : List Rn) (o3 : Option AObj) (h3 : ∀ f, o3.map (renO f) = o3) (hC : LB C off R) (hR : ∀ r ∈ R, RB r) (hn : n ≤ tot R) (hn2 : n ≤ 1000000000) :
    ACall Tryz.prog 70 [.ptr (nm s.nx 0) 0, .int .i64 n, .bool false] (loc s 4 [(0, some (.cells [.rs 3 (nm s.nx 1) off R.length, gsv 3 (nm s.nx 2) O.length] (some 135))), (1, some (.cells C (some 98))), (2, gso 98 (rnc O)), (3, o3)])
      fun v t => v = .tuple [] ∧ ∃ C' off', LB C' off' (restO n R) ∧ t = loc s 4 [(0, some (.cells [.rs 3 (nm s.nx 1) off' (restO n R).length, gsv 3 (nm s.nx 2) O.length] (some 135))), (1, some (.cells C' (some 98))), (2, gso 98 (rnc O)), (3, o3)] := by
  refine gob70 (by simp) ?_
  intro tm hlen harg
  rw [loc_flat (by intro j hj; simp only [lget]; rw [if_neg (by omega), if_neg (by omega), if_neg (by omega), if_neg (by omega)])]
  simp +contextual only [go_sem, L70, hlen, harg, lcondB_decide, lcondB_not, lguardB_decide_true, lguardB_decide_false, ldguardB_decide, Nat.reduceLT, Nat.reduceEqDiff, Nat.reduceAdd, Nat.reduceLeDiff, reduceIte, reduceCtorEq]
  refine ⟨Nat × List AV × Nat × List Rn, fun a => [(0, .ptr (nm s.nx 0) 0), (1, .int .i64 a.1), (2, .bool false)],
    fun a => loc s 4 [(0, some (.cells [.rs 3 (nm s.nx 1) a.2.2.1 a.2.2.2.length, gsv 3 (nm s.nx 2) O.length] (some 135))), (1, some (.cells a.2.1 (some 98))), (2, gso 98 (rnc O)), (3, o3)],
    fun a => a.1 ≤ n ∧ a.1 ≤ tot a.2.2.2 ∧ LB a.2.1 a.2.2.1 a.2.2.2 ∧ (∀ r ∈ a.2.2.2, RB r) ∧ restO a.1 a.2.2.2 = restO n R, fun a => a.1, (n, C, off, R), ⟨Nat.le_refl _, hn, hC, hR, rfl⟩, ?_, ?_⟩
  · refine To.goK [0, 1, 2, 3] _ rfl rfl (.refl s) (by decide) (by decide) (by simp) ?_ ?_
    · simp +contextual only [go_sem, hlen, harg, lcondB_decide, lcondB_not, lguardB_decide_true, lguardB_decide_false, ldguardB_decide, Nat.reduceLT, Nat.reduceEqDiff, Nat.reduceAdd, Nat.reduceLeDiff, reduceIte, reduceCtorEq]
    · simp only [go_sem, map_gso_pu (rnc_pul _), pul_ren hC.pu, h3, lcondB_decide, lcondB_not, lguardB_decide_true, lguardB_decide_false, ldguardB_decide, Nat.reduceLT, Nat.reduceEqDiff, Nat.reduceAdd, Nat.reduceLeDiff, reduceIte, reduceCtorEq]
  · rintro ⟨m, D, q, Q⟩ tm1 ⟨hm, hmt, hD, hQ, hE⟩ hlen1 hlv
    simp only [go_sem, hlen, lcondB_decide, lcondB_not, lguardB_decide_true, lguardB_decide_false, ldguardB_decide, Nat.reduceLT, Nat.reduceEqDiff, Nat.reduceAdd, Nat.reduceLeDiff, reduceIte, reduceCtorEq] at hlen1 hlv hm hmt hD hQ hE
    simp +contextual only [go_sem, hlen, hlen1, hlv, lcondB_decide, lcondB_not, lguardB_decide_true, lguardB_decide_false, ldguardB_decide, Nat.reduceLT, Nat.reduceEqDiff, Nat.reduceAdd, Nat.reduceLeDiff, reduceIte, reduceCtorEq]
    refine ⟨fun hpos => ?_, fun hge => ?_⟩
    · obtain ⟨r, Q', rfl⟩ : ∃ r Q', Q = r :: Q' := by
        cases Q with
        | nil => simp only [tot] at hmt; omega
        | cons r Q' => exact ⟨r, Q', rfl⟩
      obtain ⟨T, hT⟩ := hD.head
      have hle := hD.le
      obtain ⟨⟨a1, a2, a3⟩, a4, a5, a6⟩ := hQ r (List.mem_cons_self ..)
      have hQ' := fun x hx => hQ x (List.mem_cons_of_mem r hx)
      have hmx : (if (r.text.length : Int) > r.long then (r.text.length : Int) else r.long) = (rsize r : Nat) := by unfold rsize; split <;> omega
      have hmn : (if ((rsize r : Nat) : Int) < (m : Int) then ((rsize r : Nat) : Int) else (m : Int)) = ((min m (rsize r) : Nat) : Int) := by split <;> omega
      have hw : IntKind.i64.wrap ((m : Int) - ((min m (rsize r) : Nat) : Int)) = ((m - min m (rsize r) : Nat) : Int) := by rw [wrap_id (by omega)]; omega
      simp +contextual only [go_sem, hlen1, hlv, ix89z, sl108_1, hT, hmx, hmn, hw, lcondB_decide, lcondB_not, lguardB_decide_true, lguardB_decide_false, ldguardB_decide, Nat.reduceLT, Nat.reduceEqDiff, Nat.reduceAdd, Nat.reduceLeDiff, reduceIte, reduceCtorEq]
      refine ⟨fun h => ?_, fun h => ⟨fun h2 => ?_, fun h2 => ?_⟩⟩
      · have hms : rsize r ≤ m := by omega
        have hw1 : IntKind.i64.wrap ((m : Int) - ((rsize r : Nat) : Int)) = ((m - rsize r : Nat) : Int) := by rw [wrap_id (by omega)]; omega
        refine ⟨(m - rsize r, D, q + 3, Q'), ⟨by simp only; omega, by simp only [tot] at hmt ⊢; omega, hD.tail, hQ', ?_⟩, by simp only; omega, ?_⟩
        · rw [← hE, restO_cons (by omega) hms]
        · refine To.goK [0, 1, 2, 3] _ rfl rfl (.refl s) (by decide) (by decide) (by simp) ?_ ?_
          · simp +contextual only [go_sem, hlen1, hlv, Nat.min_eq_right hms, hw1, lcondB_decide, lcondB_not, lguardB_decide_true, lguardB_decide_false, ldguardB_decide, Nat.reduceLT, Nat.reduceEqDiff, Nat.reduceAdd, Nat.reduceLeDiff, reduceIte, reduceCtorEq]
          · simp only [go_sem, map_gso_pu (rnc_pul _), pul_ren hD.pu, h3, lcondB_decide, lcondB_not, lguardB_decide_true, lguardB_decide_false, ldguardB_decide, Nat.reduceLT, Nat.reduceEqDiff, Nat.reduceAdd, Nat.reduceLeDiff, reduceIte, reduceCtorEq]
      · have hmr : m < rsize r := by omega
        have hmt2 : m ≤ r.text.length := by unfold rsize at hmr; rcases a3 with a3 | a3; exact absurd a3 h2; omega
        have hmin : min m (rsize r) = m := Nat.min_eq_left (Nat.le_of_lt hmr)
        have hsl : aslice tab 9 (.str r.text) (some (.int .i64 (m : Int))) none none = some (.str (r.text.drop m)) := by rw [slice9a (by omega) (by omega)]; rfl
        have hw0 : IntKind.i64.wrap ((m : Int) - (m : Int)) = ((0 : Nat) : Int) := by rw [wrap_id (by omega)]; omega
        refine ldrawB_go [] [] 8 (by decide) ?_
        simp +contextual only [go_sem, hlen1, hlv, hmin, hsl, lcondB_decide, lcondB_not, lguardB_decide_true, lguardB_decide_false, ldguardB_decide, Nat.reduceLT, Nat.reduceEqDiff, Nat.reduceAdd, Nat.reduceLeDiff, reduceIte, reduceCtorEq]
        refine ⟨by kernel_rfl, ?_⟩
        simp +contextual only [go_sem, hlen1, hlv, ix89z, hw0, show q + 2 + 1 ≤ D.length by omega, lcondB_decide, lcondB_not, lguardB_decide_true, lguardB_decide_false, ldguardB_decide, Nat.reduceLT, Nat.reduceEqDiff, Nat.reduceAdd, Nat.reduceLeDiff, reduceIte, reduceCtorEq]
        have hD2 := hD.text (r.text.drop m)
        have hr2 : restR r m = ⟨r.at_, r.long, r.text.drop m⟩ := by rw [restR, if_pos h2]
        rw [restO_lt (by omega) hmr, hr2] at hE
        refine ⟨(0, D.set (q + 2) (.str (r.text.drop m)), q, ⟨r.at_, r.long, r.text.drop m⟩ :: Q'), ⟨by simp only; omega, by simp only; omega, hD2, ?_, by rw [restO_zero]; exact hE⟩, by simp only; omega, ?_⟩
        · exact RB.restL hQ hmr hr2
        · refine To.goK [0, 1, 2, 3] _ rfl rfl (.refl s) (by decide) (by decide) (by simp) ?_ ?_
          · simp +contextual only [go_sem, hlen1, hlv, lcondB_decide, lcondB_not, lguardB_decide_true, lguardB_decide_false, ldguardB_decide, Nat.reduceLT, Nat.reduceEqDiff, Nat.reduceAdd, Nat.reduceLeDiff, reduceIte, reduceCtorEq]
          · simp only [go_sem, map_gso_pu (rnc_pul _), pul_ren hD2.pu, h3, lcondB_decide, lcondB_not, lguardB_decide_true, lguardB_decide_false, ldguardB_decide, Nat.reduceLT, Nat.reduceEqDiff, Nat.reduceAdd, Nat.reduceLeDiff, reduceIte, reduceCtorEq]
      · have hmr : m < rsize r := by omega
        have hlong : (rsize r : Int) = r.long := by unfold rsize; rw [h2]; simp; omega
        have hmin : min m (rsize r) = m := Nat.min_eq_left (Nat.le_of_lt hmr)
        have hw0 : IntKind.i64.wrap ((m : Int) - (m : Int)) = ((0 : Nat) : Int) := by rw [wrap_id (by omega)]; omega
        have hw1 : IntKind.i64.wrap (r.at_ + (m : Int)) = r.at_ + m := wrap_id (by omega)
        have hw2 : IntKind.i64.wrap (r.long - (m : Int)) = r.long - m := wrap_id (by omega)
        refine ldrawB_go [] [] 13 (by decide) ?_
        simp +contextual only [go_sem, hlen1, hlv, hmin, hw1, hw2, lcondB_decide, lcondB_not, lguardB_decide_true, lguardB_decide_false, ldguardB_decide, Nat.reduceLT, Nat.reduceEqDiff, Nat.reduceAdd, Nat.reduceLeDiff, reduceIte, reduceCtorEq]
        refine ldfun_pure _ (kept_ok _ _) ?_
        simp +contextual only [go_sem, hlen1, hlv, Rn.enc, lcondB_decide, lcondB_not, lguardB_decide_true, lguardB_decide_false, ldguardB_decide, Nat.reduceLT, Nat.reduceEqDiff, Nat.reduceAdd, Nat.reduceLeDiff, reduceIte, reduceCtorEq]
        refine ⟨by kernel_rfl, ?_⟩
        simp +contextual only [go_sem, hlen1, hlv, ix89z, hw0, hle, lcondB_decide, lcondB_not, lguardB_decide_true, lguardB_decide_false, ldguardB_decide, Nat.reduceLT, Nat.reduceEqDiff, Nat.reduceAdd, Nat.reduceLeDiff, reduceIte, reduceCtorEq]
        have hD2 := hD.set (r.at_ + m) (r.long - m) []
        have hr2 : restR r m = ⟨r.at_ + m, r.long - m, []⟩ := by rw [restR, if_neg (by simpa using h2)]
        rw [restO_lt (by omega) hmr, hr2] at hE
        refine ⟨(0, _, q, ⟨r.at_ + m, r.long - m, []⟩ :: Q'), ⟨by simp only; omega, by simp only; omega, hD2, ?_, by rw [restO_zero]; exact hE⟩, by simp only; omega, ?_⟩
        · exact RB.restL hQ hmr hr2
        · refine To.goK [0, 1, 2, 3] _ rfl rfl (.refl s) (by decide) (by decide) (by simp) ?_ ?_
          · simp +contextual only [go_sem, hlen1, hlv, lcondB_decide, lcondB_not, lguardB_decide_true, lguardB_decide_false, ldguardB_decide, Nat.reduceLT, Nat.reduceEqDiff, Nat.reduceAdd, Nat.reduceLeDiff, reduceIte, reduceCtorEq]
          · simp only [go_sem, map_gso_pu (rnc_pul _), pul_ren hD2.pu, h3, lcondB_decide, lcondB_not, lguardB_decide_true, lguardB_decide_false, ldguardB_decide, Nat.reduceLT, Nat.reduceEqDiff, Nat.reduceAdd, Nat.reduceLeDiff, reduceIte, reduceCtorEq]
    · have hm0 : m = 0 := by omega
      subst hm0
      rw [restO_zero] at hE
      subst hE
      exact lexit_now ⟨rfl, D, q, hD, rfl⟩
end Go.S1N
end
section
set_option linter.unusedVariables false
set_option linter.unusedSimpArgs false
namespace Go.S1N
open Go Go.Am Go.Proofs Go.S1
set_option maxRecDepth 100000
set_option linter.unusedSimpArgs false
attribute [local irreducible] lopsB lvb lstepB lfunG lcondB lguardB ldrawB ldrunB ldstepB ldguardB lmem lval ldmem ldval ldfun lexit ldloadB ldlenB lpostB athen ablock
theorem slice9b {x : List UInt8} {k : Nat} (h : k ≤ x.length) : aslice tab 9 (.str x) none (some (.int .i64 k)) none = some (.str (x.take k)) := by
  have hi : (0 : Int) ≤ (k : Int) ∧ (k : Int) ≤ x.length := by omega
  simp [aslice, ty9, abounds, aidx, h]
set_option maxHeartbeats 1000000 in
theorem keep_ok {s : AHeap} (n : Nat) (C : List AV) (off : Nat) (R O : List Rn) (o3 : Option AObj) (h3 : ∀ f, o3.map (renO f) = o3) (hC : LB C off R) (hR : ∀ r ∈ R, RB r) (hn : n ≤ tot R) (hO : O.length + n ≤ 1000000000) :
    ACall Tryz.prog 70 [.ptr (nm s.nx 0) 0, .int .i64 n, .bool true] (loc s 4 [(0, some (.cells [.rs 3 (nm s.nx 1) off R.length, gsv 3 (nm s.nx 2) O.length] (some 135))), (1, some (.cells C (some 98))), (2, gso 98 (rnc O)), (3, o3)])
      fun v t => v = .tuple [] ∧ ∃ C' off' j, (j = 2 ∨ j = 4) ∧ LB C' off' (restO n R) ∧
        t = loc s 5 [(0, some (.cells [.rs 3 (nm s.nx 1) off' (restO n R).length, gsv 3 (nm s.nx j) (O ++ takeO n R).length] (some 135))), (1, some (.cells C' (some 98))), (3, o3), (j, gso 98 (rnc (O ++ takeO n R)))] := by
  refine gob70 (by simp) ?_
  intro tm hlen harg
  rw [loc_flat (by intro j hj; simp only [lget]; rw [if_neg (by omega), if_neg (by omega), if_neg (by omega), if_neg (by omega)])]
  simp +contextual only [go_sem, L70, hlen, harg, lcondB_decide, lcondB_not, lguardB_decide_true, lguardB_decide_false, ldguardB_decide, Nat.reduceLT, Nat.reduceEqDiff, Nat.reduceAdd, Nat.reduceLeDiff, reduceIte, reduceCtorEq]
  refine ⟨Nat × List AV × Nat × List Rn × List Rn × Nat, fun a => [(0, .ptr (nm s.nx 0) 0), (1, .int .i64 a.1), (2, .bool true)],
    fun a => loc s 5 [(0, some (.cells [.rs 3 (nm s.nx 1) a.2.2.1 a.2.2.2.1.length, gsv 3 (nm s.nx a.2.2.2.2.2) a.2.2.2.2.1.length] (some 135))), (1, some (.cells a.2.1 (some 98))), (3, o3), (a.2.2.2.2.2, gso 98 (rnc a.2.2.2.2.1))],
    fun a => (a.2.2.2.2.2 = 2 ∨ a.2.2.2.2.2 = 4) ∧ a.1 ≤ n ∧ a.1 ≤ tot a.2.2.2.1 ∧ LB a.2.1 a.2.2.1 a.2.2.2.1 ∧ (∀ r ∈ a.2.2.2.1, RB r) ∧ restO a.1 a.2.2.2.1 = restO n R ∧ a.2.2.2.2.1 ++ takeO a.1 a.2.2.2.1 = O ++ takeO n R ∧ a.2.2.2.2.1.length + a.1 ≤ 1000000000, fun a => a.1, (n, C, off, R, O, 2),
    ⟨.inl rfl, Nat.le_refl _, hn, hC, hR, rfl, rfl, hO⟩, ?_, ?_⟩
  · refine To.goK [0, 1, 2, 3, 9] _ rfl rfl (.refl s) (by decide) (by decide) (by simp) ?_ ?_
    · simp +contextual only [go_sem, hlen, harg, lcondB_decide, lcondB_not, lguardB_decide_true, lguardB_decide_false, ldguardB_decide, Nat.reduceLT, Nat.reduceEqDiff, Nat.reduceAdd, Nat.reduceLeDiff, reduceIte, reduceCtorEq]
    · simp only [go_sem, map_gso_pu (rnc_pul _), pul_ren hC.pu, ren_gsv, h3, lcondB_decide, lcondB_not, lguardB_decide_true, lguardB_decide_false, ldguardB_decide, Nat.reduceLT, Nat.reduceEqDiff, Nat.reduceAdd, Nat.reduceLeDiff, reduceIte, reduceCtorEq]
  · rintro ⟨m, D, q, Q, P, j⟩ tm1 ⟨hj, hm, hmt, hD, hQ, hE, hT, hP⟩ hlen1 hlv
    simp only at hj
    rcases hj with rfl | rfl
    all_goals simp only [go_sem, hlen, lcondB_decide, lcondB_not, lguardB_decide_true, lguardB_decide_false, ldguardB_decide, Nat.reduceLT, Nat.reduceEqDiff, Nat.reduceAdd, Nat.reduceLeDiff, reduceIte, reduceCtorEq] at hlen1 hlv hm hmt hD hQ hE hT hP
    all_goals simp +contextual only [go_sem, hlen, hlen1, hlv, lcondB_decide, lcondB_not, lguardB_decide_true, lguardB_decide_false, ldguardB_decide, Nat.reduceLT, Nat.reduceEqDiff, Nat.reduceAdd, Nat.reduceLeDiff, reduceIte, reduceCtorEq]
    all_goals
      refine ⟨fun hpos => ?_, fun hge => ?_⟩
      · obtain ⟨r, Q', rfl⟩ : ∃ r Q', Q = r :: Q' := by
          cases Q with
          | nil => simp only [tot] at hmt; omega
          | cons r Q' => exact ⟨r, Q', rfl⟩
        obtain ⟨T, hdT⟩ := hD.head
        have hle := hD.le
        obtain ⟨⟨a1, a2, a3⟩, a4, a5, a6⟩ := hQ r (List.mem_cons_self ..)
        have hQ' := fun x hx => hQ x (List.mem_cons_of_mem r hx)
        have hmx : (if (r.text.length : Int) > r.long then (r.text.length : Int) else r.long) = (rsize r : Nat) := by unfold rsize; split <;> omega
        have hmn : (if ((rsize r : Nat) : Int) < (m : Int) then ((rsize r : Nat) : Int) else (m : Int)) = ((min m (rsize r) : Nat) : Int) := by split <;> omega
        have hw : IntKind.i64.wrap ((m : Int) - ((min m (rsize r) : Nat) : Int)) = ((m - min m (rsize r) : Nat) : Int) := by rw [wrap_id (by omega)]; omega
        by_cases ht : r.text = []
        · simp +contextual only [go_sem, hlen1, hlv, ix89z, sl108_1, hdT, hmx, hmn, hw, ht, lcondB_decide, lcondB_not, lguardB_decide_true, lguardB_decide_false, ldguardB_decide, Nat.reduceLT, Nat.reduceEqDiff, Nat.reduceAdd, Nat.reduceLeDiff, reduceIte, reduceCtorEq]
          rw [ht, List.length_nil] at hmx
          simp +contextual only [go_sem, hlen1, hlv, ix89z, sl108_1, hdT, hmx, hmn, hw, ht, lcondB_decide, lcondB_not, lguardB_decide_true, lguardB_decide_false, ldguardB_decide, Nat.reduceLT, Nat.reduceEqDiff, Nat.reduceAdd, Nat.reduceLeDiff, reduceIte, reduceCtorEq]
          refine ldrawB_go [] [(4, 1)] 11 (by decide) ?_
          simp +contextual only [go_sem, hlen1, hlv, lcondB_decide, lcondB_not, lguardB_decide_true, lguardB_decide_false, ldguardB_decide, Nat.reduceLT, Nat.reduceEqDiff, Nat.reduceAdd, Nat.reduceLeDiff, reduceIte, reduceCtorEq]
          refine ldfun_pure _ (kept_ok _ _) ?_
          simp +contextual only [go_sem, hlen1, hlv, Rn.enc, lcondB_decide, lcondB_not, lguardB_decide_true, lguardB_decide_false, ldguardB_decide, Nat.reduceLT, Nat.reduceEqDiff, Nat.reduceAdd, Nat.reduceLeDiff, reduceIte, reduceCtorEq]
          refine ldmem_eq (app89 (acellsOf_rs (by simp only [go_sem, lcondB_decide, lcondB_not, lguardB_decide_true, lguardB_decide_false, ldguardB_decide, Nat.reduceLT, Nat.reduceEqDiff, Nat.reduceAdd, Nat.reduceLeDiff, reduceIte, reduceCtorEq]; rfl) (by rfl) rfl) (by decide) (by simp only [go_sem, lcondB_decide, lcondB_not, lguardB_decide_true, lguardB_decide_false, ldguardB_decide, Nat.reduceLT, Nat.reduceEqDiff, Nat.reduceAdd, Nat.reduceLeDiff, reduceIte, reduceCtorEq]) (by simp only [go_sem, lcondB_decide, lcondB_not, lguardB_decide_true, lguardB_decide_false, ldguardB_decide, Nat.reduceLT, Nat.reduceEqDiff, Nat.reduceAdd, Nat.reduceLeDiff, reduceIte, reduceCtorEq]) (rnc_len P) (by omega) rfl) ?_
          simp +contextual only [go_sem, hlen1, hlv, ht, ix89z, sl108_1, hw, lcondB_decide, lcondB_not, lguardB_decide_true, lguardB_decide_false, ldguardB_decide, Nat.reduceLT, Nat.reduceEqDiff, Nat.reduceAdd, Nat.reduceLeDiff, reduceIte, reduceCtorEq]
          refine ⟨by kernel_rfl, fun h => ?_, fun h => ?_⟩
          · have hms : rsize r ≤ m := by omega
            have hmin : min m (rsize r) = rsize r := Nat.min_eq_right hms
            have hw1 : IntKind.i64.wrap ((m : Int) - ((rsize r : Nat) : Int)) = ((m - rsize r : Nat) : Int) := by rw [wrap_id (by omega)]; omega
            have hcut : cutR r (rsize r) = ⟨r.at_, (rsize r : Nat), []⟩ := by rw [cutR, if_neg (by simpa using ht)]
            refine ⟨(m - rsize r, D, q + 3, Q', P ++ [⟨r.at_, (rsize r : Nat), []⟩], 4), ⟨.inr rfl, by simp only; omega, by simp only [tot] at hmt ⊢; omega, hD.tail, hQ', ?_, ?_, by simp only [List.length_append, List.length_singleton]; omega⟩, by simp only; omega, ?_⟩
            · rw [← hE, restO_cons (by omega) hms]
            · rw [← hT, takeO_cons (by omega) hms, hcut, List.append_assoc]; rfl
            · refine To.goK [0, 1, 2, 3, 18] _ rfl rfl (.refl s) (by decide) (by decide) (by simp) ?_ ?_
              · simp +contextual only [go_sem, hlen1, hlv, hmin, hw1, lcondB_decide, lcondB_not, lguardB_decide_true, lguardB_decide_false, ldguardB_decide, Nat.reduceLT, Nat.reduceEqDiff, Nat.reduceAdd, Nat.reduceLeDiff, reduceIte, reduceCtorEq]
              · simp only [go_sem, map_gso_pu (rnc_pul _), pul_ren hD.pu, h3, hmin, ren_gsv, lcondB_decide, lcondB_not, lguardB_decide_true, lguardB_decide_false, ldguardB_decide, Nat.reduceLT, Nat.reduceEqDiff, Nat.reduceAdd, Nat.reduceLeDiff, reduceIte, reduceCtorEq]
                rw [List.length_append, List.length_singleton, gsv_pos (Nat.succ_ne_zero _), gso_pos (by rw [rnc_snoc]; simp), rnc_snoc]
                exact ⟨rfl, rfl⟩
          · have hmr : m < rsize r := by omega
            have hlong : (rsize r : Int) = r.long := by unfold rsize; rw [ht]; simp; omega
            have hmin : min m (rsize r) = m := Nat.min_eq_left (Nat.le_of_lt hmr)
            have hw0 : IntKind.i64.wrap ((m : Int) - (m : Int)) = ((0 : Nat) : Int) := by rw [wrap_id (by omega)]; omega
            have hw1 : IntKind.i64.wrap (r.at_ + (m : Int)) = r.at_ + m := wrap_id (by omega)
            have hw2 : IntKind.i64.wrap (r.long - (m : Int)) = r.long - m := wrap_id (by omega)
            have hcut : cutR r m = ⟨r.at_, m, []⟩ := by rw [cutR, if_neg (by simpa using ht)]
            refine ldrawB_go [] [] 13 (by decide) ?_
            simp +contextual only [go_sem, hlen1, hlv, hmin, hw1, hw2, lcondB_decide, lcondB_not, lguardB_decide_true, lguardB_decide_false, ldguardB_decide, Nat.reduceLT, Nat.reduceEqDiff, Nat.reduceAdd, Nat.reduceLeDiff, reduceIte, reduceCtorEq]
            refine ldfun_pure _ (kept_ok _ _) ?_
            simp +contextual only [go_sem, hlen1, hlv, Rn.enc, lcondB_decide, lcondB_not, lguardB_decide_true, lguardB_decide_false, ldguardB_decide, Nat.reduceLT, Nat.reduceEqDiff, Nat.reduceAdd, Nat.reduceLeDiff, reduceIte, reduceCtorEq]
            refine ⟨by kernel_rfl, ?_⟩
            simp +contextual only [go_sem, hlen1, hlv, ix89z, hw0, hle, lcondB_decide, lcondB_not, lguardB_decide_true, lguardB_decide_false, ldguardB_decide, Nat.reduceLT, Nat.reduceEqDiff, Nat.reduceAdd, Nat.reduceLeDiff, reduceIte, reduceCtorEq]
            have hD2 := hD.set (r.at_ + m) (r.long - m) []
            have hr2 : restR r m = ⟨r.at_ + m, r.long - m, []⟩ := by rw [restR, if_neg (by simpa using ht)]
            rw [restO_lt (by omega) hmr, hr2] at hE
            rw [takeO_lt (by omega) hmr, hcut] at hT
            refine ⟨(0, _, q, ⟨r.at_ + m, r.long - m, []⟩ :: Q', P ++ [⟨r.at_, m, []⟩], 4), ⟨.inr rfl, by simp only; omega, by simp only; omega, hD2, RB.restL hQ hmr hr2, by rw [restO_zero]; exact hE, by rw [takeO_zero, List.append_nil]; exact hT, by simp only [List.length_append, List.length_singleton]; omega⟩, by simp only; omega, ?_⟩
            · refine To.goK [0, 1, 2, 3, 18] _ rfl rfl (.refl s) (by decide) (by decide) (by simp) ?_ ?_
              · simp +contextual only [go_sem, hlen1, hlv, lcondB_decide, lcondB_not, lguardB_decide_true, lguardB_decide_false, ldguardB_decide, Nat.reduceLT, Nat.reduceEqDiff, Nat.reduceAdd, Nat.reduceLeDiff, reduceIte, reduceCtorEq]
              · simp only [go_sem, map_gso_pu (rnc_pul _), pul_ren hD2.pu, h3, ren_gsv, lcondB_decide, lcondB_not, lguardB_decide_true, lguardB_decide_false, ldguardB_decide, Nat.reduceLT, Nat.reduceEqDiff, Nat.reduceAdd, Nat.reduceLeDiff, reduceIte, reduceCtorEq]
                rw [List.length_append, List.length_singleton, gsv_pos (Nat.succ_ne_zero _), gso_pos (by rw [rnc_snoc]; simp), rnc_snoc]
                exact ⟨rfl, rfl⟩
        · have hkt : min m (rsize r) ≤ r.text.length := by
            have : rsize r = r.text.length := by unfold rsize; rcases a3 with a3 | a3; exact absurd a3 ht; omega
            omega
          have hsl := slice9b hkt
          simp +contextual only [go_sem, hlen1, hlv, ix89z, sl108_1, hdT, hmx, hmn, hw, ht, lcondB_decide, lcondB_not, lguardB_decide_true, lguardB_decide_false, ldguardB_decide, Nat.reduceLT, Nat.reduceEqDiff, Nat.reduceAdd, Nat.reduceLeDiff, reduceIte, reduceCtorEq]
          refine ldrawB_go [] [(4, 1)] 12 (by decide) ?_
          simp +contextual only [go_sem, hlen1, hlv, hsl, lcondB_decide, lcondB_not, lguardB_decide_true, lguardB_decide_false, ldguardB_decide, Nat.reduceLT, Nat.reduceEqDiff, Nat.reduceAdd, Nat.reduceLeDiff, reduceIte, reduceCtorEq]
          refine ldfun_pure _ (fresh_ok _) ?_
          simp +contextual only [go_sem, hlen1, hlv, Rn.enc, lcondB_decide, lcondB_not, lguardB_decide_true, lguardB_decide_false, ldguardB_decide, Nat.reduceLT, Nat.reduceEqDiff, Nat.reduceAdd, Nat.reduceLeDiff, reduceIte, reduceCtorEq]
          refine ldmem_eq (app89 (acellsOf_rs (by simp only [go_sem, lcondB_decide, lcondB_not, lguardB_decide_true, lguardB_decide_false, ldguardB_decide, Nat.reduceLT, Nat.reduceEqDiff, Nat.reduceAdd, Nat.reduceLeDiff, reduceIte, reduceCtorEq]; rfl) (by rfl) rfl) (by decide) (by simp only [go_sem, lcondB_decide, lcondB_not, lguardB_decide_true, lguardB_decide_false, ldguardB_decide, Nat.reduceLT, Nat.reduceEqDiff, Nat.reduceAdd, Nat.reduceLeDiff, reduceIte, reduceCtorEq]) (by simp only [go_sem, lcondB_decide, lcondB_not, lguardB_decide_true, lguardB_decide_false, ldguardB_decide, Nat.reduceLT, Nat.reduceEqDiff, Nat.reduceAdd, Nat.reduceLeDiff, reduceIte, reduceCtorEq]) (rnc_len P) (by omega) rfl) ?_
          simp +contextual only [go_sem, hlen1, hlv, ht, ix89z, sl108_1, hw, lcondB_decide, lcondB_not, lguardB_decide_true, lguardB_decide_false, ldguardB_decide, Nat.reduceLT, Nat.reduceEqDiff, Nat.reduceAdd, Nat.reduceLeDiff, reduceIte, reduceCtorEq]
          refine ⟨by kernel_rfl, fun h => ?_, fun h => ?_⟩
          · have hms : rsize r ≤ m := by omega
            have hmin : min m (rsize r) = rsize r := Nat.min_eq_right hms
            have hw1 : IntKind.i64.wrap ((m : Int) - ((rsize r : Nat) : Int)) = ((m - rsize r : Nat) : Int) := by rw [wrap_id (by omega)]; omega
            have hcut : cutR r (rsize r) = ⟨0, 0, r.text.take (rsize r)⟩ := by rw [cutR, if_pos ht]
            refine ⟨(m - rsize r, D, q + 3, Q', P ++ [⟨0, 0, r.text.take (rsize r)⟩], 4), ⟨.inr rfl, by simp only; omega, by simp only [tot] at hmt ⊢; omega, hD.tail, hQ', ?_, ?_, by simp only [List.length_append, List.length_singleton]; omega⟩, by simp only; omega, ?_⟩
            · rw [← hE, restO_cons (by omega) hms]
            · rw [← hT, takeO_cons (by omega) hms, hcut, List.append_assoc]; rfl
            · refine To.goK [0, 1, 2, 3, 19] _ rfl rfl (.refl s) (by decide) (by decide) (by simp) ?_ ?_
              · simp +contextual only [go_sem, hlen1, hlv, hmin, hw1, lcondB_decide, lcondB_not, lguardB_decide_true, lguardB_decide_false, ldguardB_decide, Nat.reduceLT, Nat.reduceEqDiff, Nat.reduceAdd, Nat.reduceLeDiff, reduceIte, reduceCtorEq]
              · simp only [go_sem, map_gso_pu (rnc_pul _), pul_ren hD.pu, h3, hmin, ren_gsv, lcondB_decide, lcondB_not, lguardB_decide_true, lguardB_decide_false, ldguardB_decide, Nat.reduceLT, Nat.reduceEqDiff, Nat.reduceAdd, Nat.reduceLeDiff, reduceIte, reduceCtorEq]
                rw [List.length_append, List.length_singleton, gsv_pos (Nat.succ_ne_zero _), gso_pos (by rw [rnc_snoc]; simp), rnc_snoc]
                exact ⟨rfl, rfl⟩
          · have hmr : m < rsize r := by omega
            have hmin : min m (rsize r) = m := Nat.min_eq_left (Nat.le_of_lt hmr)
            have hsl2 : aslice tab 9 (.str r.text) (some (.int .i64 (m : Int))) none none = some (.str (r.text.drop m)) := by rw [slice9a (by omega) (by omega)]; rfl
            have hw0 : IntKind.i64.wrap ((m : Int) - (m : Int)) = ((0 : Nat) : Int) := by rw [wrap_id (by omega)]; omega
            have hcut : cutR r m = ⟨0, 0, r.text.take m⟩ := by rw [cutR, if_pos ht]
            refine ldrawB_go [] [] 8 (by decide) ?_
            simp +contextual only [go_sem, hlen1, hlv, hmin, hsl2, lcondB_decide, lcondB_not, lguardB_decide_true, lguardB_decide_false, ldguardB_decide, Nat.reduceLT, Nat.reduceEqDiff, Nat.reduceAdd, Nat.reduceLeDiff, reduceIte, reduceCtorEq]
            refine ⟨by kernel_rfl, ?_⟩
            simp +contextual only [go_sem, hlen1, hlv, ix89z, hw0, show q + 2 + 1 ≤ D.length by omega, lcondB_decide, lcondB_not, lguardB_decide_true, lguardB_decide_false, ldguardB_decide, Nat.reduceLT, Nat.reduceEqDiff, Nat.reduceAdd, Nat.reduceLeDiff, reduceIte, reduceCtorEq]
            have hD2 := hD.text (r.text.drop m)
            have hr2 : restR r m = ⟨r.at_, r.long, r.text.drop m⟩ := by rw [restR, if_pos ht]
            rw [restO_lt (by omega) hmr, hr2] at hE
            rw [takeO_lt (by omega) hmr, hcut] at hT
            refine ⟨(0, D.set (q + 2) (.str (r.text.drop m)), q, ⟨r.at_, r.long, r.text.drop m⟩ :: Q', P ++ [⟨0, 0, r.text.take m⟩], 4), ⟨.inr rfl, by simp only; omega, by simp only; omega, hD2, RB.restL hQ hmr hr2, by rw [restO_zero]; exact hE, by rw [takeO_zero, List.append_nil]; exact hT, by simp only [List.length_append, List.length_singleton]; omega⟩, by simp only; omega, ?_⟩
            · refine To.goK [0, 1, 2, 3, 19] _ rfl rfl (.refl s) (by decide) (by decide) (by simp) ?_ ?_
              · simp +contextual only [go_sem, hlen1, hlv, lcondB_decide, lcondB_not, lguardB_decide_true, lguardB_decide_false, ldguardB_decide, Nat.reduceLT, Nat.reduceEqDiff, Nat.reduceAdd, Nat.reduceLeDiff, reduceIte, reduceCtorEq]
              · simp only [go_sem, map_gso_pu (rnc_pul _), pul_ren hD2.pu, h3, ren_gsv, lcondB_decide, lcondB_not, lguardB_decide_true, lguardB_decide_false, ldguardB_decide, Nat.reduceLT, Nat.reduceEqDiff, Nat.reduceAdd, Nat.reduceLeDiff, reduceIte, reduceCtorEq]
                rw [List.length_append, List.length_singleton, gsv_pos (Nat.succ_ne_zero _), gso_pos (by rw [rnc_snoc]; simp), rnc_snoc]
                exact ⟨rfl, rfl⟩
      · have hm0 : m = 0 := by omega
        subst hm0
        rw [restO_zero] at hE
        rw [takeO_zero, List.append_nil] at hT
        subst hE
        rw [hT]
        first
        | exact lexit_now ⟨rfl, D, q, 2, .inl rfl, hD, rfl⟩
        | exact lexit_now ⟨rfl, D, q, 4, .inr rfl, hD, rfl⟩
end Go.S1N
end
section
set_option linter.unusedVariables false
set_option linter.unusedSimpArgs false
namespace Go.S1N
open Go Go.Am Go.Proofs Go.S1
set_option maxRecDepth 100000
set_option linter.unusedSimpArgs false
attribute [local irreducible] lopsB lvb lstepB lfunG lcondB lguardB ldrawB ldrunB ldstepB ldguardB lmem lval ldmem ldval ldfun lexit ldloadB ldlenB lpostB athen ablock
theorem pushR {s : AHeap} {o4 : Option AObj} {a to : Int} {w : List UInt8} {L : List Ed} (ha : -1 ≤ a) (ha2 : a ≤ 1000000000000) (ht : -1 ≤ to) (ht2 : to ≤ 1000000000000) (hL : L.length ≤ 1000000000) :
    ACall Tryz.prog 75 [.int .i64 to, .ptr (nm s.nx 1) 0, .ptr (nm s.nx 2) 0, .ptr (nm s.nx 0) 0]
      (loc s 5 [(0, some (.cells [gsv 3 (nm s.nx 3) L.length] (some 27))), (1, some (.cells [.int .i64 a] (some 3))), (2, some (.cells [.str w] (some 9))), (3, gso 37 (edc L)), (4, o4)])
      fun v t => v = .tuple [] ∧ ((pushE a w to = [] ∧ t = loc s 5 [(0, some (.cells [gsv 3 (nm s.nx 3) L.length] (some 27))), (1, some (.cells [.int .i64 a] (some 3))), (2, some (.cells [.str w] (some 9))), (3, gso 37 (edc L)), (4, o4)]) ∨
        ∃ e, pushE a w to = [e] ∧ t = loc s 7 [(0, some (.cells [gsv 3 (nm s.nx 6) (L ++ [e]).length] (some 27))), (1, some (.cells [.int .i64 a] (some 3))), (2, some (.cells [.str w] (some 9))), (4, o4), (5, some (.cells [.int .i64 a, .int .i64 (to - a), .str w] (some 37))), (6, gso 37 (edc (L ++ [e])))]) := by
  refine gob75 (by simp) ?_
  intro tm hlen harg
  rw [loc_flat (by intro j hj; simp only [lget]; rw [if_neg (by omega), if_neg (by omega), if_neg (by omega), if_neg (by omega), if_neg (by omega)])]
  have hw : IntKind.i64.wrap (to - a) = to - a := wrap_id (by omega)
  have fin : ∀ e : Ed, e = ⟨a, to - a, w⟩ → pushE a w to = [e] →
      pushE a w to = [e] ∧ loc s 7 [(0, some (AObj.cells [AV.rs 3 (nm s.nx 6) 0 (L.length + 1)] (some 27))), (1, some (AObj.cells [AV.int IntKind.i64 a] (some 3))), (2, some (AObj.cells [AV.str w] (some 9))), (4, o4), (5, some (.cells [.int .i64 a, .int .i64 (to - a), .str w] (some 37))), (6, some (.cells (edc L ++ [.int .i64 a, .int .i64 (to - a), .str w]) (some 37)))] =
        loc s 7 [(0, some (.cells [gsv 3 (nm s.nx 6) (L ++ [e]).length] (some 27))), (1, some (.cells [.int .i64 a] (some 3))), (2, some (.cells [.str w] (some 9))), (4, o4), (5, some (.cells [.int .i64 a, .int .i64 (to - a), .str w] (some 37))), (6, gso 37 (edc (L ++ [e])))] := by
    rintro e rfl h
    refine ⟨h, ?_⟩
    rw [gso_ed, List.length_append, List.length_singleton, gsv_pos (Nat.succ_ne_zero _), edc_snoc]
  by_cases c : a < to
  · simp +contextual only [go_sem, L75, hlen, harg, hw, build35_3, c, lcondB_decide, lcondB_not, lguardB_decide_true, lguardB_decide_false, ldguardB_decide, Nat.reduceLT, Nat.reduceEqDiff, Nat.reduceAdd, Nat.reduceLeDiff, reduceIte, reduceCtorEq]
    refine lmem_eq (app27 (acellsOf_rs (by simp only [go_sem, lcondB_decide, lcondB_not, lguardB_decide_true, lguardB_decide_false, ldguardB_decide, Nat.reduceLT, Nat.reduceEqDiff, Nat.reduceAdd, Nat.reduceLeDiff, reduceIte, reduceCtorEq]; rfl) (by rfl) rfl) (by decide) (by simp only [go_sem, lcondB_decide, lcondB_not, lguardB_decide_true, lguardB_decide_false, ldguardB_decide, Nat.reduceLT, Nat.reduceEqDiff, Nat.reduceAdd, Nat.reduceLeDiff, reduceIte, reduceCtorEq]) (by simp only [go_sem, lcondB_decide, lcondB_not, lguardB_decide_true, lguardB_decide_false, ldguardB_decide, Nat.reduceLT, Nat.reduceEqDiff, Nat.reduceAdd, Nat.reduceLeDiff, reduceIte, reduceCtorEq]) (edc_len L) (by omega) rfl) ?_
    simp +contextual only [go_sem, hlen, harg, hw, lcondB_decide, lcondB_not, lguardB_decide_true, lguardB_decide_false, ldguardB_decide, Nat.reduceLT, Nat.reduceEqDiff, Nat.reduceAdd, Nat.reduceLeDiff, reduceIte, reduceCtorEq]
    exact lexit_now ⟨rfl, .inr ⟨_, fin _ rfl (if_pos (.inl c))⟩⟩
  · by_cases c2 : w = []
    · subst c2
      simp +contextual only [go_sem, L75, hlen, harg, hw, c, lcondB_decide, lcondB_not, lguardB_decide_true, lguardB_decide_false, ldguardB_decide, Nat.reduceLT, Nat.reduceEqDiff, Nat.reduceAdd, Nat.reduceLeDiff, reduceIte, reduceCtorEq]
      exact lexit_now ⟨rfl, .inl ⟨if_neg (by rintro (h | h); exact c h; exact h rfl), rfl⟩⟩
    · simp +contextual only [go_sem, L75, hlen, harg, hw, build35_3, c, c2, lcondB_decide, lcondB_not, lguardB_decide_true, lguardB_decide_false, ldguardB_decide, Nat.reduceLT, Nat.reduceEqDiff, Nat.reduceAdd, Nat.reduceLeDiff, reduceIte, reduceCtorEq]
      refine lmem_eq (app27 (acellsOf_rs (by simp only [go_sem, lcondB_decide, lcondB_not, lguardB_decide_true, lguardB_decide_false, ldguardB_decide, Nat.reduceLT, Nat.reduceEqDiff, Nat.reduceAdd, Nat.reduceLeDiff, reduceIte, reduceCtorEq]; rfl) (by rfl) rfl) (by decide) (by simp only [go_sem, lcondB_decide, lcondB_not, lguardB_decide_true, lguardB_decide_false, ldguardB_decide, Nat.reduceLT, Nat.reduceEqDiff, Nat.reduceAdd, Nat.reduceLeDiff, reduceIte, reduceCtorEq]) (by simp only [go_sem, lcondB_decide, lcondB_not, lguardB_decide_true, lguardB_decide_false, ldguardB_decide, Nat.reduceLT, Nat.reduceEqDiff, Nat.reduceAdd, Nat.reduceLeDiff, reduceIte, reduceCtorEq]) (edc_len L) (by omega) rfl) ?_
      simp +contextual only [go_sem, hlen, harg, hw, lcondB_decide, lcondB_not, lguardB_decide_true, lguardB_decide_false, ldguardB_decide, Nat.reduceLT, Nat.reduceEqDiff, Nat.reduceAdd, Nat.reduceLeDiff, reduceIte, reduceCtorEq]
      exact lexit_now ⟨rfl, .inr ⟨_, fin _ rfl (if_pos (.inr c2))⟩⟩
theorem rnv_len (F : List Rn) : alen tab 89 (rnv F) = some (.int .i64 F.length) := by rw [rnv, len89f, List.length_map]
theorem editsR_ok (n : Int) (F : List Rn) (hn : 0 ≤ n ∧ n ≤ 1000000000000) (hF : ∀ r ∈ F, 0 ≤ r.at_ ∧ r.at_ ≤ 1000000000 ∧ r.at_ + r.long ≤ 1000000000 ∧ 0 ≤ r.long ∧ r.text.length ≤ 1000000) (hFl : F.length ≤ 1000000000) (s : AHeap) :
    ACall Tryz.prog 44 [.int .i64 n, rnv F] s fun r t => r = edv (rGo n 0 [] F) ∧ t = s := by
  refine gob44 (by simp) ?_
  intro tm hlen harg
  have hpu : Pu (rnv F) := rnv_pu F
  simp +contextual only [go_sem, L44, hlen, harg, rnv_len, lcondB_decide, lcondB_not, lguardB_decide_true, lguardB_decide_false, ldguardB_decide, Nat.reduceLT, Nat.reduceEqDiff, Nat.reduceAdd, Nat.reduceLeDiff, reduceIte, reduceCtorEq]
  refine ⟨Nat × Int × List UInt8 × List Ed, fun a => [(0, .int .i64 n), (5, .ptr (nm s.nx 0) 0), (6, .ptr (nm s.nx 1) 0), (7, .ptr (nm s.nx 2) 0), (8, .func (.func 75) [] [.ptr (nm s.nx 1) 0, .ptr (nm s.nx 2) 0, .ptr (nm s.nx 0) 0]), (12, rnv F), (13, .int .i64 F.length), (14, .int .i64 a.1)],
    fun a => loc s 4 [(0, some (.cells [gsv 3 (nm s.nx 3) a.2.2.2.length] (some 27))), (1, some (.cells [.int .i64 a.2.1] (some 3))), (2, some (.cells [.str a.2.2.1] (some 9))), (3, gso 37 (edc a.2.2.2))],
    fun a => a.1 ≤ F.length ∧ a.2.2.2.length ≤ a.1 ∧ a.2.2.1.length ≤ a.1 * 1000000 ∧ 0 ≤ a.2.1 ∧ a.2.1 ≤ 1000000000 ∧ a.2.2.2 ++ rGo n a.2.1 a.2.2.1 (F.drop a.1) = rGo n 0 [] F, fun a => F.length - a.1, (0, 0, [], []), ⟨by simp, by simp, by simp, by simp, by simp, by simp⟩, ?_, ?_⟩
  · refine To.go [0, 1, 2, 9] [(0, some (.cells [.nils] (some 27))), (1, some (.cells [.int .i64 0] (some 3))), (2, some (.cells [.str []] (some 9))), (3, none)] (by simp only [edc, List.map_nil, List.flatMap_nil, gso_nil, List.length_nil, gsv_zero]; rfl) (.refl s) (by decide) (by simp) ?_ ?_
    · simp +contextual only [go_sem, hlen, harg, pu_ren hpu, gsv_zero, lcondB_decide, lcondB_not, lguardB_decide_true, lguardB_decide_false, ldguardB_decide, Nat.reduceLT, Nat.reduceEqDiff, Nat.reduceAdd, Nat.reduceLeDiff, reduceIte, reduceCtorEq]
      rfl
    · simp only [go_sem, pu_ren hpu, lcondB_decide, lcondB_not, lguardB_decide_true, lguardB_decide_false, ldguardB_decide, Nat.reduceLT, Nat.reduceEqDiff, Nat.reduceAdd, Nat.reduceLeDiff, reduceIte, reduceCtorEq]
  · rintro ⟨j, a, w, L⟩ tm1 ⟨hj, hL, hw, ha0, ha1, hE⟩ hlen1 hlv
    simp only [go_sem, hlen, lcondB_decide, lcondB_not, lguardB_decide_true, lguardB_decide_false, ldguardB_decide, Nat.reduceLT, Nat.reduceEqDiff, Nat.reduceAdd, Nat.reduceLeDiff, reduceIte, reduceCtorEq] at hlen1 hlv hj hL hw ha0 ha1 hE
    simp +contextual only [go_sem, hlen, hlen1, hlv, lcondB_decide, lcondB_not, lguardB_decide_true, lguardB_decide_false, ldguardB_decide, Nat.reduceLT, Nat.reduceEqDiff, Nat.reduceAdd, Nat.reduceLeDiff, reduceIte, reduceCtorEq]
    refine ⟨fun hlt => ?_, fun hge => ?_⟩
    · have hj2 : j < F.length := by omega
      have he := List.getElem?_eq_getElem hj2
      have hmem : F[j] ∈ F := List.getElem_mem hj2
      have hdrop := List.drop_eq_getElem_cons hj2
      generalize F[j] = r at he hmem hdrop
      obtain ⟨b1, b2, b3, b4, b5⟩ := hF r hmem
      rw [hdrop, rGo] at hE
      have hw3 : IntKind.i64.wrap ((j : Int) + 1) = ((j + 1 : Nat) : Int) := by rw [wrap_id (by omega)]; rfl
      have hw4 : IntKind.i64.wrap (r.at_ + r.long) = r.at_ + r.long := wrap_id (by omega)
      have hadd := abin_sadd (T := tab) (t := 9) (x := w) (y := r.text) (by omega)
      simp +contextual only [go_sem, hlen1, hlv, rn_at F he, hadd, hw3, hw4, lcondB_decide, lcondB_not, lguardB_decide_true, lguardB_decide_false, ldguardB_decide, Nat.reduceLT, Nat.reduceEqDiff, Nat.reduceAdd, Nat.reduceLeDiff, reduceIte, reduceCtorEq]
      refine ⟨fun ht => ?_, fun ht => ⟨fun hl => ?_, fun hl => ?_⟩⟩
      · rw [if_pos ht] at hE
        refine ⟨(j + 1, a, w ++ r.text, L), ⟨by simp only; omega, by simp only; omega, by simp only [List.length_append]; omega, ha0, ha1, hE⟩, by simp only; omega, ?_⟩
        refine To.go [0, 1, 2, 3] _ rfl (.refl s) (by decide) (by simp) ?_ ?_
        · simp +contextual only [go_sem, hlen1, hlv, pu_ren hpu, lcondB_decide, lcondB_not, lguardB_decide_true, lguardB_decide_false, ldguardB_decide, Nat.reduceLT, Nat.reduceEqDiff, Nat.reduceAdd, Nat.reduceLeDiff, reduceIte, reduceCtorEq]
        · simp only [go_sem, map_gso_pu (edc_pul _), ren_gsv, lcondB_decide, lcondB_not, lguardB_decide_true, lguardB_decide_false, ldguardB_decide, Nat.reduceLT, Nat.reduceEqDiff, Nat.reduceAdd, Nat.reduceLeDiff, reduceIte, reduceCtorEq]
      · rw [if_neg (by simpa using ht), if_pos hl] at hE
        refine lfunG_eqc' rfl (pushR (by omega) (by omega) (by omega) (by omega) (by omega)) ?_
        rintro _ t ⟨rfl, h | ⟨e, h⟩⟩
        · obtain ⟨hpe, rfl⟩ := h
          simp +contextual only [go_sem, hlen1, hlv, hw3, hw4, lcondB_decide, lcondB_not, lguardB_decide_true, lguardB_decide_false, ldguardB_decide, Nat.reduceLT, Nat.reduceEqDiff, Nat.reduceAdd, Nat.reduceLeDiff, reduceIte, reduceCtorEq]
          refine ⟨(j + 1, r.at_ + r.long, [], L), ⟨by simp only; omega, by simp only; omega, Nat.zero_le _, by simp only; omega, by simp only; omega, ?_⟩, by simp only; omega, ?_⟩
          · rw [← hE, hpe, List.nil_append]
          · refine To.go [0, 1, 2, 3] _ rfl (.refl s) (by decide) (by simp) ?_ ?_
            · simp +contextual only [go_sem, hlen1, hlv, pu_ren hpu, lcondB_decide, lcondB_not, lguardB_decide_true, lguardB_decide_false, ldguardB_decide, Nat.reduceLT, Nat.reduceEqDiff, Nat.reduceAdd, Nat.reduceLeDiff, reduceIte, reduceCtorEq]
            · simp only [go_sem, map_gso_pu (edc_pul _), ren_gsv, lcondB_decide, lcondB_not, lguardB_decide_true, lguardB_decide_false, ldguardB_decide, Nat.reduceLT, Nat.reduceEqDiff, Nat.reduceAdd, Nat.reduceLeDiff, reduceIte, reduceCtorEq]
        · obtain ⟨hpe, rfl⟩ := h
          simp +contextual only [go_sem, hlen1, hlv, hw3, hw4, lcondB_decide, lcondB_not, lguardB_decide_true, lguardB_decide_false, ldguardB_decide, Nat.reduceLT, Nat.reduceEqDiff, Nat.reduceAdd, Nat.reduceLeDiff, reduceIte, reduceCtorEq]
          refine ⟨(j + 1, r.at_ + r.long, [], L ++ [e]), ⟨by simp only; omega, by simp only [List.length_append, List.length_singleton]; omega, Nat.zero_le _, by simp only; omega, by simp only; omega, ?_⟩, by simp only; omega, ?_⟩
          · rw [← hE, hpe, List.append_assoc]
          · refine To.go [0, 1, 2, 6] _ rfl (.refl s) (by decide) (by simp) ?_ ?_
            · simp +contextual only [go_sem, hlen1, hlv, pu_ren hpu, lcondB_decide, lcondB_not, lguardB_decide_true, lguardB_decide_false, ldguardB_decide, Nat.reduceLT, Nat.reduceEqDiff, Nat.reduceAdd, Nat.reduceLeDiff, reduceIte, reduceCtorEq]
            · simp only [go_sem, map_gso_pu (edc_pul _), ren_gsv, lcondB_decide, lcondB_not, lguardB_decide_true, lguardB_decide_false, ldguardB_decide, Nat.reduceLT, Nat.reduceEqDiff, Nat.reduceAdd, Nat.reduceLeDiff, reduceIte, reduceCtorEq]
      · rw [if_neg (by simpa using ht), if_neg hl] at hE
        have hw1 : w.length ≤ (j + 1) * 1000000 := by
          rw [Nat.succ_mul]; exact Nat.le_trans hw (Nat.le_add_right _ _)
        refine ⟨(j + 1, a, w, L), ⟨by simp only; omega, by simp only; omega, hw1, ha0, ha1, hE⟩, by simp only; omega, ?_⟩
        refine To.go [0, 1, 2, 3] _ rfl (.refl s) (by decide) (by simp) ?_ ?_
        · simp +contextual only [go_sem, hlen1, hlv, pu_ren hpu, lcondB_decide, lcondB_not, lguardB_decide_true, lguardB_decide_false, ldguardB_decide, Nat.reduceLT, Nat.reduceEqDiff, Nat.reduceAdd, Nat.reduceLeDiff, reduceIte, reduceCtorEq]
        · simp only [go_sem, map_gso_pu (edc_pul _), ren_gsv, lcondB_decide, lcondB_not, lguardB_decide_true, lguardB_decide_false, ldguardB_decide, Nat.reduceLT, Nat.reduceEqDiff, Nat.reduceAdd, Nat.reduceLeDiff, reduceIte, reduceCtorEq]
    · have hj2 : j = F.length := by omega
      rw [hj2, List.drop_length, rGo] at hE
      refine lfunG_to (lv := [(5, .ptr (nm s.nx 0) 0), (40, .func (.func 75) [] [.ptr (nm s.nx 1) 0, .ptr (nm s.nx 2) 0, .ptr (nm s.nx 0) 0]), (41, .int .i64 n)])
        (h := loc s 5 [(0, some (.cells [gsv 3 (nm s.nx 3) L.length] (some 27))), (1, some (.cells [.int .i64 a] (some 3))), (2, some (.cells [.str w] (some 9))), (3, gso 37 (edc L)), (4, none)]) (To.go [0, 1, 2, 3, 9] _ rfl (.refl s) (by decide) (by simp) ?_ ?_) ?_
      · simp +contextual only [go_sem, hlen1, hlv, lcondB_decide, lcondB_not, lguardB_decide_true, lguardB_decide_false, ldguardB_decide, Nat.reduceLT, Nat.reduceEqDiff, Nat.reduceAdd, Nat.reduceLeDiff, reduceIte, reduceCtorEq]
      · simp only [go_sem, map_gso_pu (edc_pul _), ren_gsv, lcondB_decide, lcondB_not, lguardB_decide_true, lguardB_decide_false, ldguardB_decide, Nat.reduceLT, Nat.reduceEqDiff, Nat.reduceAdd, Nat.reduceLeDiff, reduceIte, reduceCtorEq]
      · intro tm2 hlen2 hlv2
        simp only [go_sem, hlen1, lcondB_decide, lcondB_not, lguardB_decide_true, lguardB_decide_false, ldguardB_decide, Nat.reduceLT, Nat.reduceEqDiff, Nat.reduceAdd, Nat.reduceLeDiff, reduceIte, reduceCtorEq] at hlen2 hlv2
        simp +contextual only [go_sem, hlen2, hlv2, lcondB_decide, lcondB_not, lguardB_decide_true, lguardB_decide_false, ldguardB_decide, Nat.reduceLT, Nat.reduceEqDiff, Nat.reduceAdd, Nat.reduceLeDiff, reduceIte, reduceCtorEq]
        refine lfunG_eqc' rfl (pushR (by omega) (by omega) (by omega) (by omega) (by omega)) ?_
        rintro _ t ⟨rfl, h | ⟨e, h⟩⟩
        · obtain ⟨hpe, rfl⟩ := h
          rw [hpe, List.append_nil] at hE
          simp +contextual only [go_sem, hlen2, hlv2, lcondB_decide, lcondB_not, lguardB_decide_true, lguardB_decide_false, ldguardB_decide, Nat.reduceLT, Nat.reduceEqDiff, Nat.reduceAdd, Nat.reduceLeDiff, reduceIte, reduceCtorEq]
          refine lexit_freezeG 3 3 (L.map Ed.enc) (by simp only [go_sem, lcondB_decide, lcondB_not, lguardB_decide_true, lguardB_decide_false, ldguardB_decide, Nat.reduceLT, Nat.reduceEqDiff, Nat.reduceAdd, Nat.reduceLeDiff, reduceIte, reduceCtorEq]; rfl) (enc_len L) (by decide) ?_
          simp only [go_sem, len_fz, hE, lcondB_decide, lcondB_not, lguardB_decide_true, lguardB_decide_false, ldguardB_decide, Nat.reduceLT, Nat.reduceEqDiff, Nat.reduceAdd, Nat.reduceLeDiff, reduceIte, reduceCtorEq]
          exact lexit_pure (.refl s) (low.mono (Nat.zero_le _) (edv_pu _)) ⟨rfl, rfl⟩
        · obtain ⟨hpe, rfl⟩ := h
          rw [hpe] at hE
          simp +contextual only [go_sem, hlen2, hlv2, lcondB_decide, lcondB_not, lguardB_decide_true, lguardB_decide_false, ldguardB_decide, Nat.reduceLT, Nat.reduceEqDiff, Nat.reduceAdd, Nat.reduceLeDiff, reduceIte, reduceCtorEq]
          refine lexit_freezeG 6 3 ((L ++ [e]).map Ed.enc) (by simp only [go_sem, lcondB_decide, lcondB_not, lguardB_decide_true, lguardB_decide_false, ldguardB_decide, Nat.reduceLT, Nat.reduceEqDiff, Nat.reduceAdd, Nat.reduceLeDiff, reduceIte, reduceCtorEq]; rfl) (enc_len _) (by decide) ?_
          simp only [go_sem, len_fz, hE, lcondB_decide, lcondB_not, lguardB_decide_true, lguardB_decide_false, ldguardB_decide, Nat.reduceLT, Nat.reduceEqDiff, Nat.reduceAdd, Nat.reduceLeDiff, reduceIte, reduceCtorEq]
          exact lexit_pure (.refl s) (low.mono (Nat.zero_le _) (edv_pu _)) ⟨rfl, rfl⟩
end Go.S1N
end
section
set_option linter.unusedVariables false
set_option linter.unusedSimpArgs false
namespace Go.S1N
open Go Go.Am Go.Proofs Go.S1
set_option maxRecDepth 100000
set_option linter.unusedSimpArgs false
attribute [local irreducible] lopsB lvb lstepB lfunG lcondB lguardB ldrawB ldrunB ldstepB ldguardB lmem lval ldmem ldval ldfun lexit ldloadB ldlenB lpostB athen ablock
def outs (M : Nat) : Nat → List Rn → List Ed → List Rn
  | a, Q, [] => takeO (M - a) Q
  | a, Q, e :: r => takeO (e.at_ - a).toNat Q ++ ⟨0, 0, e.new⟩ :: outs M (e.at_ + e.cut).toNat (restO e.cut.toNat (restO (e.at_ - a).toNat Q)) r
theorem restO_ok : ∀ (R : List Rn) (n : Nat), (∀ r ∈ R, RB r) → n ≤ tot R → (∀ x ∈ restO n R, RB x) ∧ tot (restO n R) = tot R - n
  | [], n, _, h => ⟨by simp [restO], by simp [restO, tot]⟩
  | r :: R, n, hR, h => by
    have hr := hR r (List.mem_cons_self ..)
    have hR2 := fun x hx => hR x (List.mem_cons_of_mem r hx)
    rw [restO]
    split
    · rename_i h0; subst h0; exact ⟨hR, by omega⟩
    · split
      · rename_i h0 h1
        refine ⟨RB.restL hR h1 rfl, ?_⟩
        have e1 := rfl1_len hr.ok
        have e2 := rfl1_len (hr.rest h1).ok
        rw [(rfl1_rest hr.ok h1).1, List.length_drop, e1] at e2
        simp only [tot]
        omega
      · rename_i h0 h1
        simp only [tot] at h
        have ih := restO_ok R (n - rsize r) hR2 (by omega)
        refine ⟨ih.1, ?_⟩
        rw [ih.2]
        simp only [tot]
        omega
theorem takeO_len : ∀ (R : List Rn) (n : Nat), (∀ r ∈ R, RB r) → (takeO n R).length ≤ n
  | [], n, _ => by simp [takeO]
  | r :: R, n, hR => by
    have hr := hR r (List.mem_cons_self ..)
    have hR2 := fun x hx => hR x (List.mem_cons_of_mem r hx)
    rw [takeO]
    split
    · simp
    · split
      · simp; omega
      · have ih := takeO_len R (n - rsize r) hR2
        have := hr.pos
        simp only [List.length_cons]
        omega
theorem then_ok (n : Int) (av bv : AV) (a b : List Ed) (ha : SlE av a) (hb : SlE bv b) (hal : a.length ≤ 2000) (hbl : b.length ≤ 2000) (hn0 : 0 ≤ n) (hn : n ≤ 20000) (hsc : scan n (-1) a = 0) (M : Nat) (hM : longOf n a = M) (hM2 : M ≤ 20000)
    (hRB : ∀ r ∈ live (runsFrom n 0 a), RB r) (htot : tot (live (runsFrom n 0 a)) = M) (hsb : scan M (-1) b = 0) (hF : ∀ r ∈ outs M 0 (live (runsFrom n 0 a)) b, 0 ≤ r.at_ ∧ r.at_ ≤ 1000000000 ∧ r.at_ + r.long ≤ 1000000000 ∧ 0 ≤ r.long ∧ r.text.length ≤ 1000000)
    (hrl : (runsFrom n 0 a).length ≤ 1000000) (s : AHeap) :
    ACall Tryz.prog 39 [.int .i64 n, av, bv] s fun r t => r = edv (rGo n 0 [] (outs M 0 (live (runsFrom n 0 a)) b)) ∧ t = s := by
  refine gob39 (by simp) ?_
  intro tm hlen harg
  simp +contextual only [go_sem, L39, hlen, harg, lcondB_decide, lcondB_not, lguardB_decide_true, lguardB_decide_false, ldguardB_decide, Nat.reduceLT, Nat.reduceEqDiff, Nat.reduceAdd, Nat.reduceLeDiff, reduceIte, reduceCtorEq]
  refine lfunG_eq (runs_own' n av a ha hal hn0 hn hsc s) ?_
  simp +contextual only [go_sem, hlen, harg, lcondB_decide, lcondB_not, lguardB_decide_true, lguardB_decide_false, ldguardB_decide, Nat.reduceLT, Nat.reduceEqDiff, Nat.reduceAdd, Nat.reduceLeDiff, reduceIte, reduceCtorEq]
  generalize hL : runsFrom n 0 a = L at *
  refine lfunG_of (del_ok (by omega)) ?_
  rintro _ _ ⟨C, hC, rfl, rfl⟩
  generalize hL0 : live L = L0 at *
  simp +contextual only [go_sem, hlen, harg, hb.len, lcondB_decide, lcondB_not, lguardB_decide_true, lguardB_decide_false, ldguardB_decide, Nat.reduceLT, Nat.reduceEqDiff, Nat.reduceAdd, Nat.reduceLeDiff, reduceIte, reduceCtorEq]
  refine ⟨Nat × Nat × Int × Nat × List AV × List Rn × List Rn, fun x => [(0, .int .i64 n), (1, av), (7, .ptr (nm s.nx 0) 0), (8, .int .i64 x.2.1), (17, bv), (18, .int .i64 b.length), (19, .int .i64 x.1)],
    fun x => loc s 3 [(0, some (.cells [.rs 3 (nm s.nx 1) x.2.2.2.1 x.2.2.2.2.2.1.length, gsv 3 (nm s.nx 2) x.2.2.2.2.2.2.length] (some 135))), (1, some (.cells x.2.2.2.2.1 (some 98))), (2, gso 98 (rnc x.2.2.2.2.2.2))],
    fun x => x.1 ≤ b.length ∧ LB x.2.2.2.2.1 x.2.2.2.1 x.2.2.2.2.2.1 ∧ (∀ r ∈ x.2.2.2.2.2.1, RB r) ∧ x.2.1 + tot x.2.2.2.2.2.1 = M ∧ (x.2.2.1 = x.2.1 ∨ (x.2.2.1 = -1 ∧ x.2.1 = 0)) ∧ scan M x.2.2.1 (b.drop x.1) = 0 ∧
      x.2.2.2.2.2.2.length ≤ x.2.1 + x.1 ∧ x.2.2.2.2.2.2 ++ outs M x.2.1 x.2.2.2.2.2.1 (b.drop x.1) = outs M 0 L0 b,
    fun x => b.length - x.1, (0, 0, -1, 0, C, L0, []), ⟨Nat.zero_le _, hC, hRB, by simp only; omega, .inr ⟨rfl, rfl⟩, hsb, by simp, by simp⟩, ?_, ?_⟩
  · refine To.go [1, 0, 9] _ rfl (.refl s) (by decide) (by simp) ?_ ?_
    · simp +contextual only [go_sem, hlen, harg, pu_ren ha.pu, pu_ren hb.pu, lcondB_decide, lcondB_not, lguardB_decide_true, lguardB_decide_false, ldguardB_decide, Nat.reduceLT, Nat.reduceEqDiff, Nat.reduceAdd, Nat.reduceLeDiff, reduceIte, reduceCtorEq]
      rfl
    · simp only [go_sem, pul_ren hC.pu, gsv_zero, lcondB_decide, lcondB_not, lguardB_decide_true, lguardB_decide_false, ldguardB_decide, Nat.reduceLT, Nat.reduceEqDiff, Nat.reduceAdd, Nat.reduceLeDiff, reduceIte, reduceCtorEq]
      simp [rnc, gso_nil]
  · rintro ⟨i, at_, B, q, D, Q, O⟩ tm1 ⟨hi, hD, hQ, hM3, hB, hs, hO, hE⟩ hlen1 hlv
    simp only [go_sem, hlen, lcondB_decide, lcondB_not, lguardB_decide_true, lguardB_decide_false, ldguardB_decide, Nat.reduceLT, Nat.reduceEqDiff, Nat.reduceAdd, Nat.reduceLeDiff, reduceIte, reduceCtorEq] at hlen1 hlv hi hD hQ hM3 hB hs hO hE
    simp +contextual only [go_sem, hlen, hlen1, hlv, lcondB_decide, lcondB_not, lguardB_decide_true, lguardB_decide_false, ldguardB_decide, Nat.reduceLT, Nat.reduceEqDiff, Nat.reduceAdd, Nat.reduceLeDiff, reduceIte, reduceCtorEq]
    refine ⟨fun hlt => ?_, fun hge => ?_⟩
    · have hi2 : i < b.length := by omega
      have he := List.getElem?_eq_getElem hi2
      have hdrop := List.drop_eq_getElem_cons hi2
      generalize b[i] = e at he hdrop
      rw [hdrop] at hs hE
      obtain ⟨c1, c2, c3, c4, c5, c6⟩ := scan_cons hs
      obtain ⟨k, hk⟩ : ∃ k : Nat, e.at_ - (at_ : Int) = k := ⟨(e.at_ - at_).toNat, by omega⟩
      obtain ⟨c, hc⟩ : ∃ c : Nat, e.cut = c := ⟨e.cut.toNat, by omega⟩
      have hw1 : IntKind.i64.wrap (e.at_ - (at_ : Int)) = (k : Int) := by rw [wrap_id (by omega), hk]
      have hw2 : IntKind.i64.wrap (e.at_ + (c : Int)) = ((at_ + k + c : Nat) : Int) := by rw [wrap_id (by omega)]; omega
      have hw3 : IntKind.i64.wrap ((i : Int) + 1) = ((i + 1 : Nat) : Int) := by rw [wrap_id (by omega)]; rfl
      obtain ⟨q1, q2⟩ := restO_ok Q k hQ (by omega)
      have q3 := takeO_len Q k hQ
      obtain ⟨q4, q5⟩ := restO_ok (restO k Q) c q1 (by omega)
      rw [outs, hk, hc, Int.toNat_natCast, Int.toNat_natCast, show (e.at_ + (c : Int)).toNat = at_ + k + c by omega] at hE
      simp +contextual only [go_sem, hlen1, hlv, hb.at he, hw1, lcondB_decide, lcondB_not, lguardB_decide_true, lguardB_decide_false, ldguardB_decide, Nat.reduceLT, Nat.reduceEqDiff, Nat.reduceAdd, Nat.reduceLeDiff, reduceIte, reduceCtorEq]
      refine lfunG_of (keep_ok k D q Q O (some (.cells [.int .i64 e.at_, .int .i64 e.cut, .str e.new] (some 37))) (by intro f; simp only [go_sem, lcondB_decide, lcondB_not, lguardB_decide_true, lguardB_decide_false, ldguardB_decide, Nat.reduceLT, Nat.reduceEqDiff, Nat.reduceAdd, Nat.reduceLeDiff, reduceIte, reduceCtorEq]) hD hQ (by omega) (by omega)) ?_
      rintro _ _ ⟨rfl, D1, o1, j, hj, hD1, rfl⟩
      have hpick : ∃ rr : List Nat, rr = [0, 1, j, 3] ∧ rr.Nodup := ⟨_, rfl, by rcases hj with rfl | rfl <;> decide⟩
      obtain ⟨rr, hrr, hnd⟩ := hpick
      simp +contextual only [go_sem, hlen1, hlv, hc, lcondB_decide, lcondB_not, lguardB_decide_true, lguardB_decide_false, ldguardB_decide, Nat.reduceLT, Nat.reduceEqDiff, Nat.reduceAdd, Nat.reduceLeDiff, reduceIte, reduceCtorEq]
      refine lfunG_to (lv := [(0, .int .i64 n), (1, av), (7, .ptr (nm s.nx 0) 0), (8, .int .i64 at_), (10, .ptr (nm s.nx 3) 0), (17, bv), (18, .int .i64 b.length), (19, .int .i64 i), (29, .ptr (nm s.nx 0) 0), (31, .int .i64 c)])
        (h := loc s 4 [(0, some (.cells [.rs 3 (nm s.nx 1) o1 (restO k Q).length, gsv 3 (nm s.nx 2) (O ++ takeO k Q).length] (some 135))), (1, some (.cells D1 (some 98))), (2, gso 98 (rnc (O ++ takeO k Q))), (3, some (.cells [.int .i64 e.at_, .int .i64 c, .str e.new] (some 37)))]) (To.go rr _ (by rw [hrr]; rfl) (.refl s) hnd (by simp) ?_ ?_) ?_
      · rw [hrr]
        rcases hj with rfl | rfl <;> simp +contextual only [go_sem, hlen1, hlv, pu_ren ha.pu, pu_ren hb.pu, lcondB_decide, lcondB_not, lguardB_decide_true, lguardB_decide_false, ldguardB_decide, Nat.reduceLT, Nat.reduceEqDiff, Nat.reduceAdd, Nat.reduceLeDiff, reduceIte, reduceCtorEq]
      · rw [hrr]
        rcases hj with rfl | rfl <;> simp only [go_sem, map_gso_pu (rnc_pul _), pul_ren hD1.pu, ren_gsv, lcondB_decide, lcondB_not, lguardB_decide_true, lguardB_decide_false, ldguardB_decide, Nat.reduceLT, Nat.reduceEqDiff, Nat.reduceAdd, Nat.reduceLeDiff, reduceIte, reduceCtorEq]
      intro tm2 hlen2 hlv2
      simp only [go_sem, hlen1, lcondB_decide, lcondB_not, lguardB_decide_true, lguardB_decide_false, ldguardB_decide, Nat.reduceLT, Nat.reduceEqDiff, Nat.reduceAdd, Nat.reduceLeDiff, reduceIte, reduceCtorEq] at hlen2 hlv2
      simp +contextual only [go_sem, hlen2, hlv2, lcondB_decide, lcondB_not, lguardB_decide_true, lguardB_decide_false, ldguardB_decide, Nat.reduceLT, Nat.reduceEqDiff, Nat.reduceAdd, Nat.reduceLeDiff, reduceIte, reduceCtorEq]
      refine lfunG_of (drop_ok c D1 o1 (restO k Q) (O ++ takeO k Q) (some (.cells [.int .i64 e.at_, .int .i64 c, .str e.new] (some 37))) (by intro f; simp only [go_sem, lcondB_decide, lcondB_not, lguardB_decide_true, lguardB_decide_false, ldguardB_decide, Nat.reduceLT, Nat.reduceEqDiff, Nat.reduceAdd, Nat.reduceLeDiff, reduceIte, reduceCtorEq]) hD1 q1 (by omega) (by omega)) ?_
      rintro _ _ ⟨rfl, D2, o2, hD2, rfl⟩
      simp +contextual only [go_sem, hlen2, hlv2, lcondB_decide, lcondB_not, lguardB_decide_true, lguardB_decide_false, ldguardB_decide, Nat.reduceLT, Nat.reduceEqDiff, Nat.reduceAdd, Nat.reduceLeDiff, reduceIte, reduceCtorEq]
      refine ldrawB_go [] [(4, 1)] 10 (by decide) ?_
      simp +contextual only [go_sem, hlen2, hlv2, lcondB_decide, lcondB_not, lguardB_decide_true, lguardB_decide_false, ldguardB_decide, Nat.reduceLT, Nat.reduceEqDiff, Nat.reduceAdd, Nat.reduceLeDiff, reduceIte, reduceCtorEq]
      refine ldfun_pure _ (fresh_ok _) ?_
      simp +contextual only [go_sem, hlen2, hlv2, Rn.enc, lcondB_decide, lcondB_not, lguardB_decide_true, lguardB_decide_false, ldguardB_decide, Nat.reduceLT, Nat.reduceEqDiff, Nat.reduceAdd, Nat.reduceLeDiff, reduceIte, reduceCtorEq]
      refine ldmem_eq (app89 (acellsOf_rs (by simp only [go_sem, lcondB_decide, lcondB_not, lguardB_decide_true, lguardB_decide_false, ldguardB_decide, Nat.reduceLT, Nat.reduceEqDiff, Nat.reduceAdd, Nat.reduceLeDiff, reduceIte, reduceCtorEq]; rfl) (by rfl) rfl) (by decide) (by simp only [go_sem, lcondB_decide, lcondB_not, lguardB_decide_true, lguardB_decide_false, ldguardB_decide, Nat.reduceLT, Nat.reduceEqDiff, Nat.reduceAdd, Nat.reduceLeDiff, reduceIte, reduceCtorEq]) (by simp only [go_sem, lcondB_decide, lcondB_not, lguardB_decide_true, lguardB_decide_false, ldguardB_decide, Nat.reduceLT, Nat.reduceEqDiff, Nat.reduceAdd, Nat.reduceLeDiff, reduceIte, reduceCtorEq]) (rnc_len (O ++ takeO k Q)) (by simp only [List.length_append]; omega) rfl) ?_
      simp +contextual only [go_sem, hlen2, hlv2, hw2, hw3, lcondB_decide, lcondB_not, lguardB_decide_true, lguardB_decide_false, ldguardB_decide, Nat.reduceLT, Nat.reduceEqDiff, Nat.reduceAdd, Nat.reduceLeDiff, reduceIte, reduceCtorEq]
      refine ⟨by kernel_rfl, (i + 1, at_ + k + c, e.at_ + e.cut, o2, D2, restO c (restO k Q), (O ++ takeO k Q) ++ [⟨0, 0, e.new⟩]), ⟨by simp only; omega, hD2, q4, by simp only; omega, .inl (by simp only; omega), c6, by simp only [List.length_append, List.length_singleton]; omega, ?_⟩, by simp only; omega, ?_⟩
      · rw [← hE]
        simp only [List.append_assoc, List.cons_append, List.nil_append]
      · refine To.go [0, 1, 15] _ rfl (.refl s) (by decide) (by simp) ?_ ?_
        · simp +contextual only [go_sem, hlen2, hlv2, pu_ren ha.pu, pu_ren hb.pu, lcondB_decide, lcondB_not, lguardB_decide_true, lguardB_decide_false, ldguardB_decide, Nat.reduceLT, Nat.reduceEqDiff, Nat.reduceAdd, Nat.reduceLeDiff, reduceIte, reduceCtorEq]
        · simp only [go_sem, map_gso_pu (rnc_pul _), pul_ren hD2.pu, ren_gsv, lcondB_decide, lcondB_not, lguardB_decide_true, lguardB_decide_false, ldguardB_decide, Nat.reduceLT, Nat.reduceEqDiff, Nat.reduceAdd, Nat.reduceLeDiff, reduceIte, reduceCtorEq]
          rw [show ((O ++ takeO k Q) ++ [(⟨0, 0, e.new⟩ : Rn)]).length = (O ++ takeO k Q).length + 1 from List.length_append, gsv_pos (Nat.succ_ne_zero _), gso_pos (by rw [rnc_snoc]; simp), rnc_snoc]
          exact ⟨rfl, rfl⟩
    · have hi2 : i = b.length := by omega
      rw [hi2, List.drop_length, outs] at hE
      have hw1 : IntKind.i64.wrap ((M : Int) - (at_ : Int)) = ((M - at_ : Nat) : Int) := by rw [wrap_id (by omega)]; omega
      have q3 := takeO_len Q (M - at_) hQ
      refine lfunG_eq (longE n av a ha (by omega) _) ?_
      simp +contextual only [go_sem, hlen1, hlv, hM, hw1, lcondB_decide, lcondB_not, lguardB_decide_true, lguardB_decide_false, ldguardB_decide, Nat.reduceLT, Nat.reduceEqDiff, Nat.reduceAdd, Nat.reduceLeDiff, reduceIte, reduceCtorEq]
      refine lfunG_to (lv := [(0, .int .i64 n), (7, .ptr (nm s.nx 0) 0), (51, .ptr (nm s.nx 0) 0), (56, .int .i64 ((M - at_ : Nat) : Int))])
        (h := loc s 4 [(0, some (.cells [.rs 3 (nm s.nx 1) q Q.length, gsv 3 (nm s.nx 2) O.length] (some 135))), (1, some (.cells D (some 98))), (2, gso 98 (rnc O)), (3, none)]) (To.go [0, 1, 2, 9] _ rfl (.refl s) (by decide) (by simp) ?_ ?_) ?_
      · simp +contextual only [go_sem, hlen1, hlv, lcondB_decide, lcondB_not, lguardB_decide_true, lguardB_decide_false, ldguardB_decide, Nat.reduceLT, Nat.reduceEqDiff, Nat.reduceAdd, Nat.reduceLeDiff, reduceIte, reduceCtorEq]
      · simp only [go_sem, map_gso_pu (rnc_pul _), pul_ren hD.pu, ren_gsv, lcondB_decide, lcondB_not, lguardB_decide_true, lguardB_decide_false, ldguardB_decide, Nat.reduceLT, Nat.reduceEqDiff, Nat.reduceAdd, Nat.reduceLeDiff, reduceIte, reduceCtorEq]
      intro tm2 hlen2 hlv2
      simp only [go_sem, hlen1, lcondB_decide, lcondB_not, lguardB_decide_true, lguardB_decide_false, ldguardB_decide, Nat.reduceLT, Nat.reduceEqDiff, Nat.reduceAdd, Nat.reduceLeDiff, reduceIte, reduceCtorEq] at hlen2 hlv2
      simp +contextual only [go_sem, hlen2, hlv2, lcondB_decide, lcondB_not, lguardB_decide_true, lguardB_decide_false, ldguardB_decide, Nat.reduceLT, Nat.reduceEqDiff, Nat.reduceAdd, Nat.reduceLeDiff, reduceIte, reduceCtorEq]
      refine lfunG_of (keep_ok (M - at_) D q Q O none (by intro f; rfl) hD hQ (by omega) (by omega)) ?_
      rintro _ _ ⟨rfl, D1, o1, j, hj, hD1, rfl⟩
      rw [hE]
      have hfl : (outs M 0 L0 b).length ≤ 1000000000 := by rw [← hE, List.length_append]; omega
      rcases hj with rfl | rfl
      all_goals
        simp +contextual only [go_sem, hlen2, hlv2, lcondB_decide, lcondB_not, lguardB_decide_true, lguardB_decide_false, ldguardB_decide, Nat.reduceLT, Nat.reduceEqDiff, Nat.reduceAdd, Nat.reduceLeDiff, reduceIte, reduceCtorEq]
        first
        | refine lfunG_freezeG 2 3 ((outs M 0 L0 b).map Rn.enc) (by simp only [go_sem, lcondB_decide, lcondB_not, lguardB_decide_true, lguardB_decide_false, ldguardB_decide, Nat.reduceLT, Nat.reduceEqDiff, Nat.reduceAdd, Nat.reduceLeDiff, reduceIte, reduceCtorEq]; rfl) (rn_len _) (by decide) ?_
        | refine lfunG_freezeG 4 3 ((outs M 0 L0 b).map Rn.enc) (by simp only [go_sem, lcondB_decide, lcondB_not, lguardB_decide_true, lguardB_decide_false, ldguardB_decide, Nat.reduceLT, Nat.reduceEqDiff, Nat.reduceAdd, Nat.reduceLeDiff, reduceIte, reduceCtorEq]; rfl) (rn_len _) (by decide) ?_
        simp +contextual only [go_sem, hlen2, hlv2, len_rnfz, lcondB_decide, lcondB_not, lguardB_decide_true, lguardB_decide_false, ldguardB_decide, Nat.reduceLT, Nat.reduceEqDiff, Nat.reduceAdd, Nat.reduceLeDiff, reduceIte, reduceCtorEq]
        refine lfunG_eq (editsR_ok n (outs M 0 L0 b) (by omega) hF hfl _) ?_
        simp +contextual only [go_sem, hlen2, hlv2, lcondB_decide, lcondB_not, lguardB_decide_true, lguardB_decide_false, ldguardB_decide, Nat.reduceLT, Nat.reduceEqDiff, Nat.reduceAdd, Nat.reduceLeDiff, reduceIte, reduceCtorEq]
        exact lexit_pure (.refl s) (low.mono (Nat.zero_le _) (edv_pu _)) ⟨rfl, rfl⟩
end Go.S1N
end
section
set_option linter.unusedVariables false
set_option linter.unusedSimpArgs false
namespace Go.S1N
open Go Go.Am Go.Proofs Go.S1
set_option maxRecDepth 100000
set_option linter.unusedSimpArgs false
theorem rflow_cons (r : Rn) (l : List Rn) : rflow (r :: l) = rfl1 r ++ rflow l := List.flatMap_cons
theorem rfl1_emp {r : Rn} (h : r.emp) : rfl1 r = [] := by
  obtain ⟨h1, h2⟩ := h
  simp [rfl1, h1, h2]
theorem live_flow : ∀ L : List Rn, rflow (live L) = rflow L
  | [] => rfl
  | r :: L => by
    have ih := live_flow L
    unfold live at ih ⊢
    rw [List.filter_cons, rflow_cons]
    by_cases h : r.emp
    · rw [if_neg (by simp [h]), rfl1_emp h, ih]; rfl
    · rw [if_pos (by simp [h]), rflow_cons, ih]
theorem tot_flow : ∀ L : List Rn, (∀ r ∈ L, okR r) → tot L = (rflow L).length
  | [], _ => rfl
  | r :: L, h => by
    rw [tot, rflow_cons, List.length_append, rfl1_len (h r (List.mem_cons_self ..)), tot_flow L fun x hx => h x (List.mem_cons_of_mem r hx)]
theorem runs_w (n : Nat) : ∀ (l : List Ed) (a : Nat) (B : Int), (B = a ∨ (B = -1 ∧ a = 0)) → a ≤ n → scan n B l = 0 → (∀ e ∈ l, e.new.length ≤ 100000) → ∀ r ∈ runsFrom n a l, okR r ∧ r.at_ + r.long ≤ n ∧ r.text.length ≤ 100000
  | [], a, B, hB, ha, hs, hn, r, hr => by
    rw [runsFrom, List.mem_singleton] at hr
    subst hr
    exact ⟨⟨by simp only; omega, by simp only; omega, .inl rfl⟩, by simp only; omega, by simp⟩
  | e :: l, a, B, hB, ha, hs, hn, r, hr => by
    obtain ⟨c1, c2, c3, c4, c5, c6⟩ := scan_cons hs
    rw [runsFrom, List.mem_cons, List.mem_cons] at hr
    rcases hr with rfl | rfl | hr
    · exact ⟨⟨by simp only; omega, by simp only; omega, .inl rfl⟩, by simp only; omega, by simp⟩
    · exact ⟨⟨by simp only; omega, by simp only; omega, .inr rfl⟩, by simp only; omega, hn e (List.mem_cons_self ..)⟩
    · have he : e.at_ + e.cut = (((e.at_ + e.cut).toNat : Nat) : Int) := by omega
      rw [he] at hr
      exact runs_w n l (e.at_ + e.cut).toNat (e.at_ + e.cut) (.inl he) (by omega) c6 (fun x hx => hn x (List.mem_cons_of_mem e hx)) r hr
theorem over_app (F G H : List (Int × UInt8)) : overF F (G ++ H) = overF F G ++ overF F H := List.map_append
theorem over_neg (F : List (Int × UInt8)) (w : List UInt8) : overF F (negL w) = negL w := by
  unfold overF negL
  rw [List.map_map]
  refine List.map_congr_left fun c _ => ?_
  simp [overL]
theorem over_run (F : List (Int × UInt8)) (a k : Nat) (h : a + k ≤ F.length) : overF F (runOf a k) = (F.drop a).take k := by
  unfold overF runOf
  rw [List.map_map]
  apply List.ext_getElem
  · simp; omega
  · intro i h1 h2
    simp at h1 h2
    simp only [List.getElem_map, List.getElem_range', Function.comp_apply, List.getElem_take, List.getElem_drop, overL]
    rw [if_pos (by omega), List.getD_eq_getElem?_getD, List.getElem?_eq_getElem (by omega)]
    simp
    have hai : ((a : Int) + (i : Int)).toNat = a + i := by omega
    simp only [hai]
theorem outs_flow (F : List (Int × UInt8)) : ∀ (b : List Ed) (a : Nat) (B : Int) (Q : List Rn), (B = a ∨ (B = -1 ∧ a = 0)) → a ≤ F.length → scan F.length B b = 0 → (∀ r ∈ Q, okR r) → rflow Q = F.drop a → rflow (outs F.length a Q b) = overF F (flowFrom F.length a b)
  | [], a, B, Q, hB, ha, hs, hQ, hd => by
    rw [outs, flowFrom, over_run F a _ (by omega), (take_flow Q _ hQ).1, hd]
  | e :: b, a, B, Q, hB, ha, hs, hQ, hd => by
    obtain ⟨c1, c2, c3, c4, c5, c6⟩ := scan_cons hs
    have t1 := take_flow Q (e.at_ - a).toNat hQ
    have t2 := take_flow (restO (e.at_ - a).toNat Q) e.cut.toNat t1.2.2
    have he : e.at_ + e.cut = (((e.at_ + e.cut).toNat : Nat) : Int) := by omega
    rw [outs, flowFrom, over_app, over_app, over_run F a _ (by omega), rflow_app, rflow_cons, rfl1_fresh, t1.1, hd]
    rw [outs_flow F b (e.at_ + e.cut).toNat (e.at_ + e.cut) _ (.inl he) (by omega) c6 t2.2.2 (by
      rw [t2.2.1, t1.2.1, hd, List.drop_drop, List.drop_drop]
      congr 1; omega)]
    rw [show (e.at_ - (a : Int)).toNat = e.at_.toNat - a by omega, List.append_assoc]
    congr 2
    exact (over_neg F e.new).symm
theorem outs_b (M : Nat) : ∀ (b : List Ed) (a : Nat) (Q : List Rn), (∀ r ∈ Q, RB r ∧ r.text.length ≤ 1000000) → (∀ e ∈ b, e.new.length ≤ 100000) → ∀ r ∈ outs M a Q b, 0 ≤ r.at_ ∧ r.at_ ≤ 1000000000 ∧ r.at_ + r.long ≤ 1000000000 ∧ 0 ≤ r.long ∧ r.text.length ≤ 1000000 := by
  have take : ∀ (Q : List Rn) (k : Nat), (∀ r ∈ Q, RB r ∧ r.text.length ≤ 1000000) → ∀ r ∈ takeO k Q, 0 ≤ r.at_ ∧ r.at_ ≤ 1000000000 ∧ r.at_ + r.long ≤ 1000000000 ∧ 0 ≤ r.long ∧ r.text.length ≤ 1000000 := by
    intro Q
    induction Q with
    | nil => intro k _ r hr; simp [takeO] at hr
    | cons q Q ih =>
      intro k hQ r hr
      have hq := hQ q (List.mem_cons_self ..)
      have cut : ∀ k, k ≤ rsize q → 0 ≤ (cutR q k).at_ ∧ (cutR q k).at_ ≤ 1000000000 ∧ (cutR q k).at_ + (cutR q k).long ≤ 1000000000 ∧ 0 ≤ (cutR q k).long ∧ (cutR q k).text.length ≤ 1000000 := by
        intro k hk
        obtain ⟨⟨⟨a1, a2, a3⟩, a4, a5, a6⟩, a7⟩ := hq
        unfold cutR
        split
        · refine ⟨by simp only; omega, by simp only; omega, by simp only; omega, by simp only; omega, ?_⟩
          simp only [List.length_take]; omega
        · rename_i ht
          have ht : q.text = [] := by simpa using ht
          unfold rsize at hk
          rw [ht] at hk
          simp at hk
          exact ⟨a5, by simp only; omega, by simp only; omega, by simp only; omega, by simp⟩
      rw [takeO] at hr
      split at hr
      · cases hr
      · split at hr
        · rw [List.mem_singleton] at hr
          subst hr
          exact cut _ (by omega)
        · rcases List.mem_cons.1 hr with rfl | hr
          · exact cut _ (Nat.le_refl _)
          · exact ih _ (fun x hx => hQ x (List.mem_cons_of_mem q hx)) r hr
  have rest : ∀ (Q : List Rn) (k : Nat), (∀ r ∈ Q, RB r ∧ r.text.length ≤ 1000000) → ∀ r ∈ restO k Q, RB r ∧ r.text.length ≤ 1000000 := by
    intro Q
    induction Q with
    | nil => intro k _ r hr; simp [restO] at hr
    | cons q Q ih =>
      intro k hQ r hr
      have hq := hQ q (List.mem_cons_self ..)
      rw [restO] at hr
      split at hr
      · exact hQ r hr
      · split at hr
        · rename_i h1
          rcases List.mem_cons.1 hr with rfl | hr
          · refine ⟨hq.1.rest h1, ?_⟩
            unfold restR
            split
            · simp only [List.length_drop]; omega
            · simp
          · exact hQ r (List.mem_cons_of_mem q hr)
        · exact ih _ (fun x hx => hQ x (List.mem_cons_of_mem q hx)) r hr
  intro b
  induction b with
  | nil => intro a Q hQ _ r hr; exact take Q _ hQ r hr
  | cons e b ih =>
    intro a Q hQ hb r hr
    rw [outs] at hr
    rcases List.mem_append.1 hr with hr | hr
    · exact take Q _ hQ r hr
    · rcases List.mem_cons.1 hr with rfl | hr
      · exact ⟨by simp only; omega, by simp only; omega, by simp only; omega, by simp only; omega, by have := hb e (List.mem_cons_self ..); simp only; omega⟩
      · exact ih _ _ (rest _ _ (rest _ _ hQ)) (fun x hx => hb x (List.mem_cons_of_mem e hx)) r hr
theorem thenE_ok (n : Nat) (av bv : AV) (a b : List Ed) (ha : SlE av a) (hb : SlE bv b) (hn : n ≤ 20000) (hfa : faultOf n a = 0) (hfb : faultOf (flowFrom n 0 a).length b = 0) (hna : ∀ e ∈ a, e.new.length ≤ 100000) (hnb : ∀ e ∈ b, e.new.length ≤ 100000) (s : AHeap) :
    ACall Tryz.prog 39 [.int .i64 n, av, bv] s fun r t => r = edv (edGo n 0 [] (overF (flowFrom n 0 a) (flowFrom (flowFrom n 0 a).length 0 b))) ∧ t = s := by
  obtain ⟨_, _, ha2, hsa⟩ := faultOf_zero hfa
  obtain ⟨_, hM, hb2, hsb⟩ := faultOf_zero hfb
  obtain ⟨q1, q2⟩ := flow_short hfa hna
  have hw := runs_w n a 0 (-1) (.inr ⟨rfl, rfl⟩) (by omega) hsa hna
  have hRB : ∀ r ∈ live (runsFrom n 0 a), RB r ∧ r.text.length ≤ 1000000 := by
    intro r hr
    obtain ⟨h1, h2⟩ := List.mem_filter.1 hr
    obtain ⟨g1, g2, g3⟩ := hw r h1
    have hne : ¬ r.emp := by simpa using h2
    refine ⟨⟨g1, ?_, g1.1, by omega⟩, by omega⟩
    unfold rsize
    rcases Nat.eq_zero_or_pos (max r.long.toNat r.text.length) with h | h
    · exfalso
      refine hne ⟨?_, List.eq_nil_of_length_eq_zero (by omega)⟩
      have := g1.2.1
      omega
    · exact h
  have hfl : rflow (live (runsFrom n 0 a)) = flowFrom n 0 a := by
    rw [live_flow]; exact runs_flow n a 0 (-1) (.inr ⟨rfl, rfl⟩) (by omega) hsa
  have htot : tot (live (runsFrom n 0 a)) = (flowFrom n 0 a).length := by rw [tot_flow _ fun r hr => (hRB r hr).1.ok, hfl]
  have hob := outs_b (flowFrom n 0 a).length b 0 _ hRB hnb
  have key := then_ok n av bv a b ha hb ha2 hb2 (by omega) (by omega) hsa (flowFrom n 0 a).length q2 q1 (fun r hr => (hRB r hr).1) htot hsb hob (by rw [runs_len]; omega) s
  rw [rGo_flow n _ 0 [] fun r hr => (hob r hr).1, outs_flow (flowFrom n 0 a) b 0 (-1) _ (.inr ⟨rfl, rfl⟩) (by omega) hsb (fun r hr => (hRB r hr).1.ok) (by rw [hfl]; rfl)] at key
  exact key
end Go.S1N
end
section
set_option linter.unusedVariables false
set_option linter.unusedSimpArgs false
namespace Go.S1N
open Go Go.Am Go.Proofs Go.S1
set_option maxRecDepth 100000
set_option linter.unusedSimpArgs false
theorem push_len (a : Int) (w : List UInt8) (to : Int) : (pushE a w to).length ≤ 1 := by unfold pushE; split <;> simp
theorem ed_len (n : Int) : ∀ (F : List (Int × UInt8)) (a : Int) (w : List UInt8), (edGo n a w F).length ≤ F.length + 1
  | [], a, w => by rw [edGo]; have := push_len a w n; simpa using this
  | p :: F, a, w => by
    rw [edGo, List.length_cons]
    split
    · have := ed_len n F a (w ++ [p.2]); omega
    · rw [List.length_append]
      have := ed_len n F (p.1 + 1) []
      have := push_len a w p.1
      omega
theorem long_flow7 {n : Nat} {l : List Ed} (hn : n ≤ 20000) (hl : l.length ≤ 2000) (hnew : ∀ e ∈ l, e.new.length ≤ 100000) (hs : scan n (-1) l = 0) : longOf n l = (flowFrom n 0 l).length := by
  have q1 := flow_dl n l 0 (-1) (.inr ⟨rfl, rfl⟩) (by omega) hs
  have q2 := long_dl l n (fun e he => ⟨hnew e he, by have := scan_range l _ hs e he; omega⟩) (by omega) (by omega)
  omega
theorem fault_mk {n : Nat} {l : List Ed} (hn : n ≤ 20000) (hl : l.length ≤ 2000) (hnew : ∀ e ∈ l, e.new.length ≤ 100000) (hs : scan n (-1) l = 0) (hf : (flowFrom n 0 l).length ≤ 20000) : faultOf n l = 0 := by
  have := long_flow7 hn hl hnew hs
  rw [faultOf, if_neg (by omega), if_neg (by omega), if_neg (by rw [hs]; decide), if_neg (by omega)]
theorem over_len (F G : List (Int × UInt8)) : (overF F G).length = G.length := by simp [overF]
theorem then_small {n : Nat} {a b : List Ed} (ha : faultOf n a = 0) (hb : faultOf (flowFrom n 0 a).length b = 0) (hs : (flowFrom (flowFrom n 0 a).length 0 b).length ≤ 1999) :
    thenVal n a b = (edGo n 0 [] (overF (flowFrom n 0 a) (flowFrom (flowFrom n 0 a).length 0 b)), 0) ∧
    faultOf n (edGo n 0 [] (overF (flowFrom n 0 a) (flowFrom (flowFrom n 0 a).length 0 b))) = 0 ∧
    flowFrom n 0 (edGo n 0 [] (overF (flowFrom n 0 a) (flowFrom (flowFrom n 0 a).length 0 b))) = overF (flowFrom n 0 a) (flowFrom (flowFrom n 0 a).length 0 b) := by
  obtain ⟨_, hn, _, sa⟩ := faultOf_zero ha
  obtain ⟨_, _, _, sb⟩ := faultOf_zero hb
  obtain ⟨r1, r2⟩ := over_right n a b sa sb
  have hl := ed_len n (overF (flowFrom n 0 a) (flowFrom (flowFrom n 0 a).length 0 b)) 0 []
  have hov := over_len (flowFrom n 0 a) (flowFrom (flowFrom n 0 a).length 0 b)
  refine ⟨?_, fault_mk (by omega) (by omega) (fun e he => ?_) r1 (by rw [r2]; omega), r2⟩
  · rw [thenVal, if_neg (by rw [ha]; decide), if_neg (by rw [hb]; decide), if_neg (by omega)]
  · have := ed_new n _ 0 [] e he
    simp only [List.length_nil] at this
    omega
theorem over_assoc {F G H : List (Int × UInt8)} (h : ∀ p ∈ H, p.1 < G.length) : overF F (overF G H) = overF (overF F G) H := by
  unfold overF
  rw [List.map_map]
  refine List.map_congr_left fun p hp => ?_
  have hp := h p hp
  simp only [Function.comp_apply]
  by_cases h0 : 0 ≤ p.1
  · have hg : p.1.toNat < G.length := by omega
    rw [show overL G p = G[p.1.toNat] from by rw [overL, if_pos h0, List.getD_eq_getElem?_getD, List.getElem?_eq_getElem hg]; rfl]
    rw [show overL (G.map (overL F)) p = overL F G[p.1.toNat] from by rw [overL, if_pos h0, List.getD_eq_getElem?_getD, List.getElem?_map, List.getElem?_eq_getElem hg]; rfl]
  · rw [show overL G p = p from if_neg h0, show overL (G.map (overL F)) p = p from if_neg h0, show overL F p = p from if_neg h0]
theorem flow_mem {n : Nat} : ∀ (l : List Ed) (a : Nat) (B : Int), (B = a ∨ (B = -1 ∧ a = 0)) → a ≤ n → scan n B l = 0 → ∀ p ∈ flowFrom n a l, p.1 = -1 ∨ (0 ≤ p.1 ∧ p.1 < n ∧ p.2 = 0)
  | [], a, _, _, ha, _, p, hp => by
    rw [flowFrom] at hp
    have h1 := run_mem hp
    obtain ⟨i, _, rfl⟩ := List.mem_map.1 hp
    right; exact ⟨by simp only; omega, by simp only at h1 ⊢; omega, rfl⟩
  | e :: r, a, B, hB, ha, hs, p, hp => by
    obtain ⟨c1, c2, c3, c4, c5, c6⟩ := scan_cons hs
    simp only [flowFrom, List.mem_append] at hp
    rcases hp with (hp | hp) | hp
    · have h1 := run_mem hp
      obtain ⟨i, _, rfl⟩ := List.mem_map.1 hp
      right; exact ⟨by simp only; omega, by simp only at h1 ⊢; omega, rfl⟩
    · obtain ⟨c, _, rfl⟩ := List.mem_map.1 hp
      exact .inl rfl
    · exact flow_mem r (e.at_ + e.cut).toNat _ (.inl (by omega)) (by omega) c6 p hp
theorem flow_mem0 {n : Nat} {l : List Ed} (hs : scan n (-1) l = 0) : ∀ p ∈ flowFrom n 0 l, p.1 = -1 ∨ (0 ≤ p.1 ∧ p.1 < n ∧ p.2 = 0) := flow_mem l 0 (-1) (.inr ⟨rfl, rfl⟩) (Nat.zero_le _) hs
theorem over_none {n : Nat} {F : List (Int × UInt8)} (h : ∀ p ∈ F, p.1 = -1 ∨ (0 ≤ p.1 ∧ p.1 < n ∧ p.2 = 0)) : overF (flowFrom n 0 []) F = F := by
  unfold overF
  conv => rhs; rw [← List.map_id F]
  refine List.map_congr_left fun p hp => ?_
  rcases h p hp with h | ⟨h1, h2, h3⟩
  · exact if_neg (by omega)
  · rw [overL, if_pos h1, flowFrom, runOf, List.getD_eq_getElem?_getD, List.getElem?_map, List.getElem?_range' (by omega)]
    simp only [Option.map_some, Option.getD_some, id_eq]
    exact Prod.ext (by simp only; omega) h3.symm
theorem say_over (x : List UInt8) (F G : List (Int × UInt8)) (h : ∀ p ∈ G, p.1 < F.length) : G.map (say (F.map (say x))) = (overF F G).map (say x) := by
  unfold overF
  rw [List.map_map]
  refine List.map_congr_left fun p hp => ?_
  have hp := h p hp
  simp only [Function.comp_apply]
  by_cases h0 : 0 ≤ p.1
  · have hg : p.1.toNat < F.length := by omega
    rw [say, if_pos h0, List.getD_eq_getElem?_getD, List.getElem?_map, overL, if_pos h0, List.getD_eq_getElem?_getD, List.getElem?_eq_getElem hg]
    rfl
  · rw [overL, if_neg h0, say, say, if_neg h0, if_neg h0]
theorem assoc_law {n : Nat} {a b c : List Ed} (ha : faultOf n a = 0) (hb : faultOf (flowFrom n 0 a).length b = 0) (hc : faultOf (flowFrom (flowFrom n 0 a).length 0 b).length c = 0)
    (h1 : (flowFrom n 0 a).length ≤ 1999) (h2 : (flowFrom (flowFrom n 0 a).length 0 b).length ≤ 1999) (h3 : (flowFrom (flowFrom (flowFrom n 0 a).length 0 b).length 0 c).length ≤ 1999) :
    (thenVal n a b).2 = 0 ∧ (thenVal (flowFrom n 0 a).length b c).2 = 0 ∧ (thenVal n (thenVal n a b).1 c).2 = 0 ∧
    thenVal n a (thenVal (flowFrom n 0 a).length b c).1 = thenVal n (thenVal n a b).1 c ∧ foldVal n [a, b, c] = thenVal n (thenVal n a b).1 c ∧
    flowFrom n 0 (thenVal n (thenVal n a b).1 c).1 = overF (overF (flowFrom n 0 a) (flowFrom (flowFrom n 0 a).length 0 b)) (flowFrom (flowFrom (flowFrom n 0 a).length 0 b).length 0 c) ∧
    faultOf n (thenVal n (thenVal n a b).1 c).1 = 0 ∧ faultOf n (thenVal n a b).1 = 0 ∧ faultOf (flowFrom n 0 a).length (thenVal (flowFrom n 0 a).length b c).1 = 0 := by
  obtain ⟨n0, hn, _, sa⟩ := faultOf_zero ha
  obtain ⟨_, _, _, sb⟩ := faultOf_zero hb
  obtain ⟨_, _, _, sc⟩ := faultOf_zero hc
  have mF := flow_mem0 sa
  have mG := flow_mem0 sb
  have mH := flow_mem0 sc
  obtain ⟨ab1, ab2, ab3⟩ := then_small ha hb h2
  obtain ⟨bc1, bc2, bc3⟩ := then_small hb hc h3
  have e0 : faultOf n [] = 0 := fault_mk (by omega) (by simp) (by simp) rfl (by rw [flowFrom, Nat.sub_zero, run_len]; omega)
  have fe : (flowFrom n 0 []).length = n := by rw [flowFrom, Nat.sub_zero, run_len]
  obtain ⟨z1, z2, z3⟩ := then_small (n := n) (a := []) (b := a) e0 (by rw [fe]; exact ha) (by rw [fe]; exact h1)
  rw [fe, over_none mF] at z1 z2 z3
  generalize hF : flowFrom n 0 a = F at *
  generalize hG : flowFrom F.length 0 b = G at *
  generalize hH : flowFrom G.length 0 c = H at *
  have asc : overF F (overF G H) = overF (overF F G) H := over_assoc fun p hp => by rcases mH p hp with h | h <;> omega
  have lFG := over_len F G
  have lGH := over_len G H
  -- ab, then c
  have hx := then_small (n := n) (a := edGo n 0 [] (overF F G)) (b := c) ab2 (by rw [ab3, lFG]; exact hc) (by rw [ab3, lFG, hH]; exact h3)
  rw [ab3, lFG, hH] at hx
  obtain ⟨x1, x2, x3⟩ := hx
  -- a, then bc
  have hy := then_small (n := n) (a := a) (b := edGo F.length 0 [] (overF G H)) ha (by rw [hF]; exact bc2) (by rw [hF, bc3, lGH]; exact h3)
  rw [hF, bc3, asc] at hy
  obtain ⟨y1, y2, y3⟩ := hy
  -- all, one behind the other
  have hw := then_small (n := n) (a := edGo n 0 [] F) (b := b) z2 (by rw [z3]; exact hb) (by rw [z3, hG]; exact h2)
  rw [z3, hG] at hw
  obtain ⟨w1, w2, w3⟩ := hw
  rw [ab1, bc1]
  simp only
  refine ⟨trivial, trivial, by rw [x1], by rw [x1, y1], ?_, by rw [x1]; exact x3, by rw [x1]; exact x2, ab2, bc2⟩
  have hch : chkF n [a, b, c] = 0 := by
    rw [chkF, if_neg (by rw [ha]; decide), hF, chkF, if_neg (by rw [hb]; decide), hG, chkF, if_neg (by rw [hc]; decide), chkF]
  rw [foldVal, if_neg (by omega), if_neg (by rw [hch]; decide)]
  rw [foldR, z1, if_neg (by simp), foldR]
  simp only
  rw [w1, if_neg (by simp), foldR]
  simp only
  rw [x1, if_neg (by simp), foldR]
theorem assoc_text (x : List UInt8) {a b c d : List Ed} (ha : scan x.length (-1) a = 0) (hb : scan (flowFrom x.length 0 a).length (-1) b = 0) (hc : scan (flowFrom (flowFrom x.length 0 a).length 0 b).length (-1) c = 0) (hd : scan x.length (-1) d = 0)
    (h : flowFrom x.length 0 d = overF (overF (flowFrom x.length 0 a) (flowFrom (flowFrom x.length 0 a).length 0 b)) (flowFrom (flowFrom (flowFrom x.length 0 a).length 0 b).length 0 c)) :
    applyFrom (applyFrom (applyFrom x 0 a) 0 b) 0 c = applyFrom x 0 d := by
  have s1 := say_flow x a 0 (-1) (.inr ⟨rfl, rfl⟩) (Nat.zero_le _) ha
  have l1 : (applyFrom x 0 a).length = (flowFrom x.length 0 a).length := by rw [← s1, List.length_map]
  have s2 := say_flow (applyFrom x 0 a) b 0 (-1) (.inr ⟨rfl, rfl⟩) (Nat.zero_le _) (by rw [l1]; exact hb)
  rw [l1] at s2
  have l2 : (applyFrom (applyFrom x 0 a) 0 b).length = (flowFrom (flowFrom x.length 0 a).length 0 b).length := by rw [← s2, List.length_map]
  have s3 := say_flow (applyFrom (applyFrom x 0 a) 0 b) c 0 (-1) (.inr ⟨rfl, rfl⟩) (Nat.zero_le _) (by rw [l2]; exact hc)
  rw [l2] at s3
  have s4 := say_flow x d 0 (-1) (.inr ⟨rfl, rfl⟩) (Nat.zero_le _) hd
  have mG := flow_mem0 hb
  have mH := flow_mem0 hc
  rw [← s3, ← s2, ← s1, ← s4, h]
  rw [say_over x _ _ fun p hp => by rcases mG p hp with h | h <;> omega]
  rw [say_over x _ _ fun p hp => by rw [over_len]; rcases mH p hp with h | h <;> omega]
end Go.S1N
end
section
set_option linter.unusedVariables false
set_option linter.unusedSimpArgs false
namespace Go.S1
open Go Go.Am Go.Proofs
set_option maxRecDepth 100000
noncomputable def L97 : LCode := LCode.seq (LCode.ops [⟨Op.assign (Operand.const (Value.int IntKind.i64 0)), some 6, none⟩, ⟨Op.assign (Operand.const (Value.bool false)), some 7, none⟩]) (LCode.seq (LCode.ops [⟨Op.move (Operand.tmp 0), some 12, none⟩, ⟨Op.call { callee := Callee.builtin Builtin.len, args := { toList := [Operand.tmp 12] }, argTypes := { toList := [27] } }, some 13, none⟩, ⟨Op.assign (Operand.tmp 13), some 8, none⟩]) (LCode.seq (LCode.ops [⟨Op.move (Operand.tmp 8), some 14, none⟩, ⟨Op.assign (Operand.const (Value.int IntKind.i64 0)), some 9, none⟩, ⟨Op.assign (Operand.tmp 14), some 10, none⟩]) (LCode.seq (LCode.block 0 (LCode.loop (LCode.seq (LCode.seq (LCode.ops [⟨Op.move (Operand.tmp 9), some 15, none⟩, ⟨Op.move (Operand.tmp 10), some 16, none⟩, ⟨Op.binOp BinOp.lss 3 (Operand.tmp 15) (Operand.tmp 16) 3, some 17, none⟩]) (LCode.cond (Operand.tmp 17) LCode.skip (LCode.exit 0))) (LCode.block 1 (LCode.seq (LCode.ops [⟨Op.move (Operand.tmp 9), some 18, none⟩, ⟨Op.move (Operand.tmp 10), some 19, none⟩, ⟨Op.binOp BinOp.add 3 (Operand.tmp 18) (Operand.tmp 19) 3, some 20, none⟩, ⟨Op.convert 3 216 (Operand.tmp 20), some 21, none⟩, ⟨Op.binOp BinOp.shr 216 (Operand.tmp 21) (Operand.const (Value.int IntKind.u64 1)) 216, some 22, none⟩, ⟨Op.convert 216 3 (Operand.tmp 22), some 23, none⟩, ⟨Op.assign (Operand.tmp 23), some 11, none⟩]) (LCode.seq (LCode.ops [⟨Op.move (Operand.tmp 2), some 24, none⟩, ⟨Op.move (Operand.tmp 0), some 25, none⟩, ⟨Op.move (Operand.tmp 11), some 26, none⟩, ⟨Op.indexAddr 27 (Operand.tmp 25) (Operand.tmp 26), some 27, none⟩, ⟨Op.load 37 (Operand.tmp 27), some 28, none⟩, ⟨Op.move (Operand.tmp 1), some 29, none⟩, ⟨Op.call { callee := Callee.value (Operand.tmp 24), args := { toList := [Operand.tmp 28, Operand.tmp 29] }, argTypes := { toList := [37, 3] } }, some 30, none⟩, ⟨Op.binOp BinOp.lss 3 (Operand.tmp 30) (Operand.const (Value.int IntKind.i64 0)) 3, some 31, none⟩]) (LCode.cond (Operand.tmp 31) (LCode.ops [⟨Op.move (Operand.tmp 11), some 32, none⟩, ⟨Op.binOp BinOp.add 3 (Operand.tmp 32) (Operand.const (Value.int IntKind.i64 1)) 3, some 33, none⟩, ⟨Op.assign (Operand.tmp 33), some 9, none⟩]) (LCode.ops [⟨Op.move (Operand.tmp 11), some 34, none⟩, ⟨Op.assign (Operand.tmp 34), some 10, none⟩])))))))) (LCode.seq (LCode.ops [⟨Op.move (Operand.tmp 9), some 35, none⟩, ⟨Op.move (Operand.tmp 9), some 36, none⟩, ⟨Op.move (Operand.tmp 8), some 37, none⟩, ⟨Op.binOp BinOp.lss 3 (Operand.tmp 36) (Operand.tmp 37) 3, some 38, none⟩, ⟨Op.move (Operand.tmp 38), some 39, none⟩, ⟨Op.move (Operand.tmp 2), some 40, some (39, true)⟩, ⟨Op.move (Operand.tmp 0), some 41, some (39, true)⟩, ⟨Op.move (Operand.tmp 9), some 42, some (39, true)⟩, ⟨Op.indexAddr 27 (Operand.tmp 41) (Operand.tmp 42), some 43, some (39, true)⟩, ⟨Op.load 37 (Operand.tmp 43), some 44, some (39, true)⟩, ⟨Op.move (Operand.tmp 1), some 45, some (39, true)⟩, ⟨Op.call { callee := Callee.value (Operand.tmp 40), args := { toList := [Operand.tmp 44, Operand.tmp 45] }, argTypes := { toList := [37, 3] } }, some 46, some (39, true)⟩, ⟨Op.binOp BinOp.eql 3 (Operand.tmp 46) (Operand.const (Value.int IntKind.i64 0)) 3, some 47, some (39, true)⟩, ⟨Op.pick (Operand.tmp 39) (Operand.tmp 47) (Operand.const (Value.bool false)), some 48, none⟩, ⟨Op.assign (Operand.tmp 35), some 6, none⟩, ⟨Op.assign (Operand.tmp 48), some 7, none⟩]) LCode.ret))))
theorem l97 : Tryz.f97.body.map lighten = some L97 := by kernel_rfl
theorem rs97 : Tryz.f97.results.toList = [ResultVar.tmp 6, ResultVar.tmp 7] := by kernel_rfl
theorem nt97 : Tryz.f97.ntmps = 49 := by kernel_rfl
theorem gob97 {args : List AV} {s : AHeap} {R : AV → AHeap → Prop} (hl : args.length ≤ 49) (h : ∀ tm, tm.length = 49 → (∀ i, aev tm (.tmp i) = args.getD i aundef) → lvb Tryz.prog tab s L97 (lpostB tab s [ResultVar.tmp 6, ResultVar.tmp 7] R) tm (loc s 0 [])) : ACall Tryz.prog 97 args s R := ACall.goB tab_ok mixed Tryz.func97 l97 nm97 rs97 nt97 hl h
end Go.S1
end
section
set_option linter.unusedVariables false
set_option linter.unusedSimpArgs false
namespace Go.S1N
open Go Go.Am Go.Proofs Go.S1
set_option maxRecDepth 100000
set_option linter.unusedSimpArgs false
set_option linter.unusedVariables false
theorem ty216 : tab.ty 216 = some { td := .int .u64, size := 1, bytes := 8, zero := .int .u64 0, eqok := false } := by kernel_rfl
end Go.S1N
end
section
set_option linter.unusedVariables false
set_option linter.unusedSimpArgs false
namespace Go.S1N
open Go Go.Am Go.Proofs Go.S1
set_option maxRecDepth 100000
set_option linter.unusedSimpArgs false
attribute [local irreducible] lopsB lvb lstepB lfunG lcondB lguardB ldrawB ldrunB ldstepB ldguardB lmem lval ldmem ldval ldfun lexit ldloadB ldlenB lpostB athen ablock
def Ed.covers (e : Ed) (p : Int) : Prop := e.at_ ≤ p ∧ p < e.at_ + e.cut
instance (e : Ed) (p : Int) : Decidable (Ed.covers e p) := inferInstanceAs (Decidable (_ ∧ _))
def goneB (l : List Ed) (p : Int) : Bool := l.any fun e => decide (Ed.covers e p)
end Go.S1N
end
section
set_option linter.unusedVariables false
set_option linter.unusedSimpArgs false
namespace Go.S1N
open Go Go.Am Go.Proofs Go.S1
set_option maxRecDepth 100000
set_option linter.unusedSimpArgs false
attribute [local irreducible] lopsB lvb lstepB lfunG lcondB lguardB ldrawB ldrunB ldstepB ldguardB lmem lval ldmem ldval ldfun lexit ldloadB ldlenB lpostB athen ablock
structure RS (n : Int) (l : List Ed) : Prop where
  each : ∀ e ∈ l, 0 ≤ e.at_ ∧ 0 ≤ e.cut ∧ e.at_ + e.cut ≤ n
  pair : l.Pairwise fun x y => x.at_ + x.cut < y.at_
theorem scan_rs {n : Int} : ∀ {l : List Ed} {B : Int}, scan n B l = 0 → RS n l ∧ ∀ e ∈ l, B < e.at_
  | [], _, _ => ⟨⟨by simp, .nil⟩, by simp⟩
  | e :: l, B, h => by
    obtain ⟨c1, c2, c3, c4, c5, c6⟩ := scan_cons h
    obtain ⟨⟨g1, g2⟩, g3⟩ := scan_rs c6
    refine ⟨⟨?_, ?_⟩, ?_⟩
    · intro x hx
      rcases List.mem_cons.1 hx with rfl | hx
      · exact ⟨by omega, by omega, by omega⟩
      · exact g1 x hx
    · exact List.pairwise_cons.2 ⟨fun y hy => g3 y hy, g2⟩
    · intro x hx
      rcases List.mem_cons.1 hx with rfl | hx
      · omega
      · have := g3 x hx; omega
theorem RS.tail {n : Int} {e : Ed} {l : List Ed} (h : RS n (e :: l)) : RS n l := ⟨fun x hx => h.each x (List.mem_cons_of_mem e hx), (List.pairwise_cons.1 h.pair).2⟩
def cntLt (l : List Ed) (p : Int) : Nat := (l.filter fun e => decide (e.at_ < p)).length
def hasAt (l : List Ed) (p : Int) : Bool := l.any fun e => decide (e.at_ = p)
def insAt (l : List Ed) (p : Int) : List UInt8 := match l.find? fun e => decide (e.at_ = p) with
  | some e => e.new
  | none => []
theorem cnt_iff {n : Int} (p : Int) : ∀ {l : List Ed}, RS n l → ∀ {k : Nat} {e : Ed}, l[k]? = some e → (e.at_ < p ↔ k < cntLt l p)
  | [], _, k, e, h => by simp at h
  | x :: l, hr, k, e, h => by
    have hx := hr.each x (List.mem_cons_self ..)
    have hp := (List.pairwise_cons.1 hr.pair).1
    unfold cntLt
    rw [List.filter_cons]
    by_cases hlt : x.at_ < p
    · rw [if_pos (by simpa using hlt), List.length_cons]
      cases k with
      | zero => simp at h; subst h; exact ⟨fun _ => by omega, fun _ => hlt⟩
      | succ k =>
        have := cnt_iff p hr.tail (k := k) (e := e) (by simpa using h)
        unfold cntLt at this
        omega
    · have h0 : (l.filter fun e => decide (e.at_ < p)) = [] := by
        rw [List.filter_eq_nil_iff]
        intro y hy
        have := hp y hy
        simp only [decide_eq_true_eq]; omega
      rw [if_neg (by simpa using hlt), h0]
      have : ¬ e.at_ < p := by
        cases k with
        | zero => simp at h; subst h; exact hlt
        | succ k =>
          have := hp e (List.mem_of_getElem? (i := k) (by simpa using h))
          omega
      exact ⟨fun q => absurd q this, fun q => by simp at q⟩
theorem cnt_le (l : List Ed) (p : Int) : cntLt l p ≤ l.length := List.length_filter_le ..
theorem at_uniq {n : Int} {l : List Ed} (h : RS n l) {x y : Ed} (hx : x ∈ l) (hy : y ∈ l) (he : x.at_ = y.at_) : x = y := by
  obtain ⟨i, hi, rfl⟩ := List.mem_iff_getElem.1 hx
  obtain ⟨j, hj, rfl⟩ := List.mem_iff_getElem.1 hy
  rcases Nat.lt_trichotomy i j with q | q | q
  · have := List.pairwise_iff_getElem.1 h.pair i j hi hj q
    have := h.each _ (List.getElem_mem hi)
    omega
  · subst q; rfl
  · have := List.pairwise_iff_getElem.1 h.pair j i hj hi q
    have := h.each _ (List.getElem_mem hj)
    omega
theorem has_at {n : Int} {l : List Ed} (h : RS n l) (p : Int) : (hasAt l p = true → ∃ e, l[cntLt l p]? = some e ∧ e.at_ = p ∧ insAt l p = e.new) ∧ (hasAt l p = false → insAt l p = [] ∧ ∀ e, l[cntLt l p]? = some e → e.at_ ≠ p) := by
  constructor
  · intro hh
    obtain ⟨e, he, hp⟩ := List.any_eq_true.1 hh
    have hp : e.at_ = p := by simpa using hp
    obtain ⟨k, hk, rfl⟩ := List.mem_iff_getElem.1 he
    have hgk := List.getElem?_eq_getElem hk
    have h1 := cnt_iff p h hgk
    have hge : cntLt l p ≤ k := by
      rcases Nat.lt_or_ge k (cntLt l p) with q | q
      · have := h1.2 q; omega
      · exact q
    have hle : k ≤ cntLt l p := by
      rcases Nat.lt_or_ge (cntLt l p) k with q | q
      · have hc : cntLt l p < l.length := by omega
        have h2 := cnt_iff p h (List.getElem?_eq_getElem hc)
        have h3 := List.pairwise_iff_getElem.1 h.pair _ _ hc hk q
        have h4 := h.each _ (List.getElem_mem hc)
        have := h2.1 (by omega)
        omega
      · exact q
    obtain rfl : k = cntLt l p := by omega
    refine ⟨_, hgk, hp, ?_⟩
    unfold insAt
    cases hf : l.find? fun e => decide (e.at_ = p) with
    | none =>
      have := List.find?_eq_none.1 hf _ he
      simp [hp] at this
    | some e' =>
      have h5 := List.find?_some hf
      have h6 := List.mem_of_find?_eq_some hf
      rw [at_uniq h h6 he (by simp at h5; omega)]
  · intro hh
    have hall : ∀ e ∈ l, e.at_ ≠ p := by
      intro e he hp
      have := List.any_eq_false.1 hh e he
      simp [hp] at this
    refine ⟨?_, fun e he => hall e (List.mem_of_getElem? he)⟩
    unfold insAt
    rw [List.find?_eq_none.2 (fun e he => by simpa using hall e he)]
theorem cv_up {ev : Operand → AV} {x : Operand} {n : Nat} {s : AHeap} (hx : ev x = .int .i64 n) (hn : n < 9223372036854775808) : lop tab ev (.convert 3 216 x) s = some (.int .u64 n, s) := by
  have : IntKind.u64.wrap (n : Int) = n := by unfold IntKind.wrap; simp [IntKind.bits, IntKind.signed]; omega
  simp [lop, aop, apure, aconv, ty3, ty216, hx, this]
theorem cv_dn {ev : Operand → AV} {x : Operand} {n : Nat} {s : AHeap} (hx : ev x = .int .u64 n) (hn : n < 9223372036854775808) : lop tab ev (.convert 216 3 x) s = some (.int .i64 n, s) := by
  have : IntKind.i64.wrap (n : Int) = n := wrap_id (by omega)
  simp [lop, aop, apure, aconv, ty3, ty216, hx, this]
theorem shr1 {n : Nat} : abin tab .shr 216 (.int .u64 n) (.int .u64 1) = some (.int .u64 ((n / 2 : Nat) : Int)) := by
  simp [abin, ashift, IntKind.bits]
  exact Int.fdiv_eq_ediv_of_nonneg _ (by omega)
theorem bs_ok (n : Int) (hn : n ≤ 1000000) (v : AV) (l : List Ed) (p : Int) (hv : SlE v l) (hl : l.length ≤ 2000) (h : RS n l) (f : FuncId) (hf : ∀ (e : Ed) (s : AHeap), (-1000000000000 ≤ e.at_ ∧ e.at_ ≤ 1000000000000) → ACall Tryz.prog f [e.enc, .int .i64 p] s fun r t => r = .int .i64 (e.at_ - p) ∧ t = s) (s : AHeap) :
    ACall Tryz.prog 97 [v, .int .i64 p, .func (.func f) [] []] s fun r t => r = .tuple [.int .i64 (cntLt l p), .bool (hasAt l p)] ∧ t = s := by
  refine gob97 (by simp) ?_
  intro tm hlen harg
  have hcl := cnt_le l p
  simp +contextual only [go_sem, L97, hlen, harg, hv.len, lcondB_decide, lcondB_not, lguardB_decide_true, lguardB_decide_false, ldguardB_decide, Nat.reduceLT, Nat.reduceEqDiff, Nat.reduceAdd, Nat.reduceLeDiff, reduceIte, reduceCtorEq]
  refine ⟨Nat × Nat, fun x => [(0, v), (1, .int .i64 p), (2, .func (.func f) [] []), (8, .int .i64 l.length), (9, .int .i64 x.1), (10, .int .i64 x.2)], fun _ => loc s 0 [], fun x => x.1 ≤ cntLt l p ∧ cntLt l p ≤ x.2 ∧ x.2 ≤ l.length, fun x => x.2 - x.1, (0, l.length), ⟨Nat.zero_le _, hcl, Nat.le_refl _⟩, ?_, ?_⟩
  · refine To.go [] [] rfl (.refl s) (by decide) (by simp) ?_ trivial
    simp +contextual only [go_sem, hlen, harg, pu_ren hv.pu, lcondB_decide, lcondB_not, lguardB_decide_true, lguardB_decide_false, ldguardB_decide, Nat.reduceLT, Nat.reduceEqDiff, Nat.reduceAdd, Nat.reduceLeDiff, reduceIte, reduceCtorEq]
    simp
  · rintro ⟨i, j⟩ tm1 ⟨hi, hj, hjl⟩ hlen1 hlv
    simp only [go_sem, hlen, lcondB_decide, lcondB_not, lguardB_decide_true, lguardB_decide_false, ldguardB_decide, Nat.reduceLT, Nat.reduceEqDiff, Nat.reduceAdd, Nat.reduceLeDiff, reduceIte, reduceCtorEq] at hlen1 hlv hi hj hjl
    simp +contextual only [go_sem, hlen, hlen1, hlv, lcondB_decide, lcondB_not, lguardB_decide_true, lguardB_decide_false, ldguardB_decide, Nat.reduceLT, Nat.reduceEqDiff, Nat.reduceAdd, Nat.reduceLeDiff, reduceIte, reduceCtorEq]
    refine ⟨fun hlt => ?_, fun hge => ?_⟩
    · have hw1 : IntKind.i64.wrap ((i : Int) + (j : Int)) = ((i + j : Nat) : Int) := by rw [wrap_id (by omega)]; omega
      have hm : (i + j) / 2 < l.length := by omega
      have hgm := List.getElem?_eq_getElem hm
      have hci := cnt_iff p h hgm
      have hea := h.each _ (List.getElem_mem hm)
      generalize l[(i + j) / 2] = e at hgm hci hea
      have hw2 : IntKind.i64.wrap ((((i + j) / 2 : Nat) : Int) + 1) = (((i + j) / 2 + 1 : Nat) : Int) := by rw [wrap_id (by omega)]; rfl
      simp +contextual only [go_sem, hlen1, hlv, hw1, lcondB_decide, lcondB_not, lguardB_decide_true, lguardB_decide_false, ldguardB_decide, Nat.reduceLT, Nat.reduceEqDiff, Nat.reduceAdd, Nat.reduceLeDiff, reduceIte, reduceCtorEq]
      rw [lstepB_convert]
      refine lmem_eq (cv_up (n := i + j) (by simp only [go_sem, hlen1, lcondB_decide, lcondB_not, lguardB_decide_true, lguardB_decide_false, ldguardB_decide, Nat.reduceLT, Nat.reduceEqDiff, Nat.reduceAdd, Nat.reduceLeDiff, reduceIte, reduceCtorEq]) (by omega)) ?_
      simp +contextual only [go_sem, hlen1, hlv, shr1, lcondB_decide, lcondB_not, lguardB_decide_true, lguardB_decide_false, ldguardB_decide, Nat.reduceLT, Nat.reduceEqDiff, Nat.reduceAdd, Nat.reduceLeDiff, reduceIte, reduceCtorEq]
      rw [lstepB_convert]
      refine lmem_eq (cv_dn (n := (i + j) / 2) (by simp only [go_sem, hlen1, lcondB_decide, lcondB_not, lguardB_decide_true, lguardB_decide_false, ldguardB_decide, Nat.reduceLT, Nat.reduceEqDiff, Nat.reduceAdd, Nat.reduceLeDiff, reduceIte, reduceCtorEq]) (by omega)) ?_
      simp +contextual only [go_sem, hlen1, hlv, hv.at hgm, lcondB_decide, lcondB_not, lguardB_decide_true, lguardB_decide_false, ldguardB_decide, Nat.reduceLT, Nat.reduceEqDiff, Nat.reduceAdd, Nat.reduceLeDiff, reduceIte, reduceCtorEq]
      refine lfunG_eq (hf e _ (by omega)) ?_
      simp +contextual only [go_sem, hlen1, hlv, hw2, lcondB_decide, lcondB_not, lguardB_decide_true, lguardB_decide_false, ldguardB_decide, Nat.reduceLT, Nat.reduceEqDiff, Nat.reduceAdd, Nat.reduceLeDiff, reduceIte, reduceCtorEq]
      refine ⟨fun hc => ?_, fun hc => ?_⟩
      · refine ⟨((i + j) / 2 + 1, j), ⟨by have := hci.1 (by omega); simp only; omega, hj, hjl⟩, by simp only; omega, ?_⟩
        refine To.go [] [] rfl (.refl s) (by decide) (by simp) ?_ trivial
        simp +contextual only [go_sem, hlen1, hlv, pu_ren hv.pu, lcondB_decide, lcondB_not, lguardB_decide_true, lguardB_decide_false, ldguardB_decide, Nat.reduceLT, Nat.reduceEqDiff, Nat.reduceAdd, Nat.reduceLeDiff, reduceIte, reduceCtorEq]
      · have hge2 : cntLt l p ≤ (i + j) / 2 := by
          rcases Nat.lt_or_ge ((i + j) / 2) (cntLt l p) with q | q
          · have := hci.2 q; omega
          · exact q
        refine ⟨(i, (i + j) / 2), ⟨hi, hge2, by simp only; omega⟩, by simp only; omega, ?_⟩
        refine To.go [] [] rfl (.refl s) (by decide) (by simp) ?_ trivial
        simp +contextual only [go_sem, hlen1, hlv, pu_ren hv.pu, lcondB_decide, lcondB_not, lguardB_decide_true, lguardB_decide_false, ldguardB_decide, Nat.reduceLT, Nat.reduceEqDiff, Nat.reduceAdd, Nat.reduceLeDiff, reduceIte, reduceCtorEq]
    · have hij : i = cntLt l p := by omega
      obtain ⟨ha1, ha2⟩ := has_at h p
      by_cases hc : cntLt l p < l.length
      · have hgm := List.getElem?_eq_getElem hc
        have hea := h.each _ (List.getElem_mem hc)
        generalize l[cntLt l p] = e at hgm hea
        subst hij
        have hci : ((cntLt l p : Nat) : Int) < (l.length : Int) := by omega
        simp +contextual only [go_sem, hlen1, hlv, hci, hv.at hgm, lcondB_decide, lcondB_not, lguardB_decide_true, lguardB_decide_false, ldguardB_decide, Nat.reduceLT, Nat.reduceEqDiff, Nat.reduceAdd, Nat.reduceLeDiff, reduceIte, reduceCtorEq]
        refine ⟨fun _ => ?_, fun q => q.elim⟩
        refine lfunG_eq (hf e _ (by omega)) ?_
        simp +contextual only [go_sem, hlen1, hlv, lcondB_decide, lcondB_not, lguardB_decide_true, lguardB_decide_false, ldguardB_decide, Nat.reduceLT, Nat.reduceEqDiff, Nat.reduceAdd, Nat.reduceLeDiff, reduceIte, reduceCtorEq]
        refine lexit_pure (.refl s) (by simp only [low, lowL, and_self]) ⟨?_, rfl⟩
        congr 3
        cases hh : hasAt l p with
        | true =>
          obtain ⟨e', q1, q2, _⟩ := ha1 hh
          rw [hgm] at q1; cases q1
          simp; omega
        | false =>
          have := (ha2 hh).2 e hgm
          simp; omega
      · subst hij
        have hci : ¬ ((cntLt l p : Nat) : Int) < (l.length : Int) := by omega
        simp +contextual only [go_sem, hlen1, hlv, hci, lcondB_decide, lcondB_not, lguardB_decide_true, lguardB_decide_false, ldguardB_decide, Nat.reduceLT, Nat.reduceEqDiff, Nat.reduceAdd, Nat.reduceLeDiff, reduceIte, reduceCtorEq]
        refine ⟨fun q => q.elim, fun _ => ?_⟩
        refine lexit_pure (.refl s) (by simp only [low, lowL, and_self]) ⟨?_, rfl⟩
        congr 3
        cases hh : hasAt l p with
        | true =>
          obtain ⟨e', q1, q2, _⟩ := ha1 hh
          rw [List.getElem?_eq_none (by omega)] at q1; cases q1
        | false => rfl
end Go.S1N
end
section
set_option linter.unusedVariables false
set_option linter.unusedSimpArgs false
namespace Go.S1N
open Go Go.Am Go.Proofs Go.S1
set_option maxRecDepth 100000
set_option linter.unusedSimpArgs false
attribute [local irreducible] lopsB lvb lstepB lfunG lcondB lguardB ldrawB ldrunB ldstepB ldguardB lmem lval ldmem ldval ldfun lexit ldloadB ldlenB lpostB athen ablock
end Go.S1N
end
section
set_option linter.unusedVariables false
set_option linter.unusedSimpArgs false
namespace Go.Proofs
open Go.Shelf
end Go.Proofs
namespace Go.S1N
open Go Go.Am Go.Proofs Go.S1
set_option maxRecDepth 100000
attribute [local irreducible] lopsB lvb lstepB lfunG lcondB lguardB ldrawB ldrunB ldstepB ldguardB lmem lval ldmem ldval ldfun lexit ldloadB ldlenB lpostB athen ablock
end Go.S1N
end
section
set_option linter.unusedVariables false
set_option linter.unusedSimpArgs false
namespace Go.S1N
open Go Go.Am Go.Proofs Go.S1
set_option maxRecDepth 100000
set_option linter.unusedSimpArgs false
attribute [local irreducible] lopsB lvb lstepB lfunG lcondB lguardB ldrawB ldrunB ldstepB ldguardB lmem lval ldmem ldval ldfun lexit ldloadB ldlenB lpostB athen ablock
def compact : List Int → List Int
  | [] => []
  | [a] => [a]
  | a :: b :: r => if a = b then compact (b :: r) else a :: compact (b :: r)
end Go.S1N
end
section
set_option linter.unusedVariables false
set_option linter.unusedSimpArgs false
namespace Go.S1N
open Go Go.Am Go.Proofs Go.S1
set_option maxRecDepth 100000
set_option linter.unusedSimpArgs false
attribute [local irreducible] lopsB lvb lstepB lfunG lcondB lguardB ldrawB ldrunB ldstepB ldguardB lmem lval ldmem ldval ldfun lexit ldloadB ldlenB lpostB athen ablock
def ends (l : List Ed) : List Int := l.flatMap fun e => [e.at_, e.at_ + e.cut]
def placesL (n : Int) (a b : List Ed) : List Int := compact ((0 :: n :: ends (a ++ b)).mergeSort fun x y => decide (x ≤ y))
end Go.S1N
end
section
set_option linter.unusedVariables false
set_option linter.unusedSimpArgs false
namespace Go.S1N
open Go Go.Am Go.Proofs Go.S1
set_option maxRecDepth 100000
set_option linter.unusedSimpArgs false
attribute [local irreducible] lopsB lvb lstepB lfunG lcondB lguardB ldrawB ldrunB ldstepB ldguardB lmem lval ldmem ldval ldfun lexit ldloadB ldlenB lpostB athen ablock
structure Mt where
  both : List Rn
  first : List Rn
  second : List Rn
  long : Int
def Mt.app (m k : Mt) : Mt := ⟨m.both ++ k.both, m.first ++ k.first, m.second ++ k.second, m.long + k.long⟩
def Mt.nil : Mt := ⟨[], [], [], 0⟩
def mtA (a : List Ed) (p x : Int) : Mt := if hasAt a p then ⟨[⟨0, 0, insAt a p⟩], [⟨x, (insAt a p).length, []⟩], [⟨0, 0, insAt a p⟩], (insAt a p).length⟩ else .nil
def mtB (b : List Ed) (p y : Int) : Mt := if hasAt b p then ⟨[⟨0, 0, insAt b p⟩], [⟨0, 0, insAt b p⟩], [⟨y, (insAt b p).length, []⟩], (insAt b p).length⟩ else .nil
def mtK (k : Bool) (p x y z : Int) : Mt := if k then ⟨[⟨p, z, []⟩], [⟨x, z, []⟩], [⟨y, z, []⟩], z⟩ else .nil
def meetGo (a b : List Ed) : List Int → Int → Int → Mt
  | [], _, _ => .nil
  | [p], x, y => (mtA a p x).app (mtB b p y)
  | p :: q :: r, x, y => ((mtA a p x).app (mtB b p y)).app ((mtK (!goneB a p && !goneB b p) p (x + (insAt a p).length) (y + (insAt b p).length) (q - p)).app
      (meetGo a b (q :: r) (x + (insAt a p).length + if goneB a p then 0 else q - p) (y + (insAt b p).length + if goneB b p then 0 else q - p)))
theorem mtK_false {p x y z : Int} : mtK false p x y z = .nil := rfl
end Go.S1N
end
