/- Part 3 of a proof: texts of this work, put together. -/
import Derived.Test.YtiohblpikmjofaaGreatDoorV2
import Derived.KernelRfl
import Derived.Shelf.Lay
import Derived.Ground.NamesProg
import Derived.Test.YtiohblpikmjofaaGreatDoorRows
set_option linter.unusedVariables false
set_option linter.unusedSimpArgs false
section
namespace Go.S1N
open Go Go.Am Go.Proofs Go.S1
set_option maxRecDepth 100000
attribute [local irreducible] lopsB lvb lstepB lfunG lcondB lguardB ldrawB ldrunB ldstepB ldguardB lmem lval ldmem ldval ldfun lexit ldloadB ldlenB lpostB athen ablock
def strm (Lv : AV) (at_ : Int) : AObj := .cells [Lv, .int .i64 at_] (some 25)
theorem _root_.Go.S1.IsInts.pu {v : AV} {l : List Int} (h : IsInts v l) : Pu v := by
  rcases h with ⟨f, rfl⟩ | ⟨rfl, rfl⟩
  · simp only [Pu, low, lowL_iff, List.mem_map]
    rintro x ⟨e, _, rfl⟩
    simp only [low]
  · simp only [Pu, low]
structure Sm (s : AHeap) (b : Nat) (Lv : AV) (L : List Int) (at_ : Int) : Prop where
  ints : IsInts Lv L
  len : L.length < 4611686018427387904
  at0 : 0 ≤ at_
  at1 : at_ < 4000000000000000000
  lt : b < s.nx
  get : s.get b = some (strm Lv at_)
theorem Sm.lowO {s : AHeap} {b : Nat} {Lv : AV} {L : List Int} {at_ : Int} (h : Sm s b Lv L at_) {n : Nat} {a : Int} : lowO n (strm Lv a) := by
  simp only [strm, Am.lowO, lowL, low, and_true]
  exact low.mono (Nat.zero_le _) h.ints.pu
theorem Sm.upd {s : AHeap} {b : Nat} {Lv : AV} {L : List Int} {at_ a : Int} (h : Sm s b Lv L at_) (h0 : 0 ≤ a) (h1 : a < 4000000000000000000) : Sm (s.upd b (strm Lv a)) b Lv L a :=
  ⟨h.ints, h.len, h0, h1, by rw [AHeap.nx_upd]; exact h.lt, get_upd_same⟩
theorem Sm.loc {s : AHeap} {b : Nat} {Lv : AV} {L : List Int} {at_ : Int} (h : Sm s b Lv L at_) {n : Nat} {l : List (Nat × Option AObj)} : Sm (loc s n l) b Lv L at_ :=
  ⟨h.ints, h.len, h.at0, h.at1, by rw [nx_loc]; exact lt_nm h.lt, by rw [get_loc_out h.lt]; exact h.get⟩
theorem nextS {s : AHeap} {b : Nat} {Lv : AV} {L : List Int} {at_ : Int} (h : Sm s b Lv L at_) (n : Int) :
    ACall Tryz.prog 41 [.ptr b 0, .int .i64 n] s fun v t => v = .int .i64 (nextOf L at_ n) ∧ t = s.upd b (strm Lv (at_ + 1)) := by
  refine gob41 (by simp) ?_
  intro tm hlen harg
  have hb := h.lt
  have hg := h.get
  have hlow := h.lowO (n := s.nx) (a := at_ + 1)
  have hL := h.ints
  have h0 := h.at0
  have e1 : IntKind.i64.wrap (at_ + 1) = at_ + 1 := wrap_id (by have := h.at1; omega)
  have hll := h.len
  rw [strm] at hg
  simp only [strm] at hlow ⊢
  simp +contextual only [go_sem, L41, hlen, harg, hb, hg, e1, hL.len, cdD, cdN, gdT, gdF, gdD, Nat.reduceLT, Nat.reduceEqDiff, Nat.reduceAdd, Nat.reduceLeDiff, reduceIte, reduceCtorEq]
  refine ⟨fun hz => ?_, fun hz => ?_⟩
  · have hL0 : L = [] := List.eq_nil_of_length_eq_zero (by omega)
    refine lfunG_eq (below_ok _ _ _) ?_
    simp +contextual only [go_sem, hlen, cdD, cdN, gdT, gdF, gdD, Nat.reduceLT, Nat.reduceEqDiff, Nat.reduceAdd, Nat.reduceLeDiff, reduceIte, reduceCtorEq]
    subst hL0
    refine lexit_pure ((OKo.refl s).upd hb hlow) (by simp only [low]) ⟨?_, rfl⟩
    simp [nextOf, e1, wr]
  · have hL0 : L ≠ [] := by rintro rfl; simp at hz
    have hlz : (L.length : Int) ≠ 0 := hz
    have e2 : IntKind.i64.wrap (at_ + 1 - 1) = at_ := by rw [wrap_id (by have := h.at1; omega)]; omega
    refine ldrawB_go [] [] 10 (by decide) ?_
    simp +contextual only [go_sem, hlen, harg, hb, hg, e1, e2, hL.len, abin_rem hlz, cdD, cdN, gdT, gdF, gdD, Nat.reduceLT, Nat.reduceEqDiff, Nat.reduceAdd, Nat.reduceLeDiff, reduceIte, reduceCtorEq]
    refine ⟨by kernel_rfl, ?_⟩
    refine ldrawB_go [] [] 10 (by decide) ?_
    simp +contextual only [go_sem, hlen, harg, hb, hg, e1, e2, hL.len, abin_quo hlz, cdD, cdN, gdT, gdF, gdD, Nat.reduceLT, Nat.reduceEqDiff, Nat.reduceAdd, Nat.reduceLeDiff, reduceIte, reduceCtorEq]
    refine ⟨by kernel_rfl, ?_⟩
    have hi0 : 0 ≤ at_.tmod L.length := Int.tmod_nonneg _ h0
    have hi1 : at_.tmod L.length < L.length := Int.tmod_lt_of_pos _ (by omega)
    obtain ⟨x, hx⟩ : ∃ x, L[(at_.tmod L.length).toNat]? = some x := ⟨_, List.getElem?_eq_getElem (by omega)⟩
    simp +contextual only [go_sem, hlen, harg, hb, hg, e1, e2, hL.len, hL.at hi0 hx, cdD, cdN, gdT, gdF, gdD, Nat.reduceLT, Nat.reduceEqDiff, Nat.reduceAdd, Nat.reduceLeDiff, reduceIte, reduceCtorEq]
    refine lfunG_eq (below_ok _ _ _) ?_
    simp +contextual only [go_sem, hlen, harg, cdD, cdN, gdT, gdF, gdD, Nat.reduceLT, Nat.reduceEqDiff, Nat.reduceAdd, Nat.reduceLeDiff, reduceIte, reduceCtorEq]
    refine lfunG_eq (below_ok _ _ _) ?_
    simp +contextual only [go_sem, hlen, cdD, cdN, gdT, gdF, gdD, Nat.reduceLT, Nat.reduceEqDiff, Nat.reduceAdd, Nat.reduceLeDiff, reduceIte, reduceCtorEq]
    refine lexit_pure ((OKo.refl s).upd hb hlow) (by simp only [low]) ⟨?_, rfl⟩
    have hx' : L.getD (at_.tmod L.length).toNat 0 = x := by rw [List.getD_eq_getElem?_getD, hx]; rfl
    simp only [nextOf, if_neg hL0, wr, e1, e2, hx']
theorem flipS {s : AHeap} {b : Nat} {Lv : AV} {L : List Int} {at_ : Int} (h : Sm s b Lv L at_) (n : Int) :
    ACall Tryz.prog 50 [.ptr b 0, .int .i64 n] s fun v t => v = .bool (decide (nextOf L at_ n = 0)) ∧ t = s.upd b (strm Lv (at_ + 1)) := by
  refine gob50 (by simp) ?_
  intro tm hlen harg
  have hb := h.lt
  simp +contextual only [go_sem, L50, hlen, harg, cdD, cdN, gdT, gdF, gdD, Nat.reduceLT, Nat.reduceEqDiff, Nat.reduceAdd, Nat.reduceLeDiff, reduceIte, reduceCtorEq]
  refine lfunG_eq (nextS h.loc _) ?_
  simp +contextual only [go_sem, hlen, hb, cdD, cdN, gdT, gdF, gdD, Nat.reduceLT, Nat.reduceEqDiff, Nat.reduceAdd, Nat.reduceLeDiff, reduceIte, reduceCtorEq]
  exact lexit_pure ((OKo.refl s).upd hb h.lowO) (by simp only [low]) ⟨rfl, rfl⟩
theorem rangeS {s : AHeap} {b : Nat} {Lv : AV} {L : List Int} {at_ : Int} (h : Sm s b Lv L at_) (lo hi : Int) (hlh : lo ≤ hi) (hhi : hi < 2000000000000000000) (hl2 : -2000000000000000000 < lo) :
    ACall Tryz.prog 19 [.ptr b 0, .int .i64 lo, .int .i64 hi] s fun v t => v = .int .i64 (lo + nextOf L at_ (hi - lo + 1)) ∧ t = s.upd b (strm Lv (at_ + 1)) := by
  refine gob19 (by simp) ?_
  intro tm hlen harg
  have hb := h.lt
  have e1 : IntKind.i64.wrap (hi - lo) = hi - lo := wrap_id (by omega)
  have e2 : IntKind.i64.wrap (hi - lo + 1) = hi - lo + 1 := wrap_id (by omega)
  have hbd := nextOf_lt L at_ (show 1 ≤ hi - lo + 1 by omega) (by omega)
  have e3 : IntKind.i64.wrap (lo + nextOf L at_ (hi - lo + 1)) = lo + nextOf L at_ (hi - lo + 1) := wrap_id (by omega)
  have hlt : ¬ hi < lo := by omega
  simp +contextual only [go_sem, L19, hlen, harg, e1, e2, hlt, cdD, cdN, gdT, gdF, gdD, Nat.reduceLT, Nat.reduceEqDiff, Nat.reduceAdd, Nat.reduceLeDiff, reduceIte, reduceCtorEq]
  refine lfunG_eq (nextS h.loc _) ?_
  simp +contextual only [go_sem, hlen, harg, hb, e3, cdD, cdN, gdT, gdF, gdD, Nat.reduceLT, Nat.reduceEqDiff, Nat.reduceAdd, Nat.reduceLeDiff, reduceIte, reduceCtorEq]
  exact lexit_pure ((OKo.refl s).upd hb h.lowO) (by simp only [low]) ⟨rfl, rfl⟩
theorem pickS {s : AHeap} {b : Nat} {Lv : AV} {L : List Int} {at_ : Int} (h : Sm s b Lv L at_) (c : Nat) (l : List Int) (To : Option TypeId) (hl : l ≠ []) (hl2 : l.length < 1000) (hc : s.get c = some (.cells (l.map (AV.int .i64)) To)) (hne : c ≠ b) (hcn : c < s.nx) :
    ACall Tryz.prog 49 [.ptr b 0, .rs 1 c 0 l.length] s fun v t => v = .int .i64 (l.getD (nextOf L at_ l.length).toNat 0) ∧ t = s.upd b (strm Lv (at_ + 1)) := by
  refine gob49 (by simp) ?_
  intro tm hlen harg
  have hb := h.lt
  have hpos : 0 < l.length := List.length_pos_iff.2 hl
  have hbd := nextOf_lt L at_ (n := l.length) (by omega) (by omega)
  obtain ⟨x, hx⟩ : ∃ x, l[(nextOf L at_ l.length).toNat]? = some x := ⟨_, List.getElem?_eq_getElem (by omega)⟩
  have hgc : (s.upd b (strm Lv (at_ + 1))).get c = some (.cells (l.map (AV.int .i64)) To) := by rw [AHeap.get_upd, if_neg hne, hc]
  have hd : (List.drop (nextOf L at_ l.length).toNat (l.map (AV.int .i64)))[0]? = some (.int .i64 x) := by simp [hx]
  simp +contextual only [go_sem, L49, hlen, harg, cdD, cdN, gdT, gdF, gdD, Nat.reduceLT, Nat.reduceEqDiff, Nat.reduceAdd, Nat.reduceLeDiff, reduceIte, reduceCtorEq]
  refine lfunG_eq (nextS h.loc _) ?_
  simp +contextual only [go_sem, hlen, harg, hb, hcn, rs_at hbd.1 hbd.2, hgc, hd, cdD, cdN, gdT, gdF, gdD, Nat.reduceLT, Nat.reduceEqDiff, Nat.reduceAdd, Nat.reduceLeDiff, reduceIte, reduceCtorEq]
  refine lexit_pure ((OKo.refl s).upd hb h.lowO) (by simp only [low]) ⟨?_, rfl⟩
  rw [List.getD_eq_getElem?_getD, hx]
  rfl
theorem someS {s : AHeap} {b : Nat} {Lv : AV} {L : List Int} {at_ : Int} (h : Sm s b Lv L at_) (c : Nat) (l : List (List UInt8)) (To : Option TypeId) (hl : l ≠ []) (hl2 : l.length < 1000) (hc : s.get c = some (.cells (l.map AV.str) To)) (hne : c ≠ b) (hcn : c < s.nx) :
    ACall Tryz.prog 28 [.ptr b 0, .rs 1 c 0 l.length] s fun v t => v = .str (l.getD (nextOf L at_ l.length).toNat []) ∧ t = s.upd b (strm Lv (at_ + 1)) := by
  refine gob28 (by simp) ?_
  intro tm hlen harg
  have hb := h.lt
  have hpos : 0 < l.length := List.length_pos_iff.2 hl
  have hbd := nextOf_lt L at_ (n := l.length) (by omega) (by omega)
  obtain ⟨x, hx⟩ : ∃ x, l[(nextOf L at_ l.length).toNat]? = some x := ⟨_, List.getElem?_eq_getElem (by omega)⟩
  have hgc : (s.upd b (strm Lv (at_ + 1))).get c = some (.cells (l.map AV.str) To) := by rw [AHeap.get_upd, if_neg hne, hc]
  have hd : (List.drop (nextOf L at_ l.length).toNat (l.map AV.str))[0]? = some (.str x) := by simp [hx]
  simp +contextual only [go_sem, L28, hlen, harg, cdD, cdN, gdT, gdF, gdD, Nat.reduceLT, Nat.reduceEqDiff, Nat.reduceAdd, Nat.reduceLeDiff, reduceIte, reduceCtorEq]
  refine lfunG_eq (nextS h.loc _) ?_
  simp +contextual only [go_sem, hlen, harg, hb, hcn, rs_at63 hbd.1 hbd.2, hgc, hd, cdD, cdN, gdT, gdF, gdD, Nat.reduceLT, Nat.reduceEqDiff, Nat.reduceAdd, Nat.reduceLeDiff, reduceIte, reduceCtorEq]
  refine lexit_pure ((OKo.refl s).upd hb h.lowO) (by simp only [low]) ⟨?_, rfl⟩
  rw [List.getD_eq_getElem?_getD, hx]
  rfl
end Go.S1N
end
section
namespace Go.S1N
open Go Go.Am Go.Proofs Go.S1
set_option maxRecDepth 100000
attribute [local irreducible] lopsB lvb lstepB lfunG lcondB lguardB ldrawB ldrunB ldstepB ldguardB lmem lval ldmem ldval ldfun lexit ldloadB ldlenB lpostB athen ablock
theorem lettersS {s : AHeap} {b : Nat} {Lv : AV} {L : List Int} {at_ : Int} (h : Sm s b Lv L at_) (h1 : at_ < 3000000000000000000) (most : Int) (hm0 : 0 ≤ most) (hm : most ≤ 1000) :
    ACall Tryz.prog 9 [.ptr b 0, .int .i64 most] s fun v t => ∃ (x : List UInt8) (k : Nat), v = .str x ∧ x.length ≤ most ∧ k ≤ most + 1 ∧ t = s.upd b (strm Lv (at_ + k)) := by
  refine gob9 (by simp) ?_
  intro tm hlen harg
  have hb := h.lt
  simp +contextual only [go_sem, L9, hlen, harg, cdD, cdN, gdT, gdF, gdD, Nat.reduceLT, Nat.reduceEqDiff, Nat.reduceAdd, Nat.reduceLeDiff, reduceIte, reduceCtorEq]
  refine lfunG_eq (rangeS h.loc 0 most hm0 (by omega) (by omega)) ?_
  have hN := nextOf_lt L at_ (show 1 ≤ most - 0 + 1 by omega) (by omega)
  generalize nextOf L at_ (most - 0 + 1) = N at hN
  simp +contextual only [go_sem, hlen, harg, hb, Int.zero_add, cdD, cdN, gdT, gdF, gdD, Nat.reduceLT, Nat.reduceEqDiff, Nat.reduceAdd, Nat.reduceLeDiff, reduceIte, reduceCtorEq]
  refine ⟨Nat × List UInt8, fun a => [(0, .ptr b 0), (5, .str a.2), (8, .int .i64 N), (9, .int .i64 a.1)], fun a => loc (s.upd b (strm Lv (at_ + 1 + a.1))) 0 [], fun a => (a.1 : Int) ≤ N ∧ a.2.length ≤ a.1, fun a => N.toNat - a.1, (0, []),
    ⟨by simp; omega, by simp⟩, ?_, ?_⟩
  · refine To.go [] [] (by simp) ((OKo.refl s).upd hb h.lowO) (by decide) (by simp) ?_ trivial
    simp +contextual only [go_sem, hlen, harg, rnm_low hb, cdD, cdN, gdT, gdF, gdD, Nat.reduceLT, Nat.reduceEqDiff, Nat.reduceAdd, Nat.reduceLeDiff, reduceIte, reduceCtorEq]
    simp
  · rintro ⟨i, x⟩ tm1 ⟨hi, hx⟩ hlen1 hlv
    simp only [go_sem, hlen, cdD, cdN, gdT, gdF, gdD, Nat.reduceLT, Nat.reduceEqDiff, Nat.reduceAdd, Nat.reduceLeDiff, reduceIte, reduceCtorEq] at hlen1 hlv hi hx
    have hS := (h.upd (a := at_ + 1 + i) (by have := h.at0; omega) (by omega)).loc (n := 1) (l := [(0, some (.cells [.str [97], .str [98], .str [99], .str [97], .str [10]] (some 9)))])
    simp +contextual only [go_sem, hlen, hlen1, hlv, cdD, cdN, gdT, gdF, gdD, Nat.reduceLT, Nat.reduceEqDiff, Nat.reduceAdd, Nat.reduceLeDiff, reduceIte, reduceCtorEq]
    refine ⟨fun hlt => ?_, fun hge => ?_⟩
    · refine lfunG_eq (someS hS (nm s.nx 0) [[97], [98], [99], [97], [10]] (some 9) (by simp) (by simp) (by simp only [go_sem, List.map_cons, cdD, cdN, gdT, gdF, gdD, Nat.reduceLT, Nat.reduceEqDiff, Nat.reduceAdd, Nat.reduceLeDiff, reduceIte, reduceCtorEq]) (by rw [ne_eq, nm_ne hb]; simp) (by simp only [go_sem, cdD, cdN, gdT, gdF, gdD, Nat.reduceLT, Nat.reduceEqDiff, Nat.reduceAdd, Nat.reduceLeDiff, reduceIte, reduceCtorEq])) ?_
      have hy : ∀ j, ([[97], [98], [99], [97], [10]].getD j ([] : List UInt8)).length ≤ 1 := by
        intro j
        rcases j with _ | _ | _ | _ | _ | j <;> simp
      generalize (nextOf L (at_ + 1 + i) _).toNat = j
      have hyj := hy j
      generalize [[97], [98], [99], [97], [10]].getD j ([] : List UInt8) = y at hyj
      have hw : IntKind.i64.wrap ((i : Int) + 1) = ((i + 1 : Nat) : Int) := by rw [wrap_id (by omega)]; rfl
      simp +contextual only [go_sem, hlen, hlen1, hlv, hb, hw, abin_sadd (show x.length + y.length ≤ 9000000000000000000 by omega), cdD, cdN, gdT, gdF, gdD, Nat.reduceLT, Nat.reduceEqDiff, Nat.reduceAdd, Nat.reduceLeDiff, reduceIte, reduceCtorEq]
      refine ⟨(i + 1, x ++ y), ⟨by simp only; omega, by simp only [List.length_append]; omega⟩, by simp only; omega, ?_⟩
      refine To.go [] [] (by show loc (s.upd b (strm Lv (at_ + 1 + ((i + 1 : Nat) : Int)))) 0 [] = _; rw [show at_ + 1 + ((i + 1 : Nat) : Int) = at_ + 1 + i + 1 from by omega]; rfl) ((OKo.refl s).upd hb h.lowO) (by decide) (by simp) ?_ trivial
      simp +contextual only [go_sem, hlen1, hlv, rnm_low hb, cdD, cdN, gdT, gdF, gdD, Nat.reduceLT, Nat.reduceEqDiff, Nat.reduceAdd, Nat.reduceLeDiff, reduceIte, reduceCtorEq]
    · refine lexit_pure ((OKo.refl s).upd hb h.lowO) (by simp only [low]) ⟨x, i + 1, rfl, by omega, by omega, ?_⟩
      congr 2
      omega
end Go.S1N
end
section
namespace Go.S1N
open Go Go.Am Go.Proofs Go.S1
set_option maxRecDepth 100000
attribute [local irreducible] lopsB lvb lstepB lfunG lcondB lguardB ldrawB ldrunB ldstepB ldguardB lmem lval ldmem ldval ldfun lexit ldloadB ldlenB lpostB athen ablock
theorem getD_le {l : List (List UInt8)} {k : Nat} (h : ∀ x ∈ l, x.length ≤ k) (j : Nat) : (l.getD j []).length ≤ k := by
  rw [List.getD_eq_getElem?_getD]
  cases hj : l[j]? with
  | none => simp
  | some x => exact h x (List.mem_of_getElem? hj)
theorem anEditS {s : AHeap} {b : Nat} {Lv : AV} {L : List Int} {at_ : Int} (h : Sm s b Lv L at_) (h1 : at_ < 3900000000000000000) (n : Int) :
    ACall Tryz.prog 51 [.ptr b 0, .int .i64 n] s fun v t => ∃ (e : Ed) (k : Nat), v = e.enc ∧ e.new.length ≤ 4 ∧ k ≤ 6 ∧ t = s.upd b (strm Lv (at_ + k)) := by
  refine gob51 (by simp) ?_
  intro tm hlen harg
  have hb := h.lt
  have h0 := h.at0
  simp +contextual only [go_sem, L51, hlen, harg, cdD, cdN, gdT, gdF, gdD, Nat.reduceLT, Nat.reduceEqDiff, Nat.reduceAdd, Nat.reduceLeDiff, reduceIte, reduceCtorEq]
  refine lfunG_eq (nextS h.loc _) ?_
  simp +contextual only [go_sem, hlen, harg, hb, cdD, cdN, gdT, gdF, gdD, Nat.reduceLT, Nat.reduceEqDiff, Nat.reduceAdd, Nat.reduceLeDiff, reduceIte, reduceCtorEq]
  refine lfunG_eq (pickS ((h.upd (by omega) (by omega)).loc) (nm s.nx 1) [0, 0, 1, 2, 5] (some 3) (by simp) (by simp) (by simp only [go_sem, List.map_cons, cdD, cdN, gdT, gdF, gdD, Nat.reduceLT, Nat.reduceEqDiff, Nat.reduceAdd, Nat.reduceLeDiff, reduceIte, reduceCtorEq]) (by rw [ne_eq, nm_ne hb]; simp) (by simp only [go_sem, cdD, cdN, gdT, gdF, gdD, Nat.reduceLT, Nat.reduceEqDiff, Nat.reduceAdd, Nat.reduceLeDiff, reduceIte, reduceCtorEq])) ?_
  simp +contextual only [go_sem, hlen, harg, hb, cdD, cdN, gdT, gdF, gdD, Nat.reduceLT, Nat.reduceEqDiff, Nat.reduceAdd, Nat.reduceLeDiff, reduceIte, reduceCtorEq]
  refine lfunG_eq (someS ((h.upd (by omega) (by omega)).loc) (nm s.nx 2) [[], [97], [32], [49], [43], [41], [35], [34], [97, 98, 32, 49], [46]] (some 9) (by simp) (by simp) (by simp only [go_sem, List.map_cons, cdD, cdN, gdT, gdF, gdD, Nat.reduceLT, Nat.reduceEqDiff, Nat.reduceAdd, Nat.reduceLeDiff, reduceIte, reduceCtorEq]) (by rw [ne_eq, nm_ne hb]; simp) (by simp only [go_sem, cdD, cdN, gdT, gdF, gdD, Nat.reduceLT, Nat.reduceEqDiff, Nat.reduceAdd, Nat.reduceLeDiff, reduceIte, reduceCtorEq])) ?_
  simp +contextual only [go_sem, hlen, harg, hb, cdD, cdN, gdT, gdF, gdD, Nat.reduceLT, Nat.reduceEqDiff, Nat.reduceAdd, Nat.reduceLeDiff, reduceIte, reduceCtorEq]
  refine lfunG_eq (flipS ((h.upd (by omega) (by omega)).loc) _) ?_
  have hS := getD_le (l := [[], [97], [32], [49], [43], [41], [35], [34], [97, 98, 32, 49], [46]]) (k := 4) (by simp) (nextOf L (at_ + 1 + 1) (([[], [97], [32], [49], [43], [41], [35], [34], [97, 98, 32, 49], [46]] : List (List UInt8)).length)).toNat
  generalize ([[], [97], [32], [49], [43], [41], [35], [34], [97, 98, 32, 49], [46]] : List (List UInt8)).getD _ [] = y at hS ⊢
  simp +contextual only [go_sem, hlen, harg, hb, cdD, cdN, gdT, gdF, gdD, Nat.reduceLT, Nat.reduceEqDiff, Nat.reduceAdd, Nat.reduceLeDiff, reduceIte, reduceCtorEq]
  refine ⟨fun hf => ?_, fun hf => ?_⟩
  · refine lfunG_eq (pickS ((h.upd (by omega) (by omega)).loc) (nm s.nx 4) [-1, _, _] (some 3) (by simp) (by simp) (by simp only [go_sem, List.map_cons, cdD, cdN, gdT, gdF, gdD, Nat.reduceLT, Nat.reduceEqDiff, Nat.reduceAdd, Nat.reduceLeDiff, reduceIte, reduceCtorEq]; rfl) (by rw [ne_eq, nm_ne hb]; simp) (by simp only [go_sem, cdD, cdN, gdT, gdF, gdD, Nat.reduceLT, Nat.reduceEqDiff, Nat.reduceAdd, Nat.reduceLeDiff, reduceIte, reduceCtorEq])) ?_
    simp +contextual only [go_sem, hlen, harg, hb, cdD, cdN, gdT, gdF, gdD, Nat.reduceLT, Nat.reduceEqDiff, Nat.reduceAdd, Nat.reduceLeDiff, reduceIte, reduceCtorEq]
    refine lfunG_eq (pickS ((h.upd (by omega) (by omega)).loc) (nm s.nx 5) [0, -1, _] (some 3) (by simp) (by simp) (by simp only [go_sem, List.map_cons, cdD, cdN, gdT, gdF, gdD, Nat.reduceLT, Nat.reduceEqDiff, Nat.reduceAdd, Nat.reduceLeDiff, reduceIte, reduceCtorEq]; rfl) (by rw [ne_eq, nm_ne hb]; simp) (by simp only [go_sem, cdD, cdN, gdT, gdF, gdD, Nat.reduceLT, Nat.reduceEqDiff, Nat.reduceAdd, Nat.reduceLeDiff, reduceIte, reduceCtorEq])) ?_
    simp +contextual only [go_sem, hlen, harg, hb, cdD, cdN, gdT, gdF, gdD, Nat.reduceLT, Nat.reduceEqDiff, Nat.reduceAdd, Nat.reduceLeDiff, reduceIte, reduceCtorEq]
    refine lexit_pure ((OKo.refl s).upd hb h.lowO) (by simp only [low, lowL, and_self]) ⟨⟨_, _, y⟩, 6, rfl, hS, by omega, ?_⟩
    congr 2
    omega
  · refine lexit_pure ((OKo.refl s).upd hb h.lowO) (by simp only [low, lowL, and_self]) ⟨⟨_, _, y⟩, 4, rfl, hS, by omega, ?_⟩
    congr 2
    omega
end Go.S1N
end
section
namespace Go.S1N
open Go Go.Am Go.Proofs Go.S1
set_option maxRecDepth 100000
attribute [local irreducible] lopsB lvb lstepB lfunG lcondB lguardB ldrawB ldrunB ldstepB ldguardB lmem lval ldmem ldval ldfun lexit ldloadB ldlenB lpostB athen ablock
def edc (l : List Ed) : List AV := (l.map Ed.enc).flatMap AV.cells
theorem edc_len (l : List Ed) : (edc l).length = l.length * 3 := by
  unfold edc
  induction l with
  | nil => rfl
  | cons e l ih => simp only [List.map_cons, List.flatMap_cons, List.length_append, ih, List.length_cons, Ed.enc, AV.cells, List.length_nil]; omega
theorem edc_snoc (l : List Ed) (e : Ed) : edc (l ++ [e]) = edc l ++ [.int .i64 e.at_, .int .i64 e.cut, .str e.new] := by
  simp [edc, Ed.enc, AV.cells]
theorem edc_pul (l : List Ed) : PuL (edc l) := by
  unfold edc
  induction l with
  | nil => simp only [List.map_nil, List.flatMap_nil, PuL, lowL]
  | cons e l ih =>
    rw [List.map_cons, List.flatMap_cons, PuL, lowL_append]
    exact ⟨by simp only [Ed.enc, AV.cells, lowL, low, and_self], ih⟩
def edv (l : List Ed) : AV := fsv 3 (l.map Ed.enc)
theorem edv_sl (l : List Ed) : SlE (edv l) l := by
  unfold edv
  cases l with
  | nil => exact .inr ⟨rfl, rfl⟩
  | cons e l => exact .inl ⟨false, fsv_pos (by simp)⟩
theorem edv_pu (l : List Ed) : Pu (edv l) := (edv_sl l).pu
theorem enc_len (l : List Ed) : ∀ x ∈ l.map Ed.enc, x.cells.length = 3 := by
  intro x hx
  obtain ⟨e, _, rfl⟩ := List.mem_map.1 hx
  rfl
theorem len_fz {b : Nat} {l : List Ed} : fz b 3 (l.map Ed.enc) (gsv 3 b l.length) = edv l := by
  rw [show l.length = (l.map Ed.enc).length from (List.length_map ..).symm, fz_gsv]; rfl
theorem len_fz1 {b : Nat} {l : List Ed} {e : Ed} : fz b 3 ((l ++ [e]).map Ed.enc) (.rs 3 b 0 (l.length + 1)) = edv (l ++ [e]) := by
  simp only [fz, List.length_map, List.length_append, List.length_cons, List.length_nil, Nat.zero_add, and_self, if_true, edv]
  rw [fsv_pos (by simp)]
theorem loc_at {s : AHeap} {b : Nat} {Lv : AV} {a a' : Int} {n : Nat} {l : List (Nat × Option AObj)} (h : a = a') : loc (s.upd b (strm Lv a)) n l = loc (s.upd b (strm Lv a')) n l := by rw [h]
theorem getI_le {l : List Int} {lo hi : Int} (h0 : lo ≤ 0 ∧ 0 ≤ hi) (h : ∀ x ∈ l, lo ≤ x ∧ x ≤ hi) (j : Nat) : lo ≤ l.getD j 0 ∧ l.getD j 0 ≤ hi := by
  rw [List.getD_eq_getElem?_getD]
  cases hj : l[j]? with
  | none => simpa using h0
  | some x => exact h x (List.mem_of_getElem? hj)
theorem changeS {s : AHeap} {b : Nat} {Lv : AV} {L : List Int} {at_ : Int} (h : Sm s b Lv L at_) (h1 : at_ < 3800000000000000000) (n : Int) :
    ACall Tryz.prog 29 [.ptr b 0, .int .i64 n] s fun v t => ∃ (l : List Ed) (k : Nat), v = edv l ∧ l.length ≤ 4 ∧ (∀ e ∈ l, e.new.length ≤ 4) ∧ k ≤ 20 ∧ t = s.upd b (strm Lv (at_ + k)) := by
  refine gob29 (by simp) ?_
  intro tm hlen harg
  have hb := h.lt
  have h0 := h.at0
  simp +contextual only [go_sem, L29, hlen, harg, cdD, cdN, gdT, gdF, gdD, Nat.reduceLT, Nat.reduceEqDiff, Nat.reduceAdd, Nat.reduceLeDiff, reduceIte, reduceCtorEq]
  refine lfunG_eq (rangeS h.loc 0 3 (by omega) (by omega) (by omega)) ?_
  simp +contextual only [go_sem, hlen, harg, hb, cdD, cdN, gdT, gdF, gdD, Nat.reduceLT, Nat.reduceEqDiff, Nat.reduceAdd, Nat.reduceLeDiff, reduceIte, reduceCtorEq]
  refine lfunG_eq (pickS ((h.upd (by omega) (by omega)).loc) (nm s.nx 0) [0, 1, 1, 2, 3] (some 3) (by simp) (by simp) (by simp only [go_sem, List.map_cons, cdD, cdN, gdT, gdF, gdD, Nat.reduceLT, Nat.reduceEqDiff, Nat.reduceAdd, Nat.reduceLeDiff, reduceIte, reduceCtorEq]) (by rw [ne_eq, nm_ne hb]; simp) (by simp only [go_sem, cdD, cdN, gdT, gdF, gdD, Nat.reduceLT, Nat.reduceEqDiff, Nat.reduceAdd, Nat.reduceLeDiff, reduceIte, reduceCtorEq])) ?_
  have hN := getI_le (l := [0, 1, 1, 2, 3]) (lo := 0) (hi := 3) (by omega) (by simp) (nextOf L (at_ + 1) (([0, 1, 1, 2, 3] : List Int).length)).toNat
  generalize ([0, 1, 1, 2, 3] : List Int).getD _ 0 = N at hN ⊢
  simp +contextual only [go_sem, hlen, harg, hb, cdD, cdN, gdT, gdF, gdD, Nat.reduceLT, Nat.reduceEqDiff, Nat.reduceAdd, Nat.reduceLeDiff, reduceIte, reduceCtorEq]
  refine ⟨Nat × Int × Nat × List Ed, fun a => [(0, .ptr b 0), (1, .int .i64 n), (5, gsv 3 (nm s.nx 0) a.2.2.2.length), (6, .int .i64 a.2.1), (12, .int .i64 N), (13, .int .i64 a.1)],
    fun a => loc (s.upd b (strm Lv (at_ + a.2.2.1))) 1 [(0, gso 37 (edc a.2.2.2))], fun a => (a.1 : Int) ≤ N ∧ a.2.2.1 ≤ 2 + 3 * a.1 ∧ a.2.2.2.length ≤ a.1 ∧ ∀ e ∈ a.2.2.2, e.new.length ≤ 4, fun a => N.toNat - a.1, (0, 0 + nextOf L at_ (3 - 0 + 1), 2, []),
    ⟨by simp only; omega, by simp only; omega, by simp, by simp⟩, ?_, ?_⟩
  · refine To.go [9] [(0, none)] (by simp only [edc, List.map_nil, List.flatMap_nil, gso_nil]; congr 3; omega) ((OKo.refl s).upd hb h.lowO) (by decide) (by simp) ?_ ?_
    · simp +contextual only [go_sem, hlen, harg, gsv_zero, rnm_low hb, cdD, cdN, gdT, gdF, gdD, Nat.reduceLT, Nat.reduceEqDiff, Nat.reduceAdd, Nat.reduceLeDiff, reduceIte, reduceCtorEq]
      simp
    · simp only [go_sem, cdD, cdN, gdT, gdF, gdD, Nat.reduceLT, Nat.reduceEqDiff, Nat.reduceAdd, Nat.reduceLeDiff, reduceIte, reduceCtorEq]
  · rintro ⟨i, at1, k, l⟩ tm1 ⟨hi, hk, hl, hnew⟩ hlen1 hlv
    simp only [go_sem, hlen, cdD, cdN, gdT, gdF, gdD, Nat.reduceLT, Nat.reduceEqDiff, Nat.reduceAdd, Nat.reduceLeDiff, reduceIte, reduceCtorEq] at hlen1 hlv hi hk hl hnew
    simp +contextual only [go_sem, hlen, hlen1, hlv, cdD, cdN, gdT, gdF, gdD, Nat.reduceLT, Nat.reduceEqDiff, Nat.reduceAdd, Nat.reduceLeDiff, reduceIte, reduceCtorEq]
    refine ⟨fun hlt => ⟨fun hbr => ?_, fun hnb => ?_⟩, fun hge => ?_⟩
    rotate_left
    · refine lfunG_eq (pickS ((h.upd (by omega) (by omega)).loc) (nm s.nx 1) [0, 1, 1, 2, 4] (some 3) (by simp) (by simp) (by simp only [go_sem, List.map_cons, cdD, cdN, gdT, gdF, gdD, Nat.reduceLT, Nat.reduceEqDiff, Nat.reduceAdd, Nat.reduceLeDiff, reduceIte, reduceCtorEq]) (by rw [ne_eq, nm_ne hb]; simp) (by simp only [go_sem, cdD, cdN, gdT, gdF, gdD, Nat.reduceLT, Nat.reduceEqDiff, Nat.reduceAdd, Nat.reduceLeDiff, reduceIte, reduceCtorEq])) ?_
      simp +contextual only [go_sem, hlen1, hlv, hb, cdD, cdN, gdT, gdF, gdD, Nat.reduceLT, Nat.reduceEqDiff, Nat.reduceAdd, Nat.reduceLeDiff, reduceIte, reduceCtorEq]
      refine lfunG_eq (someS ((h.upd (by omega) (by omega)).loc) (nm s.nx 2) [[], [120], [121, 122], [120], [195, 169]] (some 9) (by simp) (by simp) (by simp only [go_sem, List.map_cons, cdD, cdN, gdT, gdF, gdD, Nat.reduceLT, Nat.reduceEqDiff, Nat.reduceAdd, Nat.reduceLeDiff, reduceIte, reduceCtorEq]) (by rw [ne_eq, nm_ne hb]; simp) (by simp only [go_sem, cdD, cdN, gdT, gdF, gdD, Nat.reduceLT, Nat.reduceEqDiff, Nat.reduceAdd, Nat.reduceLeDiff, reduceIte, reduceCtorEq])) ?_
      have hS := getD_le (l := [[], [120], [121, 122], [120], [195, 169]]) (k := 4) (by simp) (nextOf L (at_ + k + 1) (([[], [120], [121, 122], [120], [195, 169]] : List (List UInt8)).length)).toNat
      generalize ([[], [120], [121, 122], [120], [195, 169]] : List (List UInt8)).getD _ [] = y at hS ⊢
      generalize ([0, 1, 1, 2, 4] : List Int).getD _ 0 = z
      simp +contextual only [go_sem, hlen1, hlv, hb, cdD, cdN, gdT, gdF, gdD, Nat.reduceLT, Nat.reduceEqDiff, Nat.reduceAdd, Nat.reduceLeDiff, reduceIte, reduceCtorEq]
      generalize (if IntKind.i64.wrap (n - at1) < z then IntKind.i64.wrap (n - at1) else z) = w
      have hw : IntKind.i64.wrap ((i : Int) + 1) = ((i + 1 : Nat) : Int) := by rw [wrap_id (by omega)]; rfl
      refine ⟨fun c1 => ⟨fun c2 => ?_, fun c2 => ?_⟩, fun c1 => ?_⟩
      all_goals
        refine lmem_eq (app27 (acellsOf_rs (by simp only [go_sem, cdD, cdN, gdT, gdF, gdD, Nat.reduceLT, Nat.reduceEqDiff, Nat.reduceAdd, Nat.reduceLeDiff, reduceIte, reduceCtorEq]; rfl) (by rfl) (AHeap.nx_upd _ _ _)) (by decide) (by simp only [go_sem, cdD, cdN, gdT, gdF, gdD, Nat.reduceLT, Nat.reduceEqDiff, Nat.reduceAdd, Nat.reduceLeDiff, reduceIte, reduceCtorEq]) (by simp only [go_sem, cdD, cdN, gdT, gdF, gdD, Nat.reduceLT, Nat.reduceEqDiff, Nat.reduceAdd, Nat.reduceLeDiff, reduceIte, reduceCtorEq]) (edc_len l) (by omega) (AHeap.nx_upd _ _ _)) ?_
        simp +contextual only [go_sem, hlen1, hlv, hb, cdD, cdN, gdT, gdF, gdD, Nat.reduceLT, Nat.reduceEqDiff, Nat.reduceAdd, Nat.reduceLeDiff, reduceIte, reduceCtorEq]
        refine ldrawB_go [] [(2, 1), (2, 2)] 7 (by decide) ?_
        simp +contextual only [go_sem, hlen1, hlv, hb, cdD, cdN, gdT, gdF, gdD, Nat.reduceLT, Nat.reduceEqDiff, Nat.reduceAdd, Nat.reduceLeDiff, reduceIte, reduceCtorEq]
        refine ldfun_eff _ _ (pickS ((h.upd (by omega) (by omega)).loc) _ [1, 1, 2, 5] (some 3) (by simp) (by simp) (by simp only [go_sem, List.map_cons, cdD, cdN, gdT, gdF, gdD, Nat.reduceLT, Nat.reduceEqDiff, Nat.reduceAdd, Nat.reduceLeDiff, reduceIte, reduceCtorEq]) (by rw [ne_eq, nm_ne hb]; simp) (by simp only [go_sem, cdD, cdN, gdT, gdF, gdD, Nat.reduceLT, Nat.reduceEqDiff, Nat.reduceAdd, Nat.reduceLeDiff, reduceIte, reduceCtorEq])) ?_
        simp +contextual only [go_sem, hlen1, hlv, hb, cdD, cdN, gdT, gdF, gdD, Nat.reduceLT, Nat.reduceEqDiff, Nat.reduceAdd, Nat.reduceLeDiff, reduceIte, reduceCtorEq]
        generalize ([1, 1, 2, 5] : List Int).getD _ 0 = p
      · refine ⟨by kernel_rfl, (i + 1, IntKind.i64.wrap (at1 + IntKind.i64.wrap (0 + p)), k + 3, l ++ [⟨at1, 0, [119]⟩]), ⟨by simp only; omega, by simp only; omega, by simp only [List.length_append, List.length_cons, List.length_nil]; omega, ?_⟩, by simp only; omega, ?_⟩
        · intro e he
          rcases List.mem_append.1 he with he | he
          · exact hnew e he
          · rw [List.mem_singleton.1 he]; simp
        · refine To.go [5] [(0, gso 37 (edc (l ++ [⟨at1, 0, [119]⟩])))] (loc_at (by simp only; omega)) ((OKo.refl s).upd hb h.lowO) (by decide) (by simp) ?_ ?_
          · simp +contextual only [go_sem, hlen1, hlv, hw, rnm_low hb, List.length_append, gsv_pos (Nat.succ_ne_zero l.length), cdD, cdN, gdT, gdF, gdD, Nat.reduceLT, Nat.reduceEqDiff, Nat.reduceAdd, Nat.reduceLeDiff, reduceIte, reduceCtorEq]
          · simp only [go_sem, map_gso_pu (edc_pul _), cdD, cdN, gdT, gdF, gdD, Nat.reduceLT, Nat.reduceEqDiff, Nat.reduceAdd, Nat.reduceLeDiff, reduceIte, reduceCtorEq]
            simp only [edc_snoc, gso_pos (List.append_ne_nil_of_right_ne_nil (edc l) (List.cons_ne_nil _ _))]
      · refine ⟨by kernel_rfl, (i + 1, IntKind.i64.wrap (at1 + IntKind.i64.wrap (0 + p)), k + 3, l ++ [⟨at1, 0, y⟩]), ⟨by simp only; omega, by simp only; omega, by simp only [List.length_append, List.length_cons, List.length_nil]; omega, ?_⟩, by simp only; omega, ?_⟩
        · intro e he
          rcases List.mem_append.1 he with he | he
          · exact hnew e he
          · rw [List.mem_singleton.1 he]; exact hS
        · refine To.go [5] [(0, gso 37 (edc (l ++ [⟨at1, 0, y⟩])))] (loc_at (by simp only; omega)) ((OKo.refl s).upd hb h.lowO) (by decide) (by simp) ?_ ?_
          · simp +contextual only [go_sem, hlen1, hlv, hw, rnm_low hb, List.length_append, gsv_pos (Nat.succ_ne_zero l.length), cdD, cdN, gdT, gdF, gdD, Nat.reduceLT, Nat.reduceEqDiff, Nat.reduceAdd, Nat.reduceLeDiff, reduceIte, reduceCtorEq]
          · simp only [go_sem, map_gso_pu (edc_pul _), cdD, cdN, gdT, gdF, gdD, Nat.reduceLT, Nat.reduceEqDiff, Nat.reduceAdd, Nat.reduceLeDiff, reduceIte, reduceCtorEq]
            simp only [edc_snoc, gso_pos (List.append_ne_nil_of_right_ne_nil (edc l) (List.cons_ne_nil _ _))]
      · refine ⟨by kernel_rfl, (i + 1, IntKind.i64.wrap (at1 + IntKind.i64.wrap (w + p)), k + 3, l ++ [⟨at1, w, y⟩]), ⟨by simp only; omega, by simp only; omega, by simp only [List.length_append, List.length_cons, List.length_nil]; omega, ?_⟩, by simp only; omega, ?_⟩
        · intro e he
          rcases List.mem_append.1 he with he | he
          · exact hnew e he
          · rw [List.mem_singleton.1 he]; exact hS
        · refine To.go [5] [(0, gso 37 (edc (l ++ [⟨at1, w, y⟩])))] (loc_at (by simp only; omega)) ((OKo.refl s).upd hb h.lowO) (by decide) (by simp) ?_ ?_
          · simp +contextual only [go_sem, hlen1, hlv, hw, rnm_low hb, List.length_append, gsv_pos (Nat.succ_ne_zero l.length), cdD, cdN, gdT, gdF, gdD, Nat.reduceLT, Nat.reduceEqDiff, Nat.reduceAdd, Nat.reduceLeDiff, reduceIte, reduceCtorEq]
          · simp only [go_sem, map_gso_pu (edc_pul _), cdD, cdN, gdT, gdF, gdD, Nat.reduceLT, Nat.reduceEqDiff, Nat.reduceAdd, Nat.reduceLeDiff, reduceIte, reduceCtorEq]
            simp only [edc_snoc, gso_pos (List.append_ne_nil_of_right_ne_nil (edc l) (List.cons_ne_nil _ _))]
    all_goals
      refine lfunG_eq (flipS ((h.upd (by omega) (by omega)).loc) _) ?_
      simp +contextual only [go_sem, hlen1, hlv, hb, cdD, cdN, gdT, gdF, gdD, Nat.reduceLT, Nat.reduceEqDiff, Nat.reduceAdd, Nat.reduceLeDiff, reduceIte, reduceCtorEq]
      refine ⟨fun hf => ?_, fun hf => ?_⟩
      · refine lfunG_of (anEditS ((h.upd (by omega) (by omega)).loc) (by omega) _) ?_
        rintro _ _ ⟨e, m, rfl, he, hm, rfl⟩
        simp +contextual only [go_sem, hlen1, hlv, hb, Ed.enc, cdD, cdN, gdT, gdF, gdD, Nat.reduceLT, Nat.reduceEqDiff, Nat.reduceAdd, Nat.reduceLeDiff, reduceIte, reduceCtorEq]
        refine lmem_eq (app27 (acellsOf_rs (by simp only [go_sem, cdD, cdN, gdT, gdF, gdD, Nat.reduceLT, Nat.reduceEqDiff, Nat.reduceAdd, Nat.reduceLeDiff, reduceIte, reduceCtorEq]; rfl) (by rfl) (AHeap.nx_upd _ _ _)) (by decide) (by simp only [go_sem, cdD, cdN, gdT, gdF, gdD, Nat.reduceLT, Nat.reduceEqDiff, Nat.reduceAdd, Nat.reduceLeDiff, reduceIte, reduceCtorEq]) (by simp only [go_sem, cdD, cdN, gdT, gdF, gdD, Nat.reduceLT, Nat.reduceEqDiff, Nat.reduceAdd, Nat.reduceLeDiff, reduceIte, reduceCtorEq]) (edc_len l) (by omega) (AHeap.nx_upd _ _ _)) ?_
        simp +contextual only [go_sem, hlen1, hlv, hb, cdD, cdN, gdT, gdF, gdD, Nat.reduceLT, Nat.reduceEqDiff, Nat.reduceAdd, Nat.reduceLeDiff, reduceIte, reduceCtorEq]
        refine lexit_freeze 2 3 ((l ++ [e]).map Ed.enc) (by simp only [go_sem, cdD, cdN, gdT, gdF, gdD, Nat.reduceLT, Nat.reduceEqDiff, Nat.reduceAdd, Nat.reduceLeDiff, reduceIte, reduceCtorEq]; exact congrArg (fun c => some (AObj.cells c (some 37))) (edc_snoc l e).symm) (enc_len _) ?_
        simp only [AHeap.nx_upd, len_fz1]
        refine lexit_pure ((OKo.refl s).upd hb h.lowO) (low.mono (Nat.zero_le _) (edv_pu _)) ⟨_, k + 1 + m, rfl, by simp only [List.length_append, List.length_cons, List.length_nil]; omega, ?_, by omega, by congr 2; omega⟩
        intro x hx
        rcases List.mem_append.1 hx with hx | hx
        · exact hnew x hx
        · rw [List.mem_singleton.1 hx]; exact he
      · refine lexit_freezeG 0 3 (l.map Ed.enc) (by simp only [go_sem, cdD, cdN, gdT, gdF, gdD, Nat.reduceLT, Nat.reduceEqDiff, Nat.reduceAdd, Nat.reduceLeDiff, reduceIte, reduceCtorEq]; rfl) (enc_len l) (by decide) ?_
        simp only [AHeap.nx_upd, len_fz]
        exact lexit_pure ((OKo.refl s).upd hb h.lowO) (low.mono (Nat.zero_le _) (edv_pu _)) ⟨_, k + 1, rfl, by omega, hnew, by omega, by congr 2; omega⟩
end Go.S1N
end
section
namespace Go.S1N
open Go Go.Am Go.Proofs Go.S1
set_option maxRecDepth 100000
attribute [local irreducible] lopsB lvb lstepB lfunG lcondB lguardB ldrawB ldrunB ldstepB ldguardB lmem lval ldmem ldval ldfun lexit ldloadB ldlenB lpostB athen ablock
theorem scan_range {n : Int} : ∀ (l : List Ed) (B : Int), scan n B l = 0 → ∀ z ∈ l, 0 ≤ z.at_ ∧ 0 ≤ z.cut ∧ z.at_ ≤ n ∧ z.cut ≤ n
  | [], B, _, z, hz => by cases hz
  | a :: l, B, h, z, hz => by
    obtain ⟨d1, d2, d3, d4, d5, d6⟩ := scan_cons h
    rcases List.mem_cons.1 hz with rfl | hz
    · omega
    · exact scan_range l _ d6 z hz
end Go.S1N
end
section
namespace Go.S1
open Go Go.Am Go.Proofs
set_option maxRecDepth 100000
noncomputable def L26 : LCode := .seq (.ops [⟨.assign (.const (.slice none 0 0)), some 4, none⟩, ⟨.assign (.const (.int .i64 0)), some 5, none⟩]) (.seq (.seq (.ops [⟨.move (.tmp 0), some 11, none⟩, ⟨.move (.tmp 1), some 12, none⟩, ⟨.call { callee := .value (.func 31), args := { toList := [.tmp 11, .tmp 12] }, argTypes := { toList := [9, 27] } }, some 13, none⟩, ⟨.assign (.tmp 13), some 6, none⟩]) (.seq (.ops [⟨.move (.tmp 6), some 14, none⟩, ⟨.binOp .neq 29 (.tmp 14) (.const (.int .i64 0)) 29, some 15, none⟩]) (.cond (.tmp 15) (.seq (.ops [⟨.move (.tmp 6), some 16, none⟩, ⟨.assign (.const (.slice none 0 0)), some 4, none⟩, ⟨.assign (.tmp 16), some 5, none⟩]) .ret) .skip))) (.seq (.ops [⟨.assign (.const (.slice none 0 0)), some 7, none⟩]) (.seq (.seq (.ops [⟨.move (.tmp 1), some 17, none⟩, ⟨.call { callee := .builtin .len, args := { toList := [.tmp 17] }, argTypes := { toList := [27] } }, some 18, none⟩, ⟨.move (.const (.int .i64 0)), some 19, none⟩]) (.block 0 (.loop (.seq (.ops [⟨.binOp .lss 3 (.tmp 19) (.tmp 18) 3, some 20, none⟩]) (.seq (.cond (.tmp 20) .skip (.exit 0)) (.seq (.block 1 (.seq (.ops [⟨.indexAddr 27 (.tmp 17) (.tmp 19), some 21, none⟩, ⟨.load 37 (.tmp 21), some 22, none⟩, ⟨.alloc 37, some 9, none⟩, ⟨.store 37 (.tmp 9) (.tmp 22), none, none⟩]) (.seq (.ops [⟨.move (.tmp 0), some 23, none⟩, ⟨.fieldAddr 37 (.tmp 9) 0, some 24, none⟩, ⟨.load 3 (.tmp 24), some 25, none⟩, ⟨.fieldAddr 37 (.tmp 9) 0, some 26, none⟩, ⟨.load 3 (.tmp 26), some 27, none⟩, ⟨.fieldAddr 37 (.tmp 9) 1, some 28, none⟩, ⟨.load 3 (.tmp 28), some 29, none⟩, ⟨.binOp .add 3 (.tmp 27) (.tmp 29) 3, some 30, none⟩, ⟨.slice 9 (.tmp 23) (some (.tmp 25)) (some (.tmp 30)) none, some 31, none⟩, ⟨.assign (.tmp 31), some 10, none⟩]) (.seq (.block 2 (.loop (.seq (.seq (.draw [0, 1, 3, 7, 15, 31, 63, 127, 255, 511, 255, 1279, 3327, 8191, 16383] [⟨.move (.tmp 10), some 32, none⟩, ⟨.binOp .neq 9 (.tmp 32) (.const (.string { data := { toList := [] } })) 9, some 33, none⟩, ⟨.move (.tmp 33), some 34, none⟩, ⟨.fieldAddr 37 (.tmp 9) 2, some 35, some (34, true)⟩, ⟨.load 9 (.tmp 35), some 36, some (34, true)⟩, ⟨.binOp .neq 9 (.tmp 36) (.const (.string { data := { toList := [] } })) 9, some 37, some (34, true)⟩, ⟨.pick (.tmp 34) (.tmp 37) (.const (.bool false)), some 38, none⟩, ⟨.move (.tmp 38), some 39, none⟩, ⟨.move (.tmp 10), some 40, some (39, true)⟩, ⟨.index 9 (.tmp 40) (.const (.int .i64 0)), some 41, some (39, true)⟩, ⟨.fieldAddr 37 (.tmp 9) 2, some 42, some (39, true)⟩, ⟨.load 9 (.tmp 42), some 43, some (39, true)⟩, ⟨.index 9 (.tmp 43) (.const (.int .i64 0)), some 44, some (39, true)⟩, ⟨.binOp .eql 5 (.tmp 41) (.tmp 44) 5, some 45, some (39, true)⟩, ⟨.pick (.tmp 39) (.tmp 45) (.const (.bool false)), some 46, none⟩]) (.cond (.tmp 46) .skip (.exit 2))) (.block 3 (.draw [0, 1, 0, 4, 12, 0, 32, 96, 99, 383, 895, 2047, 4095] [⟨.move (.tmp 10), some 47, none⟩, ⟨.slice 9 (.tmp 47) (some (.const (.int .i64 1))) none none, some 48, none⟩, ⟨.fieldAddr 37 (.tmp 9) 2, some 49, none⟩, ⟨.load 9 (.tmp 49), some 50, none⟩, ⟨.slice 9 (.tmp 50) (some (.const (.int .i64 1))) none none, some 51, none⟩, ⟨.fieldAddr 37 (.tmp 9) 0, some 52, none⟩, ⟨.load 3 (.tmp 52), some 53, none⟩, ⟨.binOp .add 3 (.tmp 53) (.const (.int .i64 1)) 3, some 54, none⟩, ⟨.assign (.tmp 48), some 10, none⟩, ⟨.fieldAddr 37 (.tmp 9) 2, some 55, none⟩, ⟨.store 9 (.tmp 55) (.tmp 51), none, none⟩, ⟨.fieldAddr 37 (.tmp 9) 0, some 56, none⟩, ⟨.store 3 (.tmp 56) (.tmp 54), none, none⟩]))))) (.seq (.block 4 (.loop (.seq (.seq (.draw [0, 1, 3, 7, 15, 31, 63, 127, 255, 255, 767, 1791, 4095, 255, 8447, 255, 33023, 98559, 229631, 516351, 1048575, 2097151] [⟨.move (.tmp 10), some 57, none⟩, ⟨.binOp .neq 9 (.tmp 57) (.const (.string { data := { toList := [] } })) 9, some 58, none⟩, ⟨.move (.tmp 58), some 59, none⟩, ⟨.fieldAddr 37 (.tmp 9) 2, some 60, some (59, true)⟩, ⟨.load 9 (.tmp 60), some 61, some (59, true)⟩, ⟨.binOp .neq 9 (.tmp 61) (.const (.string { data := { toList := [] } })) 9, some 62, some (59, true)⟩, ⟨.pick (.tmp 59) (.tmp 62) (.const (.bool false)), some 63, none⟩, ⟨.move (.tmp 63), some 64, none⟩, ⟨.move (.tmp 10), some 65, some (64, true)⟩, ⟨.move (.tmp 10), some 66, some (64, true)⟩, ⟨.call { callee := .builtin .len, args := { toList := [.tmp 66] }, argTypes := { toList := [9] } }, some 67, some (64, true)⟩, ⟨.binOp .sub 3 (.tmp 67) (.const (.int .i64 1)) 3, some 68, some (64, true)⟩, ⟨.index 9 (.tmp 65) (.tmp 68), some 69, some (64, true)⟩, ⟨.fieldAddr 37 (.tmp 9) 2, some 70, some (64, true)⟩, ⟨.load 9 (.tmp 70), some 71, some (64, true)⟩, ⟨.fieldAddr 37 (.tmp 9) 2, some 72, some (64, true)⟩, ⟨.load 9 (.tmp 72), some 73, some (64, true)⟩, ⟨.call { callee := .builtin .len, args := { toList := [.tmp 73] }, argTypes := { toList := [9] } }, some 74, some (64, true)⟩, ⟨.binOp .sub 3 (.tmp 74) (.const (.int .i64 1)) 3, some 75, some (64, true)⟩, ⟨.index 9 (.tmp 71) (.tmp 75), some 76, some (64, true)⟩, ⟨.binOp .eql 5 (.tmp 69) (.tmp 76) 5, some 77, some (64, true)⟩, ⟨.pick (.tmp 64) (.tmp 77) (.const (.bool false)), some 78, none⟩]) (.cond (.tmp 78) .skip (.exit 4))) (.block 5 (.draw [0, 0, 2, 6, 15, 0, 32, 0, 128, 384, 896, 2016, 31, 8191, 16383] [⟨.move (.tmp 10), some 79, none⟩, ⟨.move (.tmp 10), some 80, none⟩, ⟨.call { callee := .builtin .len, args := { toList := [.tmp 80] }, argTypes := { toList := [9] } }, some 81, none⟩, ⟨.binOp .sub 3 (.tmp 81) (.const (.int .i64 1)) 3, some 82, none⟩, ⟨.slice 9 (.tmp 79) none (some (.tmp 82)) none, some 83, none⟩, ⟨.fieldAddr 37 (.tmp 9) 2, some 84, none⟩, ⟨.load 9 (.tmp 84), some 85, none⟩, ⟨.fieldAddr 37 (.tmp 9) 2, some 86, none⟩, ⟨.load 9 (.tmp 86), some 87, none⟩, ⟨.call { callee := .builtin .len, args := { toList := [.tmp 87] }, argTypes := { toList := [9] } }, some 88, none⟩, ⟨.binOp .sub 3 (.tmp 88) (.const (.int .i64 1)) 3, some 89, none⟩, ⟨.slice 9 (.tmp 85) none (some (.tmp 89)) none, some 90, none⟩, ⟨.assign (.tmp 83), some 10, none⟩, ⟨.fieldAddr 37 (.tmp 9) 2, some 91, none⟩, ⟨.store 9 (.tmp 91) (.tmp 90), none, none⟩]))))) (.seq (.ops [⟨.move (.tmp 10), some 92, none⟩, ⟨.call { callee := .builtin .len, args := { toList := [.tmp 92] }, argTypes := { toList := [9] } }, some 93, none⟩, ⟨.fieldAddr 37 (.tmp 9) 1, some 94, none⟩, ⟨.store 3 (.tmp 94) (.tmp 93), none, none⟩]) (.seq (.ops [⟨.move (.tmp 10), some 95, none⟩, ⟨.binOp .neq 9 (.tmp 95) (.const (.string { data := { toList := [] } })) 9, some 96, none⟩, ⟨.move (.tmp 96), some 97, none⟩, ⟨.fieldAddr 37 (.tmp 9) 2, some 98, some (97, false)⟩, ⟨.load 9 (.tmp 98), some 99, some (97, false)⟩, ⟨.binOp .neq 9 (.tmp 99) (.const (.string { data := { toList := [] } })) 9, some 100, some (97, false)⟩, ⟨.pick (.tmp 97) (.const (.bool true)) (.tmp 100), some 101, none⟩]) (.cond (.tmp 101) (.ops [⟨.move (.tmp 7), some 102, none⟩, ⟨.load 37 (.tmp 9), some 103, none⟩, ⟨.buildSlice 27 1 { toList := [(0, .tmp 103)] }, some 104, none⟩, ⟨.call { callee := .builtin .append, args := { toList := [.tmp 102, .tmp 104] }, argTypes := { toList := [27, 27] } }, some 105, none⟩, ⟨.assign (.tmp 105), some 7, none⟩]) .skip)))))))) (.ops [⟨.binOp .add 3 (.tmp 19) (.const (.int .i64 1)) 3, some 106, none⟩, ⟨.move (.tmp 106), some 19, none⟩]))))))) (.seq (.ops [⟨.move (.tmp 7), some 107, none⟩, ⟨.assign (.tmp 107), some 4, none⟩, ⟨.assign (.const (.int .i64 0)), some 5, none⟩]) .ret))))
theorem l26 : Tryz.f26.body.map lighten = some L26 := by kernel_rfl
theorem rs26 : Tryz.f26.results.toList = [ResultVar.tmp 4, ResultVar.tmp 5] := by kernel_rfl
theorem nt26 : Tryz.f26.ntmps = 108 := by kernel_rfl
theorem gob26 {args : List AV} {s : AHeap} {R : AV → AHeap → Prop} (hl : args.length ≤ 108) (h : ∀ tm, tm.length = 108 → (∀ i, aev tm (.tmp i) = args.getD i aundef) → lvb Tryz.prog tab s L26 (lpostB tab s [ResultVar.tmp 4, ResultVar.tmp 5] R) tm (loc s 0 [])) : ACall Tryz.prog 26 args s R := ACall.goB tab_ok mixed Tryz.func26 l26 nm26 rs26 nt26 hl h
noncomputable def L48 : LCode := .seq (.ops [⟨.alloc 98, some 4, none⟩]) (.seq (.ops [⟨.move (.tmp 0), some 5, none⟩, ⟨.move (.tmp 1), some 6, none⟩, ⟨.build 98 { toList := [(0, .tmp 5), (1, .tmp 6)] }, some 7, none⟩, ⟨.store 98 (.tmp 4) (.tmp 7), none, none⟩]) .ret)
theorem l48 : Tryz.f48.body.map lighten = some L48 := by kernel_rfl
theorem rs48 : Tryz.f48.results.toList = [ResultVar.cell 4 98] := by kernel_rfl
theorem nt48 : Tryz.f48.ntmps = 8 := by kernel_rfl
theorem gob48 {args : List AV} {s : AHeap} {R : AV → AHeap → Prop} (hl : args.length ≤ 8) (h : ∀ tm, tm.length = 8 → (∀ i, aev tm (.tmp i) = args.getD i aundef) → lvb Tryz.prog tab s L48 (lpostB tab s [ResultVar.cell 4 98] R) tm (loc s 0 [])) : ACall Tryz.prog 48 args s R := ACall.goB tab_ok mixed Tryz.func48 l48 nm48 rs48 nt48 hl h
noncomputable def L47 : LCode := .seq (.ops [⟨.alloc 98, some 2, none⟩]) (.seq (.ops [⟨.move (.tmp 0), some 3, none⟩, ⟨.build 98 { toList := [(2, .tmp 3)] }, some 4, none⟩, ⟨.store 98 (.tmp 2) (.tmp 4), none, none⟩]) .ret)
theorem l47 : Tryz.f47.body.map lighten = some L47 := by kernel_rfl
theorem rs47 : Tryz.f47.results.toList = [ResultVar.cell 2 98] := by kernel_rfl
theorem nt47 : Tryz.f47.ntmps = 5 := by kernel_rfl
theorem gob47 {args : List AV} {s : AHeap} {R : AV → AHeap → Prop} (hl : args.length ≤ 5) (h : ∀ tm, tm.length = 5 → (∀ i, aev tm (.tmp i) = args.getD i aundef) → lvb Tryz.prog tab s L47 (lpostB tab s [ResultVar.cell 2 98] R) tm (loc s 0 [])) : ACall Tryz.prog 47 args s R := ACall.goB tab_ok mixed Tryz.func47 l47 nm47 rs47 nt47 hl h
end Go.S1
end
section
namespace Go.S1N
open Go Go.Am Go.Proofs Go.S1
set_option maxRecDepth 100000
attribute [local irreducible] lopsB lvb lstepB lfunG lcondB lguardB ldrawB ldrunB ldstepB ldguardB lmem lval ldmem ldval ldfun lexit ldloadB ldlenB lpostB athen ablock
theorem checkTextE (x : List UInt8) (v : AV) (l : List Ed) (hv : SlE v l) (hl : l.length < 4611686018427387904) (s : AHeap) : ACall Tryz.prog 31 [.str x, v] s fun r t => r = .int .i64 (textFault x l) ∧ t = s :=
  exact_of (by simp only [Pu, low]) (checkText_ok x v l hv hl s)
end Go.S1N
end
section
namespace Go.S1N
open Go Go.Am Go.Proofs Go.S1
set_option maxRecDepth 100000
attribute [local irreducible] lopsB lvb lstepB lfunG lcondB lguardB ldrawB ldrunB ldstepB ldguardB lmem lval ldmem ldval ldfun lexit ldloadB ldlenB lpostB athen ablock
theorem gso_ed {O : List Ed} {z : Ed} : gso 37 (edc (O ++ [z])) = some (.cells (edc (O ++ [z])) (some 37)) := gso_pos (by simp [edc_snoc])
end Go.S1N
end
section
namespace Go.S1N
open Go Go.Am Go.Proofs Go.S1
set_option maxRecDepth 100000
attribute [local irreducible] lopsB lvb lstepB lfunG lcondB lguardB ldrawB ldrunB ldstepB ldguardB lmem lval ldmem ldval ldfun lexit ldloadB ldlenB lpostB athen ablock
structure Rn where
  at_ : Int
  long : Int
  text : List UInt8
def Rn.enc (e : Rn) : AV := .agg [.int .i64 e.at_, .int .i64 e.long, .str e.text]
def rnc (l : List Rn) : List AV := (l.map Rn.enc).flatMap AV.cells
def rnv (l : List Rn) : AV := fsv 3 (l.map Rn.enc)
theorem rnc_len (l : List Rn) : (rnc l).length = l.length * 3 := by
  unfold rnc
  induction l with
  | nil => rfl
  | cons e l ih => simp only [List.map_cons, List.flatMap_cons, List.length_append, ih, List.length_cons, Rn.enc, AV.cells, List.length_nil]; omega
theorem rnc_snoc (l : List Rn) (e : Rn) : rnc (l ++ [e]) = rnc l ++ [.int .i64 e.at_, .int .i64 e.long, .str e.text] := by
  simp [rnc, Rn.enc, AV.cells]
theorem rnc_pul (l : List Rn) : PuL (rnc l) := by
  unfold rnc
  induction l with
  | nil => simp only [List.map_nil, List.flatMap_nil, PuL, lowL]
  | cons e l ih =>
    rw [List.map_cons, List.flatMap_cons, PuL, lowL_append]
    exact ⟨by simp only [Rn.enc, AV.cells, lowL, low, and_self], ih⟩
theorem rn_len (l : List Rn) : ∀ x ∈ l.map Rn.enc, x.cells.length = 3 := by
  intro x hx
  obtain ⟨e, _, rfl⟩ := List.mem_map.1 hx
  rfl
theorem rnv_pu (l : List Rn) : Pu (rnv l) := pu_fsv (by
  simp only [PuL, lowL_iff]
  intro x hx
  obtain ⟨e, _, rfl⟩ := List.mem_map.1 hx
  simp only [Rn.enc, low, lowL, and_self])
theorem kept_ok (a n : Int) (s : AHeap) : ACall Tryz.prog 48 [.int .i64 a, .int .i64 n] s fun r t => r = Rn.enc ⟨a, n, []⟩ ∧ t = s := by
  refine gob48 (by simp) ?_
  intro tm hlen harg
  simp +contextual only [go_sem, L48, hlen, harg, cdD, cdN, gdT, gdF, gdD, Nat.reduceLT, Nat.reduceEqDiff, Nat.reduceAdd, Nat.reduceLeDiff, reduceIte, reduceCtorEq]
  exact lexit_pure (.refl s) (by simp only [low, lowL, and_self]) ⟨rfl, rfl⟩
theorem fresh_ok (x : List UInt8) (s : AHeap) : ACall Tryz.prog 47 [.str x] s fun r t => r = Rn.enc ⟨0, 0, x⟩ ∧ t = s := by
  refine gob47 (by simp) ?_
  intro tm hlen harg
  simp +contextual only [go_sem, L47, hlen, harg, cdD, cdN, gdT, gdF, gdD, Nat.reduceLT, Nat.reduceEqDiff, Nat.reduceAdd, Nat.reduceLeDiff, reduceIte, reduceCtorEq]
  exact lexit_pure (.refl s) (by simp only [low, lowL, and_self]) ⟨rfl, rfl⟩
end Go.S1N
end
section
namespace Go.S1N
open Go Go.Am Go.Proofs Go.S1
set_option maxRecDepth 100000
attribute [local irreducible] lopsB lvb lstepB lfunG lcondB lguardB ldrawB ldrunB ldstepB ldguardB lmem lval ldmem ldval ldfun lexit ldloadB ldlenB lpostB athen ablock
theorem rn_at (RS : List Rn) {j : Nat} {r : Rn} (h : RS[j]? = some r) : aindexAddr tab 89 (rnv RS) (.int .i64 j) = some (.rptr [.int .i64 r.at_, .int .i64 r.long, .str r.text]) :=
  ix89f (v := r.enc) (by omega) (by rw [List.getElem?_map, Int.toNat_natCast, h]; rfl) rfl
end Go.S1N
end
section
namespace Go.S1N
open Go Go.Am Go.Proofs Go.S1
set_option maxRecDepth 100000
theorem lfunG_eqc' {P : Program} {s0 s : AHeap} {N : List AV → AHeap → Prop} {f : Operand} {args : List Operand} {d : Option Nat} {tm : List AV} {g : FuncId} {av fi ca av' : List AV} {R : AV → AHeap → Prop} (he : fi ++ av ++ ca = av') (h : ACall P g av' s R) (k : ∀ v t, R v t → N (aput tm d v) t) :
    lfunG P s0 N f args d tm s (.func (.func g) fi ca) av := by
  intro hf ha
  refine .now ?_
  rw [← hf, ← ha]
  show lcall P N g (fi ++ av ++ ca) s d tm
  rw [he]
  exact lcall_of h k
theorem lexit_now {s0 s : AHeap} {R : AV → AHeap → Prop} {v : AV} (h : R v s) : lexit s0 R (some v) s := Gh.now ⟨v, rfl, h⟩
attribute [local irreducible] lopsB lvb lstepB lfunG lcondB lguardB ldrawB ldrunB ldstepB ldguardB lmem lval ldmem ldval ldfun lexit ldloadB ldlenB lpostB athen ablock
def pushE (a : Int) (w : List UInt8) (to : Int) : List Ed := if a < to ∨ w ≠ [] then [⟨a, to - a, w⟩] else []
def edGo (n : Int) : Int → List UInt8 → List (Int × UInt8) → List Ed
  | a, w, [] => pushE a w n
  | a, w, p :: r => if p.1 < 0 then edGo n a (w ++ [p.2]) r else pushE a w p.1 ++ edGo n (p.1 + 1) [] r
end Go.S1N
end
section
namespace Go.S1N
open Go Go.Am Go.Proofs Go.S1
set_option maxRecDepth 100000
attribute [local irreducible] lopsB lvb lstepB lfunG lcondB lguardB ldrawB ldrunB ldstepB ldguardB lmem lval ldmem ldval ldfun lexit ldloadB ldlenB lpostB athen ablock
end Go.S1N
end
section
namespace Go.S1N
open Go Go.Am Go.Proofs Go.S1
set_option maxRecDepth 100000
attribute [local irreducible] lopsB lvb lstepB lfunG lcondB lguardB ldrawB ldrunB ldstepB ldguardB lmem lval ldmem ldval ldfun lexit ldloadB ldlenB lpostB athen ablock
end Go.S1N
end
section
namespace Go.S1N
open Go Go.Am Go.Proofs Go.S1
set_option maxRecDepth 100000
theorem ldrawB_cut {P : Program} {T : Tab} {s0 s : AHeap} {α : Type} (n : Nat) (lv : α → List (Nat × AV)) (hp : α → AHeap) (C : α → Prop) {N : List AV → AHeap → Prop} {Q : APost} {tm : List AV} {ms : List Nat} {l : List LOp} (h1 : ldrawB P T s0 (athen (Cut n lv hp C) Q) ms l tm s)
    (h2 : ∀ a tm', C a → tm'.length = n → (∀ p ∈ lv a, aev tm' (.tmp p.1) = p.2) → N tm' (hp a)) : ldrawB P T s0 (athen N Q) ms l tm s := ldrawB_mono (cut_post n lv hp C h2) h1
attribute [local irreducible] lopsB lvb lstepB lfunG lcondB lguardB ldrawB ldrunB ldstepB ldguardB lmem lval ldmem ldval ldfun lexit ldloadB ldlenB lpostB athen ablock
def sqF : Int → List UInt8 → List UInt8 → Int × List UInt8 × List UInt8
  | a, p :: c, q :: w => if p = q then sqF (a + 1) c w else (a, p :: c, q :: w)
  | a, c, w => (a, c, w)
def sqB (c w : List UInt8) : List UInt8 × List UInt8 := ((sqF 0 c.reverse w.reverse).2.1.reverse, (sqF 0 c.reverse w.reverse).2.2.reverse)
def sq1 (x : List UInt8) (e : Ed) : List Ed :=
  let u := sqF e.at_ ((x.drop e.at_.toNat).take ((e.at_ + e.cut).toNat - e.at_.toNat)) e.new
  let v := sqB u.2.1 u.2.2
  if v.1 ≠ [] ∨ v.2 ≠ [] then [⟨u.1, v.1.length, v.2⟩] else []
def sqz (x : List UInt8) (l : List Ed) : List Ed := l.flatMap (sq1 x)
def squeezedVal (x : List UInt8) (l : List Ed) : List Ed × Int := if textFault x l ≠ 0 then ([], textFault x l) else (sqz x l, 0)
theorem sqz_cons {x : List UInt8} {e : Ed} {l : List Ed} : sqz x (e :: l) = sq1 x e ++ sqz x l := List.flatMap_cons
theorem sqF_nil1 {a : Int} {w : List UInt8} : sqF a [] w = (a, [], w) := by simp [sqF]
theorem sqF_nil2 {a : Int} {c : List UInt8} : sqF a c [] = (a, c, []) := by cases c <;> simp [sqF]
theorem sqF_shift : ∀ (c w : List UInt8) (a b : Int), (sqF a c w).2 = (sqF b c w).2
  | [], w, a, b => by simp [sqF_nil1]
  | p :: c, [], a, b => by simp [sqF_nil2]
  | p :: c, q :: w, a, b => by
    rw [sqF, sqF]
    split
    · exact sqF_shift c w _ _
    · rfl
theorem sqB_nil1 {w : List UInt8} : sqB [] w = ([], w) := by simp [sqB, sqF_nil1]
theorem sqB_nil2 {c : List UInt8} : sqB c [] = (c, []) := by simp [sqB, sqF_nil2]
theorem sqB_eq {c w : List UInt8} {p : UInt8} : sqB (c ++ [p]) (w ++ [p]) = sqB c w := by
  simp only [sqB, List.reverse_append, List.reverse_cons, List.reverse_nil, List.nil_append, List.cons_append]
  rw [sqF, if_pos rfl, sqF_shift _ _ (0 + 1) 0]
theorem sqB_ne {c w : List UInt8} {p q : UInt8} (h : p ≠ q) : sqB (c ++ [p]) (w ++ [q]) = (c ++ [p], w ++ [q]) := by
  simp only [sqB, List.reverse_append, List.reverse_cons, List.reverse_nil, List.nil_append, List.cons_append]
  rw [sqF, if_neg h]
  simp
theorem snoc_cases (c : List UInt8) : c = [] ∨ ∃ d p, c = d ++ [p] := by
  rcases List.eq_nil_or_concat c with h | ⟨d, p, h⟩
  · exact .inl h
  · exact .inr ⟨d, p, by simpa using h⟩
theorem snoc_ne {d : List UInt8} {p : UInt8} : (d ++ [p] = []) = False := by simp
theorem ixs0 {p : UInt8} {c : List UInt8} : aindex tab 9 (.str (p :: c)) (.int .i64 0) = some (.int .u8 p.toNat) := by simp [aindex, ty9]
theorem ixsl {p : UInt8} {c : List UInt8} {n : Int} (h : n = c.length) : aindex tab 9 (.str (c ++ [p])) (.int .i64 n) = some (.int .u8 p.toNat) := by subst h; simp [aindex, ty9]
theorem sl1 {p : UInt8} {c : List UInt8} : aslice tab 9 (.str (p :: c)) (some (.int .i64 1)) none none = some (.str c) := by
  rw [slice9a (by omega) (by simp; omega)]; rfl
theorem sll {p : UInt8} {c : List UInt8} {n : Int} (h : n = c.length) : aslice tab 9 (.str (c ++ [p])) none (some (.int .i64 n)) none = some (.str c) := by
  subst h
  have h1 : (c.length : Int) ≤ c.length + 1 := by omega
  simp [aslice, ty9, abounds, aidx, h1]
theorem u8ne {p q : UInt8} : ((p.toNat : Int) = q.toNat) = (p = q) := by
  apply propext
  constructor
  · intro h; exact UInt8.toNat_inj.1 (by omega)
  · rintro rfl; rfl
theorem squeezed_ok (x : List UInt8) (v : AV) (l : List Ed) (hv : SlE v l) (hl : l.length < 4611686018427387904) (hnew : ∀ e ∈ l, e.new.length ≤ 100000) (s : AHeap) :
    ACall Tryz.prog 26 [.str x, v] s fun r t => r = .tuple [edv (squeezedVal x l).1, .int .i64 (squeezedVal x l).2] ∧ t = s := by
  refine gob26 (by simp) ?_
  intro tm hlen harg
  simp +contextual only [go_sem, L26, hlen, harg, cdD, cdN, gdT, gdF, gdD, Nat.reduceLT, Nat.reduceEqDiff, Nat.reduceAdd, Nat.reduceLeDiff, reduceIte, reduceCtorEq]
  refine lfunG_eq (checkTextE x v l hv hl _) ?_
  simp +contextual only [go_sem, hlen, harg, hv.len, cdD, cdN, gdT, gdF, gdD, Nat.reduceLT, Nat.reduceEqDiff, Nat.reduceAdd, Nat.reduceLeDiff, reduceIte, reduceCtorEq]
  refine ⟨fun c => ?_, fun c => ?_⟩
  · refine lexit_pure (.refl s) (by simp only [low, lowL, and_self]) ⟨?_, rfl⟩
    rw [squeezedVal, if_pos c]; rfl
  · obtain ⟨hx, hl2, hsc⟩ := textFault_zero c
    have hval : squeezedVal x l = (sqz x l, 0) := by rw [squeezedVal, if_neg (by simpa using c)]
    rw [hval]
    refine ⟨Nat × Int × List Ed, fun a => [(0, .str x), (7, gsv 3 (nm s.nx 0) a.2.2.length), (17, v), (18, .int .i64 l.length), (19, .int .i64 a.1)],
      fun a => loc s 1 [(0, gso 37 (edc a.2.2))], fun a => a.1 ≤ l.length ∧ a.2.2.length ≤ a.1 ∧ scan x.length a.2.1 (l.drop a.1) = 0 ∧ a.2.2 ++ sqz x (l.drop a.1) = sqz x l,
      fun a => l.length - a.1, (0, -1, []), ⟨by simp, by simp, by simpa using hsc, by simp⟩, ?_, ?_⟩
    · refine To.go [9] [(0, none)] (by simp only [edc, List.map_nil, List.flatMap_nil, gso_nil]; rfl) (.refl s) (by decide) (by simp) ?_ ?_
      · simp +contextual only [go_sem, hlen, harg, hv.pu, pu_ren hv.pu, List.length_nil, gsv_zero, cdD, cdN, gdT, gdF, gdD, Nat.reduceLT, Nat.reduceEqDiff, Nat.reduceAdd, Nat.reduceLeDiff, reduceIte, reduceCtorEq]
        simp
      · simp only [go_sem, cdD, cdN, gdT, gdF, gdD, Nat.reduceLT, Nat.reduceEqDiff, Nat.reduceAdd, Nat.reduceLeDiff, reduceIte, reduceCtorEq]
    · rintro ⟨i, B, R⟩ tm1 ⟨hi, hR, hs, hL⟩ hlen1 hlv
      simp only [go_sem, hlen, cdD, cdN, gdT, gdF, gdD, Nat.reduceLT, Nat.reduceEqDiff, Nat.reduceAdd, Nat.reduceLeDiff, reduceIte, reduceCtorEq] at hlen1 hlv hi hR hs hL
      simp +contextual only [go_sem, hlen, hlen1, hlv, cdD, cdN, gdT, gdF, gdD, Nat.reduceLT, Nat.reduceEqDiff, Nat.reduceAdd, Nat.reduceLeDiff, reduceIte, reduceCtorEq]
      refine ⟨fun hlt => ?_, fun hge => ?_⟩
      · have hi2 : i < l.length := by omega
        have he := List.getElem?_eq_getElem hi2
        have hmem : l[i] ∈ l := List.getElem_mem hi2
        have hdrop := List.drop_eq_getElem_cons hi2
        generalize l[i] = e at he hdrop hmem
        have hen := hnew e hmem
        rw [hdrop] at hs hL
        obtain ⟨c1, c2, c3, c4, c5, c6⟩ := scan_cons hs
        have hw2 : IntKind.i64.wrap (e.at_ + e.cut) = e.at_ + e.cut := wrap_id (by omega)
        have hw3 : IntKind.i64.wrap ((i : Int) + 1) = ((i + 1 : Nat) : Int) := by rw [wrap_id (by omega)]; rfl
        simp +contextual only [go_sem, hlen, hlen1, hlv, hv.at he, hw2, slice9 c1 (show e.at_ ≤ e.at_ + e.cut by omega) (show e.at_ + e.cut ≤ x.length by omega), cdD, cdN, gdT, gdF, gdD, Nat.reduceLT, Nat.reduceEqDiff, Nat.reduceAdd, Nat.reduceLeDiff, reduceIte, reduceCtorEq]
        have hcl : ((x.drop e.at_.toNat).take ((e.at_ + e.cut).toNat - e.at_.toNat)).length ≤ 20000 := by simp; omega
        have hsq : sq1 x e = _ := sq1.eq_def x e
        generalize (x.drop e.at_.toNat).take ((e.at_ + e.cut).toNat - e.at_.toNat) = c0 at hcl hsq ⊢
        refine ⟨Int × List UInt8 × List UInt8, fun a => [(0, .str x), (7, gsv 3 (nm s.nx 0) R.length), (9, .ptr (nm s.nx 1) 0), (10, .str a.2.1), (17, v), (18, .int .i64 l.length), (19, .int .i64 i)],
          fun a => loc s 2 [(0, gso 37 (edc R)), (1, some (.cells [.int .i64 a.1, .int .i64 e.cut, .str a.2.2] (some 37)))], fun a => 0 ≤ a.1 ∧ a.1 + a.2.1.length ≤ 50000 ∧ a.2.2.length ≤ 100000 ∧ sqF a.1 a.2.1 a.2.2 = sqF e.at_ c0 e.new, fun a => a.2.1.length, (e.at_, c0, e.new), ⟨by simp only; omega, by simp only; omega, by simp only; omega, rfl⟩, ?_, ?_⟩
        · refine To.go [0, 1] _ rfl (.refl s) (by decide) (by simp) ?_ ?_
          · simp +contextual only [go_sem, hlen1, hlv, pu_ren hv.pu, cdD, cdN, gdT, gdF, gdD, Nat.reduceLT, Nat.reduceEqDiff, Nat.reduceAdd, Nat.reduceLeDiff, reduceIte, reduceCtorEq]
          · simp only [go_sem, map_gso_pu (edc_pul _), cdD, cdN, gdT, gdF, gdD, Nat.reduceLT, Nat.reduceEqDiff, Nat.reduceAdd, Nat.reduceLeDiff, reduceIte, reduceCtorEq]
        · rintro ⟨a, c, w⟩ tm2 ⟨ha, hac, hw, hE⟩ hlen2 hlv2
          simp only [go_sem, hlen1, cdD, cdN, gdT, gdF, gdD, Nat.reduceLT, Nat.reduceEqDiff, Nat.reduceAdd, Nat.reduceLeDiff, reduceIte, reduceCtorEq] at hlen2 hlv2 ha hac hw hE
          simp +contextual only [go_sem, cdD, cdN, gdT, gdF, gdD, Nat.reduceLT, Nat.reduceEqDiff, Nat.reduceAdd, Nat.reduceLeDiff, reduceIte, reduceCtorEq]
          refine ldrawB_cut 108 (fun b : Bool => [(0, .str x), (7, gsv 3 (nm s.nx 0) R.length), (9, .ptr (nm s.nx 1) 0), (10, .str c), (17, v), (18, .int .i64 l.length), (19, .int .i64 i), (46, .bool b)])
            (fun _ => loc s 15 [(0, gso 37 (edc R)), (1, some (.cells [.int .i64 a, .int .i64 e.cut, .str w] (some 37)))]) (fun b => (b = true ∧ ∃ p c' w', c = p :: c' ∧ w = p :: w') ∨ (b = false ∧ sqF a c w = (a, c, w))) ?_ ?_
          · refine ldrawB_go [] [] 13 (by decide) ?_
            rcases c with _ | ⟨p, c⟩
            · simp +contextual only [go_sem, hlen2, hlv2, cdD, cdN, gdT, gdF, gdD, Nat.reduceLT, Nat.reduceEqDiff, Nat.reduceAdd, Nat.reduceLeDiff, reduceIte, reduceCtorEq]
              refine ⟨by kernel_rfl, by simp only [go_sem, hlen2], false, .inr ⟨rfl, sqF_nil1⟩, rfl, ?_⟩
              simp only [go_sem, hlen2, hlv2, cdD, cdN, gdT, gdF, gdD, Nat.reduceLT, Nat.reduceEqDiff, Nat.reduceAdd, Nat.reduceLeDiff, reduceIte, reduceCtorEq]
            · rcases w with _ | ⟨q, w⟩
              · simp +contextual only [go_sem, hlen2, hlv2, cdD, cdN, gdT, gdF, gdD, Nat.reduceLT, Nat.reduceEqDiff, Nat.reduceAdd, Nat.reduceLeDiff, reduceIte, reduceCtorEq]
                refine ⟨by kernel_rfl, by simp only [go_sem, hlen2], false, .inr ⟨rfl, sqF_nil2⟩, rfl, ?_⟩
                simp only [go_sem, hlen2, hlv2, cdD, cdN, gdT, gdF, gdD, Nat.reduceLT, Nat.reduceEqDiff, Nat.reduceAdd, Nat.reduceLeDiff, reduceIte, reduceCtorEq]
              · simp only [go_sem, hlen2, hlv2, ixs0, Nat.reduceLT, Nat.reduceEqDiff, Nat.reduceAdd, Nat.reduceLeDiff, reduceIte, reduceCtorEq]
                refine ⟨by kernel_rfl, by simp only [go_sem, hlen2], decide (p = q), ?_, rfl, ?_⟩
                · by_cases h : p = q
                  · subst h; exact .inl ⟨by simp, p, c, w, rfl, rfl⟩
                  · exact .inr ⟨by simp [h], by rw [sqF, if_neg h]⟩
                · simp only [go_sem, hlen2, hlv2, u8ne, Nat.reduceLT, Nat.reduceEqDiff, Nat.reduceAdd, Nat.reduceLeDiff, reduceIte, reduceCtorEq]
          · rintro b tm3 hb hlen3 hlv3
            simp only [go_sem, cdD, cdN, gdT, gdF, gdD, Nat.reduceLT, Nat.reduceEqDiff, Nat.reduceAdd, Nat.reduceLeDiff, reduceIte, reduceCtorEq] at hlv3
            rcases hb with ⟨rfl, p, c', w', rfl, rfl⟩ | ⟨rfl, hst⟩
            · have hwa : IntKind.i64.wrap (a + 1) = a + 1 := wrap_id (by simp only [List.length_cons] at hac; omega)
              simp +contextual only [go_sem, hlen3, hlv3, cdD, cdN, gdT, gdF, gdD, Nat.reduceLT, Nat.reduceEqDiff, Nat.reduceAdd, Nat.reduceLeDiff, reduceIte, reduceCtorEq]
              refine ldrawB_go [] [] 11 (by decide) ?_
              simp +contextual only [go_sem, hlen3, hlv3, sl1, hwa, cdD, cdN, gdT, gdF, gdD, Nat.reduceLT, Nat.reduceEqDiff, Nat.reduceAdd, Nat.reduceLeDiff, reduceIte, reduceCtorEq]
              refine ⟨by kernel_rfl, hlen1.symm, (a + 1, c', w'), ⟨by simp only; omega, by simp only [List.length_cons] at hac ⊢; omega, by simp only [List.length_cons] at hw ⊢; omega, by rw [← hE, sqF, if_pos rfl]⟩, by simp only; omega, ?_⟩
              refine To.go [0, 1] _ rfl (.refl s) (by decide) (by simp) ?_ ?_
              · simp +contextual only [go_sem, hlen3, hlv3, pu_ren hv.pu, cdD, cdN, gdT, gdF, gdD, Nat.reduceLT, Nat.reduceEqDiff, Nat.reduceAdd, Nat.reduceLeDiff, reduceIte, reduceCtorEq]
              · simp only [go_sem, map_gso_pu (edc_pul _), cdD, cdN, gdT, gdF, gdD, Nat.reduceLT, Nat.reduceEqDiff, Nat.reduceAdd, Nat.reduceLeDiff, reduceIte, reduceCtorEq]
            · rw [hst] at hE
              rw [← hE] at hsq
              have hcl2 : c.length ≤ 50000 := by omega
              simp +contextual only [go_sem, hlen3, hlv3, cdD, cdN, gdT, gdF, gdD, Nat.reduceLT, Nat.reduceEqDiff, Nat.reduceAdd, Nat.reduceLeDiff, reduceIte, reduceCtorEq]
              refine ⟨List UInt8 × List UInt8, fun k => [(0, .str x), (7, gsv 3 (nm s.nx 0) R.length), (9, .ptr (nm s.nx 1) 0), (10, .str k.1), (17, v), (18, .int .i64 l.length), (19, .int .i64 i)],
                fun k => loc s 2 [(0, gso 37 (edc R)), (1, some (.cells [.int .i64 a, .int .i64 e.cut, .str k.2] (some 37)))], fun k => k.1.length ≤ 50000 ∧ k.2.length ≤ 100000 ∧ sqB k.1 k.2 = sqB c w, fun k => k.1.length, (c, w), ⟨hcl2, hw, rfl⟩, ?_, ?_⟩
              · refine To.go [0, 1] _ rfl (.refl s) (by decide) (by simp) ?_ ?_
                · simp +contextual only [go_sem, hlen3, hlv3, pu_ren hv.pu, cdD, cdN, gdT, gdF, gdD, Nat.reduceLT, Nat.reduceEqDiff, Nat.reduceAdd, Nat.reduceLeDiff, reduceIte, reduceCtorEq]
                · simp only [go_sem, map_gso_pu (edc_pul _), cdD, cdN, gdT, gdF, gdD, Nat.reduceLT, Nat.reduceEqDiff, Nat.reduceAdd, Nat.reduceLeDiff, reduceIte, reduceCtorEq]
              · rintro ⟨c2, w2⟩ tm4 ⟨hk1, hk2, hE2⟩ hlen4 hlv4
                simp only [go_sem, hlen3, cdD, cdN, gdT, gdF, gdD, Nat.reduceLT, Nat.reduceEqDiff, Nat.reduceAdd, Nat.reduceLeDiff, reduceIte, reduceCtorEq] at hlen4 hlv4 hk1 hk2 hE2
                simp +contextual only [go_sem, cdD, cdN, gdT, gdF, gdD, Nat.reduceLT, Nat.reduceEqDiff, Nat.reduceAdd, Nat.reduceLeDiff, reduceIte, reduceCtorEq]
                refine ldrawB_cut 108 (fun b : Bool => [(0, .str x), (7, gsv 3 (nm s.nx 0) R.length), (9, .ptr (nm s.nx 1) 0), (10, .str c2), (17, v), (18, .int .i64 l.length), (19, .int .i64 i), (78, .bool b)])
                  (fun _ => loc s 22 [(0, gso 37 (edc R)), (1, some (.cells [.int .i64 a, .int .i64 e.cut, .str w2] (some 37)))]) (fun b => (b = true ∧ ∃ p d u, c2 = d ++ [p] ∧ w2 = u ++ [p]) ∨ (b = false ∧ sqB c2 w2 = (c2, w2))) ?_ ?_
                · refine ldrawB_go [] [] 20 (by decide) ?_
                  rcases snoc_cases c2 with rfl | ⟨d, p, rfl⟩
                  · simp +contextual only [go_sem, hlen4, hlv4, cdD, cdN, gdT, gdF, gdD, Nat.reduceLT, Nat.reduceEqDiff, Nat.reduceAdd, Nat.reduceLeDiff, reduceIte, reduceCtorEq]
                    refine ⟨by kernel_rfl, by simp only [go_sem, hlen4], false, .inr ⟨rfl, sqB_nil1⟩, rfl, ?_⟩
                    simp only [go_sem, hlen4, hlv4, cdD, cdN, gdT, gdF, gdD, Nat.reduceLT, Nat.reduceEqDiff, Nat.reduceAdd, Nat.reduceLeDiff, reduceIte, reduceCtorEq]
                  · rcases snoc_cases w2 with rfl | ⟨u, q, rfl⟩
                    · simp +contextual only [go_sem, hlen4, hlv4, snoc_ne, cdD, cdN, gdT, gdF, gdD, Nat.reduceLT, Nat.reduceEqDiff, Nat.reduceAdd, Nat.reduceLeDiff, reduceIte, reduceCtorEq]
                      refine ⟨by kernel_rfl, by simp only [go_sem, hlen4], false, .inr ⟨rfl, sqB_nil2⟩, rfl, ?_⟩
                      simp only [go_sem, hlen4, hlv4, cdD, cdN, gdT, gdF, gdD, Nat.reduceLT, Nat.reduceEqDiff, Nat.reduceAdd, Nat.reduceLeDiff, reduceIte, reduceCtorEq]
                    · have hd : IntKind.i64.wrap (((d ++ [p]).length : Int) - 1) = d.length := by rw [wrap_id (by simp only [List.length_append, List.length_singleton] at hk1 ⊢; omega)]; simp
                      have hu : IntKind.i64.wrap (((u ++ [q]).length : Int) - 1) = u.length := by rw [wrap_id (by simp only [List.length_append, List.length_singleton] at hk2 ⊢; omega)]; simp
                      simp only [go_sem, hlen4, hlv4, snoc_ne, hd, hu, ixsl rfl, Nat.reduceLT, Nat.reduceEqDiff, Nat.reduceAdd, Nat.reduceLeDiff, reduceIte, reduceCtorEq]
                      refine ⟨by kernel_rfl, by simp only [go_sem, hlen4], decide (p = q), ?_, rfl, ?_⟩
                      · by_cases h : p = q
                        · subst h; exact .inl ⟨by simp, p, d, u, rfl, rfl⟩
                        · exact .inr ⟨by simp [h], sqB_ne h⟩
                      · simp only [go_sem, hlen4, hlv4, u8ne, Nat.reduceLT, Nat.reduceEqDiff, Nat.reduceAdd, Nat.reduceLeDiff, reduceIte, reduceCtorEq]
                · rintro b tm5 hb hlen5 hlv5
                  simp only [go_sem, cdD, cdN, gdT, gdF, gdD, Nat.reduceLT, Nat.reduceEqDiff, Nat.reduceAdd, Nat.reduceLeDiff, reduceIte, reduceCtorEq] at hlv5
                  rcases hb with ⟨rfl, p, d, u, rfl, rfl⟩ | ⟨rfl, hst2⟩
                  · have hd : IntKind.i64.wrap (((d ++ [p]).length : Int) - 1) = d.length := by rw [wrap_id (by simp only [List.length_append, List.length_singleton] at hk1 ⊢; omega)]; simp
                    have hu : IntKind.i64.wrap (((u ++ [p]).length : Int) - 1) = u.length := by rw [wrap_id (by simp only [List.length_append, List.length_singleton] at hk2 ⊢; omega)]; simp
                    simp +contextual only [go_sem, hlen5, hlv5, cdD, cdN, gdT, gdF, gdD, Nat.reduceLT, Nat.reduceEqDiff, Nat.reduceAdd, Nat.reduceLeDiff, reduceIte, reduceCtorEq]
                    refine ldrawB_go [] [] 13 (by decide) ?_
                    simp +contextual only [go_sem, hlen5, hlv5, hd, hu, sll rfl, cdD, cdN, gdT, gdF, gdD, Nat.reduceLT, Nat.reduceEqDiff, Nat.reduceAdd, Nat.reduceLeDiff, reduceIte, reduceCtorEq]
                    refine ⟨by kernel_rfl, hlen3.symm, (d, u), ⟨by simp only [List.length_append, List.length_singleton] at hk1 ⊢; omega, by simp only [List.length_append, List.length_singleton] at hk2 ⊢; omega, by rw [← hE2, sqB_eq]⟩, by simp only [List.length_append, List.length_singleton]; omega, ?_⟩
                    refine To.go [0, 1] _ rfl (.refl s) (by decide) (by simp) ?_ ?_
                    · simp +contextual only [go_sem, hlen5, hlv5, pu_ren hv.pu, cdD, cdN, gdT, gdF, gdD, Nat.reduceLT, Nat.reduceEqDiff, Nat.reduceAdd, Nat.reduceLeDiff, reduceIte, reduceCtorEq]
                    · simp only [go_sem, map_gso_pu (edc_pul _), cdD, cdN, gdT, gdF, gdD, Nat.reduceLT, Nat.reduceEqDiff, Nat.reduceAdd, Nat.reduceLeDiff, reduceIte, reduceCtorEq]
                  · rw [hst2] at hE2
                    simp only [← hE2] at hsq
                    simp +contextual only [go_sem, hlen5, hlv5, cdD, cdN, gdT, gdF, gdD, Nat.reduceLT, Nat.reduceEqDiff, Nat.reduceAdd, Nat.reduceLeDiff, reduceIte, reduceCtorEq]
                    refine ⟨fun q => ?_, fun q => ⟨fun q2 => ?_, fun q2 => ?_⟩⟩
                    · simp only [ne_eq, q, not_true_eq_false, not_false_eq_true, true_or, or_true, if_true] at hsq
                      refine lmem_eq (app27 (acellsOf_rs (by simp only [go_sem, cdD, cdN, gdT, gdF, gdD, Nat.reduceLT, Nat.reduceEqDiff, Nat.reduceAdd, Nat.reduceLeDiff, reduceIte, reduceCtorEq]; rfl) (by rfl) rfl) (by decide) (by simp only [go_sem, cdD, cdN, gdT, gdF, gdD, Nat.reduceLT, Nat.reduceEqDiff, Nat.reduceAdd, Nat.reduceLeDiff, reduceIte, reduceCtorEq]) (by simp only [go_sem, cdD, cdN, gdT, gdF, gdD, Nat.reduceLT, Nat.reduceEqDiff, Nat.reduceAdd, Nat.reduceLeDiff, reduceIte, reduceCtorEq]) (edc_len R) (by omega) rfl) ?_
                      simp +contextual only [go_sem, hlen5, hlv5, hw3, cdD, cdN, gdT, gdF, gdD, Nat.reduceLT, Nat.reduceEqDiff, Nat.reduceAdd, Nat.reduceLeDiff, reduceIte, reduceCtorEq]
                      refine ⟨(i + 1, e.at_ + e.cut, R ++ [⟨a, c2.length, w2⟩]), ⟨by simp only; omega, by simp only [List.length_append, List.length_singleton]; omega, c6, ?_⟩, by simp only; omega, ?_⟩
                      · rw [← hL, sqz_cons, hsq, List.append_assoc]
                      · refine To.go [23] [(0, gso 37 (edc (R ++ [⟨a, c2.length, w2⟩])))] rfl (.refl s) (by decide) (by simp) ?_ ?_
                        · simp +contextual only [go_sem, hlen5, hlv5, pu_ren hv.pu, List.length_append, gsv_pos (Nat.succ_ne_zero R.length), cdD, cdN, gdT, gdF, gdD, Nat.reduceLT, Nat.reduceEqDiff, Nat.reduceAdd, Nat.reduceLeDiff, reduceIte, reduceCtorEq]
                        · simp only [go_sem, map_gso_pu (edc_pul _), cdD, cdN, gdT, gdF, gdD, Nat.reduceLT, Nat.reduceEqDiff, Nat.reduceAdd, Nat.reduceLeDiff, reduceIte, reduceCtorEq]
                          rw [edc_snoc]
                          exact (gso_pos (by simp)).symm
                    · subst q
                      simp only [ne_eq, q2, not_true_eq_false, not_false_eq_true, true_or, or_true, if_true] at hsq
                      refine lmem_eq (app27 (acellsOf_rs (by simp only [go_sem, cdD, cdN, gdT, gdF, gdD, Nat.reduceLT, Nat.reduceEqDiff, Nat.reduceAdd, Nat.reduceLeDiff, reduceIte, reduceCtorEq]; rfl) (by rfl) rfl) (by decide) (by simp only [go_sem, cdD, cdN, gdT, gdF, gdD, Nat.reduceLT, Nat.reduceEqDiff, Nat.reduceAdd, Nat.reduceLeDiff, reduceIte, reduceCtorEq]) (by simp only [go_sem, cdD, cdN, gdT, gdF, gdD, Nat.reduceLT, Nat.reduceEqDiff, Nat.reduceAdd, Nat.reduceLeDiff, reduceIte, reduceCtorEq]) (edc_len R) (by omega) rfl) ?_
                      simp +contextual only [go_sem, hlen5, hlv5, hw3, cdD, cdN, gdT, gdF, gdD, Nat.reduceLT, Nat.reduceEqDiff, Nat.reduceAdd, Nat.reduceLeDiff, reduceIte, reduceCtorEq]
                      refine ⟨(i + 1, e.at_ + e.cut, R ++ [⟨a, 0, w2⟩]), ⟨by simp only; omega, by simp only [List.length_append, List.length_singleton]; omega, c6, ?_⟩, by simp only; omega, ?_⟩
                      · rw [← hL, sqz_cons, hsq, List.append_assoc]; rfl
                      · refine To.go [23] [(0, gso 37 (edc (R ++ [⟨a, 0, w2⟩])))] rfl (.refl s) (by decide) (by simp) ?_ ?_
                        · simp +contextual only [go_sem, hlen5, hlv5, pu_ren hv.pu, List.length_append, gsv_pos (Nat.succ_ne_zero R.length), cdD, cdN, gdT, gdF, gdD, Nat.reduceLT, Nat.reduceEqDiff, Nat.reduceAdd, Nat.reduceLeDiff, reduceIte, reduceCtorEq]
                        · simp only [go_sem, map_gso_pu (edc_pul _), cdD, cdN, gdT, gdF, gdD, Nat.reduceLT, Nat.reduceEqDiff, Nat.reduceAdd, Nat.reduceLeDiff, reduceIte, reduceCtorEq]
                          rw [edc_snoc]
                          exact (gso_pos (by simp)).symm
                    · subst q
                      subst q2
                      simp only [ne_eq, not_true_eq_false, or_self, if_false] at hsq
                      rw [hw3]
                      refine ⟨(i + 1, e.at_ + e.cut, R), ⟨by simp only; omega, by simp only; omega, c6, ?_⟩, by simp only; omega, ?_⟩
                      · rw [← hL, sqz_cons, hsq, List.nil_append]
                      · refine To.go [0] [(0, gso 37 (edc R))] rfl (.refl s) (by decide) (by simp) ?_ ?_
                        · simp +contextual only [go_sem, hlen5, hlv5, pu_ren hv.pu, cdD, cdN, gdT, gdF, gdD, Nat.reduceLT, Nat.reduceEqDiff, Nat.reduceAdd, Nat.reduceLeDiff, reduceIte, reduceCtorEq]
                        · simp only [go_sem, map_gso_pu (edc_pul _), cdD, cdN, gdT, gdF, gdD, Nat.reduceLT, Nat.reduceEqDiff, Nat.reduceAdd, Nat.reduceLeDiff, reduceIte, reduceCtorEq]
      · have hi2 : i = l.length := by omega
        rw [hi2, List.drop_length, sqz, List.flatMap_nil, List.append_nil] at hL
        refine lexit_freezeG 0 3 (R.map Ed.enc) (by simp only [go_sem, cdD, cdN, gdT, gdF, gdD, Nat.reduceLT, Nat.reduceEqDiff, Nat.reduceAdd, Nat.reduceLeDiff, reduceIte, reduceCtorEq]; rfl) (enc_len R) (by decide) ?_
        simp only [go_sem, len_fz, hL, cdD, cdN, gdT, gdF, gdD, Nat.reduceLT, Nat.reduceEqDiff, Nat.reduceAdd, Nat.reduceLeDiff, reduceIte, reduceCtorEq]
        exact lexit_pure (.refl s) (by simp only [low, lowL, and_self, and_true]; exact low.mono (Nat.zero_le _) (edv_pu _)) ⟨rfl, rfl⟩
end Go.S1N
end
section
namespace Go.S1N
open Go Go.Am Go.Proofs Go.S1
set_option maxRecDepth 100000
attribute [local irreducible] lopsB lvb lstepB lfunG lcondB lguardB ldrawB ldrunB ldstepB ldguardB lmem lval ldmem ldval ldfun lexit ldloadB ldlenB lpostB athen ablock
end Go.S1N
end
section
namespace Go.S1N
open Go Go.Am Go.Proofs Go.S1
set_option maxRecDepth 100000
def dl : List Ed → Int
  | [] => 0
  | e :: r => (e.new.length - e.cut) + dl r
theorem long_dl : ∀ (l : List Ed) (m : Int), (∀ e ∈ l, e.new.length ≤ 100000 ∧ 0 ≤ e.cut ∧ e.cut ≤ 100000) → -1000000000000 ≤ m - 100000 * (l.length : Int) → m + 100000 * (l.length : Int) ≤ 1000000000000 → longOf m l = m + dl l
  | [], m, _, _, _ => by simp [longOf, dl]
  | e :: r, m, h, h1, h2 => by
    have he := h e (List.mem_cons_self ..)
    simp only [List.length_cons] at h1 h2
    have hw1 : IntKind.i64.wrap ((e.new.length : Int) - e.cut) = (e.new.length : Int) - e.cut := wrap_id (by omega)
    have hw2 : IntKind.i64.wrap (m + ((e.new.length : Int) - e.cut)) = m + ((e.new.length : Int) - e.cut) := wrap_id (by omega)
    have := long_dl r (m + ((e.new.length : Int) - e.cut)) (fun x hx => h x (List.mem_cons_of_mem _ hx)) (by omega) (by omega)
    rw [longOf, List.foldl_cons, hw1, hw2]
    rw [longOf] at this
    rw [this, dl]
    omega
theorem run_len (a k : Nat) : (runOf a k).length = k := by simp [runOf]
theorem flow_dl (n : Nat) : ∀ (l : List Ed) (a : Nat) (B : Int), (B = a ∨ (B = -1 ∧ a = 0)) → a ≤ n → scan n B l = 0 → ((flowFrom n a l).length : Int) = (n - a) + dl l
  | [], a, B, _, ha, _ => by simp only [flowFrom, run_len, dl]; omega
  | e :: r, a, B, hB, ha, h => by
    obtain ⟨c1, c2, c3, c4, c5, c6⟩ := scan_cons h
    have := flow_dl n r (e.at_ + e.cut).toNat (e.at_ + e.cut) (.inl (by omega)) (by omega) c6
    simp only [flowFrom, List.length_append, run_len, List.length_map, dl]
    omega
def negL (w : List UInt8) : List (Int × UInt8) := w.map fun c => ((-1 : Int), c)
theorem push_same {p : Int} : pushE p [] p = [] := if_neg (by rintro (h | h); omega; exact h rfl)
theorem ed_neg (N : Int) : ∀ (u : List UInt8) (q : Int) (w : List UInt8) (t : List (Int × UInt8)), edGo N q w (negL u ++ t) = edGo N q (w ++ u) t
  | [], q, w, t => by simp [negL]
  | c :: u, q, w, t => by
    have ih := ed_neg N u q (w ++ [c]) t
    simp only [negL, List.map_cons, List.cons_append] at ih ⊢
    rw [edGo, if_pos (by simp only; omega), ih, List.append_assoc]; rfl
theorem scan_ne {n B : Int} {e : Ed} {r : List Ed} (h : scan n B (e :: r) = 0) : ¬ (e.cut = 0 ∧ e.new = []) := by
  intro hh
  rw [scan] at h
  split at h
  · cases h
  · split at h
    · cases h
    · first | cases h | (rw [if_pos hh] at h; cases h)
theorem runOf_cons (a k : Nat) : runOf a (k + 1) = ((a : Int), 0) :: runOf (a + 1) k := rfl
theorem run_mem {a k : Nat} {q : Int × UInt8} (h : q ∈ runOf a k) : (a : Int) ≤ q.1 ∧ q.1 < a + k := by
  obtain ⟨i, hi, rfl⟩ := List.mem_map.1 h
  have := List.mem_range'_1.1 hi
  simp only; omega
end Go.S1N
end
section
namespace Go.S1N
open Go Go.Am Go.Proofs Go.S1
set_option maxRecDepth 100000
attribute [local irreducible] lopsB lvb lstepB lfunG lcondB lguardB ldrawB ldrunB ldstepB ldguardB lmem lval ldmem ldval ldfun lexit ldloadB ldlenB lpostB athen ablock
theorem ints_cells {v : AV} {l : List Int} (h : IsInts v l) : v.cells = [v] := by rcases h with ⟨f, rfl⟩ | ⟨rfl, rfl⟩ <;> rfl
theorem ints_israw {v : AV} {l : List Int} (h : IsInts v l) : v.israw = false := by rcases h with ⟨f, rfl⟩ | ⟨rfl, rfl⟩ <;> rfl
def applyVal (x : List UInt8) (l : List Ed) : List UInt8 × Int := if textFault x l ≠ 0 then ([], textFault x l) else (applyFrom x 0 l, 0)
theorem apply21_ok (x : List UInt8) (v : AV) (l : List Ed) (hv : SlE v l) (hl : l.length < 4611686018427387904) (hnew : ∀ e ∈ l, e.new.length ≤ 100000) (s : AHeap) :
    ACall Tryz.prog 11 [.str x, v] s fun r t => r = .tuple [.str (applyVal x l).1, .int .i64 (applyVal x l).2] ∧ t = s := by
  refine gob11 (by simp) ?_
  intro tm hlen harg
  simp +contextual only [go_sem, L11, hlen, harg, cdD, cdN, gdT, gdF, gdD, Nat.reduceLT, Nat.reduceEqDiff, Nat.reduceAdd, Nat.reduceLeDiff, reduceIte, reduceCtorEq]
  refine lfunG_eq (checkTextE x v l hv hl _) ?_
  simp +contextual only [go_sem, hlen, harg, cdD, cdN, gdT, gdF, gdD, Nat.reduceLT, Nat.reduceEqDiff, Nat.reduceAdd, Nat.reduceLeDiff, reduceIte, reduceCtorEq]
  refine ⟨fun c => ?_, fun c => ?_⟩
  · refine lexit_pure (.refl s) (by simp only [low, lowL, and_self]) ⟨?_, rfl⟩
    rw [applyVal, if_pos c]
  · obtain ⟨hx, hl2, hsc⟩ := textFault_zero c
    have hval : applyVal x l = (applyFrom x 0 l, 0) := by rw [applyVal, if_neg (by simpa using c)]
    rw [hval]
    refine lfunG_eq (exact_of (by simp only [Pu, low]) (apply_ok x v l hv hl2 hx (fun e he => by have := hnew e he; omega) hsc _)) ?_
    simp +contextual only [go_sem, hlen, harg, cdD, cdN, gdT, gdF, gdD, Nat.reduceLT, Nat.reduceEqDiff, Nat.reduceAdd, Nat.reduceLeDiff, reduceIte, reduceCtorEq]
    exact lexit_pure (.refl s) (by simp only [low, lowL, and_self]) ⟨rfl, rfl⟩
theorem faultOf_zero {n : Int} {l : List Ed} (h : faultOf n l = 0) : 0 ≤ n ∧ n ≤ 20000 ∧ l.length ≤ 2000 ∧ scan n (-1) l = 0 := by
  rw [faultOf] at h
  split at h
  · cases h
  · rename_i h1
    have h1 := Classical.not_not.1 h1
    split at h
    · cases h
    · split at h
      · rename_i h3; exact absurd h h3
      · rename_i h2 h3
        exact ⟨h1.1, h1.2, by omega, Classical.not_not.1 h3⟩
end Go.S1N
end
section
namespace Go.S1
open Go Go.Am Go.Proofs
set_option maxRecDepth 100000
noncomputable def L44 : LCode := .seq (.ops [⟨.assign (.const (.slice none 0 0)), some 4, none⟩]) (.seq (.ops [⟨.alloc 27, some 5, none⟩]) (.seq (.ops [⟨.alloc 3, some 6, none⟩, ⟨.alloc 9, some 7, none⟩, ⟨.store 3 (.tmp 6) (.const (.int .i64 0)), none, none⟩, ⟨.store 9 (.tmp 7) (.const (.string { data := { toList := [] } })), none, none⟩]) (.seq (.ops [⟨.makeFunc (Fn.func 75) { toList := [] } { toList := [.tmp 6, .tmp 7, .tmp 5] }, some 11, none⟩, ⟨.assign (.tmp 11), some 8, none⟩]) (.seq (.seq (.ops [⟨.move (.tmp 1), some 12, none⟩, ⟨.call { callee := .builtin .len, args := { toList := [.tmp 12] }, argTypes := { toList := [89] } }, some 13, none⟩, ⟨.move (.const (.int .i64 0)), some 14, none⟩]) (.block 0 (.loop (.seq (.ops [⟨.binOp .lss 3 (.tmp 14) (.tmp 13) 3, some 15, none⟩]) (.seq (.cond (.tmp 15) .skip (.exit 0)) (.seq (.block 1 (.seq (.ops [⟨.indexAddr 89 (.tmp 12) (.tmp 14), some 16, none⟩, ⟨.load 98 (.tmp 16), some 17, none⟩, ⟨.alloc 98, some 10, none⟩, ⟨.store 98 (.tmp 10) (.tmp 17), none, none⟩]) (.block 2 (.seq (.ops [⟨.fieldAddr 98 (.tmp 10) 2, some 19, none⟩, ⟨.load 9 (.tmp 19), some 20, none⟩, ⟨.binOp .neq 9 (.tmp 20) (.const (.string { data := { toList := [] } })) 9, some 21, none⟩, ⟨.assign (.tmp 21), some 18, none⟩]) (.cond (.tmp 18) (.ops [⟨.load 9 (.tmp 7), some 22, none⟩, ⟨.fieldAddr 98 (.tmp 10) 2, some 23, none⟩, ⟨.load 9 (.tmp 23), some 24, none⟩, ⟨.binOp .add 9 (.tmp 22) (.tmp 24) 9, some 25, none⟩, ⟨.store 9 (.tmp 7) (.tmp 25), none, none⟩]) (.seq (.ops [⟨.fieldAddr 98 (.tmp 10) 1, some 27, none⟩, ⟨.load 3 (.tmp 27), some 28, none⟩, ⟨.binOp .gtr 3 (.tmp 28) (.const (.int .i64 0)) 3, some 29, none⟩, ⟨.assign (.tmp 29), some 26, none⟩]) (.cond (.tmp 26) (.seq (.ops [⟨.move (.tmp 8), some 30, none⟩, ⟨.fieldAddr 98 (.tmp 10) 0, some 31, none⟩, ⟨.load 3 (.tmp 31), some 32, none⟩, ⟨.call { callee := .value (.tmp 30), args := { toList := [.tmp 32] }, argTypes := { toList := [3] } }, some 33, none⟩]) (.ops [⟨.fieldAddr 98 (.tmp 10) 0, some 34, none⟩, ⟨.load 3 (.tmp 34), some 35, none⟩, ⟨.fieldAddr 98 (.tmp 10) 1, some 36, none⟩, ⟨.load 3 (.tmp 36), some 37, none⟩, ⟨.binOp .add 3 (.tmp 35) (.tmp 37) 3, some 38, none⟩, ⟨.store 3 (.tmp 6) (.tmp 38), none, none⟩, ⟨.store 9 (.tmp 7) (.const (.string { data := { toList := [] } })), none, none⟩])) .skip))))))) (.ops [⟨.binOp .add 3 (.tmp 14) (.const (.int .i64 1)) 3, some 39, none⟩, ⟨.move (.tmp 39), some 14, none⟩]))))))) (.seq (.ops [⟨.move (.tmp 8), some 40, none⟩, ⟨.move (.tmp 0), some 41, none⟩, ⟨.call { callee := .value (.tmp 40), args := { toList := [.tmp 41] }, argTypes := { toList := [3] } }, some 42, none⟩]) (.seq (.ops [⟨.load 27 (.tmp 5), some 43, none⟩, ⟨.assign (.tmp 43), some 4, none⟩]) .ret))))))
theorem l44 : Tryz.f44.body.map lighten = some L44 := by kernel_rfl
theorem rs44 : Tryz.f44.results.toList = [ResultVar.tmp 4] := by kernel_rfl
theorem nt44 : Tryz.f44.ntmps = 44 := by kernel_rfl
theorem gob44 {args : List AV} {s : AHeap} {R : AV → AHeap → Prop} (hl : args.length ≤ 44) (h : ∀ tm, tm.length = 44 → (∀ i, aev tm (.tmp i) = args.getD i aundef) → lvb Tryz.prog tab s L44 (lpostB tab s [ResultVar.tmp 4] R) tm (loc s 0 [])) : ACall Tryz.prog 44 args s R := ACall.goB tab_ok mixed Tryz.func44 l44 nm44 rs44 nt44 hl h
noncomputable def L75 : LCode := .seq (.ops [⟨.move (.tmp 0), some 5, none⟩, ⟨.load 3 (.tmp 1), some 6, none⟩, ⟨.binOp .gtr 3 (.tmp 5) (.tmp 6) 3, some 7, none⟩, ⟨.move (.tmp 7), some 8, none⟩, ⟨.load 9 (.tmp 2), some 9, some (8, false)⟩, ⟨.binOp .neq 9 (.tmp 9) (.const (.string { data := { toList := [] } })) 9, some 10, some (8, false)⟩, ⟨.pick (.tmp 8) (.const (.bool true)) (.tmp 10), some 11, none⟩]) (.cond (.tmp 11) (.ops [⟨.load 27 (.tmp 3), some 12, none⟩, ⟨.load 3 (.tmp 1), some 13, none⟩, ⟨.move (.tmp 0), some 14, none⟩, ⟨.load 3 (.tmp 1), some 15, none⟩, ⟨.binOp .sub 3 (.tmp 14) (.tmp 15) 3, some 16, none⟩, ⟨.load 9 (.tmp 2), some 17, none⟩, ⟨.build 37 { toList := [(0, .tmp 13), (1, .tmp 16), (2, .tmp 17)] }, some 18, none⟩, ⟨.buildSlice 27 1 { toList := [(0, .tmp 18)] }, some 19, none⟩, ⟨.call { callee := .builtin .append, args := { toList := [.tmp 12, .tmp 19] }, argTypes := { toList := [27, 27] } }, some 20, none⟩, ⟨.store 27 (.tmp 3) (.tmp 20), none, none⟩]) .skip)
theorem l75 : Tryz.f75.body.map lighten = some L75 := by kernel_rfl
theorem rs75 : Tryz.f75.results.toList = [] := by kernel_rfl
theorem nt75 : Tryz.f75.ntmps = 21 := by kernel_rfl
theorem gob75 {args : List AV} {s : AHeap} {R : AV → AHeap → Prop} (hl : args.length ≤ 21) (h : ∀ tm, tm.length = 21 → (∀ i, aev tm (.tmp i) = args.getD i aundef) → lvb Tryz.prog tab s L75 (lpostB tab s [] R) tm (loc s 0 [])) : ACall Tryz.prog 75 args s R := ACall.goB tab_ok mixed Tryz.func75 l75 nm75 rs75 nt75 hl h
end Go.S1
end
section
namespace Go.S1N
open Go Go.Am Go.Proofs Go.S1
set_option maxRecDepth 100000
attribute [local irreducible] lopsB lvb lstepB lfunG lcondB lguardB ldrawB ldrunB ldstepB ldguardB lmem lval ldmem ldval ldfun lexit ldloadB ldlenB lpostB athen ablock
end Go.S1N
end
section
namespace Go.S1N
open Go Go.Am Go.Proofs Go.S1
set_option maxRecDepth 100000
def okF (n : Nat) : Nat → List (Int × UInt8) → Prop
  | _, [] => True
  | a, p :: F => (p.1 = -1 ∧ okF n a F) ∨ ∃ o : Nat, p = ((o : Int), 0) ∧ a ≤ o ∧ o < n ∧ okF n (o + 1) F
theorem scan_one {n B : Int} {e : Ed} {r : List Ed} (h1 : 0 ≤ e.at_ ∧ e.at_ ≤ n) (h2 : 0 ≤ e.cut ∧ e.cut ≤ n - e.at_) (h3 : ¬ (e.cut = 0 ∧ e.new = [])) (h4 : B < e.at_) : scan n B (e :: r) = scan n (e.at_ + e.cut) r := by
  rw [scan, if_neg (Classical.not_not.2 h1), if_neg (Classical.not_not.2 h2), if_neg h3, if_neg (by omega)]
theorem ed_scan (n : Nat) : ∀ (F : List (Int × UInt8)) (a : Nat) (w : List UInt8) (B : Int), B < a → a ≤ n → okF n a F → scan n B (edGo n a w F) = 0
  | [], a, w, B, hB, ha, _ => by
    rw [edGo, pushE]
    split
    · rename_i h
      rw [scan_one (by simp only; omega) (by simp only; omega) (by
        simp only; rintro ⟨q1, q2⟩
        rcases h with h | h
        · omega
        · exact h q2) (by simp only; omega)]
      rfl
    · rfl
  | p :: F, a, w, B, hB, ha, h => by
    rcases h with ⟨hp, h⟩ | ⟨o, rfl, h1, h2, h3⟩
    · rw [edGo, if_pos (by omega)]
      exact ed_scan n F a _ B hB ha h
    · rw [edGo, if_neg (by simp only; omega)]
      have ih := fun B hB => ed_scan n F (o + 1) [] B hB (by omega) h3
      rw [show (((o + 1 : Nat) : Int)) = (o : Int) + 1 by omega] at ih
      simp only
      rw [pushE]
      split
      · rename_i h
        rw [List.cons_append, List.nil_append, scan_one (by simp only; omega) (by simp only; omega) (by
          simp only; rintro ⟨q1, q2⟩
          rcases h with h | h
          · omega
          · exact h q2) (by simp only; omega)]
        exact ih _ (by simp only; omega)
      · rw [List.nil_append]
        exact ih _ (by omega)
theorem ed_head (n : Nat) : ∀ (F : List (Int × UInt8)) (a : Nat) (w : List UInt8), okF n a F → ∀ e r, edGo n a w F = e :: r → (a : Int) ≤ e.at_
  | [], a, w, _, e, r, he => by
    rw [edGo, pushE] at he
    split at he
    · cases he; exact Int.le_refl _
    · cases he
  | p :: F, a, w, h, e, r, he => by
    rcases h with ⟨hp, h⟩ | ⟨o, rfl, h1, h2, h3⟩
    · rw [edGo, if_pos (by omega)] at he
      exact ed_head n F a _ h e r he
    · rw [edGo, if_neg (by simp only; omega)] at he
      simp only at he
      rw [pushE] at he
      split at he
      · cases he; exact Int.le_refl _
      · rw [List.nil_append, show (o : Int) + 1 = ((o + 1 : Nat) : Int) by omega] at he
        have := ed_head n F (o + 1) [] h3 e r he
        omega
theorem flow_step (n o : Nat) (E : List Ed) (ho : o < n) (h : ∀ e r, E = e :: r → ((o + 1 : Nat) : Int) ≤ e.at_) : flowFrom n o E = ((o : Int), 0) :: flowFrom n (o + 1) E := by
  cases E with
  | nil =>
    rw [flowFrom, flowFrom, show n - o = (n - (o + 1)) + 1 by omega, runOf_cons]
  | cons e r =>
    have := h e r rfl
    rw [flowFrom, flowFrom, show e.at_.toNat - o = (e.at_.toNat - (o + 1)) + 1 by omega, runOf_cons]
    rfl
theorem ed_round (n : Nat) : ∀ (F : List (Int × UInt8)) (a : Nat) (w : List UInt8), a ≤ n → okF n a F → flowFrom n a (edGo n a w F) = negL w ++ F
  | [], a, w, ha, _ => by
    rw [edGo, pushE]
    split
    · simp only [flowFrom]
      rw [show ((a : Int) + ((n : Int) - (a : Int))).toNat = n by omega]
      simp [runOf, negL]
    · rename_i h
      have hw : w = [] := by
        apply Classical.byContradiction; intro q; exact h (.inr q)
      have hn : ¬ (a : Int) < n := fun q => h (.inl q)
      subst hw
      rw [flowFrom, show n - a = 0 by omega]; rfl
  | p :: F, a, w, ha, h => by
    rcases h with ⟨hp, h⟩ | ⟨o, rfl, h1, h2, h3⟩
    · rw [edGo, if_pos (by omega), ed_round n F a _ ha h]
      simp only [negL, List.map_append, List.map_cons, List.map_nil, List.append_assoc, List.cons_append, List.nil_append]
      rw [← hp]
    · rw [edGo, if_neg (by simp only; omega)]
      simp only
      have ih := ed_round n F (o + 1) [] (by omega) h3
      have hh := ed_head n F (o + 1) [] h3
      rw [show (((o + 1 : Nat) : Int)) = (o : Int) + 1 by omega] at ih
      have hs := flow_step n o (edGo n ((o : Int) + 1) [] F) h2 (by
        intro e r he
        rw [show (o : Int) + 1 = ((o + 1 : Nat) : Int) by omega] at he
        exact hh e r he)
      rw [pushE]
      split
      · rw [List.cons_append, List.nil_append, flowFrom]
        simp only
        rw [show ((a : Int) + ((o : Int) - (a : Int))).toNat = o by omega, hs, ih]
        simp [runOf, negL]
      · rename_i h
        have hw : w = [] := by
          apply Classical.byContradiction; intro q; exact h (.inr q)
        have hn : ¬ (a : Int) < o := fun q => h (.inl q)
        have hao : a = o := by omega
        subst hw
        rw [List.nil_append, hao, hs, ih]
        rfl
theorem okF_mono {n : Nat} : ∀ {F : List (Int × UInt8)} {a b : Nat}, b ≤ a → okF n a F → okF n b F
  | [], _, _, _, _ => trivial
  | p :: F, a, b, hb, h => by
    rcases h with ⟨hp, h⟩ | ⟨o, hp, h1, h2, h3⟩
    · exact .inl ⟨hp, okF_mono hb h⟩
    · exact .inr ⟨o, hp, by omega, h2, h3⟩
theorem ok_run {n : Nat} {F : List (Int × UInt8)} : ∀ (k a : Nat), a + k ≤ n → okF n (a + k) F → okF n a (runOf a k ++ F)
  | 0, a, _, h => h
  | k + 1, a, hk, h => by
    rw [runOf_cons, List.cons_append]
    exact .inr ⟨a, rfl, Nat.le_refl _, by omega, ok_run k (a + 1) (by omega) (by rwa [show a + 1 + k = a + (k + 1) by omega])⟩
theorem ok_neg {n a : Nat} {F : List (Int × UInt8)} (h : okF n a F) : ∀ w : List UInt8, okF n a (negL w ++ F)
  | [] => h
  | c :: w => .inl ⟨rfl, ok_neg h w⟩
theorem ok_flow (n : Nat) : ∀ (l : List Ed) (a : Nat) (B : Int), (B = a ∨ (B = -1 ∧ a = 0)) → a ≤ n → scan n B l = 0 → okF n a (flowFrom n a l)
  | [], a, B, _, ha, _ => by
    have := ok_run (n := n) (F := []) (n - a) a (by omega) trivial
    rwa [List.append_nil] at this
  | e :: r, a, B, hB, ha, hs => by
    obtain ⟨c1, c2, c3, c4, c5, c6⟩ := scan_cons hs
    have ih := ok_flow n r (e.at_ + e.cut).toNat (e.at_ + e.cut) (.inl (by omega)) (by omega) c6
    rw [flowFrom, List.append_assoc]
    refine ok_run _ _ (by omega) (ok_neg (okF_mono (by omega) ih) e.new)
end Go.S1N
end
section
namespace Go.S1N
open Go Go.Am Go.Proofs Go.S1
set_option maxRecDepth 100000
theorem push_new {a to : Int} {w : List UInt8} {e : Ed} (h : e ∈ pushE a w to) : e.new.length = w.length := by
  rw [pushE] at h
  split at h
  · rw [List.mem_singleton.1 h]
  · cases h
theorem ed_new (n : Int) : ∀ (F : List (Int × UInt8)) (a : Int) (w : List UInt8), ∀ e ∈ edGo n a w F, e.new.length ≤ w.length + F.length
  | [], a, w, e, h => by rw [edGo] at h; rw [push_new h]; exact Nat.le_add_right _ _
  | p :: F, a, w, e, h => by
    rw [edGo] at h
    split at h
    · have := ed_new n F a _ e h
      simp only [List.length_append, List.length_cons, List.length_nil] at this ⊢
      omega
    · rcases List.mem_append.1 h with h | h
      · rw [push_new h]; exact Nat.le_add_right _ _
      · have := ed_new n F _ _ e h
        simp only [List.length_nil, List.length_cons] at this ⊢
        omega
end Go.S1N
end
section
namespace Go.S1N
open Go Go.Am Go.Proofs Go.S1
set_option maxRecDepth 100000
end Go.S1N
end
section
namespace Go.S1N
open Go Go.Am Go.Proofs Go.S1
set_option maxRecDepth 100000
end Go.S1N
end
section
namespace Go.S1N
open Go Go.Am Go.Proofs Go.S1
set_option maxRecDepth 100000
attribute [local irreducible] lopsB lvb lstepB lfunG lcondB lguardB ldrawB ldrunB ldstepB ldguardB lmem lval ldmem ldval ldfun lexit ldloadB ldlenB lpostB athen ablock
structure IsEds (v : AV) (l : List (List Ed)) : Prop where
  len : alen tab 44 v = some (.int .i64 l.length)
  at_ : ∀ {j : Nat} {c : List Ed}, l[j]? = some c → aindexAddr tab 44 v (.int .i64 j) = some (.rptr [edv c])
  pu : Pu v
end Go.S1N
end
section
namespace Go.S1N
open Go Go.Am Go.Proofs Go.S1
set_option maxRecDepth 100000
def rfl1 (r : Rn) : List (Int × UInt8) := if r.text ≠ [] then negL r.text else (List.range r.long.toNat).map fun (i : Nat) => (r.at_ + (i : Int), (0 : UInt8))
def rflow (l : List Rn) : List (Int × UInt8) := l.flatMap rfl1
def rGo (n : Int) : Int → List UInt8 → List Rn → List Ed
  | a, w, [] => pushE a w n
  | a, w, r :: l => if r.text ≠ [] then rGo n a (w ++ r.text) l else if 0 < r.long then pushE a w r.at_ ++ rGo n (r.at_ + r.long) [] l else rGo n a w l
theorem ed_kept (N : Int) (t : List (Int × UInt8)) : ∀ (k : Nat) (o q : Int) (w : List UInt8), 0 ≤ o → edGo N q w ((List.range (k + 1)).map (fun (i : Nat) => (o + (i : Int), (0 : UInt8))) ++ t) = pushE q w o ++ edGo N (o + (k + 1 : Nat)) [] t
  | 0, o, q, w, h => by
    simp only [List.range_succ, List.range_zero, List.nil_append, List.map_cons, List.map_nil, List.cons_append, edGo]
    rw [if_neg (by omega)]
    simp
  | k + 1, o, q, w, h => by
    have ih := ed_kept N t k (o + 1) (o + 1) [] (by omega)
    rw [List.range_succ_eq_map, List.map_cons, List.map_map, List.cons_append, edGo, if_neg (by simp only; omega)]
    have e : (List.range (k + 1)).map ((fun (i : Nat) => (o + (i : Int), (0 : UInt8))) ∘ Nat.succ) = (List.range (k + 1)).map (fun (i : Nat) => (o + 1 + (i : Int), (0 : UInt8))) := by
      refine List.map_congr_left fun i _ => ?_
      simp only [Function.comp_apply, Nat.succ_eq_add_one, Prod.mk.injEq, and_true]
      omega
    rw [e]
    simp only [Int.natCast_zero, Int.add_zero] at ih ⊢
    rw [ih, push_same, List.nil_append]
    congr 2; omega
theorem rGo_flow (n : Int) : ∀ (l : List Rn) (a : Int) (w : List UInt8), (∀ r ∈ l, 0 ≤ r.at_) → rGo n a w l = edGo n a w (rflow l)
  | [], a, w, _ => rfl
  | r :: l, a, w, h => by
    have ih := fun a w => rGo_flow n l a w fun x hx => h x (List.mem_cons_of_mem _ hx)
    have hr := h r (List.mem_cons_self ..)
    have hf : rflow (r :: l) = rfl1 r ++ rflow l := List.flatMap_cons
    rw [rGo, hf, rfl1]
    split
    · rw [ed_neg, ih]
    · split
      · rename_i h0
        obtain ⟨k, hk⟩ : ∃ k, r.long.toNat = k + 1 := ⟨r.long.toNat - 1, by omega⟩
        rw [hk, ed_kept _ _ _ _ _ _ hr, ih]
        congr 2; omega
      · rename_i h0
        rw [show r.long.toNat = 0 by omega, ih]; rfl
theorem rfl1_kept {a k : Nat} : rfl1 ⟨a, k, []⟩ = runOf a k := by
  simp only [rfl1, ne_eq, not_true_eq_false, if_false, runOf, Int.toNat_natCast]
  rw [List.range'_eq_map_range, List.map_map]
  refine List.map_congr_left fun i _ => ?_
  simp
theorem rfl1_fresh {w : List UInt8} : rfl1 ⟨0, 0, w⟩ = negL w := by
  unfold rfl1
  split
  · rfl
  · rename_i h
    have : w = [] := Classical.not_not.1 h
    subst this; rfl
def rsize (r : Rn) : Nat := max r.long.toNat r.text.length
def okR (r : Rn) : Prop := 0 ≤ r.at_ ∧ 0 ≤ r.long ∧ (r.text = [] ∨ r.long = 0)
end Go.S1N
end
section
namespace Go.S1N
open Go Go.Am Go.Proofs Go.S1
set_option maxRecDepth 100000
end Go.S1N
end
section
namespace Go.S1N
open Go Go.Am Go.Proofs Go.S1
set_option maxRecDepth 100000
attribute [local irreducible] lopsB lvb lstepB lfunG lcondB lguardB ldrawB ldrunB ldstepB ldguardB lmem lval ldmem ldval ldfun lexit ldloadB ldlenB lpostB athen ablock
def Rn.emp (r : Rn) : Prop := r.long = 0 ∧ r.text = []
instance (r : Rn) : Decidable r.emp := inferInstanceAs (Decidable (_ ∧ _))
theorem rnc_cons (r : Rn) (l : List Rn) : rnc (r :: l) = .int .i64 r.at_ :: .int .i64 r.long :: .str r.text :: rnc l := rfl
structure LB (C : List AV) (off : Nat) (R : List Rn) : Prop where
  pu : PuL C
  rest : ∃ J, C.drop off = rnc R ++ J
theorem LB.head {C : List AV} {off : Nat} {r : Rn} {R : List Rn} (h : LB C off (r :: R)) : ∃ T, C.drop off = .int .i64 r.at_ :: .int .i64 r.long :: .str r.text :: T := by
  obtain ⟨J, hJ⟩ := h.rest
  exact ⟨rnc R ++ J, by rw [hJ, rnc_cons]; rfl⟩
theorem LB.tail {C : List AV} {off : Nat} {r : Rn} {R : List Rn} (h : LB C off (r :: R)) : LB C (off + 3) R := by
  obtain ⟨J, hJ⟩ := h.rest
  refine ⟨h.pu, J, ?_⟩
  rw [show off + 3 = off + 3 from rfl, ← List.drop_drop, hJ, rnc_cons]
  rfl
theorem pul_set {C : List AV} (h : PuL C) (i : Nat) {v : AV} (hv : low 0 v) : PuL (C.set i v) := by
  unfold PuL at *
  rw [lowL_iff] at *
  intro x hx
  rcases List.mem_or_eq_of_mem_set hx with q | rfl
  · exact h x q
  · exact hv
theorem drop_set_at {C : List AV} (off k : Nat) (v : AV) : (C.set (off + k) v).drop off = (C.drop off).set k v := by
  rw [List.drop_set, if_neg (by omega), Nat.add_sub_cancel_left]
theorem LB.text {C : List AV} {off : Nat} {r : Rn} {R : List Rn} (h : LB C off (r :: R)) (x : List UInt8) : LB (C.set (off + 2) (.str x)) off (⟨r.at_, r.long, x⟩ :: R) := by
  obtain ⟨J, hJ⟩ := h.rest
  refine ⟨pul_set h.pu _ (by simp only [low]), J, ?_⟩
  rw [drop_set_at, hJ, rnc_cons, rnc_cons]
  rfl
theorem LB.set {C : List AV} {off : Nat} {r : Rn} {R : List Rn} (h : LB C off (r :: R)) (a b : Int) (x : List UInt8) : LB (((C.set off (.int .i64 a)).set (off + 1) (.int .i64 b)).set (off + 1 + 1) (.str x)) off (⟨a, b, x⟩ :: R) := by
  obtain ⟨J, hJ⟩ := h.rest
  refine ⟨pul_set (pul_set (pul_set h.pu _ (by simp only [low])) _ (by simp only [low])) _ (by simp only [low]), J, ?_⟩
  rw [show off + 1 + 1 = off + 2 from rfl, drop_set_at, drop_set_at, show C.set off (.int .i64 a) = C.set (off + 0) (.int .i64 a) from rfl, drop_set_at, hJ, rnc_cons, rnc_cons]
  rfl
end Go.S1N
end
section
namespace Go.S1N
open Go Go.Am Go.Proofs Go.S1
set_option maxRecDepth 100000
attribute [local irreducible] lopsB lvb lstepB lfunG lcondB lguardB ldrawB ldrunB ldstepB ldguardB lmem lval ldmem ldval ldfun lexit ldloadB ldlenB lpostB athen ablock
end Go.S1N
end
section
namespace Go.S1N
open Go Go.Am Go.Proofs Go.S1
set_option maxRecDepth 100000
attribute [local irreducible] lopsB lvb lstepB lfunG lcondB lguardB ldrawB ldrunB ldstepB ldguardB lmem lval ldmem ldval ldfun lexit ldloadB ldlenB lpostB athen ablock
structure RB (r : Rn) : Prop where
  ok : okR r
  pos : 0 < rsize r
  lo : 0 ≤ r.at_
  hi : r.at_ + r.long ≤ 1000000000
end Go.S1N
end
section
namespace Go.S1N
open Go Go.Am Go.Proofs Go.S1
set_option maxRecDepth 100000
attribute [local irreducible] lopsB lvb lstepB lfunG lcondB lguardB ldrawB ldrunB ldstepB ldguardB lmem lval ldmem ldval ldfun lexit ldloadB ldlenB lpostB athen ablock
end Go.S1N
end
section
namespace Go.S1N
open Go Go.Am Go.Proofs Go.S1
set_option maxRecDepth 100000
attribute [local irreducible] lopsB lvb lstepB lfunG lcondB lguardB ldrawB ldrunB ldstepB ldguardB lmem lval ldmem ldval ldfun lexit ldloadB ldlenB lpostB athen ablock
theorem pushR {s : AHeap} {o4 : Option AObj} {a to : Int} {w : List UInt8} {L : List Ed} (ha : -1 ≤ a) (ha2 : a ≤ 1000000000000) (ht : -1 ≤ to) (ht2 : to ≤ 1000000000000) (hL : L.length ≤ 1000000000) :
    ACall Tryz.prog 75 [.int .i64 to, .ptr (nm s.nx 1) 0, .ptr (nm s.nx 2) 0, .ptr (nm s.nx 0) 0]
      (loc s 5 [(0, some (.cells [gsv 3 (nm s.nx 3) L.length] (some 27))), (1, some (.cells [.int .i64 a] (some 3))), (2, some (.cells [.str w] (some 9))), (3, gso 37 (edc L)), (4, o4)])
      fun v t => v = .tuple [] ∧ ((pushE a w to = [] ∧ t = loc s 5 [(0, some (.cells [gsv 3 (nm s.nx 3) L.length] (some 27))), (1, some (.cells [.int .i64 a] (some 3))), (2, some (.cells [.str w] (some 9))), (3, gso 37 (edc L)), (4, o4)]) ∨
        ∃ e, pushE a w to = [e] ∧ t = loc s 7 [(0, some (.cells [gsv 3 (nm s.nx 6) (L ++ [e]).length] (some 27))), (1, some (.cells [.int .i64 a] (some 3))), (2, some (.cells [.str w] (some 9))), (4, o4), (5, some (.cells [.int .i64 a, .int .i64 (to - a), .str w] (some 37))), (6, gso 37 (edc (L ++ [e])))]) := by
  refine gob75 (by simp) ?_
  intro tm hlen harg
  rw [loc_flat (by intro j hj; simp only [lget]; rw [if_neg (by omega), if_neg (by omega), if_neg (by omega), if_neg (by omega), if_neg (by omega)])]
  have hw : IntKind.i64.wrap (to - a) = to - a := wrap_id (by omega)
  have fin : ∀ e : Ed, e = ⟨a, to - a, w⟩ → pushE a w to = [e] →
      pushE a w to = [e] ∧ loc s 7 [(0, some (AObj.cells [AV.rs 3 (nm s.nx 6) 0 (L.length + 1)] (some 27))), (1, some (AObj.cells [AV.int IntKind.i64 a] (some 3))), (2, some (AObj.cells [AV.str w] (some 9))), (4, o4), (5, some (.cells [.int .i64 a, .int .i64 (to - a), .str w] (some 37))), (6, some (.cells (edc L ++ [.int .i64 a, .int .i64 (to - a), .str w]) (some 37)))] =
        loc s 7 [(0, some (.cells [gsv 3 (nm s.nx 6) (L ++ [e]).length] (some 27))), (1, some (.cells [.int .i64 a] (some 3))), (2, some (.cells [.str w] (some 9))), (4, o4), (5, some (.cells [.int .i64 a, .int .i64 (to - a), .str w] (some 37))), (6, gso 37 (edc (L ++ [e])))] := by
    rintro e rfl h
    refine ⟨h, ?_⟩
    rw [gso_ed, List.length_append, List.length_singleton, gsv_pos (Nat.succ_ne_zero _), edc_snoc]
  by_cases c : a < to
  · simp +contextual only [go_sem, L75, hlen, harg, hw, build35_3, c, cdD, cdN, gdT, gdF, gdD, Nat.reduceLT, Nat.reduceEqDiff, Nat.reduceAdd, Nat.reduceLeDiff, reduceIte, reduceCtorEq]
    refine lmem_eq (app27 (acellsOf_rs (by simp only [go_sem, cdD, cdN, gdT, gdF, gdD, Nat.reduceLT, Nat.reduceEqDiff, Nat.reduceAdd, Nat.reduceLeDiff, reduceIte, reduceCtorEq]; rfl) (by rfl) rfl) (by decide) (by simp only [go_sem, cdD, cdN, gdT, gdF, gdD, Nat.reduceLT, Nat.reduceEqDiff, Nat.reduceAdd, Nat.reduceLeDiff, reduceIte, reduceCtorEq]) (by simp only [go_sem, cdD, cdN, gdT, gdF, gdD, Nat.reduceLT, Nat.reduceEqDiff, Nat.reduceAdd, Nat.reduceLeDiff, reduceIte, reduceCtorEq]) (edc_len L) (by omega) rfl) ?_
    simp +contextual only [go_sem, hlen, harg, hw, cdD, cdN, gdT, gdF, gdD, Nat.reduceLT, Nat.reduceEqDiff, Nat.reduceAdd, Nat.reduceLeDiff, reduceIte, reduceCtorEq]
    exact lexit_now ⟨rfl, .inr ⟨_, fin _ rfl (if_pos (.inl c))⟩⟩
  · by_cases c2 : w = []
    · subst c2
      simp +contextual only [go_sem, L75, hlen, harg, hw, c, cdD, cdN, gdT, gdF, gdD, Nat.reduceLT, Nat.reduceEqDiff, Nat.reduceAdd, Nat.reduceLeDiff, reduceIte, reduceCtorEq]
      exact lexit_now ⟨rfl, .inl ⟨if_neg (by rintro (h | h); exact c h; exact h rfl), rfl⟩⟩
    · simp +contextual only [go_sem, L75, hlen, harg, hw, build35_3, c, c2, cdD, cdN, gdT, gdF, gdD, Nat.reduceLT, Nat.reduceEqDiff, Nat.reduceAdd, Nat.reduceLeDiff, reduceIte, reduceCtorEq]
      refine lmem_eq (app27 (acellsOf_rs (by simp only [go_sem, cdD, cdN, gdT, gdF, gdD, Nat.reduceLT, Nat.reduceEqDiff, Nat.reduceAdd, Nat.reduceLeDiff, reduceIte, reduceCtorEq]; rfl) (by rfl) rfl) (by decide) (by simp only [go_sem, cdD, cdN, gdT, gdF, gdD, Nat.reduceLT, Nat.reduceEqDiff, Nat.reduceAdd, Nat.reduceLeDiff, reduceIte, reduceCtorEq]) (by simp only [go_sem, cdD, cdN, gdT, gdF, gdD, Nat.reduceLT, Nat.reduceEqDiff, Nat.reduceAdd, Nat.reduceLeDiff, reduceIte, reduceCtorEq]) (edc_len L) (by omega) rfl) ?_
      simp +contextual only [go_sem, hlen, harg, hw, cdD, cdN, gdT, gdF, gdD, Nat.reduceLT, Nat.reduceEqDiff, Nat.reduceAdd, Nat.reduceLeDiff, reduceIte, reduceCtorEq]
      exact lexit_now ⟨rfl, .inr ⟨_, fin _ rfl (if_pos (.inr c2))⟩⟩
theorem rnv_len (F : List Rn) : alen tab 89 (rnv F) = some (.int .i64 F.length) := by rw [rnv, len89f, List.length_map]
theorem editsR_ok (n : Int) (F : List Rn) (hn : 0 ≤ n ∧ n ≤ 1000000000000) (hF : ∀ r ∈ F, 0 ≤ r.at_ ∧ r.at_ ≤ 1000000000 ∧ r.at_ + r.long ≤ 1000000000 ∧ 0 ≤ r.long ∧ r.text.length ≤ 1000000) (hFl : F.length ≤ 1000000000) (s : AHeap) :
    ACall Tryz.prog 44 [.int .i64 n, rnv F] s fun r t => r = edv (rGo n 0 [] F) ∧ t = s := by
  refine gob44 (by simp) ?_
  intro tm hlen harg
  have hpu : Pu (rnv F) := rnv_pu F
  simp +contextual only [go_sem, L44, hlen, harg, rnv_len, cdD, cdN, gdT, gdF, gdD, Nat.reduceLT, Nat.reduceEqDiff, Nat.reduceAdd, Nat.reduceLeDiff, reduceIte, reduceCtorEq]
  refine ⟨Nat × Int × List UInt8 × List Ed, fun a => [(0, .int .i64 n), (5, .ptr (nm s.nx 0) 0), (6, .ptr (nm s.nx 1) 0), (7, .ptr (nm s.nx 2) 0), (8, .func (.func 75) [] [.ptr (nm s.nx 1) 0, .ptr (nm s.nx 2) 0, .ptr (nm s.nx 0) 0]), (12, rnv F), (13, .int .i64 F.length), (14, .int .i64 a.1)],
    fun a => loc s 4 [(0, some (.cells [gsv 3 (nm s.nx 3) a.2.2.2.length] (some 27))), (1, some (.cells [.int .i64 a.2.1] (some 3))), (2, some (.cells [.str a.2.2.1] (some 9))), (3, gso 37 (edc a.2.2.2))],
    fun a => a.1 ≤ F.length ∧ a.2.2.2.length ≤ a.1 ∧ a.2.2.1.length ≤ a.1 * 1000000 ∧ 0 ≤ a.2.1 ∧ a.2.1 ≤ 1000000000 ∧ a.2.2.2 ++ rGo n a.2.1 a.2.2.1 (F.drop a.1) = rGo n 0 [] F, fun a => F.length - a.1, (0, 0, [], []), ⟨by simp, by simp, by simp, by simp, by simp, by simp⟩, ?_, ?_⟩
  · refine To.go [0, 1, 2, 9] [(0, some (.cells [.nils] (some 27))), (1, some (.cells [.int .i64 0] (some 3))), (2, some (.cells [.str []] (some 9))), (3, none)] (by simp only [edc, List.map_nil, List.flatMap_nil, gso_nil, List.length_nil, gsv_zero]; rfl) (.refl s) (by decide) (by simp) ?_ ?_
    · simp +contextual only [go_sem, hlen, harg, pu_ren hpu, gsv_zero, cdD, cdN, gdT, gdF, gdD, Nat.reduceLT, Nat.reduceEqDiff, Nat.reduceAdd, Nat.reduceLeDiff, reduceIte, reduceCtorEq]
      rfl
    · simp only [go_sem, pu_ren hpu, cdD, cdN, gdT, gdF, gdD, Nat.reduceLT, Nat.reduceEqDiff, Nat.reduceAdd, Nat.reduceLeDiff, reduceIte, reduceCtorEq]
  · rintro ⟨j, a, w, L⟩ tm1 ⟨hj, hL, hw, ha0, ha1, hE⟩ hlen1 hlv
    simp only [go_sem, hlen, cdD, cdN, gdT, gdF, gdD, Nat.reduceLT, Nat.reduceEqDiff, Nat.reduceAdd, Nat.reduceLeDiff, reduceIte, reduceCtorEq] at hlen1 hlv hj hL hw ha0 ha1 hE
    simp +contextual only [go_sem, hlen, hlen1, hlv, cdD, cdN, gdT, gdF, gdD, Nat.reduceLT, Nat.reduceEqDiff, Nat.reduceAdd, Nat.reduceLeDiff, reduceIte, reduceCtorEq]
    refine ⟨fun hlt => ?_, fun hge => ?_⟩
    · have hj2 : j < F.length := by omega
      have he := List.getElem?_eq_getElem hj2
      have hmem : F[j] ∈ F := List.getElem_mem hj2
      have hdrop := List.drop_eq_getElem_cons hj2
      generalize F[j] = r at he hmem hdrop
      obtain ⟨b1, b2, b3, b4, b5⟩ := hF r hmem
      rw [hdrop, rGo] at hE
      have hw3 : IntKind.i64.wrap ((j : Int) + 1) = ((j + 1 : Nat) : Int) := by rw [wrap_id (by omega)]; rfl
      have hw4 : IntKind.i64.wrap (r.at_ + r.long) = r.at_ + r.long := wrap_id (by omega)
      have hadd := abin_sadd (T := tab) (t := 9) (x := w) (y := r.text) (by omega)
      simp +contextual only [go_sem, hlen1, hlv, rn_at F he, hadd, hw3, hw4, cdD, cdN, gdT, gdF, gdD, Nat.reduceLT, Nat.reduceEqDiff, Nat.reduceAdd, Nat.reduceLeDiff, reduceIte, reduceCtorEq]
      refine ⟨fun ht => ?_, fun ht => ⟨fun hl => ?_, fun hl => ?_⟩⟩
      · rw [if_pos ht] at hE
        refine ⟨(j + 1, a, w ++ r.text, L), ⟨by simp only; omega, by simp only; omega, by simp only [List.length_append]; omega, ha0, ha1, hE⟩, by simp only; omega, ?_⟩
        refine To.go [0, 1, 2, 3] _ rfl (.refl s) (by decide) (by simp) ?_ ?_
        · simp +contextual only [go_sem, hlen1, hlv, pu_ren hpu, cdD, cdN, gdT, gdF, gdD, Nat.reduceLT, Nat.reduceEqDiff, Nat.reduceAdd, Nat.reduceLeDiff, reduceIte, reduceCtorEq]
        · simp only [go_sem, map_gso_pu (edc_pul _), ren_gsv, cdD, cdN, gdT, gdF, gdD, Nat.reduceLT, Nat.reduceEqDiff, Nat.reduceAdd, Nat.reduceLeDiff, reduceIte, reduceCtorEq]
      · rw [if_neg (by simpa using ht), if_pos hl] at hE
        refine lfunG_eqc' rfl (pushR (by omega) (by omega) (by omega) (by omega) (by omega)) ?_
        rintro _ t ⟨rfl, h | ⟨e, h⟩⟩
        · obtain ⟨hpe, rfl⟩ := h
          simp +contextual only [go_sem, hlen1, hlv, hw3, hw4, cdD, cdN, gdT, gdF, gdD, Nat.reduceLT, Nat.reduceEqDiff, Nat.reduceAdd, Nat.reduceLeDiff, reduceIte, reduceCtorEq]
          refine ⟨(j + 1, r.at_ + r.long, [], L), ⟨by simp only; omega, by simp only; omega, Nat.zero_le _, by simp only; omega, by simp only; omega, ?_⟩, by simp only; omega, ?_⟩
          · rw [← hE, hpe, List.nil_append]
          · refine To.go [0, 1, 2, 3] _ rfl (.refl s) (by decide) (by simp) ?_ ?_
            · simp +contextual only [go_sem, hlen1, hlv, pu_ren hpu, cdD, cdN, gdT, gdF, gdD, Nat.reduceLT, Nat.reduceEqDiff, Nat.reduceAdd, Nat.reduceLeDiff, reduceIte, reduceCtorEq]
            · simp only [go_sem, map_gso_pu (edc_pul _), ren_gsv, cdD, cdN, gdT, gdF, gdD, Nat.reduceLT, Nat.reduceEqDiff, Nat.reduceAdd, Nat.reduceLeDiff, reduceIte, reduceCtorEq]
        · obtain ⟨hpe, rfl⟩ := h
          simp +contextual only [go_sem, hlen1, hlv, hw3, hw4, cdD, cdN, gdT, gdF, gdD, Nat.reduceLT, Nat.reduceEqDiff, Nat.reduceAdd, Nat.reduceLeDiff, reduceIte, reduceCtorEq]
          refine ⟨(j + 1, r.at_ + r.long, [], L ++ [e]), ⟨by simp only; omega, by simp only [List.length_append, List.length_singleton]; omega, Nat.zero_le _, by simp only; omega, by simp only; omega, ?_⟩, by simp only; omega, ?_⟩
          · rw [← hE, hpe, List.append_assoc]
          · refine To.go [0, 1, 2, 6] _ rfl (.refl s) (by decide) (by simp) ?_ ?_
            · simp +contextual only [go_sem, hlen1, hlv, pu_ren hpu, cdD, cdN, gdT, gdF, gdD, Nat.reduceLT, Nat.reduceEqDiff, Nat.reduceAdd, Nat.reduceLeDiff, reduceIte, reduceCtorEq]
            · simp only [go_sem, map_gso_pu (edc_pul _), ren_gsv, cdD, cdN, gdT, gdF, gdD, Nat.reduceLT, Nat.reduceEqDiff, Nat.reduceAdd, Nat.reduceLeDiff, reduceIte, reduceCtorEq]
      · rw [if_neg (by simpa using ht), if_neg hl] at hE
        have hw1 : w.length ≤ (j + 1) * 1000000 := by
          rw [Nat.succ_mul]; exact Nat.le_trans hw (Nat.le_add_right _ _)
        refine ⟨(j + 1, a, w, L), ⟨by simp only; omega, by simp only; omega, hw1, ha0, ha1, hE⟩, by simp only; omega, ?_⟩
        refine To.go [0, 1, 2, 3] _ rfl (.refl s) (by decide) (by simp) ?_ ?_
        · simp +contextual only [go_sem, hlen1, hlv, pu_ren hpu, cdD, cdN, gdT, gdF, gdD, Nat.reduceLT, Nat.reduceEqDiff, Nat.reduceAdd, Nat.reduceLeDiff, reduceIte, reduceCtorEq]
        · simp only [go_sem, map_gso_pu (edc_pul _), ren_gsv, cdD, cdN, gdT, gdF, gdD, Nat.reduceLT, Nat.reduceEqDiff, Nat.reduceAdd, Nat.reduceLeDiff, reduceIte, reduceCtorEq]
    · have hj2 : j = F.length := by omega
      rw [hj2, List.drop_length, rGo] at hE
      refine lfunG_to (lv := [(5, .ptr (nm s.nx 0) 0), (40, .func (.func 75) [] [.ptr (nm s.nx 1) 0, .ptr (nm s.nx 2) 0, .ptr (nm s.nx 0) 0]), (41, .int .i64 n)])
        (h := loc s 5 [(0, some (.cells [gsv 3 (nm s.nx 3) L.length] (some 27))), (1, some (.cells [.int .i64 a] (some 3))), (2, some (.cells [.str w] (some 9))), (3, gso 37 (edc L)), (4, none)]) (To.go [0, 1, 2, 3, 9] _ rfl (.refl s) (by decide) (by simp) ?_ ?_) ?_
      · simp +contextual only [go_sem, hlen1, hlv, cdD, cdN, gdT, gdF, gdD, Nat.reduceLT, Nat.reduceEqDiff, Nat.reduceAdd, Nat.reduceLeDiff, reduceIte, reduceCtorEq]
      · simp only [go_sem, map_gso_pu (edc_pul _), ren_gsv, cdD, cdN, gdT, gdF, gdD, Nat.reduceLT, Nat.reduceEqDiff, Nat.reduceAdd, Nat.reduceLeDiff, reduceIte, reduceCtorEq]
      · intro tm2 hlen2 hlv2
        simp only [go_sem, hlen1, cdD, cdN, gdT, gdF, gdD, Nat.reduceLT, Nat.reduceEqDiff, Nat.reduceAdd, Nat.reduceLeDiff, reduceIte, reduceCtorEq] at hlen2 hlv2
        simp +contextual only [go_sem, hlen2, hlv2, cdD, cdN, gdT, gdF, gdD, Nat.reduceLT, Nat.reduceEqDiff, Nat.reduceAdd, Nat.reduceLeDiff, reduceIte, reduceCtorEq]
        refine lfunG_eqc' rfl (pushR (by omega) (by omega) (by omega) (by omega) (by omega)) ?_
        rintro _ t ⟨rfl, h | ⟨e, h⟩⟩
        · obtain ⟨hpe, rfl⟩ := h
          rw [hpe, List.append_nil] at hE
          simp +contextual only [go_sem, hlen2, hlv2, cdD, cdN, gdT, gdF, gdD, Nat.reduceLT, Nat.reduceEqDiff, Nat.reduceAdd, Nat.reduceLeDiff, reduceIte, reduceCtorEq]
          refine lexit_freezeG 3 3 (L.map Ed.enc) (by simp only [go_sem, cdD, cdN, gdT, gdF, gdD, Nat.reduceLT, Nat.reduceEqDiff, Nat.reduceAdd, Nat.reduceLeDiff, reduceIte, reduceCtorEq]; rfl) (enc_len L) (by decide) ?_
          simp only [go_sem, len_fz, hE, cdD, cdN, gdT, gdF, gdD, Nat.reduceLT, Nat.reduceEqDiff, Nat.reduceAdd, Nat.reduceLeDiff, reduceIte, reduceCtorEq]
          exact lexit_pure (.refl s) (low.mono (Nat.zero_le _) (edv_pu _)) ⟨rfl, rfl⟩
        · obtain ⟨hpe, rfl⟩ := h
          rw [hpe] at hE
          simp +contextual only [go_sem, hlen2, hlv2, cdD, cdN, gdT, gdF, gdD, Nat.reduceLT, Nat.reduceEqDiff, Nat.reduceAdd, Nat.reduceLeDiff, reduceIte, reduceCtorEq]
          refine lexit_freezeG 6 3 ((L ++ [e]).map Ed.enc) (by simp only [go_sem, cdD, cdN, gdT, gdF, gdD, Nat.reduceLT, Nat.reduceEqDiff, Nat.reduceAdd, Nat.reduceLeDiff, reduceIte, reduceCtorEq]; rfl) (enc_len _) (by decide) ?_
          simp only [go_sem, len_fz, hE, cdD, cdN, gdT, gdF, gdD, Nat.reduceLT, Nat.reduceEqDiff, Nat.reduceAdd, Nat.reduceLeDiff, reduceIte, reduceCtorEq]
          exact lexit_pure (.refl s) (low.mono (Nat.zero_le _) (edv_pu _)) ⟨rfl, rfl⟩
end Go.S1N
end
section
namespace Go.S1N
open Go Go.Am Go.Proofs Go.S1
set_option maxRecDepth 100000
attribute [local irreducible] lopsB lvb lstepB lfunG lcondB lguardB ldrawB ldrunB ldstepB ldguardB lmem lval ldmem ldval ldfun lexit ldloadB ldlenB lpostB athen ablock
end Go.S1N
end
section
namespace Go.S1N
open Go Go.Am Go.Proofs Go.S1
set_option maxRecDepth 100000
theorem rflow_cons (r : Rn) (l : List Rn) : rflow (r :: l) = rfl1 r ++ rflow l := List.flatMap_cons
end Go.S1N
end
section
namespace Go.S1N
open Go Go.Am Go.Proofs Go.S1
set_option maxRecDepth 100000
theorem push_len (a : Int) (w : List UInt8) (to : Int) : (pushE a w to).length ≤ 1 := by unfold pushE; split <;> simp
theorem ed_len (n : Int) : ∀ (F : List (Int × UInt8)) (a : Int) (w : List UInt8), (edGo n a w F).length ≤ F.length + 1
  | [], a, w => by rw [edGo]; have := push_len a w n; simpa using this
  | p :: F, a, w => by
    rw [edGo, List.length_cons]
    split
    · have := ed_len n F a (w ++ [p.2]); omega
    · rw [List.length_append]
      have := ed_len n F (p.1 + 1) []
      have := push_len a w p.1
      omega
theorem long_flow7 {n : Nat} {l : List Ed} (hn : n ≤ 20000) (hl : l.length ≤ 2000) (hnew : ∀ e ∈ l, e.new.length ≤ 100000) (hs : scan n (-1) l = 0) : longOf n l = (flowFrom n 0 l).length := by
  have q1 := flow_dl n l 0 (-1) (.inr ⟨rfl, rfl⟩) (by omega) hs
  have q2 := long_dl l n (fun e he => ⟨hnew e he, by have := scan_range l _ hs e he; omega⟩) (by omega) (by omega)
  omega
theorem fault_mk {n : Nat} {l : List Ed} (hn : n ≤ 20000) (hl : l.length ≤ 2000) (hnew : ∀ e ∈ l, e.new.length ≤ 100000) (hs : scan n (-1) l = 0) (hf : (flowFrom n 0 l).length ≤ 20000) : faultOf n l = 0 := by
  have := long_flow7 hn hl hnew hs
  rw [faultOf, if_neg (by omega), if_neg (by omega), if_neg (by rw [hs]; decide), if_neg (by omega)]
end Go.S1N
end
section
namespace Go.S1
open Go Go.Am Go.Proofs
set_option maxRecDepth 100000
noncomputable def L97 : LCode := .seq (.ops [⟨.assign (.const (.int .i64 0)), some 6, none⟩, ⟨.assign (.const (.bool false)), some 7, none⟩]) (.seq (.ops [⟨.move (.tmp 0), some 12, none⟩, ⟨.call { callee := .builtin .len, args := { toList := [.tmp 12] }, argTypes := { toList := [27] } }, some 13, none⟩, ⟨.assign (.tmp 13), some 8, none⟩]) (.seq (.ops [⟨.move (.tmp 8), some 14, none⟩, ⟨.assign (.const (.int .i64 0)), some 9, none⟩, ⟨.assign (.tmp 14), some 10, none⟩]) (.seq (.block 0 (.loop (.seq (.seq (.ops [⟨.move (.tmp 9), some 15, none⟩, ⟨.move (.tmp 10), some 16, none⟩, ⟨.binOp .lss 3 (.tmp 15) (.tmp 16) 3, some 17, none⟩]) (.cond (.tmp 17) .skip (.exit 0))) (.block 1 (.seq (.ops [⟨.move (.tmp 9), some 18, none⟩, ⟨.move (.tmp 10), some 19, none⟩, ⟨.binOp .add 3 (.tmp 18) (.tmp 19) 3, some 20, none⟩, ⟨.convert 3 216 (.tmp 20), some 21, none⟩, ⟨.binOp .shr 216 (.tmp 21) (.const (.int .u64 1)) 216, some 22, none⟩, ⟨.convert 216 3 (.tmp 22), some 23, none⟩, ⟨.assign (.tmp 23), some 11, none⟩]) (.seq (.ops [⟨.move (.tmp 2), some 24, none⟩, ⟨.move (.tmp 0), some 25, none⟩, ⟨.move (.tmp 11), some 26, none⟩, ⟨.indexAddr 27 (.tmp 25) (.tmp 26), some 27, none⟩, ⟨.load 37 (.tmp 27), some 28, none⟩, ⟨.move (.tmp 1), some 29, none⟩, ⟨.call { callee := .value (.tmp 24), args := { toList := [.tmp 28, .tmp 29] }, argTypes := { toList := [37, 3] } }, some 30, none⟩, ⟨.binOp .lss 3 (.tmp 30) (.const (.int .i64 0)) 3, some 31, none⟩]) (.cond (.tmp 31) (.ops [⟨.move (.tmp 11), some 32, none⟩, ⟨.binOp .add 3 (.tmp 32) (.const (.int .i64 1)) 3, some 33, none⟩, ⟨.assign (.tmp 33), some 9, none⟩]) (.ops [⟨.move (.tmp 11), some 34, none⟩, ⟨.assign (.tmp 34), some 10, none⟩])))))))) (.seq (.ops [⟨.move (.tmp 9), some 35, none⟩, ⟨.move (.tmp 9), some 36, none⟩, ⟨.move (.tmp 8), some 37, none⟩, ⟨.binOp .lss 3 (.tmp 36) (.tmp 37) 3, some 38, none⟩, ⟨.move (.tmp 38), some 39, none⟩, ⟨.move (.tmp 2), some 40, some (39, true)⟩, ⟨.move (.tmp 0), some 41, some (39, true)⟩, ⟨.move (.tmp 9), some 42, some (39, true)⟩, ⟨.indexAddr 27 (.tmp 41) (.tmp 42), some 43, some (39, true)⟩, ⟨.load 37 (.tmp 43), some 44, some (39, true)⟩, ⟨.move (.tmp 1), some 45, some (39, true)⟩, ⟨.call { callee := .value (.tmp 40), args := { toList := [.tmp 44, .tmp 45] }, argTypes := { toList := [37, 3] } }, some 46, some (39, true)⟩, ⟨.binOp .eql 3 (.tmp 46) (.const (.int .i64 0)) 3, some 47, some (39, true)⟩, ⟨.pick (.tmp 39) (.tmp 47) (.const (.bool false)), some 48, none⟩, ⟨.assign (.tmp 35), some 6, none⟩, ⟨.assign (.tmp 48), some 7, none⟩]) .ret))))
theorem l97 : Tryz.f97.body.map lighten = some L97 := by kernel_rfl
theorem rs97 : Tryz.f97.results.toList = [ResultVar.tmp 6, ResultVar.tmp 7] := by kernel_rfl
theorem nt97 : Tryz.f97.ntmps = 49 := by kernel_rfl
theorem gob97 {args : List AV} {s : AHeap} {R : AV → AHeap → Prop} (hl : args.length ≤ 49) (h : ∀ tm, tm.length = 49 → (∀ i, aev tm (.tmp i) = args.getD i aundef) → lvb Tryz.prog tab s L97 (lpostB tab s [ResultVar.tmp 6, ResultVar.tmp 7] R) tm (loc s 0 [])) : ACall Tryz.prog 97 args s R := ACall.goB tab_ok mixed Tryz.func97 l97 nm97 rs97 nt97 hl h
end Go.S1
end
section
namespace Go.S1N
open Go Go.Am Go.Proofs Go.S1
set_option maxRecDepth 100000
theorem ty216 : tab.ty 216 = some { td := .int .u64, size := 1, bytes := 8, zero := .int .u64 0, eqok := false } := by kernel_rfl
end Go.S1N
end
section
namespace Go.S1N
open Go Go.Am Go.Proofs Go.S1
set_option maxRecDepth 100000
attribute [local irreducible] lopsB lvb lstepB lfunG lcondB lguardB ldrawB ldrunB ldstepB ldguardB lmem lval ldmem ldval ldfun lexit ldloadB ldlenB lpostB athen ablock
def Ed.covers (e : Ed) (p : Int) : Prop := e.at_ ≤ p ∧ p < e.at_ + e.cut
instance (e : Ed) (p : Int) : Decidable (Ed.covers e p) := inferInstanceAs (Decidable (_ ∧ _))
def goneB (l : List Ed) (p : Int) : Bool := l.any fun e => decide (Ed.covers e p)
end Go.S1N
end
section
namespace Go.S1N
open Go Go.Am Go.Proofs Go.S1
set_option maxRecDepth 100000
attribute [local irreducible] lopsB lvb lstepB lfunG lcondB lguardB ldrawB ldrunB ldstepB ldguardB lmem lval ldmem ldval ldfun lexit ldloadB ldlenB lpostB athen ablock
structure RS (n : Int) (l : List Ed) : Prop where
  each : ∀ e ∈ l, 0 ≤ e.at_ ∧ 0 ≤ e.cut ∧ e.at_ + e.cut ≤ n
  pair : l.Pairwise fun x y => x.at_ + x.cut < y.at_
theorem scan_rs {n : Int} : ∀ {l : List Ed} {B : Int}, scan n B l = 0 → RS n l ∧ ∀ e ∈ l, B < e.at_
  | [], _, _ => ⟨⟨by simp, .nil⟩, by simp⟩
  | e :: l, B, h => by
    obtain ⟨c1, c2, c3, c4, c5, c6⟩ := scan_cons h
    obtain ⟨⟨g1, g2⟩, g3⟩ := scan_rs c6
    refine ⟨⟨?_, ?_⟩, ?_⟩
    · intro x hx
      rcases List.mem_cons.1 hx with rfl | hx
      · exact ⟨by omega, by omega, by omega⟩
      · exact g1 x hx
    · exact List.pairwise_cons.2 ⟨fun y hy => g3 y hy, g2⟩
    · intro x hx
      rcases List.mem_cons.1 hx with rfl | hx
      · omega
      · have := g3 x hx; omega
theorem RS.tail {n : Int} {e : Ed} {l : List Ed} (h : RS n (e :: l)) : RS n l := ⟨fun x hx => h.each x (List.mem_cons_of_mem e hx), (List.pairwise_cons.1 h.pair).2⟩
def cntLt (l : List Ed) (p : Int) : Nat := (l.filter fun e => decide (e.at_ < p)).length
def hasAt (l : List Ed) (p : Int) : Bool := l.any fun e => decide (e.at_ = p)
def insAt (l : List Ed) (p : Int) : List UInt8 := match l.find? fun e => decide (e.at_ = p) with
  | some e => e.new
  | none => []
theorem cnt_iff {n : Int} (p : Int) : ∀ {l : List Ed}, RS n l → ∀ {k : Nat} {e : Ed}, l[k]? = some e → (e.at_ < p ↔ k < cntLt l p)
  | [], _, k, e, h => by simp at h
  | x :: l, hr, k, e, h => by
    have hx := hr.each x (List.mem_cons_self ..)
    have hp := (List.pairwise_cons.1 hr.pair).1
    unfold cntLt
    rw [List.filter_cons]
    by_cases hlt : x.at_ < p
    · rw [if_pos (by simpa using hlt), List.length_cons]
      cases k with
      | zero => simp at h; subst h; exact ⟨fun _ => by omega, fun _ => hlt⟩
      | succ k =>
        have := cnt_iff p hr.tail (k := k) (e := e) (by simpa using h)
        unfold cntLt at this
        omega
    · have h0 : (l.filter fun e => decide (e.at_ < p)) = [] := by
        rw [List.filter_eq_nil_iff]
        intro y hy
        have := hp y hy
        simp only [decide_eq_true_eq]; omega
      rw [if_neg (by simpa using hlt), h0]
      have : ¬ e.at_ < p := by
        cases k with
        | zero => simp at h; subst h; exact hlt
        | succ k =>
          have := hp e (List.mem_of_getElem? (i := k) (by simpa using h))
          omega
      exact ⟨fun q => absurd q this, fun q => by simp at q⟩
theorem cnt_le (l : List Ed) (p : Int) : cntLt l p ≤ l.length := List.length_filter_le ..
theorem at_uniq {n : Int} {l : List Ed} (h : RS n l) {x y : Ed} (hx : x ∈ l) (hy : y ∈ l) (he : x.at_ = y.at_) : x = y := by
  obtain ⟨i, hi, rfl⟩ := List.mem_iff_getElem.1 hx
  obtain ⟨j, hj, rfl⟩ := List.mem_iff_getElem.1 hy
  rcases Nat.lt_trichotomy i j with q | q | q
  · have := List.pairwise_iff_getElem.1 h.pair i j hi hj q
    have := h.each _ (List.getElem_mem hi)
    omega
  · subst q; rfl
  · have := List.pairwise_iff_getElem.1 h.pair j i hj hi q
    have := h.each _ (List.getElem_mem hj)
    omega
theorem has_at {n : Int} {l : List Ed} (h : RS n l) (p : Int) : (hasAt l p = true → ∃ e, l[cntLt l p]? = some e ∧ e.at_ = p ∧ insAt l p = e.new) ∧ (hasAt l p = false → insAt l p = [] ∧ ∀ e, l[cntLt l p]? = some e → e.at_ ≠ p) := by
  constructor
  · intro hh
    obtain ⟨e, he, hp⟩ := List.any_eq_true.1 hh
    have hp : e.at_ = p := by simpa using hp
    obtain ⟨k, hk, rfl⟩ := List.mem_iff_getElem.1 he
    have hgk := List.getElem?_eq_getElem hk
    have h1 := cnt_iff p h hgk
    have hge : cntLt l p ≤ k := by
      rcases Nat.lt_or_ge k (cntLt l p) with q | q
      · have := h1.2 q; omega
      · exact q
    have hle : k ≤ cntLt l p := by
      rcases Nat.lt_or_ge (cntLt l p) k with q | q
      · have hc : cntLt l p < l.length := by omega
        have h2 := cnt_iff p h (List.getElem?_eq_getElem hc)
        have h3 := List.pairwise_iff_getElem.1 h.pair _ _ hc hk q
        have h4 := h.each _ (List.getElem_mem hc)
        have := h2.1 (by omega)
        omega
      · exact q
    obtain rfl : k = cntLt l p := by omega
    refine ⟨_, hgk, hp, ?_⟩
    unfold insAt
    cases hf : l.find? fun e => decide (e.at_ = p) with
    | none =>
      have := List.find?_eq_none.1 hf _ he
      simp [hp] at this
    | some e' =>
      have h5 := List.find?_some hf
      have h6 := List.mem_of_find?_eq_some hf
      rw [at_uniq h h6 he (by simp at h5; omega)]
  · intro hh
    have hall : ∀ e ∈ l, e.at_ ≠ p := by
      intro e he hp
      have := List.any_eq_false.1 hh e he
      simp [hp] at this
    refine ⟨?_, fun e he => hall e (List.mem_of_getElem? he)⟩
    unfold insAt
    rw [List.find?_eq_none.2 (fun e he => by simpa using hall e he)]
theorem cv_up {ev : Operand → AV} {x : Operand} {n : Nat} {s : AHeap} (hx : ev x = .int .i64 n) (hn : n < 9223372036854775808) : lop tab ev (.convert 3 216 x) s = some (.int .u64 n, s) := by
  have : IntKind.u64.wrap (n : Int) = n := by unfold IntKind.wrap; simp [IntKind.bits, IntKind.signed]; omega
  simp [lop, aop, apure, aconv, ty3, ty216, hx, this]
theorem cv_dn {ev : Operand → AV} {x : Operand} {n : Nat} {s : AHeap} (hx : ev x = .int .u64 n) (hn : n < 9223372036854775808) : lop tab ev (.convert 216 3 x) s = some (.int .i64 n, s) := by
  have : IntKind.i64.wrap (n : Int) = n := wrap_id (by omega)
  simp [lop, aop, apure, aconv, ty3, ty216, hx, this]
theorem shr1 {n : Nat} : abin tab .shr 216 (.int .u64 n) (.int .u64 1) = some (.int .u64 ((n / 2 : Nat) : Int)) := by
  simp [abin, ashift, IntKind.bits]
  exact Int.fdiv_eq_ediv_of_nonneg _ (by omega)
theorem bs_ok (n : Int) (hn : n ≤ 1000000) (v : AV) (l : List Ed) (p : Int) (hv : SlE v l) (hl : l.length ≤ 2000) (h : RS n l) (f : FuncId) (hf : ∀ (e : Ed) (s : AHeap), (-1000000000000 ≤ e.at_ ∧ e.at_ ≤ 1000000000000) → ACall Tryz.prog f [e.enc, .int .i64 p] s fun r t => r = .int .i64 (e.at_ - p) ∧ t = s) (s : AHeap) :
    ACall Tryz.prog 97 [v, .int .i64 p, .func (.func f) [] []] s fun r t => r = .tuple [.int .i64 (cntLt l p), .bool (hasAt l p)] ∧ t = s := by
  refine gob97 (by simp) ?_
  intro tm hlen harg
  have hcl := cnt_le l p
  simp +contextual only [go_sem, L97, hlen, harg, hv.len, cdD, cdN, gdT, gdF, gdD, Nat.reduceLT, Nat.reduceEqDiff, Nat.reduceAdd, Nat.reduceLeDiff, reduceIte, reduceCtorEq]
  refine ⟨Nat × Nat, fun x => [(0, v), (1, .int .i64 p), (2, .func (.func f) [] []), (8, .int .i64 l.length), (9, .int .i64 x.1), (10, .int .i64 x.2)], fun _ => loc s 0 [], fun x => x.1 ≤ cntLt l p ∧ cntLt l p ≤ x.2 ∧ x.2 ≤ l.length, fun x => x.2 - x.1, (0, l.length), ⟨Nat.zero_le _, hcl, Nat.le_refl _⟩, ?_, ?_⟩
  · refine To.go [] [] rfl (.refl s) (by decide) (by simp) ?_ trivial
    simp +contextual only [go_sem, hlen, harg, pu_ren hv.pu, cdD, cdN, gdT, gdF, gdD, Nat.reduceLT, Nat.reduceEqDiff, Nat.reduceAdd, Nat.reduceLeDiff, reduceIte, reduceCtorEq]
    simp
  · rintro ⟨i, j⟩ tm1 ⟨hi, hj, hjl⟩ hlen1 hlv
    simp only [go_sem, hlen, cdD, cdN, gdT, gdF, gdD, Nat.reduceLT, Nat.reduceEqDiff, Nat.reduceAdd, Nat.reduceLeDiff, reduceIte, reduceCtorEq] at hlen1 hlv hi hj hjl
    simp +contextual only [go_sem, hlen, hlen1, hlv, cdD, cdN, gdT, gdF, gdD, Nat.reduceLT, Nat.reduceEqDiff, Nat.reduceAdd, Nat.reduceLeDiff, reduceIte, reduceCtorEq]
    refine ⟨fun hlt => ?_, fun hge => ?_⟩
    · have hw1 : IntKind.i64.wrap ((i : Int) + (j : Int)) = ((i + j : Nat) : Int) := by rw [wrap_id (by omega)]; omega
      have hm : (i + j) / 2 < l.length := by omega
      have hgm := List.getElem?_eq_getElem hm
      have hci := cnt_iff p h hgm
      have hea := h.each _ (List.getElem_mem hm)
      generalize l[(i + j) / 2] = e at hgm hci hea
      have hw2 : IntKind.i64.wrap ((((i + j) / 2 : Nat) : Int) + 1) = (((i + j) / 2 + 1 : Nat) : Int) := by rw [wrap_id (by omega)]; rfl
      simp +contextual only [go_sem, hlen1, hlv, hw1, cdD, cdN, gdT, gdF, gdD, Nat.reduceLT, Nat.reduceEqDiff, Nat.reduceAdd, Nat.reduceLeDiff, reduceIte, reduceCtorEq]
      rw [lstepB_convert]
      refine lmem_eq (cv_up (n := i + j) (by simp only [go_sem, hlen1, cdD, cdN, gdT, gdF, gdD, Nat.reduceLT, Nat.reduceEqDiff, Nat.reduceAdd, Nat.reduceLeDiff, reduceIte, reduceCtorEq]) (by omega)) ?_
      simp +contextual only [go_sem, hlen1, hlv, shr1, cdD, cdN, gdT, gdF, gdD, Nat.reduceLT, Nat.reduceEqDiff, Nat.reduceAdd, Nat.reduceLeDiff, reduceIte, reduceCtorEq]
      rw [lstepB_convert]
      refine lmem_eq (cv_dn (n := (i + j) / 2) (by simp only [go_sem, hlen1, cdD, cdN, gdT, gdF, gdD, Nat.reduceLT, Nat.reduceEqDiff, Nat.reduceAdd, Nat.reduceLeDiff, reduceIte, reduceCtorEq]) (by omega)) ?_
      simp +contextual only [go_sem, hlen1, hlv, hv.at hgm, cdD, cdN, gdT, gdF, gdD, Nat.reduceLT, Nat.reduceEqDiff, Nat.reduceAdd, Nat.reduceLeDiff, reduceIte, reduceCtorEq]
      refine lfunG_eq (hf e _ (by omega)) ?_
      simp +contextual only [go_sem, hlen1, hlv, hw2, cdD, cdN, gdT, gdF, gdD, Nat.reduceLT, Nat.reduceEqDiff, Nat.reduceAdd, Nat.reduceLeDiff, reduceIte, reduceCtorEq]
      refine ⟨fun hc => ?_, fun hc => ?_⟩
      · refine ⟨((i + j) / 2 + 1, j), ⟨by have := hci.1 (by omega); simp only; omega, hj, hjl⟩, by simp only; omega, ?_⟩
        refine To.go [] [] rfl (.refl s) (by decide) (by simp) ?_ trivial
        simp +contextual only [go_sem, hlen1, hlv, pu_ren hv.pu, cdD, cdN, gdT, gdF, gdD, Nat.reduceLT, Nat.reduceEqDiff, Nat.reduceAdd, Nat.reduceLeDiff, reduceIte, reduceCtorEq]
      · have hge2 : cntLt l p ≤ (i + j) / 2 := by
          rcases Nat.lt_or_ge ((i + j) / 2) (cntLt l p) with q | q
          · have := hci.2 q; omega
          · exact q
        refine ⟨(i, (i + j) / 2), ⟨hi, hge2, by simp only; omega⟩, by simp only; omega, ?_⟩
        refine To.go [] [] rfl (.refl s) (by decide) (by simp) ?_ trivial
        simp +contextual only [go_sem, hlen1, hlv, pu_ren hv.pu, cdD, cdN, gdT, gdF, gdD, Nat.reduceLT, Nat.reduceEqDiff, Nat.reduceAdd, Nat.reduceLeDiff, reduceIte, reduceCtorEq]
    · have hij : i = cntLt l p := by omega
      obtain ⟨ha1, ha2⟩ := has_at h p
      by_cases hc : cntLt l p < l.length
      · have hgm := List.getElem?_eq_getElem hc
        have hea := h.each _ (List.getElem_mem hc)
        generalize l[cntLt l p] = e at hgm hea
        subst hij
        have hci : ((cntLt l p : Nat) : Int) < (l.length : Int) := by omega
        simp +contextual only [go_sem, hlen1, hlv, hci, hv.at hgm, cdD, cdN, gdT, gdF, gdD, Nat.reduceLT, Nat.reduceEqDiff, Nat.reduceAdd, Nat.reduceLeDiff, reduceIte, reduceCtorEq]
        refine ⟨fun _ => ?_, fun q => q.elim⟩
        refine lfunG_eq (hf e _ (by omega)) ?_
        simp +contextual only [go_sem, hlen1, hlv, cdD, cdN, gdT, gdF, gdD, Nat.reduceLT, Nat.reduceEqDiff, Nat.reduceAdd, Nat.reduceLeDiff, reduceIte, reduceCtorEq]
        refine lexit_pure (.refl s) (by simp only [low, lowL, and_self]) ⟨?_, rfl⟩
        congr 3
        cases hh : hasAt l p with
        | true =>
          obtain ⟨e', q1, q2, _⟩ := ha1 hh
          rw [hgm] at q1; cases q1
          simp; omega
        | false =>
          have := (ha2 hh).2 e hgm
          simp; omega
      · subst hij
        have hci : ¬ ((cntLt l p : Nat) : Int) < (l.length : Int) := by omega
        simp +contextual only [go_sem, hlen1, hlv, hci, cdD, cdN, gdT, gdF, gdD, Nat.reduceLT, Nat.reduceEqDiff, Nat.reduceAdd, Nat.reduceLeDiff, reduceIte, reduceCtorEq]
        refine ⟨fun q => q.elim, fun _ => ?_⟩
        refine lexit_pure (.refl s) (by simp only [low, lowL, and_self]) ⟨?_, rfl⟩
        congr 3
        cases hh : hasAt l p with
        | true =>
          obtain ⟨e', q1, q2, _⟩ := ha1 hh
          rw [List.getElem?_eq_none (by omega)] at q1; cases q1
        | false => rfl
end Go.S1N
end
section
namespace Go.S1N
open Go Go.Am Go.Proofs Go.S1
set_option maxRecDepth 100000
attribute [local irreducible] lopsB lvb lstepB lfunG lcondB lguardB ldrawB ldrunB ldstepB ldguardB lmem lval ldmem ldval ldfun lexit ldloadB ldlenB lpostB athen ablock
end Go.S1N
end
section
namespace Go.Proofs
open Go.Shelf
end Go.Proofs
namespace Go.S1N
open Go Go.Am Go.Proofs Go.S1
set_option maxRecDepth 100000
attribute [local irreducible] lopsB lvb lstepB lfunG lcondB lguardB ldrawB ldrunB ldstepB ldguardB lmem lval ldmem ldval ldfun lexit ldloadB ldlenB lpostB athen ablock
end Go.S1N
end
section
namespace Go.S1N
open Go Go.Am Go.Proofs Go.S1
set_option maxRecDepth 100000
attribute [local irreducible] lopsB lvb lstepB lfunG lcondB lguardB ldrawB ldrunB ldstepB ldguardB lmem lval ldmem ldval ldfun lexit ldloadB ldlenB lpostB athen ablock
def compact : List Int → List Int
  | [] => []
  | [a] => [a]
  | a :: b :: r => if a = b then compact (b :: r) else a :: compact (b :: r)
end Go.S1N
end
section
namespace Go.S1N
open Go Go.Am Go.Proofs Go.S1
set_option maxRecDepth 100000
attribute [local irreducible] lopsB lvb lstepB lfunG lcondB lguardB ldrawB ldrunB ldstepB ldguardB lmem lval ldmem ldval ldfun lexit ldloadB ldlenB lpostB athen ablock
def ends (l : List Ed) : List Int := l.flatMap fun e => [e.at_, e.at_ + e.cut]
def placesL (n : Int) (a b : List Ed) : List Int := compact ((0 :: n :: ends (a ++ b)).mergeSort fun x y => decide (x ≤ y))
end Go.S1N
end
section
namespace Go.S1N
open Go Go.Am Go.Proofs Go.S1
set_option maxRecDepth 100000
attribute [local irreducible] lopsB lvb lstepB lfunG lcondB lguardB ldrawB ldrunB ldstepB ldguardB lmem lval ldmem ldval ldfun lexit ldloadB ldlenB lpostB athen ablock
structure Mt where
  both : List Rn
  first : List Rn
  second : List Rn
  long : Int
def Mt.app (m k : Mt) : Mt := ⟨m.both ++ k.both, m.first ++ k.first, m.second ++ k.second, m.long + k.long⟩
def Mt.nil : Mt := ⟨[], [], [], 0⟩
def mtA (a : List Ed) (p x : Int) : Mt := if hasAt a p then ⟨[⟨0, 0, insAt a p⟩], [⟨x, (insAt a p).length, []⟩], [⟨0, 0, insAt a p⟩], (insAt a p).length⟩ else .nil
def mtB (b : List Ed) (p y : Int) : Mt := if hasAt b p then ⟨[⟨0, 0, insAt b p⟩], [⟨0, 0, insAt b p⟩], [⟨y, (insAt b p).length, []⟩], (insAt b p).length⟩ else .nil
def mtK (k : Bool) (p x y z : Int) : Mt := if k then ⟨[⟨p, z, []⟩], [⟨x, z, []⟩], [⟨y, z, []⟩], z⟩ else .nil
def meetGo (a b : List Ed) : List Int → Int → Int → Mt
  | [], _, _ => .nil
  | [p], x, y => (mtA a p x).app (mtB b p y)
  | p :: q :: r, x, y => ((mtA a p x).app (mtB b p y)).app ((mtK (!goneB a p && !goneB b p) p (x + (insAt a p).length) (y + (insAt b p).length) (q - p)).app
      (meetGo a b (q :: r) (x + (insAt a p).length + if goneB a p then 0 else q - p) (y + (insAt b p).length + if goneB b p then 0 else q - p)))
def Mt.enc (m : Mt) : AV := .agg [rnv m.both, rnv m.first, rnv m.second, .int .i64 m.long]
theorem mtK_false {p x y z : Int} : mtK false p x y z = .nil := rfl
end Go.S1N
end
section
namespace Go.S1N
open Go Go.Am Go.Proofs Go.S1
set_option maxRecDepth 100000
attribute [local irreducible] lopsB lvb lstepB lfunG lcondB lguardB ldrawB ldrunB ldstepB ldguardB lmem lval ldmem ldval ldfun lexit ldloadB ldlenB lpostB athen ablock
end Go.S1N
end
section
namespace Go.S1N
open Go Go.Am Go.Proofs Go.S1
set_option maxRecDepth 100000
attribute [local irreducible] lopsB lvb lstepB lfunG lcondB lguardB ldrawB ldrunB ldstepB ldguardB lmem lval ldmem ldval ldfun lexit ldloadB ldlenB lpostB athen ablock
def rnB (l : List Rn) : Prop := (∀ r ∈ l, 0 ≤ r.at_ ∧ r.at_ ≤ 1000000000 ∧ r.at_ + r.long ≤ 1000000000 ∧ 0 ≤ r.long ∧ r.text.length ≤ 1000000) ∧ l.length ≤ 1000000000
structure MOk (n : Int) (a b : List Ed) : Prop where
  hn : 0 ≤ n ∧ n ≤ 1000000
  ha : a.length ≤ 2000
  hb : b.length ≤ 2000
  ra : RS n a
  rb : RS n b
  ia : ∀ p, (insAt a p).length ≤ 100000
  ib : ∀ p, (insAt b p).length ≤ 100000
  pl : ∀ p ∈ placesL n a b, 0 ≤ p ∧ p ≤ 1000000
  pl2 : (placesL n a b).length ≤ 10000
  mono : ∀ (i : Nat) (p q : Int), (placesL n a b)[i]? = some p → (placesL n a b)[i + 1]? = some q → p ≤ q
  la : 0 ≤ longOf n a ∧ longOf n a ≤ 1000000
  lb : 0 ≤ longOf n b ∧ longOf n b ≤ 1000000
  b1 : rnB (meetGo a b (placesL n a b) 0 0).both
  b2 : rnB (meetGo a b (placesL n a b) 0 0).first
  b3 : rnB (meetGo a b (placesL n a b) 0 0).second
def touch (x y : Ed) : Prop := x.at_ ≤ y.at_ + y.cut ∧ y.at_ ≤ x.at_ + x.cut
instance (x y : Ed) : Decidable (touch x y) := inferInstanceAs (Decidable (_ ∧ _))
end Go.S1N
end
section
namespace Go.S1N
open Go Go.Am Go.Proofs Go.S1
set_option maxRecDepth 100000
attribute [local irreducible] lopsB lvb lstepB lfunG lcondB lguardB ldrawB ldrunB ldstepB ldguardB lmem lval ldmem ldval ldfun lexit ldloadB ldlenB lpostB athen ablock
end Go.S1N
end
section
namespace Go.S1N
open Go Go.Am Go.Proofs Go.S1
set_option maxRecDepth 100000
abbrev LT := Int × UInt8
def runI (x : Int) (k : Nat) : List LT := (List.range k).map fun (i : Nat) => (x + (i : Int), (0 : UInt8))
theorem runI_zero (x : Int) : runI x 0 = [] := rfl
section
variable (a b : List Ed)
def keepAB (p : Int) : Bool := !goneB a p && !goneB b p
def stepA (p : Int) : Int := ((insAt a p).length : Int) + if goneB a p then 0 else 1
def g1 : Nat → Int → Int → List LT
  | 0, _, _ => []
  | k + 1, p, x => runI x (insAt a p).length ++ (negL (insAt b p) ++ ((if keepAB a b p then [(x + (insAt a p).length, 0)] else []) ++ g1 k (p + 1) (x + stepA a p)))
def g2 : Nat → Int → Int → List LT
  | 0, _, _ => []
  | k + 1, p, y => negL (insAt a p) ++ (runI y (insAt b p).length ++ ((if keepAB a b p then [(y + (insAt b p).length, 0)] else []) ++ g2 k (p + 1) (y + stepA b p)))
end
section
variable {a b : List Ed}
structure Calm (a b : List Ed) (p : Int) (k : Nat) (ga gb : Bool) : Prop where
  ins : ∀ r, p ≤ r → r < p + k → insAt a r = [] ∧ insAt b r = [] ∧ goneB a r = ga ∧ goneB b r = gb
theorem Calm.tail {p : Int} {k : Nat} {ga gb : Bool} (h : Calm a b p (k + 1) ga gb) : Calm a b (p + 1) k ga gb := ⟨fun r h1 h2 => h.ins r (by omega) (by omega)⟩
end
end Go.S1N
end
section

end
section
namespace Go.S1N
open Go Go.Am Go.Proofs Go.S1
set_option maxRecDepth 100000
def lcopy (T : Tab) (t : TypeId) (x y : AV) (s : AHeap) : Option (AV × AHeap) := match T.ty t with
  | some i => match i.td with
    | .slice e => acopy T e s x y
    | _ => none
  | none => none
theorem lstepB_copy {P : Program} {T : Tab} {s0 s : AHeap} {N : List AV → AHeap → Prop} {d : Option Nat} {tm : List AV} {t u : TypeId} {x y : Operand} : lstepB P T s0 N (.call { callee := .builtin .copy, args := ⟨[x, y]⟩, argTypes := ⟨[t, u]⟩ }) d tm s = lmem N (lcopy T t (aev tm x) (aev tm y) s) d tm := rfl
attribute [local irreducible] lopsB lvb lstepB lfunG lcondB lguardB ldrawB ldrunB ldstepB ldguardB lmem lval ldmem ldval ldfun lexit ldloadB ldlenB lpostB athen ablock
end Go.S1N
end
section
namespace Go.S1N
open Go Go.Am Go.Proofs Go.S1
set_option maxRecDepth 100000
attribute [local irreducible] lopsB lvb lstepB lfunG lcondB lguardB ldrawB ldrunB ldstepB ldguardB lmem lval ldmem ldval ldfun lexit ldloadB ldlenB lpostB athen ablock
def ownOf : Nat → List (Int × UInt8) → List Int
  | _, [] => []
  | i, p :: r => if p.1 < 0 then (i : Int) :: ownOf (i + 1) r else ownOf (i + 1) r
def need : List (Int × UInt8) → List Bool → Nat
  | p :: F, b :: bs => (if p.1 < 0 ∧ b = true then 1 else 0) + need F bs
  | _, _ => 0
def pastGo (old : List Int) : List Int → List (Int × UInt8) → List Bool → List (Int × UInt8)
  | own, p :: F, b :: bs => if 0 ≤ p.1 then (old.getD p.1.toNat 0, p.2) :: pastGo old own F bs else if b then (own.headD 0, p.2) :: pastGo old own.tail F bs else p :: pastGo old own F bs
  | _, _, _ => []
end Go.S1N
end
section
namespace Go.S1N
open Go Go.Am Go.Proofs Go.S1
set_option maxRecDepth 100000
attribute [local irreducible] lopsB lvb lstepB lfunG lcondB lguardB ldrawB ldrunB ldstepB ldguardB lmem lval ldmem ldval ldfun lexit ldloadB ldlenB lpostB athen ablock
abbrev ML := (Int × UInt8) × Bool × Bool
end Go.S1N
end
section
namespace Go.S1N
open Go Go.Am Go.Proofs Go.S1
set_option maxRecDepth 100000
attribute [local irreducible] lopsB lvb lstepB lfunG lcondB lguardB ldrawB ldrunB ldstepB ldguardB lmem lval ldmem ldval ldfun lexit ldloadB ldlenB lpostB athen ablock
def newM (e : Ed) (f : Bool × Bool) (i : Nat) : List ML := (e.new.take i).map fun c => ((-1, c), f)
def insM (l : List Ed) (p : Int) (f : Bool × Bool) : List ML := l.flatMap fun e => if e.at_ = p then newM e f e.new.length else []
def keptM (a b : List Ed) (n p : Int) : List ML := if p < n ∧ goneB a p = false ∧ goneB b p = false then [((p, 0), false, false)] else []
def mixAt (a b : List Ed) (n p : Int) : List ML := insM a p (true, false) ++ insM b p (false, true) ++ keptM a b n p
def mixL (a b : List Ed) (n : Int) (k : Nat) : List ML := (List.range k).flatMap fun p : Nat => mixAt a b n (p : Int)
def totN (l : List Ed) : Nat := (l.flatMap Ed.new).length
end Go.S1N
end
section
namespace Go.S1N
open Go Go.Am Go.Proofs Go.S1
set_option maxRecDepth 100000
attribute [local irreducible] lopsB lvb lstepB lfunG lcondB lguardB ldrawB ldrunB ldstepB ldguardB lmem lval ldmem ldval ldfun lexit ldloadB ldlenB lpostB athen ablock
structure POk (n : Nat) (a b : List Ed) : Prop where
  hn : n ≤ 1000
  ha : a.length ≤ 2000
  hb : b.length ≤ 2000
  hta : totN a ≤ 1000
  htb : totN b ≤ 1000
  hea : ∀ e ∈ a, -1000000000000 ≤ e.at_ + e.cut ∧ e.at_ + e.cut ≤ 1000000000000
  heb : ∀ e ∈ b, -1000000000000 ≤ e.at_ + e.cut ∧ e.at_ + e.cut ≤ 1000000000000
  hsa : scan n (-1) a = 0
  hsb : scan n (-1) b = 0
  hga : ∀ p ∈ flowFrom n 0 a, p.1 < n
  hgb : ∀ p ∈ flowFrom n 0 b, p.1 < n
  hm : ∀ x ∈ mixL a b n (n + 1), -1 ≤ x.1.1 ∧ x.1.1 < n
  hda : need ((mixL a b n (n + 1)).map (·.1)) ((mixL a b n (n + 1)).map (·.2.1)) ≤ (ownOf 0 (flowFrom n 0 a)).length
  hdb : need ((mixL a b n (n + 1)).map (·.1)) ((mixL a b n (n + 1)).map (·.2.2)) ≤ (ownOf 0 (flowFrom n 0 b)).length
end Go.S1N
end
section
namespace Go.S1N
open Go Go.Am Go.Proofs Go.S1
set_option maxRecDepth 100000
theorem insAt_nil (p : Int) : insAt [] p = [] := rfl
theorem goneB_nil (p : Int) : goneB [] p = false := rfl
section
variable (a b : List Ed)
end
section
variable {a b : List Ed}
end
end Go.S1N
end
section
namespace Go.S1N
open Go Go.Am Go.Proofs Go.S1
set_option maxRecDepth 100000
section
variable (a : List Ed)
end
def pastM (old own : List Int) (T : List ML) (sel : Bool × Bool → Bool) : List LT := pastGo old own (T.map (·.1)) (T.map fun x => sel x.2)
theorem pastM_nil (old own : List Int) (sel : Bool × Bool → Bool) : pastM old own [] sel = [] := rfl
end Go.S1N
end
section
namespace Go.S1N
open Go Go.Am Go.Proofs Go.S1
set_option maxRecDepth 100000
section
variable (a b : List Ed) (p : Int)
end
section
variable {a b : List Ed} {p q : Int}
end
end Go.S1N
end
section
namespace Go.S1N
open Go Go.Am Go.Proofs Go.S1
set_option maxRecDepth 100000
end Go.S1N
end
section
namespace Go.S1N
open Go Go.Am Go.Proofs Go.S1
set_option maxRecDepth 100000
structure Pre (n : Nat) (a b : List Ed) : Prop where
  hn : n ≤ 1000
  ta : totN a ≤ 1000
  tb : totN b ≤ 1000
section
variable {n : Nat} {a b : List Ed}
end
end Go.S1N
end
section
namespace Go.S1N
open Go Go.Am Go.Proofs Go.S1
set_option maxRecDepth 100000
section
variable {a b : List Ed} {F : List LT} {s t : List UInt8}
end
section
variable {n : Nat} {a b : List Ed}
end
end Go.S1N
end
section
namespace Go.S1N
open Go Go.Am Go.Proofs Go.S1
set_option maxRecDepth 100000
theorem apply_len (x : List UInt8) {l : List Ed} (hs : scan x.length (-1) l = 0) : (applyFrom x 0 l).length = (flowFrom x.length 0 l).length := by
  rw [← say_flow x l 0 (-1) (.inr ⟨rfl, rfl⟩) (Nat.zero_le _) hs, List.length_map]
theorem text_fault {x : List UInt8} {l : List Ed} (h : faultOf x.length l = 0) : textFault x l = 0 := by
  obtain ⟨_, h2, _, _⟩ := faultOf_zero h
  rw [textFault, if_neg (by omega), h]
theorem apply_val {x : List UInt8} {l : List Ed} (h : faultOf x.length l = 0) : applyVal x l = (applyFrom x 0 l, 0) := by
  rw [applyVal, if_neg (by rw [text_fault h]; decide)]
end Go.S1N
end
section
namespace Go.S1N
open Go Go.Am Go.Proofs Go.S1
set_option maxRecDepth 100000
def lcs : List UInt8 → List UInt8 → Nat
  | [], _ => 0
  | _ :: _, [] => 0
  | x :: xs, y :: ys => if x = y then lcs xs ys + 1 else max (lcs xs (y :: ys)) (lcs (x :: xs) ys)
termination_by a b => a.length + b.length
theorem lcs_n1 (b : List UInt8) : lcs [] b = 0 := by rw [lcs]
theorem lcs_n2 (a : List UInt8) : lcs a [] = 0 := by cases a <;> rw [lcs]
theorem lcs_eq {x : UInt8} {xs ys : List UInt8} : lcs (x :: xs) (x :: ys) = lcs xs ys + 1 := by rw [lcs, if_pos rfl]
theorem lcs_ne {x y : UInt8} (h : x ≠ y) {xs ys : List UInt8} : lcs (x :: xs) (y :: ys) = max (lcs xs (y :: ys)) (lcs (x :: xs) ys) := by rw [lcs, if_neg h]
theorem lcs_steps : ∀ (n : Nat) (xs ys : List UInt8), xs.length + ys.length ≤ n →
    (∀ x, lcs xs ys ≤ lcs (x :: xs) ys ∧ lcs (x :: xs) ys ≤ lcs xs ys + 1) ∧ (∀ y, lcs xs ys ≤ lcs xs (y :: ys) ∧ lcs xs (y :: ys) ≤ lcs xs ys + 1) := by
  intro n
  induction n with
  | zero =>
    intro xs ys h
    have h1 : xs = [] := List.eq_nil_of_length_eq_zero (by omega)
    have h2 : ys = [] := List.eq_nil_of_length_eq_zero (by omega)
    subst h1 h2
    exact ⟨fun x => by rw [lcs_n2, lcs_n2]; omega, fun y => by rw [lcs_n1, lcs_n1]; omega⟩
  | succ n ih =>
    intro xs ys h
    refine ⟨fun x => ?_, fun y => ?_⟩
    · cases ys with
      | nil => rw [lcs_n2, lcs_n2]; omega
      | cons y ys =>
        have i := ih xs ys (by simp at h; omega)
        by_cases e : x = y
        · subst e
          rw [lcs_eq]
          have := i.2 x
          omega
        · rw [lcs_ne e]
          have h1 := i.2 y
          have h2 := i.1 x
          omega
    · cases xs with
      | nil => rw [lcs_n1, lcs_n1]; omega
      | cons x xs =>
        have i := ih xs ys (by simp at h; omega)
        by_cases e : x = y
        · subst e
          rw [lcs_eq]
          have := i.1 x
          omega
        · rw [lcs_ne e]
          have h1 := i.2 y
          have h2 := i.1 x
          omega
theorem lcs_x (x : UInt8) (xs ys : List UInt8) : lcs xs ys ≤ lcs (x :: xs) ys ∧ lcs (x :: xs) ys ≤ lcs xs ys + 1 := (lcs_steps _ xs ys (Nat.le_refl _)).1 x
theorem lcs_y (y : UInt8) (xs ys : List UInt8) : lcs xs ys ≤ lcs xs (y :: ys) ∧ lcs xs (y :: ys) ≤ lcs xs ys + 1 := (lcs_steps _ xs ys (Nat.le_refl _)).2 y
def fstAt (x : UInt8) : List UInt8 → Option Nat
  | [] => none
  | y :: ys => if x = y then some 0 else (fstAt x ys).map (· + 1)
theorem fst_get {x : UInt8} : ∀ {ys : List UInt8} {n : Nat}, fstAt x ys = some n → n < ys.length ∧ ys = ys.take n ++ x :: ys.drop (n + 1)
  | [], n, h => by cases h
  | y :: ys, n, h => by
    rw [fstAt] at h
    split at h
    · rename_i e; cases h; subst e; simp
    · cases hq : fstAt x ys with
      | none => rw [hq] at h; cases h
      | some k =>
        rw [hq] at h; cases h
        obtain ⟨q1, q2⟩ := fst_get hq
        refine ⟨by simp; omega, ?_⟩
        rw [List.take_succ_cons, List.drop_succ_cons, List.cons_append, ← q2]
theorem lcs_fst (x : UInt8) (xs : List UInt8) : ∀ ys, (fstAt x ys = none → lcs (x :: xs) ys = lcs xs ys) ∧
    ∀ n, fstAt x ys = some n → lcs (x :: xs) ys = max (lcs xs ys) (lcs xs (ys.drop (n + 1)) + 1)
  | [] => ⟨fun _ => by rw [lcs_n2, lcs_n2], fun n h => by cases h⟩
  | y :: ys => by
    obtain ⟨i1, i2⟩ := lcs_fst x xs ys
    by_cases e : x = y
    · subst e
      refine ⟨(fun h => by rw [fstAt, if_pos rfl] at h; cases h), fun n h => ?_⟩
      rw [fstAt, if_pos rfl] at h
      cases h
      rw [lcs_eq]
      have := lcs_y x xs ys
      simp only [Nat.zero_add, List.drop_succ_cons, List.drop_zero]
      omega
    · rw [lcs_ne e]
      have hy := lcs_y y xs ys
      refine ⟨fun h => ?_, fun n h => ?_⟩
      · rw [fstAt, if_neg e] at h
        rw [i1 (by cases hq : fstAt x ys with | none => rfl | some k => rw [hq] at h; cases h)]
        omega
      · rw [fstAt, if_neg e] at h
        cases hq : fstAt x ys with
        | none => rw [hq] at h; cases h
        | some k =>
          rw [hq] at h
          simp only [Option.map_some, Option.some.injEq] at h
          subst h
          rw [i2 k hq, List.drop_succ_cons]
          omega
def dr : Nat → List UInt8 → List UInt8 → List Rn
  | _, [], ys => [⟨0, 0, ys⟩]
  | i, x :: xs, ys => if lcs (x :: xs) ys = 0 then [⟨0, 0, ys⟩] else match fstAt x ys with
    | some n => if lcs xs (ys.drop (n + 1)) + 1 = lcs (x :: xs) ys then ⟨0, 0, ys.take n⟩ :: ⟨i, 1, []⟩ :: dr (i + 1) xs (ys.drop (n + 1)) else dr (i + 1) xs ys
    | none => dr (i + 1) xs ys
def kc (F : List (Int × UInt8)) : Nat := F.countP fun p => decide (0 ≤ p.1)
theorem kc_app (F G : List (Int × UInt8)) : kc (F ++ G) = kc F + kc G := List.countP_append
theorem kc_neg (w : List UInt8) : kc (negL w) = 0 := by
  unfold kc negL
  rw [List.countP_eq_zero]
  intro p hp
  obtain ⟨c, _, rfl⟩ := List.mem_map.1 hp
  simp
theorem kc_run (a k : Nat) : kc (runOf a k) = k := by
  unfold kc
  rw [List.countP_eq_length.2, run_len]
  intro p hp
  have := (run_mem hp).1
  simp; omega
theorem say_negL (x : List UInt8) (w : List UInt8) : (negL w).map (say x) = w := by
  unfold negL
  rw [List.map_map]
  conv => rhs; rw [← List.map_id w]
  exact List.map_congr_left fun c _ => by simp [say]
theorem dr_flow (a : List UInt8) : ∀ (xs : List UInt8) (i : Nat) (ys : List UInt8), a.drop i = xs → i ≤ a.length →
    (rflow (dr i xs ys)).map (say a) = ys ∧ okF a.length i (rflow (dr i xs ys)) ∧ kc (rflow (dr i xs ys)) = lcs xs ys
  | [], i, ys, h, hi => by
    rw [dr, rflow_cons, rfl1_fresh, show rflow [] = [] from rfl, List.append_nil]
    refine ⟨say_negL a ys, ?_, by rw [kc_neg, lcs_n1]⟩
    have := ok_neg (n := a.length) (a := i) (F := []) trivial ys
    rwa [List.append_nil] at this
  | x :: xs, i, ys, h, hi => by
    have hlt : i < a.length := by
      rcases Nat.lt_or_ge i a.length with q | q
      · exact q
      · rw [List.drop_of_length_le q] at h; cases h
    have hd : a.drop (i + 1) = xs := by rw [← List.tail_drop, h]; rfl
    have hx : a.getD i 0 = x := by
      rw [List.getD_eq_getElem?_getD, ← List.head?_drop, h]; rfl
    have hx2 : a[i]?.getD 0 = x := by rw [← List.getD_eq_getElem?_getD]; exact hx
    rw [dr]
    split
    · rename_i h0
      rw [rflow_cons, rfl1_fresh, show rflow [] = [] from rfl, List.append_nil]
      refine ⟨say_negL a ys, ?_, by rw [kc_neg, h0]⟩
      have := ok_neg (n := a.length) (a := i) (F := []) trivial ys
      rwa [List.append_nil] at this
    · rename_i h0
      split
      · rename_i n hn
        split
        · rename_i hc
          obtain ⟨i1, i2, i3⟩ := dr_flow a xs (i + 1) (ys.drop (n + 1)) hd (by omega)
          have e1 : rflow (⟨0, 0, ys.take n⟩ :: ⟨i, 1, []⟩ :: dr (i + 1) xs (ys.drop (n + 1))) = negL (ys.take n) ++ (runOf i 1 ++ rflow (dr (i + 1) xs (ys.drop (n + 1)))) := by
            rw [rflow_cons, rflow_cons, rfl1_fresh]
            have : rfl1 ⟨(i : Int), ((1 : Nat) : Int), []⟩ = runOf i 1 := rfl1_kept
            rw [show (⟨(i : Int), 1, []⟩ : Rn) = ⟨(i : Int), ((1 : Nat) : Int), []⟩ from rfl, this]
          rw [e1]
          refine ⟨?_, ?_, ?_⟩
          · rw [List.map_append, List.map_append, i1, say_negL]
            have e2 : (runOf i 1).map (say a) = [x] := by
              rw [runOf_cons]
              simp [runOf, say, hx2]
            rw [e2, List.singleton_append]
            exact (fst_get hn).2.symm
          · exact ok_neg (ok_run 1 i (by omega) i2) _
          · rw [kc_app, kc_app, kc_neg, kc_run, i3]
            omega
        · rename_i hc
          obtain ⟨i1, i2, i3⟩ := dr_flow a xs (i + 1) ys hd (by omega)
          refine ⟨i1, okF_mono (by omega) i2, ?_⟩
          rw [i3]
          have := (lcs_fst x xs ys).2 n hn
          omega
      · rename_i hn
        obtain ⟨i1, i2, i3⟩ := dr_flow a xs (i + 1) ys hd (by omega)
        exact ⟨i1, okF_mono (by omega) i2, by rw [i3, (lcs_fst x xs ys).1 hn]⟩
theorem lcs_drop (a ys : List UInt8) : ∀ (k m : Nat), lcs (a.drop (m + k)) ys ≤ lcs (a.drop m) ys
  | 0, m => Nat.le_refl _
  | k + 1, m => by
    have h1 := lcs_drop a ys k (m + 1)
    rw [show m + 1 + k = m + (k + 1) from by omega] at h1
    refine Nat.le_trans h1 ?_
    rcases Nat.lt_or_ge m a.length with q | q
    · rw [List.drop_eq_getElem_cons q]; exact (lcs_x _ _ _).1
    · rw [List.drop_of_length_le (by omega), List.drop_of_length_le q]; exact Nat.le_refl _
theorem kc_max (a : List UInt8) : ∀ (F : List (Int × UInt8)) (m : Nat), okF a.length m F → kc F ≤ lcs (a.drop m) (F.map (say a))
  | [], m, _ => by simp [kc]
  | p :: F, m, h => by
    rw [List.map_cons]
    rcases h with ⟨h1, h2⟩ | ⟨o, rfl, h2, h3, h4⟩
    · have := kc_max a F m h2
      have h5 := (lcs_y (say a p) (a.drop m) (F.map (say a))).1
      have h6 : kc (p :: F) = kc F := by unfold kc; rw [List.countP_cons_of_neg]; simp; omega
      omega
    · have i := kc_max a F (o + 1) h4
      have h6 : kc (((o : Int), 0) :: F) = kc F + 1 := by unfold kc; rw [List.countP_cons_of_pos]; simp
      have hs : say a ((o : Int), 0) = a[o] := by
        simp [say, List.getD_eq_getElem?_getD, h3]
      rw [h6, hs]
      have h7 := lcs_drop a (a[o] :: F.map (say a)) (o - m) m
      rw [show m + (o - m) = o from by omega, List.drop_eq_getElem_cons h3, lcs_eq] at h7
      omega
def cutS : List Ed → Int
  | [] => 0
  | e :: r => e.cut + cutS r
theorem kc_flow (n : Nat) : ∀ (l : List Ed) (a : Nat) (B : Int), (B = a ∨ (B = -1 ∧ a = 0)) → a ≤ n → scan n B l = 0 → (kc (flowFrom n a l) : Int) = n - a - cutS l
  | [], a, B, hB, ha, h => by
    rw [flowFrom, kc_run, cutS]; omega
  | e :: r, a, B, hB, ha, h => by
    obtain ⟨c1, c2, c3, c4, c5, c6⟩ := scan_cons h
    have i := kc_flow n r (e.at_ + e.cut).toNat (e.at_ + e.cut) (.inl (by omega)) (by omega) c6
    rw [flowFrom, kc_app, kc_app, kc_run, show kc (e.new.map fun c => ((-1 : Int), c)) = 0 from kc_neg e.new, cutS]
    omega
theorem scan_lower {n : Int} {B B' : Int} (h : B ≤ B') : ∀ {l : List Ed}, scan n B' l = 0 → scan n B l = 0
  | [], _ => rfl
  | e :: r, hs => by
    have hne := scan_ne hs
    obtain ⟨c1, c2, c3, c4, c5, c6⟩ := scan_cons hs
    rw [scan_one ⟨c1, c2⟩ ⟨c3, c4⟩ hne (by omega)]
    exact c6
theorem apply_skip (x : List UInt8) {n B : Int} {g : Nat} (hg : g ≤ x.length) : ∀ {l : List Ed} {f : Nat}, f ≤ g → (g : Int) ≤ B + 1 → scan n B l = 0 → applyFrom x f l = (x.drop f).take (g - f) ++ applyFrom x g l
  | [], f, hf, _, _ => by
    rw [applyFrom, applyFrom]
    have := List.take_append_drop (g - f) (x.drop f)
    rw [List.drop_drop, show f + (g - f) = g from by omega] at this
    exact this.symm
  | e :: r, f, hf, hB, hs => by
    obtain ⟨c1, c2, c3, c4, c5, c6⟩ := scan_cons hs
    rw [applyFrom, applyFrom, ← List.append_assoc, ← List.append_assoc]
    congr 2
    have h1 : (e.at_.toNat - f) = (g - f) + (e.at_.toNat - g) := by omega
    rw [h1, List.take_add, List.drop_drop, show f + (g - f) = g from by omega]
theorem sqF_law : ∀ (c w : List UInt8) (a : Int), ∃ p : List UInt8, c = p ++ (sqF a c w).2.1 ∧ w = p ++ (sqF a c w).2.2 ∧ (sqF a c w).1 = a + p.length
  | [], w, a => ⟨[], by simp [sqF_nil1], by simp [sqF_nil1], by simp [sqF_nil1]⟩
  | p :: c, [], a => ⟨[], by simp [sqF_nil2], by simp [sqF_nil2], by simp [sqF_nil2]⟩
  | p :: c, q :: w, a => by
    by_cases e : p = q
    · subst e
      have e1 : sqF a (p :: c) (p :: w) = sqF (a + 1) c w := by rw [sqF, if_pos rfl]
      obtain ⟨t, h1, h2, h3⟩ := sqF_law c w (a + 1)
      rw [e1]
      refine ⟨p :: t, ?_, ?_, ?_⟩
      · rw [List.cons_append, ← h1]
      · rw [List.cons_append, ← h2]
      · rw [h3]; simp; omega
    · have e1 : sqF a (p :: c) (q :: w) = (a, p :: c, q :: w) := by rw [sqF, if_neg e]
      rw [e1]
      exact ⟨[], rfl, rfl, by simp⟩
theorem sqB_law (c w : List UInt8) : ∃ s : List UInt8, c = (sqB c w).1 ++ s ∧ w = (sqB c w).2 ++ s := by
  obtain ⟨p, h1, h2, _⟩ := sqF_law c.reverse w.reverse 0
  refine ⟨p.reverse, ?_, ?_⟩
  · unfold sqB
    simp only
    rw [← List.reverse_append, ← h1, List.reverse_reverse]
  · unfold sqB
    simp only
    rw [← List.reverse_append, ← h2, List.reverse_reverse]
theorem sq1_law (x : List UInt8) {e : Ed} (h1 : 0 ≤ e.at_) (h2 : 0 ≤ e.cut) (h3 : e.at_ + e.cut ≤ x.length) :
    ∃ p o s w : List UInt8, (x.drop e.at_.toNat).take e.cut.toNat = p ++ (o ++ s) ∧ e.new = p ++ (w ++ s) ∧ (o.length : Int) ≤ e.cut ∧
      sq1 x e = (if o ≠ [] ∨ w ≠ [] then [⟨e.at_ + p.length, o.length, w⟩] else []) ∧ (p.length + o.length + s.length : Int) = e.cut := by
  have hl : (e.at_ + e.cut).toNat - e.at_.toNat = e.cut.toNat := by omega
  obtain ⟨p, q1, q2, q3⟩ := sqF_law ((x.drop e.at_.toNat).take e.cut.toNat) e.new e.at_
  obtain ⟨s, r1, r2⟩ := sqB_law (sqF e.at_ ((x.drop e.at_.toNat).take e.cut.toNat) e.new).2.1 (sqF e.at_ ((x.drop e.at_.toNat).take e.cut.toNat) e.new).2.2
  have hlen : ((x.drop e.at_.toNat).take e.cut.toNat).length = e.cut.toNat := by simp; omega
  refine ⟨p, (sqB (sqF e.at_ ((x.drop e.at_.toNat).take e.cut.toNat) e.new).2.1 (sqF e.at_ ((x.drop e.at_.toNat).take e.cut.toNat) e.new).2.2).1, s,
    (sqB (sqF e.at_ ((x.drop e.at_.toNat).take e.cut.toNat) e.new).2.1 (sqF e.at_ ((x.drop e.at_.toNat).take e.cut.toNat) e.new).2.2).2, ?_, ?_, ?_, ?_, ?_⟩
  · rw [← r1]; exact q1
  · rw [← r2]; exact q2
  · have := congrArg List.length q1
    have h4 := congrArg List.length r1
    rw [hlen, List.length_append] at this
    rw [List.length_append] at h4
    omega
  · unfold sq1
    simp only [hl]
    rw [q3]
  · have := congrArg List.length q1
    have h4 := congrArg List.length r1
    rw [hlen, List.length_append] at this
    rw [List.length_append] at h4
    omega
theorem sqz_law (x : List UInt8) : ∀ (l : List Ed) (B : Int), -1 ≤ B → scan x.length B l = 0 → scan x.length B (sqz x l) = 0 ∧ (sqz x l).length ≤ l.length ∧ cutS (sqz x l) ≤ cutS l ∧
    (∀ f : Nat, (f : Int) ≤ B + 1 → f ≤ x.length → applyFrom x f (sqz x l) = applyFrom x f l) ∧ ∀ e' ∈ sqz x l, ∃ e ∈ l, e'.new.length ≤ e.new.length
  | [], B, _, _ => ⟨rfl, Nat.le_refl _, Int.le_refl _, fun f _ _ => rfl, fun e' h => by simp [sqz] at h⟩
  | e :: r, B, hB, hs => by
    obtain ⟨c1, c2, c3, c4, c5, c6⟩ := scan_cons hs
    obtain ⟨i1, i2, i3, i4, i5⟩ := sqz_law x r (e.at_ + e.cut) (by omega) c6
    obtain ⟨p, o, s, w, h1, h2, h3, h4, h5⟩ := sq1_law x (e := e) c1 c3 (by omega)
    have hnl : e.new.length = p.length + (w.length + s.length) := by rw [h2]; simp
    rw [sqz_cons, h4]
    -- the new text of the edit, and what is behind it
    have key : ∀ f : Nat, (f : Int) ≤ B + 1 → f ≤ x.length → applyFrom x f (e :: r) = (x.drop f).take (e.at_.toNat - f) ++ (p ++ (w ++ s)) ++ applyFrom x (e.at_ + e.cut).toNat (sqz x r) := by
      intro f hf hfl
      rw [applyFrom, h2, i4 _ (by omega) (by omega)]
    have hcut : (x.drop e.at_.toNat).take e.cut.toNat = p ++ (o ++ s) := h1
    -- parts of the old text
    have hp : (x.drop e.at_.toNat).take p.length = p := by
      have := congrArg (List.take p.length) hcut
      rw [List.take_take, Nat.min_eq_left (by omega), List.take_left' rfl] at this
      exact this
    have hps : (x.drop (e.at_.toNat + (p.length + o.length))).take s.length = s := by
      have := congrArg (List.drop (p.length + o.length)) hcut
      rw [← List.append_assoc, List.drop_left' (by simp), List.drop_take, List.drop_drop] at this
      rw [show e.cut.toNat - (p.length + o.length) = s.length from by omega] at this
      exact this
    by_cases hne : o ≠ [] ∨ w ≠ []
    · rw [if_pos hne, List.singleton_append]
      have hsc : scan x.length (e.at_ + p.length + o.length) (sqz x r) = 0 := scan_lower (by omega) i1
      refine ⟨?_, by simp; omega, ?_, fun f hf hfl => ?_, ?_⟩
      · rw [scan_one ⟨by simp only; omega, by simp only; omega⟩ ⟨by simp only; omega, by simp only; omega⟩ (by
          rintro ⟨q1, q2⟩
          simp only at q1 q2
          rcases hne with h | h
          · exact h (List.eq_nil_of_length_eq_zero (by omega))
          · exact h q2) (by simp only; omega)]
        exact hsc
      · simp only [cutS]; omega
      · rw [key f hf hfl, applyFrom]
        simp only
        rw [apply_skip x (g := (e.at_ + e.cut).toNat) (by omega) (by omega) (by omega) i1]
        have e1 : (e.at_ + p.length).toNat - f = (e.at_.toNat - f) + p.length := by omega
        have e2 : (e.at_ + (p.length : Int) + (o.length : Int)).toNat = e.at_.toNat + (p.length + o.length) := by omega
        have e3 : (e.at_ + e.cut).toNat - (e.at_.toNat + (p.length + o.length)) = s.length := by omega
        rw [e1, List.take_add, List.drop_drop, show f + (e.at_.toNat - f) = e.at_.toNat from by omega, hp, e2, e3, hps]
        simp
      · intro e' he'
        rcases List.mem_cons.1 he' with rfl | he'
        · exact ⟨e, List.mem_cons_self .., by simp only; omega⟩
        · obtain ⟨y, hy, hy2⟩ := i5 e' he'
          exact ⟨y, List.mem_cons_of_mem _ hy, hy2⟩
    · rw [if_neg hne, List.nil_append]
      have ho : o = [] := Classical.byContradiction fun h => hne (.inl h)
      have hw : w = [] := Classical.byContradiction fun h => hne (.inr h)
      subst ho hw
      refine ⟨scan_lower (by omega) i1, by simp; omega, by simp only [cutS]; omega, fun f hf hfl => ?_, ?_⟩
      · rw [key f hf hfl, apply_skip x (g := (e.at_ + e.cut).toNat) (by omega) (by omega) (by omega) i1]
        have e1 : (e.at_ + e.cut).toNat - f = (e.at_.toNat - f) + e.cut.toNat := by omega
        rw [e1, List.take_add, List.drop_drop, show f + (e.at_.toNat - f) = e.at_.toNat from by omega, hcut]
      · intro e' he'
        obtain ⟨y, hy, hy2⟩ := i5 e' he'
        exact ⟨y, List.mem_cons_of_mem _ hy, hy2⟩
end Go.S1N
end
section
namespace Go.S1N
open Go Go.Am Go.Proofs Go.S1
set_option maxRecDepth 100000
theorem ty94 : tab.ty 94 = some { td := .slice 22, size := 1, bytes := 24, zero := .slice none 0 0, eqok := false } := by kernel_rfl
theorem ix94r {b o m : Nat} {n : Int} (h0 : 0 ≤ n) (h1 : n < m) : aindexAddr tab 94 (.rs 1 b o m) (.int .i64 n) = some (.ptr b (o + n.toNat * 1)) := by
  simp [aindexAddr, ty94, Tab.size, ty22, h0, h1]
end Go.S1N
end
section
namespace Go.S1
open Go Go.Am Go.Proofs
set_option maxRecDepth 100000
noncomputable def L46 : LCode := .seq (.ops [⟨.assign (.const (.int .i64 0)), some 4, none⟩]) (.seq (.ops [⟨.move (.tmp 0), some 5, none⟩, ⟨.move (.tmp 1), some 6, none⟩, ⟨.call { callee := .value (.func 76), args := { toList := [.tmp 5, .tmp 6] }, argTypes := { toList := [9, 5] } }, some 7, none⟩, ⟨.assign (.tmp 7), some 4, none⟩]) .ret)
theorem l46 : Tryz.f46.body.map lighten = some L46 := by kernel_rfl
theorem rs46 : Tryz.f46.results.toList = [ResultVar.tmp 4] := by kernel_rfl
theorem nt46 : Tryz.f46.ntmps = 8 := by kernel_rfl
theorem gob46 {args : List AV} {s : AHeap} {R : AV → AHeap → Prop} (hl : args.length ≤ 8) (h : ∀ tm, tm.length = 8 → (∀ i, aev tm (.tmp i) = args.getD i aundef) → lvb Tryz.prog tab s L46 (lpostB tab s [ResultVar.tmp 4] R) tm (loc s 0 [])) : ACall Tryz.prog 46 args s R := ACall.goB tab_ok mixed Tryz.func46 l46 nm46 rs46 nt46 hl h
noncomputable def L76 : LCode := .seq (.ops [⟨.assign (.const (.int .i64 0)), some 4, none⟩]) (.seq (.ops [⟨.move (.tmp 0), some 5, none⟩, ⟨.move (.tmp 1), some 6, none⟩, ⟨.call { callee := .value (.func 100), args := { toList := [.tmp 5, .tmp 6] }, argTypes := { toList := [9, 5] } }, some 7, none⟩, ⟨.assign (.tmp 7), some 4, none⟩]) .ret)
theorem l76 : Tryz.f76.body.map lighten = some L76 := by kernel_rfl
theorem rs76 : Tryz.f76.results.toList = [ResultVar.tmp 4] := by kernel_rfl
theorem nt76 : Tryz.f76.ntmps = 8 := by kernel_rfl
theorem gob76 {args : List AV} {s : AHeap} {R : AV → AHeap → Prop} (hl : args.length ≤ 8) (h : ∀ tm, tm.length = 8 → (∀ i, aev tm (.tmp i) = args.getD i aundef) → lvb Tryz.prog tab s L76 (lpostB tab s [ResultVar.tmp 4] R) tm (loc s 0 [])) : ACall Tryz.prog 76 args s R := ACall.goB tab_ok mixed Tryz.func76 l76 nm76 rs76 nt76 hl h
end Go.S1
end
section
namespace Go.S1
open Go Go.Am Go.Proofs
set_option maxRecDepth 100000
noncomputable def L8 : LCode := .seq (.ops [⟨.assign (.const (.bool false)), some 2, none⟩]) (.seq (.ops [⟨.move (.tmp 0), some 17, none⟩, ⟨.build 25 { toList := [(0, .tmp 17)] }, some 18, none⟩, ⟨.box 25 (.tmp 18), some 19, none⟩, ⟨.assign (.tmp 19), some 3, none⟩]) (.seq (.ops [⟨.move (.tmp 3), some 20, none⟩, ⟨.call { callee := .value (.func 9), args := { toList := [.tmp 20, .const (.int .i64 10)] }, argTypes := { toList := [23, 3] } }, some 21, none⟩, ⟨.assign (.tmp 21), some 4, none⟩]) (.seq (.ops [⟨.move (.tmp 3), some 22, none⟩, ⟨.move (.tmp 4), some 23, none⟩, ⟨.call { callee := .builtin .len, args := { toList := [.tmp 23] }, argTypes := { toList := [9] } }, some 24, none⟩, ⟨.call { callee := .value (.func 10), args := { toList := [.tmp 22, .tmp 24] }, argTypes := { toList := [23, 3] } }, some 25, none⟩, ⟨.assign (.tmp 25), some 5, none⟩]) (.seq (.ops [⟨.move (.tmp 4), some 27, none⟩, ⟨.move (.tmp 5), some 28, none⟩, ⟨.call { callee := .value (.func 11), args := { toList := [.tmp 27, .tmp 28] }, argTypes := { toList := [9, 27] } }, some 29, none⟩, ⟨.move (.tmp 29), some 26, none⟩, ⟨.extract (.tmp 26) 0, some 30, none⟩, ⟨.extract (.tmp 26) 1, some 31, none⟩, ⟨.assign (.tmp 30), some 6, none⟩, ⟨.assign (.tmp 31), some 7, none⟩]) (.seq (.ops [⟨.move (.tmp 4), some 33, none⟩, ⟨.move (.tmp 6), some 34, none⟩, ⟨.call { callee := .value (.func 25), args := { toList := [.tmp 33, .tmp 34] }, argTypes := { toList := [9, 9] } }, some 35, none⟩, ⟨.move (.tmp 35), some 32, none⟩, ⟨.extract (.tmp 32) 0, some 36, none⟩, ⟨.extract (.tmp 32) 1, some 37, none⟩, ⟨.assign (.tmp 36), some 8, none⟩, ⟨.assign (.tmp 37), some 9, none⟩]) (.seq (.ops [⟨.move (.tmp 4), some 39, none⟩, ⟨.move (.tmp 8), some 40, none⟩, ⟨.call { callee := .value (.func 11), args := { toList := [.tmp 39, .tmp 40] }, argTypes := { toList := [9, 27] } }, some 41, none⟩, ⟨.move (.tmp 41), some 38, none⟩, ⟨.extract (.tmp 38) 0, some 42, none⟩, ⟨.extract (.tmp 38) 1, some 43, none⟩, ⟨.assign (.tmp 42), some 10, none⟩, ⟨.assign (.tmp 43), some 11, none⟩]) (.seq (.ops [⟨.move (.tmp 4), some 45, none⟩, ⟨.move (.tmp 5), some 46, none⟩, ⟨.call { callee := .value (.func 26), args := { toList := [.tmp 45, .tmp 46] }, argTypes := { toList := [9, 27] } }, some 47, none⟩, ⟨.move (.tmp 47), some 44, none⟩, ⟨.extract (.tmp 44) 0, some 48, none⟩, ⟨.extract (.tmp 44) 1, some 49, none⟩, ⟨.assign (.tmp 48), some 12, none⟩, ⟨.assign (.tmp 49), some 13, none⟩]) (.seq (.ops [⟨.move (.tmp 4), some 51, none⟩, ⟨.move (.tmp 12), some 52, none⟩, ⟨.call { callee := .value (.func 11), args := { toList := [.tmp 51, .tmp 52] }, argTypes := { toList := [9, 27] } }, some 53, none⟩, ⟨.move (.tmp 53), some 50, none⟩, ⟨.extract (.tmp 50) 0, some 54, none⟩, ⟨.extract (.tmp 50) 1, some 55, none⟩, ⟨.assign (.tmp 54), some 14, none⟩, ⟨.assign (.tmp 55), some 15, none⟩]) (.seq (.ops [⟨.move (.tmp 4), some 56, none⟩, ⟨.call { callee := .builtin .len, args := { toList := [.tmp 56] }, argTypes := { toList := [9] } }, some 57, none⟩, ⟨.assign (.tmp 57), some 16, none⟩]) (.seq (.ops [⟨.move (.tmp 7), some 58, none⟩, ⟨.move (.tmp 9), some 59, none⟩, ⟨.move (.tmp 11), some 60, none⟩, ⟨.move (.tmp 13), some 61, none⟩, ⟨.move (.tmp 15), some 62, none⟩, ⟨.buildSlice 58 5 { toList := [(0, .tmp 58), (1, .tmp 59), (2, .tmp 60), (3, .tmp 61), (4, .tmp 62)] }, some 63, none⟩, ⟨.call { callee := .value (.func 13), args := { toList := [.tmp 63] }, argTypes := { toList := [58] } }, some 64, none⟩, ⟨.binOp .eql 29 (.tmp 64) (.const (.int .i64 0)) 29, some 65, none⟩, ⟨.move (.tmp 65), some 66, none⟩, ⟨.move (.tmp 10), some 67, some (66, true)⟩, ⟨.move (.tmp 6), some 68, some (66, true)⟩, ⟨.binOp .eql 9 (.tmp 67) (.tmp 68) 9, some 69, some (66, true)⟩, ⟨.pick (.tmp 66) (.tmp 69) (.const (.bool false)), some 70, none⟩, ⟨.move (.tmp 70), some 71, none⟩, ⟨.move (.tmp 14), some 72, some (71, true)⟩, ⟨.move (.tmp 6), some 73, some (71, true)⟩, ⟨.binOp .eql 9 (.tmp 72) (.tmp 73) 9, some 74, some (71, true)⟩, ⟨.pick (.tmp 71) (.tmp 74) (.const (.bool false)), some 75, none⟩, ⟨.move (.tmp 75), some 76, none⟩, ⟨.move (.tmp 16), some 77, some (76, true)⟩, ⟨.move (.tmp 8), some 78, some (76, true)⟩, ⟨.call { callee := .value (.func 27), args := { toList := [.tmp 77, .tmp 78] }, argTypes := { toList := [3, 27] } }, some 79, some (76, true)⟩, ⟨.move (.tmp 16), some 80, some (76, true)⟩, ⟨.move (.tmp 5), some 81, some (76, true)⟩, ⟨.call { callee := .value (.func 27), args := { toList := [.tmp 80, .tmp 81] }, argTypes := { toList := [3, 27] } }, some 82, some (76, true)⟩, ⟨.binOp .geq 3 (.tmp 79) (.tmp 82) 3, some 83, some (76, true)⟩, ⟨.pick (.tmp 76) (.tmp 83) (.const (.bool false)), some 84, none⟩, ⟨.move (.tmp 84), some 85, none⟩, ⟨.move (.tmp 16), some 86, some (85, true)⟩, ⟨.move (.tmp 12), some 87, some (85, true)⟩, ⟨.call { callee := .value (.func 27), args := { toList := [.tmp 86, .tmp 87] }, argTypes := { toList := [3, 27] } }, some 88, some (85, true)⟩, ⟨.move (.tmp 16), some 89, some (85, true)⟩, ⟨.move (.tmp 5), some 90, some (85, true)⟩, ⟨.call { callee := .value (.func 27), args := { toList := [.tmp 89, .tmp 90] }, argTypes := { toList := [3, 27] } }, some 91, some (85, true)⟩, ⟨.binOp .geq 3 (.tmp 88) (.tmp 91) 3, some 92, some (85, true)⟩, ⟨.pick (.tmp 85) (.tmp 92) (.const (.bool false)), some 93, none⟩, ⟨.move (.tmp 93), some 94, none⟩, ⟨.move (.tmp 16), some 95, some (94, true)⟩, ⟨.move (.tmp 8), some 96, some (94, true)⟩, ⟨.call { callee := .value (.func 27), args := { toList := [.tmp 95, .tmp 96] }, argTypes := { toList := [3, 27] } }, some 97, some (94, true)⟩, ⟨.move (.tmp 16), some 98, some (94, true)⟩, ⟨.move (.tmp 12), some 99, some (94, true)⟩, ⟨.call { callee := .value (.func 27), args := { toList := [.tmp 98, .tmp 99] }, argTypes := { toList := [3, 27] } }, some 100, some (94, true)⟩, ⟨.binOp .geq 3 (.tmp 97) (.tmp 100) 3, some 101, some (94, true)⟩, ⟨.pick (.tmp 94) (.tmp 101) (.const (.bool false)), some 102, none⟩, ⟨.move (.tmp 102), some 103, none⟩, ⟨.call { callee := .value (.func 15), args := { toList := [] }, argTypes := { toList := [] } }, some 104, some (103, true)⟩, ⟨.pick (.tmp 103) (.tmp 104) (.const (.bool false)), some 105, none⟩, ⟨.assign (.tmp 105), some 2, none⟩]) .ret))))))))))
theorem l8 : Tryz.f8.body.map lighten = some L8 := by kernel_rfl
theorem rs8 : Tryz.f8.results.toList = [ResultVar.tmp 2] := by kernel_rfl
theorem nt8 : Tryz.f8.ntmps = 106 := by kernel_rfl
theorem gob8 {args : List AV} {s : AHeap} {R : AV → AHeap → Prop} (hl : args.length ≤ 106) (h : ∀ tm, tm.length = 106 → (∀ i, aev tm (.tmp i) = args.getD i aundef) → lvb Tryz.prog tab s L8 (lpostB tab s [ResultVar.tmp 2] R) tm (loc s 0 [])) : ACall Tryz.prog 8 args s R := ACall.goB tab_ok mixed Tryz.func8 l8 nm8 rs8 nt8 hl h
noncomputable def L10 : LCode := .seq (.ops [⟨.assign (.const (.slice none 0 0)), some 4, none⟩]) (.seq (.seq (.ops [⟨.move (.const (.int .i64 0)), some 6, none⟩]) (.block 0 (.loop (.seq (.ops [⟨.binOp .lss 3 (.tmp 6) (.const (.int .i64 5)) 3, some 7, none⟩]) (.seq (.cond (.tmp 7) .skip (.exit 0)) (.seq (.block 1 (.seq (.ops [⟨.move (.tmp 0), some 8, none⟩, ⟨.move (.tmp 1), some 9, none⟩, ⟨.call { callee := .value (.func 29), args := { toList := [.tmp 8, .tmp 9] }, argTypes := { toList := [23, 3] } }, some 10, none⟩, ⟨.assign (.tmp 10), some 5, none⟩]) (.seq (.ops [⟨.move (.tmp 1), some 11, none⟩, ⟨.move (.tmp 5), some 12, none⟩, ⟨.call { callee := .value (.func 30), args := { toList := [.tmp 11, .tmp 12] }, argTypes := { toList := [3, 27] } }, some 13, none⟩, ⟨.binOp .eql 29 (.tmp 13) (.const (.int .i64 0)) 29, some 14, none⟩]) (.cond (.tmp 14) (.seq (.ops [⟨.move (.tmp 5), some 15, none⟩, ⟨.assign (.tmp 15), some 4, none⟩]) .ret) .skip)))) (.ops [⟨.binOp .add 3 (.tmp 6) (.const (.int .i64 1)) 3, some 16, none⟩, ⟨.move (.tmp 16), some 6, none⟩]))))))) (.seq (.ops [⟨.assign (.const (.slice none 0 0)), some 4, none⟩]) .ret))
theorem l10 : Tryz.f10.body.map lighten = some L10 := by kernel_rfl
theorem rs10 : Tryz.f10.results.toList = [ResultVar.tmp 4] := by kernel_rfl
theorem nt10 : Tryz.f10.ntmps = 17 := by kernel_rfl
theorem gob10 {args : List AV} {s : AHeap} {R : AV → AHeap → Prop} (hl : args.length ≤ 17) (h : ∀ tm, tm.length = 17 → (∀ i, aev tm (.tmp i) = args.getD i aundef) → lvb Tryz.prog tab s L10 (lpostB tab s [ResultVar.tmp 4] R) tm (loc s 0 [])) : ACall Tryz.prog 10 args s R := ACall.goB tab_ok mixed Tryz.func10 l10 nm10 rs10 nt10 hl h
noncomputable def L25 : LCode := .seq (.ops [⟨.assign (.const (.slice none 0 0)), some 4, none⟩, ⟨.assign (.const (.int .i64 0)), some 5, none⟩]) (.seq (.seq (.ops [⟨.move (.tmp 0), some 11, none⟩, ⟨.call { callee := .builtin .len, args := { toList := [.tmp 11] }, argTypes := { toList := [9] } }, some 12, none⟩, ⟨.binOp .gtr 3 (.tmp 12) (.const (.int .i64 1000)) 3, some 13, none⟩, ⟨.move (.tmp 13), some 14, none⟩, ⟨.move (.tmp 1), some 15, some (14, false)⟩, ⟨.call { callee := .builtin .len, args := { toList := [.tmp 15] }, argTypes := { toList := [9] } }, some 16, some (14, false)⟩, ⟨.binOp .gtr 3 (.tmp 16) (.const (.int .i64 1000)) 3, some 17, some (14, false)⟩, ⟨.pick (.tmp 14) (.const (.bool true)) (.tmp 17), some 18, none⟩]) (.cond (.tmp 18) (.seq (.ops [⟨.assign (.const (.slice none 0 0)), some 4, none⟩, ⟨.assign (.const (.int .i64 2)), some 5, none⟩]) .ret) .skip)) (.seq (.ops [⟨.move (.tmp 0), some 19, none⟩, ⟨.move (.tmp 1), some 20, none⟩, ⟨.call { callee := .value (.func 45), args := { toList := [.tmp 19, .tmp 20] }, argTypes := { toList := [9, 9] } }, some 21, none⟩, ⟨.assign (.tmp 21), some 6, none⟩]) (.seq (.ops [⟨.assign (.const (.slice none 0 0)), some 7, none⟩]) (.seq (.ops [⟨.assign (.const (.int .i64 0)), some 8, none⟩, ⟨.assign (.const (.int .i64 0)), some 9, none⟩]) (.seq (.block 0 (.loop (.seq (.seq (.ops [⟨.move (.tmp 6), some 22, none⟩, ⟨.move (.tmp 8), some 23, none⟩, ⟨.indexAddr 94 (.tmp 22) (.tmp 23), some 24, none⟩, ⟨.load 22 (.tmp 24), some 25, none⟩, ⟨.move (.tmp 9), some 26, none⟩, ⟨.indexAddr 22 (.tmp 25) (.tmp 26), some 27, none⟩, ⟨.load 3 (.tmp 27), some 28, none⟩, ⟨.binOp .gtr 3 (.tmp 28) (.const (.int .i64 0)) 3, some 29, none⟩]) (.cond (.tmp 29) .skip (.exit 0))) (.block 1 (.seq (.draw [0, 0, 3, 0, 0, 24, 63, 127] [⟨.move (.tmp 1), some 30, none⟩, ⟨.move (.tmp 9), some 31, none⟩, ⟨.slice 9 (.tmp 30) (some (.tmp 31)) none none, some 32, none⟩, ⟨.move (.tmp 0), some 33, none⟩, ⟨.move (.tmp 8), some 34, none⟩, ⟨.index 9 (.tmp 33) (.tmp 34), some 35, none⟩, ⟨.call { callee := .value (.func 46), args := { toList := [.tmp 32, .tmp 35] }, argTypes := { toList := [9, 5] } }, some 36, none⟩, ⟨.assign (.tmp 36), some 10, none⟩]) (.seq (.seq (.draw [0, 1, 3, 7, 7, 23, 63, 127, 7, 7, 775, 1799, 4095, 8191, 7, 7, 49159, 114695, 7, 507911, 1032199, 2080775, 4194303, 8388607] [⟨.move (.tmp 10), some 37, none⟩, ⟨.binOp .lss 3 (.tmp 37) (.const (.int .i64 0)) 3, some 38, none⟩, ⟨.move (.tmp 38), some 39, none⟩, ⟨.move (.tmp 6), some 40, some (39, false)⟩, ⟨.move (.tmp 8), some 41, some (39, false)⟩, ⟨.binOp .add 3 (.tmp 41) (.const (.int .i64 1)) 3, some 42, some (39, false)⟩, ⟨.indexAddr 94 (.tmp 40) (.tmp 42), some 43, some (39, false)⟩, ⟨.load 22 (.tmp 43), some 44, some (39, false)⟩, ⟨.move (.tmp 9), some 45, some (39, false)⟩, ⟨.move (.tmp 10), some 46, some (39, false)⟩, ⟨.binOp .add 3 (.tmp 45) (.tmp 46) 3, some 47, some (39, false)⟩, ⟨.binOp .add 3 (.tmp 47) (.const (.int .i64 1)) 3, some 48, some (39, false)⟩, ⟨.indexAddr 22 (.tmp 44) (.tmp 48), some 49, some (39, false)⟩, ⟨.load 3 (.tmp 49), some 50, some (39, false)⟩, ⟨.move (.tmp 6), some 51, some (39, false)⟩, ⟨.move (.tmp 8), some 52, some (39, false)⟩, ⟨.indexAddr 94 (.tmp 51) (.tmp 52), some 53, some (39, false)⟩, ⟨.load 22 (.tmp 53), some 54, some (39, false)⟩, ⟨.move (.tmp 9), some 55, some (39, false)⟩, ⟨.indexAddr 22 (.tmp 54) (.tmp 55), some 56, some (39, false)⟩, ⟨.load 3 (.tmp 56), some 57, some (39, false)⟩, ⟨.binOp .sub 3 (.tmp 57) (.const (.int .i64 1)) 3, some 58, some (39, false)⟩, ⟨.binOp .neq 3 (.tmp 50) (.tmp 58) 3, some 59, some (39, false)⟩, ⟨.pick (.tmp 39) (.const (.bool true)) (.tmp 59), some 60, none⟩]) (.cond (.tmp 60) (.seq (.ops [⟨.move (.tmp 8), some 61, none⟩, ⟨.binOp .add 3 (.tmp 61) (.const (.int .i64 1)) 3, some 62, none⟩, ⟨.assign (.tmp 62), some 8, none⟩]) (.exit 1)) .skip)) (.seq (.ops [⟨.move (.tmp 7), some 63, none⟩, ⟨.move (.tmp 1), some 64, none⟩, ⟨.move (.tmp 9), some 65, none⟩, ⟨.move (.tmp 9), some 66, none⟩, ⟨.move (.tmp 10), some 67, none⟩, ⟨.binOp .add 3 (.tmp 66) (.tmp 67) 3, some 68, none⟩, ⟨.slice 9 (.tmp 64) (some (.tmp 65)) (some (.tmp 68)) none, some 69, none⟩, ⟨.call { callee := .value (.func 47), args := { toList := [.tmp 69] }, argTypes := { toList := [9] } }, some 70, none⟩, ⟨.move (.tmp 8), some 71, none⟩, ⟨.call { callee := .value (.func 48), args := { toList := [.tmp 71, .const (.int .i64 1)] }, argTypes := { toList := [3, 3] } }, some 72, none⟩, ⟨.buildSlice 89 2 { toList := [(0, .tmp 70), (1, .tmp 72)] }, some 73, none⟩, ⟨.call { callee := .builtin .append, args := { toList := [.tmp 63, .tmp 73] }, argTypes := { toList := [89, 89] } }, some 74, none⟩, ⟨.assign (.tmp 74), some 7, none⟩]) (.ops [⟨.move (.tmp 8), some 75, none⟩, ⟨.binOp .add 3 (.tmp 75) (.const (.int .i64 1)) 3, some 76, none⟩, ⟨.move (.tmp 9), some 77, none⟩, ⟨.move (.tmp 10), some 78, none⟩, ⟨.binOp .add 3 (.tmp 77) (.tmp 78) 3, some 79, none⟩, ⟨.binOp .add 3 (.tmp 79) (.const (.int .i64 1)) 3, some 80, none⟩, ⟨.assign (.tmp 76), some 8, none⟩, ⟨.assign (.tmp 80), some 9, none⟩])))))))) (.seq (.ops [⟨.move (.tmp 0), some 81, none⟩, ⟨.call { callee := .builtin .len, args := { toList := [.tmp 81] }, argTypes := { toList := [9] } }, some 82, none⟩, ⟨.move (.tmp 7), some 83, none⟩, ⟨.move (.tmp 1), some 84, none⟩, ⟨.move (.tmp 9), some 85, none⟩, ⟨.slice 9 (.tmp 84) (some (.tmp 85)) none none, some 86, none⟩, ⟨.call { callee := .value (.func 47), args := { toList := [.tmp 86] }, argTypes := { toList := [9] } }, some 87, none⟩, ⟨.buildSlice 89 1 { toList := [(0, .tmp 87)] }, some 88, none⟩, ⟨.call { callee := .builtin .append, args := { toList := [.tmp 83, .tmp 88] }, argTypes := { toList := [89, 89] } }, some 89, none⟩, ⟨.call { callee := .value (.func 44), args := { toList := [.tmp 82, .tmp 89] }, argTypes := { toList := [3, 89] } }, some 90, none⟩, ⟨.assign (.tmp 90), some 4, none⟩, ⟨.assign (.const (.int .i64 0)), some 5, none⟩]) .ret))))))
theorem l25 : Tryz.f25.body.map lighten = some L25 := by kernel_rfl
theorem rs25 : Tryz.f25.results.toList = [ResultVar.tmp 4, ResultVar.tmp 5] := by kernel_rfl
theorem nt25 : Tryz.f25.ntmps = 91 := by kernel_rfl
theorem gob25 {args : List AV} {s : AHeap} {R : AV → AHeap → Prop} (hl : args.length ≤ 91) (h : ∀ tm, tm.length = 91 → (∀ i, aev tm (.tmp i) = args.getD i aundef) → lvb Tryz.prog tab s L25 (lpostB tab s [ResultVar.tmp 4, ResultVar.tmp 5] R) tm (loc s 0 [])) : ACall Tryz.prog 25 args s R := ACall.goB tab_ok mixed Tryz.func25 l25 nm25 rs25 nt25 hl h
noncomputable def L27 : LCode := .seq (.ops [⟨.assign (.const (.int .i64 0)), some 4, none⟩]) (.seq (.seq (.ops [⟨.move (.tmp 1), some 7, none⟩, ⟨.call { callee := .builtin .len, args := { toList := [.tmp 7] }, argTypes := { toList := [27] } }, some 8, none⟩, ⟨.move (.const (.int .i64 0)), some 9, none⟩]) (.block 0 (.loop (.seq (.ops [⟨.binOp .lss 3 (.tmp 9) (.tmp 8) 3, some 10, none⟩]) (.seq (.cond (.tmp 10) .skip (.exit 0)) (.seq (.block 1 (.seq (.ops [⟨.indexAddr 27 (.tmp 7) (.tmp 9), some 11, none⟩, ⟨.load 37 (.tmp 11), some 12, none⟩, ⟨.alloc 37, some 6, none⟩, ⟨.store 37 (.tmp 6) (.tmp 12), none, none⟩]) (.ops [⟨.move (.tmp 0), some 13, none⟩, ⟨.fieldAddr 37 (.tmp 6) 1, some 14, none⟩, ⟨.load 3 (.tmp 14), some 15, none⟩, ⟨.binOp .sub 3 (.tmp 13) (.tmp 15) 3, some 16, none⟩, ⟨.assign (.tmp 16), some 0, none⟩]))) (.ops [⟨.binOp .add 3 (.tmp 9) (.const (.int .i64 1)) 3, some 17, none⟩, ⟨.move (.tmp 17), some 9, none⟩]))))))) (.seq (.ops [⟨.move (.tmp 0), some 18, none⟩, ⟨.assign (.tmp 18), some 4, none⟩]) .ret))
theorem l27 : Tryz.f27.body.map lighten = some L27 := by kernel_rfl
theorem rs27 : Tryz.f27.results.toList = [ResultVar.tmp 4] := by kernel_rfl
theorem nt27 : Tryz.f27.ntmps = 19 := by kernel_rfl
theorem gob27 {args : List AV} {s : AHeap} {R : AV → AHeap → Prop} (hl : args.length ≤ 19) (h : ∀ tm, tm.length = 19 → (∀ i, aev tm (.tmp i) = args.getD i aundef) → lvb Tryz.prog tab s L27 (lpostB tab s [ResultVar.tmp 4] R) tm (loc s 0 [])) : ACall Tryz.prog 27 args s R := ACall.goB tab_ok mixed Tryz.func27 l27 nm27 rs27 nt27 hl h
noncomputable def L45 : LCode := .seq (.ops [⟨.assign (.const (.slice none 0 0)), some 4, none⟩]) (.seq (.ops [⟨.move (.tmp 0), some 8, none⟩, ⟨.call { callee := .builtin .len, args := { toList := [.tmp 8] }, argTypes := { toList := [9] } }, some 9, none⟩, ⟨.binOp .add 3 (.tmp 9) (.const (.int .i64 1)) 3, some 10, none⟩, ⟨.makeSlice 94 (.tmp 10) (.tmp 10), some 11, none⟩, ⟨.assign (.tmp 11), some 5, none⟩]) (.seq (.ops [⟨.move (.tmp 5), some 12, none⟩, ⟨.move (.tmp 0), some 13, none⟩, ⟨.call { callee := .builtin .len, args := { toList := [.tmp 13] }, argTypes := { toList := [9] } }, some 14, none⟩, ⟨.move (.tmp 1), some 15, none⟩, ⟨.call { callee := .builtin .len, args := { toList := [.tmp 15] }, argTypes := { toList := [9] } }, some 16, none⟩, ⟨.binOp .add 3 (.tmp 16) (.const (.int .i64 1)) 3, some 17, none⟩, ⟨.makeSlice 22 (.tmp 17) (.tmp 17), some 18, none⟩, ⟨.indexAddr 94 (.tmp 12) (.tmp 14), some 19, none⟩, ⟨.store 22 (.tmp 19) (.tmp 18), none, none⟩]) (.seq (.seq (.ops [⟨.move (.tmp 0), some 20, none⟩, ⟨.call { callee := .builtin .len, args := { toList := [.tmp 20] }, argTypes := { toList := [9] } }, some 21, none⟩, ⟨.binOp .sub 3 (.tmp 21) (.const (.int .i64 1)) 3, some 22, none⟩, ⟨.assign (.tmp 22), some 6, none⟩]) (.block 0 (.loop (.seq (.seq (.ops [⟨.move (.tmp 6), some 23, none⟩, ⟨.binOp .geq 3 (.tmp 23) (.const (.int .i64 0)) 3, some 24, none⟩]) (.cond (.tmp 24) .skip (.exit 0))) (.seq (.block 1 (.seq (.ops [⟨.move (.tmp 5), some 27, none⟩, ⟨.move (.tmp 6), some 28, none⟩, ⟨.move (.tmp 1), some 29, none⟩, ⟨.call { callee := .builtin .len, args := { toList := [.tmp 29] }, argTypes := { toList := [9] } }, some 30, none⟩, ⟨.binOp .add 3 (.tmp 30) (.const (.int .i64 1)) 3, some 31, none⟩, ⟨.makeSlice 22 (.tmp 31) (.tmp 31), some 32, none⟩, ⟨.indexAddr 94 (.tmp 27) (.tmp 28), some 33, none⟩, ⟨.store 22 (.tmp 33) (.tmp 32), none, none⟩]) (.seq (.ops [⟨.move (.tmp 1), some 34, none⟩, ⟨.call { callee := .builtin .len, args := { toList := [.tmp 34] }, argTypes := { toList := [9] } }, some 35, none⟩, ⟨.binOp .sub 3 (.tmp 35) (.const (.int .i64 1)) 3, some 36, none⟩, ⟨.assign (.tmp 36), some 7, none⟩]) (.block 2 (.loop (.seq (.seq (.ops [⟨.move (.tmp 7), some 37, none⟩, ⟨.binOp .geq 3 (.tmp 37) (.const (.int .i64 0)) 3, some 38, none⟩]) (.cond (.tmp 38) .skip (.exit 2))) (.seq (.block 3 (.seq (.draw [0, 0, 3, 0, 0, 24, 63] [⟨.move (.tmp 0), some 41, none⟩, ⟨.move (.tmp 6), some 42, none⟩, ⟨.index 9 (.tmp 41) (.tmp 42), some 43, none⟩, ⟨.move (.tmp 1), some 44, none⟩, ⟨.move (.tmp 7), some 45, none⟩, ⟨.index 9 (.tmp 44) (.tmp 45), some 46, none⟩, ⟨.binOp .eql 5 (.tmp 43) (.tmp 46) 5, some 47, none⟩]) (.cond (.tmp 47) (.draw [0, 0, 3, 7, 0, 0, 0, 64, 224, 480, 0, 1024, 4064, 8160, 16352, 32767, 65535] [⟨.move (.tmp 5), some 48, none⟩, ⟨.move (.tmp 6), some 49, none⟩, ⟨.indexAddr 94 (.tmp 48) (.tmp 49), some 50, none⟩, ⟨.load 22 (.tmp 50), some 51, none⟩, ⟨.move (.tmp 7), some 52, none⟩, ⟨.move (.tmp 5), some 53, none⟩, ⟨.move (.tmp 6), some 54, none⟩, ⟨.binOp .add 3 (.tmp 54) (.const (.int .i64 1)) 3, some 55, none⟩, ⟨.indexAddr 94 (.tmp 53) (.tmp 55), some 56, none⟩, ⟨.load 22 (.tmp 56), some 57, none⟩, ⟨.move (.tmp 7), some 58, none⟩, ⟨.binOp .add 3 (.tmp 58) (.const (.int .i64 1)) 3, some 59, none⟩, ⟨.indexAddr 22 (.tmp 57) (.tmp 59), some 60, none⟩, ⟨.load 3 (.tmp 60), some 61, none⟩, ⟨.binOp .add 3 (.tmp 61) (.const (.int .i64 1)) 3, some 62, none⟩, ⟨.indexAddr 22 (.tmp 51) (.tmp 52), some 63, none⟩, ⟨.store 3 (.tmp 63) (.tmp 62), none, none⟩]) (.draw [0, 0, 3, 7, 0, 0, 0, 64, 224, 480, 0, 2016, 4064, 0, 0, 24576, 57344, 0, 131072, 516096, 1040384, 2097120, 4194303, 8388607] [⟨.move (.tmp 5), some 64, none⟩, ⟨.move (.tmp 6), some 65, none⟩, ⟨.indexAddr 94 (.tmp 64) (.tmp 65), some 66, none⟩, ⟨.load 22 (.tmp 66), some 67, none⟩, ⟨.move (.tmp 7), some 68, none⟩, ⟨.move (.tmp 5), some 69, none⟩, ⟨.move (.tmp 6), some 70, none⟩, ⟨.binOp .add 3 (.tmp 70) (.const (.int .i64 1)) 3, some 71, none⟩, ⟨.indexAddr 94 (.tmp 69) (.tmp 71), some 72, none⟩, ⟨.load 22 (.tmp 72), some 73, none⟩, ⟨.move (.tmp 7), some 74, none⟩, ⟨.indexAddr 22 (.tmp 73) (.tmp 74), some 75, none⟩, ⟨.load 3 (.tmp 75), some 76, none⟩, ⟨.move (.tmp 5), some 77, none⟩, ⟨.move (.tmp 6), some 78, none⟩, ⟨.indexAddr 94 (.tmp 77) (.tmp 78), some 79, none⟩, ⟨.load 22 (.tmp 79), some 80, none⟩, ⟨.move (.tmp 7), some 81, none⟩, ⟨.binOp .add 3 (.tmp 81) (.const (.int .i64 1)) 3, some 82, none⟩, ⟨.indexAddr 22 (.tmp 80) (.tmp 82), some 83, none⟩, ⟨.load 3 (.tmp 83), some 84, none⟩, ⟨.call { callee := .builtin .max, args := { toList := [.tmp 76, .tmp 84] }, argTypes := { toList := [3, 3] } }, some 85, none⟩, ⟨.indexAddr 22 (.tmp 67) (.tmp 68), some 86, none⟩, ⟨.store 3 (.tmp 86) (.tmp 85), none, none⟩])))) (.ops [⟨.move (.tmp 7), some 39, none⟩, ⟨.binOp .sub 3 (.tmp 39) (.const (.int .i64 1)) 3, some 40, none⟩, ⟨.assign (.tmp 40), some 7, none⟩])))))))) (.ops [⟨.move (.tmp 6), some 25, none⟩, ⟨.binOp .sub 3 (.tmp 25) (.const (.int .i64 1)) 3, some 26, none⟩, ⟨.assign (.tmp 26), some 6, none⟩])))))) (.seq (.ops [⟨.move (.tmp 5), some 87, none⟩, ⟨.assign (.tmp 87), some 4, none⟩]) .ret))))
theorem l45 : Tryz.f45.body.map lighten = some L45 := by kernel_rfl
theorem rs45 : Tryz.f45.results.toList = [ResultVar.tmp 4] := by kernel_rfl
theorem nt45 : Tryz.f45.ntmps = 88 := by kernel_rfl
theorem gob45 {args : List AV} {s : AHeap} {R : AV → AHeap → Prop} (hl : args.length ≤ 88) (h : ∀ tm, tm.length = 88 → (∀ i, aev tm (.tmp i) = args.getD i aundef) → lvb Tryz.prog tab s L45 (lpostB tab s [ResultVar.tmp 4] R) tm (loc s 0 [])) : ACall Tryz.prog 45 args s R := ACall.goB tab_ok mixed Tryz.func45 l45 nm45 rs45 nt45 hl h
end Go.S1
end
section
namespace Go.S1N
open Go Go.Am Go.Proofs Go.S1
set_option maxRecDepth 100000
attribute [local irreducible] lopsB lvb lstepB lfunG lcondB lguardB ldrawB ldrunB ldstepB ldguardB lmem lval ldmem ldval ldfun lexit ldloadB ldlenB lpostB athen ablock
def val (a b : List UInt8) (i k : Nat) : AV := .int .i64 (lcs (a.drop i) (b.drop k) : Nat)
def rowL (a b : List UInt8) (i : Nat) : List AV := (List.range' 0 (b.length + 1)).map (val a b i)
def rowV (a b : List UInt8) (i : Nat) : AV := .vs 1 false (rowL a b i)
def rowC (a b : List UInt8) (i k : Nat) : List AV := List.replicate k (.int .i64 0) ++ (List.range' k (b.length + 1 - k)).map (val a b i)
def outC (a b : List UInt8) (i : Nat) : List AV := List.replicate i .nils ++ (List.range' i (a.length + 1 - i)).map (rowV a b)
def outN (a b : List UInt8) (i c : Nat) : List AV := List.replicate i .nils ++ .rs 1 c 0 (b.length + 1) :: (List.range' (i + 1) (a.length - i)).map (rowV a b)
def tabV (a b : List UInt8) : AV := .vs 1 false (outC a b 0)
theorem rowL_len (a b : List UInt8) (i : Nat) : (rowL a b i).length = b.length + 1 := by simp [rowL]
theorem rowC_zero (a b : List UInt8) (i : Nat) : rowC a b i 0 = rowL a b i := by simp [rowC, rowL]
theorem rowC_len (a b : List UInt8) (i k : Nat) (h : k ≤ b.length + 1) : (rowC a b i k).length = b.length + 1 := by simp [rowC]; omega
theorem outC_len (a b : List UInt8) (i : Nat) (h : i ≤ a.length + 1) : (outC a b i).length = a.length + 1 := by simp [outC]; omega
theorem outC_last (a b : List UInt8) : outC a b (a.length + 1) = List.replicate (a.length + 1) .nils := by simp [outC]
theorem outC_set (a b : List UInt8) (i c : Nat) : (outC a b (i + 1)).set i (.rs 1 c 0 (b.length + 1)) = outN a b i c := by
  unfold outC outN
  rw [List.replicate_succ', List.append_assoc, List.set_append_right _ _ (by simp), List.length_replicate, Nat.sub_self, show a.length + 1 - (i + 1) = a.length - i from by omega]
  rfl
theorem val_last (a b : List UInt8) (i : Nat) : val a b i b.length = .int .i64 0 := by
  unfold val; rw [List.drop_length, lcs_n2]; rfl
theorem val_low (a b : List UInt8) (k : Nat) : val a b a.length k = .int .i64 0 := by
  unfold val; rw [List.drop_length, lcs_n1]; rfl
theorem row_start (a b : List UInt8) (i : Nat) : List.replicate (b.length + 1) (.int .i64 0) = rowC a b i b.length := by
  unfold rowC
  rw [show b.length + 1 - b.length = 1 from by omega, List.replicate_succ']
  simp [val_last]
theorem row_low (a b : List UInt8) : List.replicate (b.length + 1) (.int .i64 0) = rowL a b a.length := by
  unfold rowL
  symm
  rw [List.eq_replicate_iff]
  refine ⟨by simp, fun x hx => ?_⟩
  obtain ⟨k, _, rfl⟩ := List.mem_map.1 hx
  exact val_low a b k
theorem rowC_set (a b : List UInt8) (i k : Nat) (h : k ≤ b.length) : (rowC a b i (k + 1)).set k (val a b i k) = rowC a b i k := by
  unfold rowC
  rw [List.replicate_succ', List.append_assoc, List.set_append_right _ _ (by simp), List.length_replicate, Nat.sub_self]
  have : List.range' k (b.length + 1 - k) = k :: List.range' (k + 1) (b.length + 1 - (k + 1)) := by
    rw [show b.length + 1 - k = (b.length + 1 - (k + 1)) + 1 from by omega, List.range'_succ]
  rw [this]
  rfl
theorem rowC_get (a b : List UInt8) (i k j : Nat) (h : k ≤ j) (hj : j ≤ b.length) : ((rowC a b i k).drop j)[0]? = some (val a b i j) := by
  rw [List.getElem?_drop, Nat.add_zero]
  unfold rowC
  rw [List.getElem?_append_right (by simpa using h), List.length_replicate, List.getElem?_map, List.getElem?_range' (by omega)]
  simp; congr 1; omega
theorem rowL_get (a b : List UInt8) (i j : Nat) (hj : j ≤ b.length) : (rowL a b i)[j]? = some (val a b i j) := by
  unfold rowL
  rw [List.getElem?_map, List.getElem?_range' (by omega)]
  simp
theorem outC_get (a b : List UInt8) (i j : Nat) (h : i ≤ j) (hj : j ≤ a.length) : (outC a b i)[j]? = some (rowV a b j) := by
  unfold outC
  rw [List.getElem?_append_right (by simpa using h), List.length_replicate, List.getElem?_map, List.getElem?_range' (by omega)]
  simp; congr 1; omega
theorem outN_own (a b : List UInt8) (i c : Nat) : ((outN a b i c).drop i)[0]? = some (.rs 1 c 0 (b.length + 1)) := by
  rw [List.getElem?_drop, Nat.add_zero]
  unfold outN
  rw [List.getElem?_append_right (by simp), List.length_replicate, Nat.sub_self]
  rfl
theorem outN_next (a b : List UInt8) (i c : Nat) (hi : i < a.length) : ((outN a b i c).drop (i + 1))[0]? = some (rowV a b (i + 1)) := by
  rw [List.getElem?_drop, Nat.add_zero]
  unfold outN
  rw [List.getElem?_append_right (by simp), List.length_replicate, show i + 1 - i = 1 from by omega, List.getElem?_cons_succ, List.getElem?_map, List.getElem?_range' (by omega)]
  simp
theorem val_pu (a b : List UInt8) (i k : Nat) : low 0 (val a b i k) := by simp only [val, low]
theorem rowL_pu (a b : List UInt8) (i : Nat) : lowL 0 (rowL a b i) := by
  rw [lowL_iff]; intro x hx
  obtain ⟨k, _, rfl⟩ := List.mem_map.1 hx
  exact val_pu a b i k
theorem rowC_pu (a b : List UInt8) (i k : Nat) : lowL 0 (rowC a b i k) := by
  unfold rowC
  rw [lowL_append, lowL_iff, lowL_iff]
  exact ⟨fun x hx => by rw [(List.mem_replicate.1 hx).2]; simp only [low], fun x hx => by obtain ⟨k, _, rfl⟩ := List.mem_map.1 hx; exact val_pu a b i k⟩
theorem rowV_pu (a b : List UInt8) (i : Nat) : low 0 (rowV a b i) := by simp only [rowV, low]; exact rowL_pu a b i
theorem rows_pu (a b : List UInt8) (l : List Nat) : lowL 0 (l.map (rowV a b)) := by
  rw [lowL_iff]; intro x hx
  obtain ⟨k, _, rfl⟩ := List.mem_map.1 hx
  exact rowV_pu a b k
theorem nils_pu (n : Nat) : lowL 0 (List.replicate n AV.nils) := by
  rw [lowL_iff]; intro x hx; rw [(List.mem_replicate.1 hx).2]; simp only [low]
theorem outC_pu (a b : List UInt8) (i : Nat) : lowL 0 (outC a b i) := by
  unfold outC; rw [lowL_append]; exact ⟨nils_pu i, rows_pu a b _⟩
theorem outN_done (a b : List UInt8) (i c : Nat) (hi : i ≤ a.length) : fzL c 1 (rowL a b i) (outN a b i c) = outC a b i := by
  unfold outN outC
  rw [fzL_append, fzL_pu (nils_pu i)]
  congr 1
  have e : List.range' i (a.length + 1 - i) = i :: List.range' (i + 1) (a.length - i) := by
    rw [show a.length + 1 - i = (a.length - i) + 1 from by omega, List.range'_succ]
  rw [e, List.map_cons, fzL, fzL_pu (rows_pu a b _)]
  congr 1
  simp only [fz]
  rw [if_pos ⟨trivial, trivial, trivial, (rowL_len a b i).symm⟩]
  rfl
theorem outN_ren (a b : List UInt8) (i c : Nat) (f : Nat → Nat) : renL f (outN a b i c) = outN a b i (f c) := by
  unfold outN
  rw [renL_append, renL_pu (nils_pu i)]
  simp only [renL, ren]
  rw [renL_pu (rows_pu a b _)]
theorem ints_one {l : List AV} (h : ∀ x ∈ l, ∃ n, x = .int .i64 n) : l.flatMap AV.cells = l := by
  induction l with
  | nil => rfl
  | cons x l ih =>
    obtain ⟨n, rfl⟩ := h x (List.mem_cons_self ..)
    rw [List.flatMap_cons, ih fun y hy => h y (List.mem_cons_of_mem _ hy)]
    rfl
theorem rowL_cells (a b : List UInt8) (i : Nat) : (rowL a b i).flatMap AV.cells = rowL a b i :=
  ints_one fun x hx => by obtain ⟨k, _, rfl⟩ := List.mem_map.1 hx; exact ⟨_, rfl⟩
theorem rowL_one (a b : List UInt8) (i : Nat) : ∀ x ∈ rowL a b i, x.cells.length = 1 := fun x hx => by obtain ⟨k, _, rfl⟩ := List.mem_map.1 hx; rfl
theorem outC_cells (a b : List UInt8) : (outC a b 0).flatMap AV.cells = outC a b 0 := by
  simp only [outC, List.replicate_zero, List.nil_append]
  generalize List.range' 0 (a.length + 1 - 0) = l
  induction l with
  | nil => rfl
  | cons x l ih => rw [List.map_cons, List.flatMap_cons, ih]; rfl
theorem outC_one (a b : List UInt8) : ∀ x ∈ outC a b 0, x.cells.length = 1 := by
  intro x hx
  simp only [outC, List.replicate_zero, List.nil_append] at hx
  obtain ⟨k, _, rfl⟩ := List.mem_map.1 hx; rfl
theorem ixV (a b : List UInt8) (i k : Nat) (hk : k ≤ b.length) : aindexAddr tab 22 (rowV a b i) (.int .i64 ((k : Nat) : Int)) = some (.rptr [val a b i k]) := by
  have h := rowL_get a b i k hk
  have hr : (val a b i k).israw = false := rfl
  have hc : (val a b i k).cells = [val a b i k] := rfl
  simp [aindexAddr, rowV, ty22, Tab.size, ty3, h, hr, hc]
theorem lcs_le (a b : List UInt8) : lcs a b ≤ a.length := by
  induction a with
  | nil => rw [lcs_n1]; exact Nat.zero_le _
  | cons x xs ih => have := (lcs_x x xs b).2; simp only [List.length_cons]; omega
theorem mkS (t e : TypeId) (z : Value) (zc : AV) (hz : (AV.ofV z).cells = [zc]) (hr : (AV.ofV z).israw = false) (by_ : Nat) (hby : 0 < by_ ∧ by_ ≤ 100) {q : Bool} {i : TI} (ht : tab.ty t = some i) (hi : i.td = .slice e) {ie : TD} (he : tab.ty e = some { td := ie, size := 1, bytes := by_, zero := z, eqok := q })
    {n m : Nat} {s : AHeap} {l : List (Nat × Option AObj)} (hn : n ≤ 1000000) : amakeSlice tab t (.int .i64 n) (.int .i64 n) (loc s m l) = some (.rs 1 (nm s.nx m) 0 n, loc s (m + 1) (lput l m (.cells (List.replicate n zc) (some e)))) := by
  have e1 : (List.replicate n [zc]).flatten = List.replicate n zc := by
    induction n with
    | zero => rfl
    | succ k ih => rw [List.replicate_succ, List.flatten_cons, ih (by omega)]; rfl
  have hb : (by_ : Int) * n ≤ 281474976710656 := by
    have h1 : by_ * n ≤ 100 * 1000000 := Nat.mul_le_mul hby.2 hn
    have h2 : ((by_ * n : Nat) : Int) = (by_ : Int) * n := Int.natCast_mul _ _
    rw [← h2]
    omega
  simp only [amakeSlice, ht, hi, he]
  rw [if_pos (by refine ⟨by omega, by omega, hby.1, hb, hr⟩), nx_loc, Int.toNat_natCast, hz, e1, new_loc]
theorem mk3 {n m : Nat} {s : AHeap} {l : List (Nat × Option AObj)} (hn : n ≤ 1000000) : amakeSlice tab 22 (.int .i64 n) (.int .i64 n) (loc s m l) = some (.rs 1 (nm s.nx m) 0 n, loc s (m + 1) (lput l m (.cells (List.replicate n (.int .i64 0)) (some 3)))) :=
  mkS 22 3 _ _ rfl rfl 8 (by omega) ty22 rfl ty3 hn
theorem mk94 {n m : Nat} {s : AHeap} {l : List (Nat × Option AObj)} (hn : n ≤ 1000000) : amakeSlice tab 94 (.int .i64 n) (.int .i64 n) (loc s m l) = some (.rs 1 (nm s.nx m) 0 n, loc s (m + 1) (lput l m (.cells (List.replicate n .nils) (some 22)))) :=
  mkS 94 22 _ _ rfl rfl 24 (by omega) ty94 rfl ty22 hn
end Go.S1N
end
section
namespace Go.S1N
open Go Go.Am Go.Proofs Go.S1
set_option maxRecDepth 100000
attribute [local irreducible] lopsB lvb lstepB lfunG lcondB lguardB ldrawB ldrunB ldstepB ldguardB lmem lval ldmem ldval ldfun lexit ldloadB ldlenB lpostB athen ablock
set_option maxHeartbeats 2000000 in
theorem common_ok (a b : List UInt8) (ha : a.length ≤ 1000) (hb : b.length ≤ 1000) (s : AHeap) : ACall Tryz.prog 45 [.str a, .str b] s fun v t => v = tabV a b ∧ t = s := by
  refine gob45 (by simp) ?_
  intro tm hlen harg
  have hw1 : IntKind.i64.wrap ((a.length : Int) + 1) = ((a.length + 1 : Nat) : Int) := by rw [wrap_id (by omega)]; rfl
  have hw2 : IntKind.i64.wrap ((b.length : Int) + 1) = ((b.length + 1 : Nat) : Int) := by rw [wrap_id (by omega)]; rfl
  have hw3 : IntKind.i64.wrap ((a.length : Int) - 1) = (a.length : Int) - 1 := wrap_id (by omega)
  simp +contextual only [go_sem, L45, hlen, harg, hw1, hw2, hw3, cdD, cdN, gdT, gdF, gdD, Nat.reduceLT, Nat.reduceEqDiff, Nat.reduceAdd, Nat.reduceLeDiff, reduceIte, reduceCtorEq]
  refine lmem_eq (mk94 (by omega)) ?_
  simp +contextual only [go_sem, hlen, harg, hw1, hw2, hw3, cdD, cdN, gdT, gdF, gdD, Nat.reduceLT, Nat.reduceEqDiff, Nat.reduceAdd, Nat.reduceLeDiff, reduceIte, reduceCtorEq]
  refine lmem_eq (mk3 (by omega)) ?_
  have i0 : ∀ c, aindexAddr tab 94 (.rs 1 c 0 (a.length + 1)) (.int .i64 (a.length : Int)) = some (.ptr c a.length) := fun c => by rw [ix94r (by omega) (by omega)]; simp
  have l0 : a.length + 1 ≤ (List.replicate (a.length + 1) AV.nils).length := by simp
  simp +contextual only [go_sem, hlen, harg, hw1, hw2, hw3, i0, l0, cdD, cdN, gdT, gdF, gdD, Nat.reduceLT, Nat.reduceEqDiff, Nat.reduceAdd, Nat.reduceLeDiff, reduceIte, reduceCtorEq]
  have e0 : ∀ c, (List.replicate (a.length + 1) AV.nils).set a.length (.rs 1 c 0 (b.length + 1)) = outN a b a.length c := fun c => by rw [← outC_last a b, outC_set]
  have fz1 : ∀ i, fz (nm s.nx 1) 1 (rowL a b i) (.rs 1 (nm s.nx 0) 0 (a.length + 1)) = .rs 1 (nm s.nx 0) 0 (a.length + 1) := fun i => by simp only [fz]; rw [if_neg (by rintro ⟨h, _⟩; rw [nm_inj] at h; cases h)]
  have fzd := fun i hi => outN_done a b i (nm s.nx 1) hi
  refine ⟨Nat, fun i => [(0, .str a), (1, .str b), (5, .rs 1 (nm s.nx 0) 0 (a.length + 1)), (6, .int .i64 ((i : Int) - 1))], fun i => loc s 1 [(0, some (.cells (outC a b i) (some 22)))], fun i => i ≤ a.length, fun i => i, a.length, Nat.le_refl _, ?_, ?_⟩
  · refine To.freeze 1 1 (rowL a b a.length) (T := some 3) (by rw [rowL_cells, ← row_low]; simp only [go_sem, cdD, cdN, gdT, gdF, gdD, Nat.reduceLT, Nat.reduceEqDiff, Nat.reduceAdd, Nat.reduceLeDiff, reduceIte, reduceCtorEq]) (rowL_one a b _) ?_
    refine To.go [0] _ rfl (.refl s) (by decide) (by simp) ?_ ?_
    · simp +contextual only [go_sem, hlen, harg, fz1, fz, cdD, cdN, gdT, gdF, gdD, Nat.reduceLT, Nat.reduceEqDiff, Nat.reduceAdd, Nat.reduceLeDiff, reduceIte, reduceCtorEq]
    · simp only [go_sem, e0, fzO, fzd _ (Nat.le_refl _), pul_ren (outC_pu a b _), cdD, cdN, gdT, gdF, gdD, Nat.reduceLT, Nat.reduceEqDiff, Nat.reduceAdd, Nat.reduceLeDiff, reduceIte, reduceCtorEq]
  · rintro i tm1 hi hlen1 hlv
    simp only [go_sem, hlen, cdD, cdN, gdT, gdF, gdD, Nat.reduceLT, Nat.reduceEqDiff, Nat.reduceAdd, Nat.reduceLeDiff, reduceIte, reduceCtorEq] at hlen1 hlv hi
    simp +contextual only [go_sem, hlen, hlen1, hlv, cdD, cdN, gdT, gdF, gdD, Nat.reduceLT, Nat.reduceEqDiff, Nat.reduceAdd, Nat.reduceLeDiff, reduceIte, reduceCtorEq]
    refine ⟨fun hge => ?_, fun hlt => ?_⟩
    · obtain ⟨j, rfl⟩ : ∃ j, i = j + 1 := ⟨i - 1, by omega⟩
      have hj : ((j + 1 : Nat) : Int) - 1 = (j : Int) := by omega
      have hw2 : IntKind.i64.wrap ((b.length : Int) + 1) = ((b.length + 1 : Nat) : Int) := by rw [wrap_id (by omega)]; rfl
      have hw4 : IntKind.i64.wrap ((b.length : Int) - 1) = (b.length : Int) - 1 := wrap_id (by omega)
      have i1 : ∀ c, aindexAddr tab 94 (.rs 1 c 0 (a.length + 1)) (.int .i64 (j : Int)) = some (.ptr c j) := fun c => by rw [ix94r (by omega) (by omega)]; simp
      have l1 : j + 1 ≤ (outC a b (j + 1)).length := by rw [outC_len a b _ (by omega)]; omega
      simp +contextual only [go_sem, hlen1, hlv, hj, hw2, cdD, cdN, gdT, gdF, gdD, Nat.reduceLT, Nat.reduceEqDiff, Nat.reduceAdd, Nat.reduceLeDiff, reduceIte, reduceCtorEq]
      refine lmem_eq (mk3 (by omega)) ?_
      simp +contextual only [go_sem, hlen1, hlv, hj, hw2, hw4, i1, l1, outC_set, cdD, cdN, gdT, gdF, gdD, Nat.reduceLT, Nat.reduceEqDiff, Nat.reduceAdd, Nat.reduceLeDiff, reduceIte, reduceCtorEq]
      rw [row_start a b j]
      have r0 : ∀ c k, aindexAddr tab 22 (.rs 1 c 0 (b.length + 1)) (.int .i64 ((k : Nat) : Int)) = if k ≤ b.length then some (.ptr c k) else aindexAddr tab 22 (.rs 1 c 0 (b.length + 1)) (.int .i64 ((k : Nat) : Int)) := fun c k => by
        split
        · rw [ix22r (by omega) (by omega)]; simp
        · rfl
      refine ⟨Nat, fun k => [(0, .str a), (1, .str b), (5, .rs 1 (nm s.nx 0) 0 (a.length + 1)), (6, .int .i64 (j : Int)), (7, .int .i64 ((k : Int) - 1))],
        fun k => loc s 2 [(0, some (.cells (outN a b j (nm s.nx 1)) (some 22))), (1, some (.cells (rowC a b j k) (some 3)))], fun k => k ≤ b.length, fun k => k, b.length, Nat.le_refl _, ?_, ?_⟩
      · refine To.go [0, 1] _ rfl (.refl s) (by decide) (by simp) ?_ ?_
        · simp +contextual only [go_sem, hlen1, hlv, hj, cdD, cdN, gdT, gdF, gdD, Nat.reduceLT, Nat.reduceEqDiff, Nat.reduceAdd, Nat.reduceLeDiff, reduceIte, reduceCtorEq]
        · simp only [go_sem, pul_ren (rowC_pu a b _ _), outN_ren, cdD, cdN, gdT, gdF, gdD, Nat.reduceLT, Nat.reduceEqDiff, Nat.reduceAdd, Nat.reduceLeDiff, reduceIte, reduceCtorEq]
      · rintro k tm2 hk hlen2 hlv2
        simp only [go_sem, hlen1, cdD, cdN, gdT, gdF, gdD, Nat.reduceLT, Nat.reduceEqDiff, Nat.reduceAdd, Nat.reduceLeDiff, reduceIte, reduceCtorEq] at hlen2 hlv2 hk
        simp +contextual only [go_sem, hlen2, hlv2, cdD, cdN, gdT, gdF, gdD, Nat.reduceLT, Nat.reduceEqDiff, Nat.reduceAdd, Nat.reduceLeDiff, reduceIte, reduceCtorEq]
        refine ⟨fun hge2 => ?_, fun hlt2 => ?_⟩
        · obtain ⟨m, rfl⟩ : ∃ m, k = m + 1 := ⟨k - 1, by omega⟩
          have hm : ((m + 1 : Nat) : Int) - 1 = (m : Int) := by omega
          have hja : j < a.length := by omega
          have hmb : m < b.length := by omega
          have x1 : aindex tab 9 (.str a) (.int .i64 (j : Int)) = some (.int .u8 a[j].toNat) := by simp [aindex, ty9, hja]
          have x2 : aindex tab 9 (.str b) (.int .i64 (m : Int)) = some (.int .u8 b[m].toNat) := by simp [aindex, ty9, hmb]
          have d1 : a.drop j = a[j] :: a.drop (j + 1) := List.drop_eq_getElem_cons hja
          have d2 : b.drop m = b[m] :: b.drop (m + 1) := List.drop_eq_getElem_cons hmb
          generalize a[j] = x at x1 d1
          generalize b[m] = y at x2 d2
          refine ldrawB_go [] [] 6 (by decide) ?_
          simp +contextual only [go_sem, hlen2, hlv2, hm, x1, x2, cdD, cdN, gdT, gdF, gdD, Nat.reduceLT, Nat.reduceEqDiff, Nat.reduceAdd, Nat.reduceLeDiff, reduceIte, reduceCtorEq]
          have hwj : IntKind.i64.wrap ((j : Int) + 1) = ((j + 1 : Nat) : Int) := by rw [wrap_id (by omega)]; rfl
          have hwm : IntKind.i64.wrap ((m : Int) + 1) = ((m + 1 : Nat) : Int) := by rw [wrap_id (by omega)]; rfl
          have hwm1 : IntKind.i64.wrap ((m : Int) - 1) = (m : Int) - 1 := wrap_id (by omega)
          have i2 : ∀ c, aindexAddr tab 94 (.rs 1 c 0 (a.length + 1)) (.int .i64 ((j + 1 : Nat) : Int)) = some (.ptr c (j + 1)) := fun c => by rw [ix94r (by omega) (by omega)]; simp
          have q1 : ∀ c, aindexAddr tab 22 (.rs 1 c 0 (b.length + 1)) (.int .i64 (m : Int)) = some (.ptr c m) := fun c => by rw [ix22r (by omega) (by omega)]; simp
          have q2 : ∀ c, aindexAddr tab 22 (.rs 1 c 0 (b.length + 1)) (.int .i64 ((m + 1 : Nat) : Int)) = some (.ptr c (m + 1)) := fun c => by rw [ix22r (by omega) (by omega)]; simp
          have v1 := ixV a b (j + 1) (m + 1) (by omega)
          have v2 := ixV a b (j + 1) m (by omega)
          have o1 := outN_own a b j (nm s.nx 1)
          have o2 := outN_next a b j (nm s.nx 1) hja
          have g1 := rowC_get a b j (m + 1) (m + 1) (Nat.le_refl _) (by omega)
          have hlen3 : m + 1 ≤ (rowC a b j (m + 1)).length := by rw [rowC_len a b j _ (by omega)]; omega
          refine ⟨by kernel_rfl, fun he => ?_, fun hne => ?_⟩
          · have hxy : x = y := UInt8.toNat_inj.1 (by omega)
            have hval : val a b j m = .int .i64 ((lcs (a.drop (j + 1)) (b.drop (m + 1)) : Nat) + 1 : Int) := by unfold val; rw [d1, d2, hxy, lcs_eq]; rfl
            have hwl : IntKind.i64.wrap ((lcs (a.drop (j + 1)) (b.drop (m + 1)) : Int) + 1) = (lcs (a.drop (j + 1)) (b.drop (m + 1)) : Int) + 1 := wrap_id (by have := lcs_le (a.drop (j + 1)) (b.drop (m + 1)); simp only [List.length_drop] at this; omega)
            have hset := rowC_set a b j m (by omega)
            rw [hval] at hset
            have hv2 : val a b (j + 1) (m + 1) = .int .i64 (lcs (a.drop (j + 1)) (b.drop (m + 1)) : Int) := rfl
            rw [hv2] at v1
            refine ldrawB_go [] [] 15 (by decide) ?_
            simp +contextual only [go_sem, hlen1, hlen2, hlv2, hm, hwj, hwm, hwm1, i1, i2, q1, o1, o2, v1, hwl, hlen3, hset, cdD, cdN, gdT, gdF, gdD, Nat.reduceLT, Nat.reduceEqDiff, Nat.reduceAdd, Nat.reduceLeDiff, reduceIte, reduceCtorEq]
            refine ⟨by kernel_rfl, m, by omega, by omega, ?_⟩
            refine To.go [0, 1] _ rfl (.refl s) (by decide) (by simp) ?_ ?_
            · simp +contextual only [go_sem, hlen2, hlv2, cdD, cdN, gdT, gdF, gdD, Nat.reduceLT, Nat.reduceEqDiff, Nat.reduceAdd, Nat.reduceLeDiff, reduceIte, reduceCtorEq]
            · simp only [go_sem, pul_ren (rowC_pu a b _ _), outN_ren, cdD, cdN, gdT, gdF, gdD, Nat.reduceLT, Nat.reduceEqDiff, Nat.reduceAdd, Nat.reduceLeDiff, reduceIte, reduceCtorEq]
          · have hxy : x ≠ y := fun e => hne (by rw [e])
            have hval : val a b j m = .int .i64 ((max (lcs (a.drop (j + 1)) (b.drop m)) (lcs (a.drop j) (b.drop (m + 1))) : Nat) : Int) := by unfold val; rw [d1, d2, lcs_ne hxy, ← d2, ← d1]
            have hset := rowC_set a b j m (by omega)
            rw [hval] at hset
            have hv2 : val a b (j + 1) m = .int .i64 (lcs (a.drop (j + 1)) (b.drop m) : Int) := rfl
            have hg2 : val a b j (m + 1) = .int .i64 (lcs (a.drop j) (b.drop (m + 1)) : Int) := rfl
            rw [hv2] at v2
            rw [hg2] at g1
            generalize lcs (a.drop (j + 1)) (b.drop m) = p at v2 hset
            generalize lcs (a.drop j) (b.drop (m + 1)) = q at g1 hset
            have hmx : (if (q : Int) > (p : Int) then (q : Int) else (p : Int)) = ((max p q : Nat) : Int) := by split <;> omega
            refine ldrawB_go [] [] 22 (by decide) ?_
            simp +contextual only [go_sem, hlen1, hlen2, hlv2, hm, hwj, hwm, hwm1, i1, i2, q1, q2, o1, o2, v2, g1, hmx, hlen3, hset, cdD, cdN, gdT, gdF, gdD, Nat.reduceLT, Nat.reduceEqDiff, Nat.reduceAdd, Nat.reduceLeDiff, reduceIte, reduceCtorEq]
            refine ⟨by kernel_rfl, m, by omega, by omega, ?_⟩
            refine To.go [0, 1] _ rfl (.refl s) (by decide) (by simp) ?_ ?_
            · simp +contextual only [go_sem, hlen2, hlv2, cdD, cdN, gdT, gdF, gdD, Nat.reduceLT, Nat.reduceEqDiff, Nat.reduceAdd, Nat.reduceLeDiff, reduceIte, reduceCtorEq]
            · simp only [go_sem, pul_ren (rowC_pu a b _ _), outN_ren, cdD, cdN, gdT, gdF, gdD, Nat.reduceLT, Nat.reduceEqDiff, Nat.reduceAdd, Nat.reduceLeDiff, reduceIte, reduceCtorEq]
        · have hk0 : k = 0 := by omega
          subst hk0
          rw [rowC_zero]
          have hwj1 : IntKind.i64.wrap ((j : Int) - 1) = (j : Int) - 1 := wrap_id (by omega)
          simp +contextual only [go_sem, hlen1, hlen2, hlv2, hwj1, cdD, cdN, gdT, gdF, gdD, Nat.reduceLT, Nat.reduceEqDiff, Nat.reduceAdd, Nat.reduceLeDiff, reduceIte, reduceCtorEq]
          refine ⟨j, by omega, by omega, ?_⟩
          refine To.freeze 1 1 (rowL a b j) (T := some 3) (by rw [rowL_cells]; simp only [go_sem, cdD, cdN, gdT, gdF, gdD, Nat.reduceLT, Nat.reduceEqDiff, Nat.reduceAdd, Nat.reduceLeDiff, reduceIte, reduceCtorEq]) (rowL_one a b _) ?_
          refine To.go [0] _ rfl (.refl s) (by decide) (by simp) ?_ ?_
          · simp +contextual only [go_sem, hlen1, hlen2, hlv2, fz1, fz, cdD, cdN, gdT, gdF, gdD, Nat.reduceLT, Nat.reduceEqDiff, Nat.reduceAdd, Nat.reduceLeDiff, reduceIte, reduceCtorEq]
          · simp only [go_sem, fzO, fzd j (by omega), pul_ren (outC_pu a b _), cdD, cdN, gdT, gdF, gdD, Nat.reduceLT, Nat.reduceEqDiff, Nat.reduceAdd, Nat.reduceLeDiff, reduceIte, reduceCtorEq]
    · have hi0 : i = 0 := by omega
      subst hi0
      refine lexit_freeze 0 1 (outC a b 0) (T := some 22) (by rw [outC_cells]; simp only [go_sem, cdD, cdN, gdT, gdF, gdD, Nat.reduceLT, Nat.reduceEqDiff, Nat.reduceAdd, Nat.reduceLeDiff, reduceIte, reduceCtorEq]) (outC_one a b) ?_
      have e2 : fz (nm s.nx 0) 1 (outC a b 0) (.rs 1 (nm s.nx 0) 0 (a.length + 1)) = tabV a b := by
        simp only [fz]
        rw [if_pos ⟨trivial, trivial, trivial, (outC_len a b 0 (by omega)).symm⟩]
        rfl
      rw [e2]
      exact lexit_pure (.refl s) (low.mono (Nat.zero_le _) (by simp only [tabV, low]; exact outC_pu a b 0)) ⟨rfl, rfl⟩
end Go.S1N
end
section
namespace Go.S1N
open Go Go.Am Go.Proofs Go.S1
set_option maxRecDepth 100000
attribute [local irreducible] lopsB lvb lstepB lfunG lcondB lguardB ldrawB ldrunB ldstepB ldguardB lmem lval ldmem ldval ldfun lexit ldloadB ldlenB lpostB athen ablock
theorem u8_round (c : UInt8) : ((c.toNat : Int)).toNat.toUInt8 = c := by
  rw [Int.toNat_natCast]; exact UInt8.ofNat_toNat
theorem idx2_ok (l : List UInt8) (c : UInt8) (s : AHeap) : ACall Tryz.prog 76 [.str l, .int .u8 c.toNat] s fun v t => v = .int .i64 (Lib.indexByte l c) ∧ t = s := by
  refine gob76 (by simp) ?_
  intro tm hlen harg
  simp +contextual only [go_sem, L76, hlen, harg, cdD, cdN, gdT, gdF, gdD, Nat.reduceLT, Nat.reduceEqDiff, Nat.reduceAdd, Nat.reduceLeDiff, reduceIte, reduceCtorEq]
  refine lfunG_eq (x_ib (args := [.str l, .int .u8 c.toNat]) (s := loc s 0 []) (s' := loc s 0 []) (v := .int .i64 (Lib.indexByte l c)) (by simp only [aIndexByte, u8_round])) ?_
  simp +contextual only [go_sem, hlen, harg, cdD, cdN, gdT, gdF, gdD, Nat.reduceLT, Nat.reduceEqDiff, Nat.reduceAdd, Nat.reduceLeDiff, reduceIte, reduceCtorEq]
  exact lexit_pure (.refl s) (by simp only [low]) ⟨rfl, rfl⟩
theorem idx_ok (l : List UInt8) (c : UInt8) (s : AHeap) : ACall Tryz.prog 46 [.str l, .int .u8 c.toNat] s fun v t => v = .int .i64 (Lib.indexByte l c) ∧ t = s := by
  refine gob46 (by simp) ?_
  intro tm hlen harg
  simp +contextual only [go_sem, L46, hlen, harg, cdD, cdN, gdT, gdF, gdD, Nat.reduceLT, Nat.reduceEqDiff, Nat.reduceAdd, Nat.reduceLeDiff, reduceIte, reduceCtorEq]
  refine lfunG_eq (idx2_ok l c _) ?_
  simp +contextual only [go_sem, hlen, harg, cdD, cdN, gdT, gdF, gdD, Nat.reduceLT, Nat.reduceEqDiff, Nat.reduceAdd, Nat.reduceLeDiff, reduceIte, reduceCtorEq]
  exact lexit_pure (.refl s) (by simp only [low]) ⟨rfl, rfl⟩
theorem idx_fst (c : UInt8) : ∀ l, Lib.indexByte l c = match fstAt c l with | some n => (n : Int) | none => -1
  | [] => rfl
  | b :: l => by
    have ih := idx_fst c l
    rw [Lib.indexByte, fstAt]
    by_cases e : c = b
    · subst e; simp [fstAt]
    · have e2 : (b == c) = false := by simpa using Ne.symm e
      rw [e2, if_neg e, ih]
      cases fstAt c l with
      | none => rfl
      | some n =>
        have h : ((n : Int) == -1) = false := by rw [beq_eq_false_iff_ne]; omega
        show (if ((n : Int) == -1) = true then (-1 : Int) else (n : Int) + 1) = ((n + 1 : Nat) : Int)
        rw [h]; rfl
theorem dr_stop {i : Nat} {xs ys : List UInt8} (h : lcs xs ys = 0) : dr i xs ys = [⟨0, 0, ys⟩] := by
  cases xs with
  | nil => rw [dr]
  | cons x xs => rw [dr, if_pos h]
theorem dr_none {i : Nat} {x : UInt8} {xs ys : List UInt8} (h : lcs (x :: xs) ys ≠ 0) (hf : fstAt x ys = none) : dr i (x :: xs) ys = dr (i + 1) xs ys := by
  rw [dr, if_neg h, hf]
theorem dr_skip {i n : Nat} {x : UInt8} {xs ys : List UInt8} (h : lcs (x :: xs) ys ≠ 0) (hf : fstAt x ys = some n) (hc : ¬ lcs xs (ys.drop (n + 1)) + 1 = lcs (x :: xs) ys) : dr i (x :: xs) ys = dr (i + 1) xs ys := by
  rw [dr, if_neg h, hf]; exact if_neg hc
theorem dr_take {i n : Nat} {x : UInt8} {xs ys : List UInt8} (h : lcs (x :: xs) ys ≠ 0) (hf : fstAt x ys = some n) (hc : lcs xs (ys.drop (n + 1)) + 1 = lcs (x :: xs) ys) :
    dr i (x :: xs) ys = ⟨0, 0, ys.take n⟩ :: ⟨i, 1, []⟩ :: dr (i + 1) xs (ys.drop (n + 1)) := by
  rw [dr, if_neg h, hf]; exact if_pos hc
theorem ixT (a b : List UInt8) (i : Nat) (hi : i ≤ a.length) : aindexAddr tab 94 (tabV a b) (.int .i64 ((i : Nat) : Int)) = some (.rptr [rowV a b i]) := by
  have h := outC_get a b 0 i (Nat.zero_le _) hi
  have hr : (rowV a b i).israw = false := rfl
  have hc : (rowV a b i).cells = [rowV a b i] := rfl
  simp [aindexAddr, tabV, ty94, Tab.size, ty22, h, hr, hc]
theorem tabV_pu (a b : List UInt8) : Pu (tabV a b) := by simp only [Pu, tabV, low]; exact outC_pu a b 0
theorem tabV_b (a b : List UInt8) : (tabV a b).israw = false := rfl
theorem str_lo {x : List UInt8} {k : Nat} (h : k ≤ x.length) : aslice tab 9 (.str x) (some (.int .i64 ((k : Nat) : Int))) none none = some (.str (x.drop k)) := by
  have e : (x.drop k).take (x.length - k) = x.drop k := List.take_of_length_le (by simp)
  simp [aslice, ty9, abounds, aidx, h, e]
theorem str_mid {x : List UInt8} {k n : Nat} (h : k + n ≤ x.length) : aslice tab 9 (.str x) (some (.int .i64 ((k : Nat) : Int))) (some (.int .i64 ((k + n : Nat) : Int))) none = some (.str ((x.drop k).take n)) := by
  have h1 : (0 : Int) ≤ ((k + n : Nat) : Int) ∧ ((k + n : Nat) : Int) ≤ (x.length : Int) := by omega
  have h2 : (0 : Int) ≤ ((k : Nat) : Int) ∧ ((k : Nat) : Int) ≤ ((k + n : Nat) : Int) := by omega
  simp only [aslice, ty9, Option.isSome_none, Bool.false_eq_true, if_false, abounds, aidx, Option.getD_none]
  rw [if_pos h1]
  simp only [Option.getD_some, Bool.false_and, Bool.false_eq_true, if_false, Int.toNat_natCast]
  rw [if_pos h2]
  simp only [Option.getD_some]
  rw [show k + n - k = n from by omega]
theorem dr_bd : ∀ (xs : List UInt8) (i : Nat) (ys : List UInt8), (∀ r ∈ dr i xs ys, 0 ≤ r.at_ ∧ r.at_ ≤ i + xs.length ∧ 0 ≤ r.long ∧ r.long ≤ 1 ∧ r.text.length ≤ ys.length) ∧ (dr i xs ys).length ≤ 2 * xs.length + 1
  | [], i, ys => by
    rw [dr]
    refine ⟨fun r hr => ?_, by simp⟩
    rw [List.mem_singleton.1 hr]; simp
  | x :: xs, i, ys => by
    have next : ∀ zs, zs.length ≤ ys.length → (∀ r ∈ dr (i + 1) xs zs, 0 ≤ r.at_ ∧ r.at_ ≤ i + (x :: xs).length ∧ 0 ≤ r.long ∧ r.long ≤ 1 ∧ r.text.length ≤ ys.length) ∧ (dr (i + 1) xs zs).length ≤ 2 * xs.length + 1 := by
      intro zs hz
      obtain ⟨h1, h2⟩ := dr_bd xs (i + 1) zs
      refine ⟨fun r hr => ?_, h2⟩
      have := h1 r hr
      simp only [List.length_cons]
      omega
    rw [dr]
    split
    · refine ⟨fun r hr => ?_, by simp⟩
      rw [List.mem_singleton.1 hr]; simp only [List.length_cons]; omega
    · split
      · rename_i n hn
        split
        · obtain ⟨h1, h2⟩ := next (ys.drop (n + 1)) (by simp)
          refine ⟨fun r hr => ?_, by simp only [List.length_cons]; omega⟩
          rcases List.mem_cons.1 hr with rfl | hr
          · simp only [List.length_cons, List.length_take]; omega
          rcases List.mem_cons.1 hr with rfl | hr
          · simp only [List.length_cons, List.length_nil]; omega
          · exact h1 r hr
        · obtain ⟨h1, h2⟩ := next ys (Nat.le_refl _)
          exact ⟨h1, by simp only [List.length_cons]; omega⟩
      · obtain ⟨h1, h2⟩ := next ys (Nat.le_refl _)
        exact ⟨h1, by simp only [List.length_cons]; omega⟩
def diffVal (a b : List UInt8) : List Ed := rGo a.length 0 [] (dr 0 a b)
set_option maxHeartbeats 2000000 in
theorem diff_ok (a b : List UInt8) (ha : a.length ≤ 1000) (hb : b.length ≤ 1000) (s : AHeap) : ACall Tryz.prog 25 [.str a, .str b] s fun v t => v = .tuple [edv (diffVal a b), .int .i64 0] ∧ t = s := by
  refine gob25 (by simp) ?_
  intro tm hlen harg
  have hna : ¬ (1000 : Int) < a.length := by omega
  have hnb : ¬ (1000 : Int) < b.length := by omega
  simp +contextual only [go_sem, L25, hlen, harg, hna, hnb, cdD, cdN, gdT, gdF, gdD, Nat.reduceLT, Nat.reduceEqDiff, Nat.reduceAdd, Nat.reduceLeDiff, reduceIte, reduceCtorEq]
  refine lfunG_eq (common_ok a b ha hb _) ?_
  simp +contextual only [go_sem, hlen, harg, cdD, cdN, gdT, gdF, gdD, Nat.reduceLT, Nat.reduceEqDiff, Nat.reduceAdd, Nat.reduceLeDiff, reduceIte, reduceCtorEq]
  refine ⟨Nat × Nat × List Rn, fun x => [(0, .str a), (1, .str b), (6, tabV a b), (7, gsv 3 (nm s.nx 0) x.2.2.length), (8, .int .i64 x.1), (9, .int .i64 x.2.1)],
    fun x => loc s 1 [(0, gso 98 (rnc x.2.2))], fun x => x.1 ≤ a.length ∧ x.2.1 ≤ b.length ∧ x.2.2.length ≤ 2 * x.1 ∧ x.2.2 ++ dr x.1 (a.drop x.1) (b.drop x.2.1) = dr 0 a b,
    fun x => a.length - x.1, (0, 0, []), ⟨Nat.zero_le _, Nat.zero_le _, by simp, by simp⟩, ?_, ?_⟩
  · refine To.go [9] [(0, none)] (by simp only [rnc, List.map_nil, List.flatMap_nil, gso_nil]; rfl) (.refl s) (by decide) (by simp) ?_ ?_
    · simp +contextual only [go_sem, hlen, harg, pu_ren (tabV_pu a b), List.length_nil, gsv_zero, cdD, cdN, gdT, gdF, gdD, Nat.reduceLT, Nat.reduceEqDiff, Nat.reduceAdd, Nat.reduceLeDiff, reduceIte, reduceCtorEq]
      simp
    · simp only [go_sem, cdD, cdN, gdT, gdF, gdD, Nat.reduceLT, Nat.reduceEqDiff, Nat.reduceAdd, Nat.reduceLeDiff, reduceIte, reduceCtorEq]
  · rintro ⟨i, k, R⟩ tm1 ⟨hi, hk, hR, hD⟩ hlen1 hlv
    simp only [go_sem, hlen, cdD, cdN, gdT, gdF, gdD, Nat.reduceLT, Nat.reduceEqDiff, Nat.reduceAdd, Nat.reduceLeDiff, reduceIte, reduceCtorEq] at hlen1 hlv hi hk hR hD
    have t1 := ixT a b i hi
    have t2 := ixV a b i k hk
    have t3 : val a b i k = .int .i64 (lcs (a.drop i) (b.drop k) : Int) := rfl
    rw [t3] at t2
    simp +contextual only [go_sem, hlen, hlen1, hlv, t1, t2, cdD, cdN, gdT, gdF, gdD, Nat.reduceLT, Nat.reduceEqDiff, Nat.reduceAdd, Nat.reduceLeDiff, reduceIte, reduceCtorEq]
    refine ⟨fun hgt => ?_, fun hle => ?_⟩
    · have hpos : lcs (a.drop i) (b.drop k) ≠ 0 := by omega
      have hia : i < a.length := by
        rcases Nat.lt_or_ge i a.length with q | q
        · exact q
        · rw [List.drop_of_length_le q, lcs_n1] at hpos; exact absurd rfl hpos
      have d1 : a.drop i = a[i] :: a.drop (i + 1) := List.drop_eq_getElem_cons hia
      have x1 : aindex tab 9 (.str a) (.int .i64 (i : Int)) = some (.int .u8 a[i].toNat) := by simp [aindex, ty9, hia]
      generalize a[i] = x at x1 d1
      refine ldrawB_go [] [] 6 (by decide) ?_
      simp +contextual only [go_sem, hlen1, hlv, x1, str_lo hk, cdD, cdN, gdT, gdF, gdD, Nat.reduceLT, Nat.reduceEqDiff, Nat.reduceAdd, Nat.reduceLeDiff, reduceIte, reduceCtorEq]
      refine ⟨by kernel_rfl, ?_⟩
      refine lfunG_eq (idx_ok (b.drop k) x _) ?_
      have hwi : IntKind.i64.wrap ((i : Int) + 1) = ((i + 1 : Nat) : Int) := by rw [wrap_id (by omega)]; rfl
      have stay : ∀ tm2 nn, tm2.length = tm1.length → (∀ p ∈ [(0, AV.str a), (1, .str b), (6, tabV a b), (7, gsv 3 (nm s.nx 0) R.length), (8, .int .i64 ((i + 1 : Nat) : Int)), (9, .int .i64 (k : Int))], aev tm2 (.tmp p.1) = p.2) →
          To s tm2 (loc s nn [(0, gso 98 (rnc R))]) [(0, .str a), (1, .str b), (6, tabV a b), (7, gsv 3 (nm s.nx 0) R.length), (8, .int .i64 ((i + 1 : Nat) : Int)), (9, .int .i64 (k : Int))] (loc s 1 [(0, gso 98 (rnc R))]) := by
        intro tm2 nn hl2 hl
        simp only [go_sem, cdD, cdN, gdT, gdF, gdD, Nat.reduceLT, Nat.reduceEqDiff, Nat.reduceAdd, Nat.reduceLeDiff, reduceIte, reduceCtorEq] at hl
        refine To.go [0] [(0, gso 98 (rnc R))] rfl (.refl s) (by decide) (by simp) ?_ ?_
        · simp +contextual only [go_sem, hl, hl2, hlen1, pu_ren (tabV_pu a b), cdD, cdN, gdT, gdF, gdD, Nat.reduceLT, Nat.reduceEqDiff, Nat.reduceAdd, Nat.reduceLeDiff, reduceIte, reduceCtorEq]
        · simp only [go_sem, map_gso_pu (rnc_pul _), cdD, cdN, gdT, gdF, gdD, Nat.reduceLT, Nat.reduceEqDiff, Nat.reduceAdd, Nat.reduceLeDiff, reduceIte, reduceCtorEq]
      cases hf : fstAt x (b.drop k) with
      | none =>
        have hidx := idx_fst x (b.drop k)
        rw [hf] at hidx
        simp only at hidx
        have hlt : (-1 : Int) < 0 := by decide
        simp +contextual only [go_sem, hlen1, hlv, hidx, cdD, cdN, gdT, gdF, gdD, Nat.reduceLT, Nat.reduceEqDiff, Nat.reduceAdd, Nat.reduceLeDiff, reduceIte, reduceCtorEq]
        refine ldrawB_go [] [] 22 (by decide) ?_
        simp +contextual only [go_sem, hlen1, hlv, hlt, hwi, cdD, cdN, gdT, gdF, gdD, Nat.reduceLT, Nat.reduceEqDiff, Nat.reduceAdd, Nat.reduceLeDiff, reduceIte, reduceCtorEq]
        refine ⟨by kernel_rfl, (i + 1, k, R), ⟨by simp only; omega, hk, by simp only; omega, ?_⟩, by simp only; omega, stay _ _ (by simp only [go_sem, cdD, cdN, gdT, gdF, gdD, Nat.reduceLT, Nat.reduceEqDiff, Nat.reduceAdd, Nat.reduceLeDiff, reduceIte, reduceCtorEq]) ?_⟩
        · rw [d1, dr_none (by rw [← d1]; exact hpos) hf] at hD; exact hD
        · simp +contextual only [go_sem, hlen1, hlv, cdD, cdN, gdT, gdF, gdD, Nat.reduceLT, Nat.reduceEqDiff, Nat.reduceAdd, Nat.reduceLeDiff, reduceIte, reduceCtorEq]
      | some n =>
        have hidx := idx_fst x (b.drop k)
        rw [hf] at hidx
        simp only at hidx
        obtain ⟨hn1, hn2⟩ := fst_get hf
        rw [List.length_drop] at hn1
        have hnn : ¬ ((n : Int) < 0) := by omega
        have hdd : (b.drop k).drop (n + 1) = b.drop (k + n + 1) := by rw [List.drop_drop]; rfl
        have hcs := fun hc => dr_skip (i := i) (by rw [← d1]; exact hpos) hf hc
        have hct := fun hc => dr_take (i := i) (by rw [← d1]; exact hpos) hf hc
        rw [hdd, ← d1] at hcs hct
        have t4 := ixT a b (i + 1) (by omega)
        have t5 := ixV a b (i + 1) (k + n + 1) (by omega)
        have t6 : val a b (i + 1) (k + n + 1) = .int .i64 (lcs (a.drop (i + 1)) (b.drop (k + n + 1)) : Int) := rfl
        rw [t6] at t5
        have hlb := lcs_le (a.drop i) (b.drop k)
        rw [List.length_drop] at hlb
        have hwk : IntKind.i64.wrap ((k : Int) + (n : Int)) = ((k + n : Nat) : Int) := by rw [wrap_id (by omega)]; omega
        have hwk1 : IntKind.i64.wrap (((k + n : Nat) : Int) + 1) = ((k + n + 1 : Nat) : Int) := by rw [wrap_id (by omega)]; omega
        have hwl : IntKind.i64.wrap ((lcs (a.drop i) (b.drop k) : Int) - 1) = (lcs (a.drop i) (b.drop k) : Int) - 1 := wrap_id (by omega)
        simp +contextual only [go_sem, hlen1, hlv, hidx, cdD, cdN, gdT, gdF, gdD, Nat.reduceLT, Nat.reduceEqDiff, Nat.reduceAdd, Nat.reduceLeDiff, reduceIte, reduceCtorEq]
        refine ldrawB_go [] [] 22 (by decide) ?_
        simp +contextual only [go_sem, hlen1, hlv, hnn, hwi, hwk, hwk1, hwl, t1, t2, t4, t5, cdD, cdN, gdT, gdF, gdD, Nat.reduceLT, Nat.reduceEqDiff, Nat.reduceAdd, Nat.reduceLeDiff, reduceIte, reduceCtorEq]
        refine ⟨by kernel_rfl, fun hne => ?_, fun heq => ?_⟩
        · refine ⟨(i + 1, k, R), ⟨by simp only; omega, hk, by simp only; omega, ?_⟩, by simp only; omega, stay _ _ (by simp only [go_sem, cdD, cdN, gdT, gdF, gdD, Nat.reduceLT, Nat.reduceEqDiff, Nat.reduceAdd, Nat.reduceLeDiff, reduceIte, reduceCtorEq]) ?_⟩
          · rw [hcs (by omega)] at hD; exact hD
          · simp +contextual only [go_sem, hlen1, hlv, cdD, cdN, gdT, gdF, gdD, Nat.reduceLT, Nat.reduceEqDiff, Nat.reduceAdd, Nat.reduceLeDiff, reduceIte, reduceCtorEq]
        · simp +contextual only [go_sem, hlen1, hlv, hwk, str_mid (show k + n ≤ b.length by omega), cdD, cdN, gdT, gdF, gdD, Nat.reduceLT, Nat.reduceEqDiff, Nat.reduceAdd, Nat.reduceLeDiff, reduceIte, reduceCtorEq]
          refine lfunG_eq (fresh_ok _ _) ?_
          simp +contextual only [go_sem, hlen1, hlv, cdD, cdN, gdT, gdF, gdD, Nat.reduceLT, Nat.reduceEqDiff, Nat.reduceAdd, Nat.reduceLeDiff, reduceIte, reduceCtorEq]
          refine lfunG_eq (kept_ok _ _ _) ?_
          simp +contextual only [go_sem, hlen1, hlv, Rn.enc, cdD, cdN, gdT, gdF, gdD, Nat.reduceLT, Nat.reduceEqDiff, Nat.reduceAdd, Nat.reduceLeDiff, reduceIte, reduceCtorEq]
          refine lmem_eq (app89 (acellsOf_rs (by simp only [go_sem, cdD, cdN, gdT, gdF, gdD, Nat.reduceLT, Nat.reduceEqDiff, Nat.reduceAdd, Nat.reduceLeDiff, reduceIte, reduceCtorEq]; rfl) (by rfl) rfl) (by decide) (by simp only [go_sem, cdD, cdN, gdT, gdF, gdD, Nat.reduceLT, Nat.reduceEqDiff, Nat.reduceAdd, Nat.reduceLeDiff, reduceIte, reduceCtorEq]) (by simp only [go_sem, cdD, cdN, gdT, gdF, gdD, Nat.reduceLT, Nat.reduceEqDiff, Nat.reduceAdd, Nat.reduceLeDiff, reduceIte, reduceCtorEq]) (rnc_len R) (by omega) rfl) ?_
          simp +contextual only [go_sem, hlen1, hlv, hwi, hwk, hwk1, cdD, cdN, gdT, gdF, gdD, Nat.reduceLT, Nat.reduceEqDiff, Nat.reduceAdd, Nat.reduceLeDiff, reduceIte, reduceCtorEq]
          refine ⟨(i + 1, k + n + 1, R ++ [⟨0, 0, (b.drop k).take n⟩, ⟨i, 1, []⟩]), ⟨by simp only; omega, by simp only; omega, by simp only [List.length_append, List.length_cons, List.length_nil]; omega, ?_⟩, by simp only; omega, ?_⟩
          · rw [hct (by omega)] at hD
            simpa using hD
          · refine To.go [30] [(0, gso 98 (rnc (R ++ [⟨0, 0, (b.drop k).take n⟩, ⟨i, 1, []⟩])))] rfl (.refl s) (by decide) (by simp) ?_ ?_
            · simp +contextual only [go_sem, hlen1, hlv, pu_ren (tabV_pu a b), List.length_append, gsv_pos (Nat.succ_ne_zero (R.length + 1)), cdD, cdN, gdT, gdF, gdD, Nat.reduceLT, Nat.reduceEqDiff, Nat.reduceAdd, Nat.reduceLeDiff, reduceIte, reduceCtorEq]
            · simp only [go_sem, map_gso_pu (rnc_pul _), cdD, cdN, gdT, gdF, gdD, Nat.reduceLT, Nat.reduceEqDiff, Nat.reduceAdd, Nat.reduceLeDiff, reduceIte, reduceCtorEq]
              rw [show R ++ [⟨0, 0, (b.drop k).take n⟩, ⟨(i : Int), 1, []⟩] = (R ++ [⟨0, 0, (b.drop k).take n⟩]) ++ [⟨(i : Int), 1, []⟩] from by simp, rnc_snoc, rnc_snoc, List.append_assoc]
              exact (gso_pos (by simp)).symm
    · have h0 : lcs (a.drop i) (b.drop k) = 0 := by omega
      rw [dr_stop h0] at hD
      simp +contextual only [go_sem, hlen1, hlv, str_lo hk, cdD, cdN, gdT, gdF, gdD, Nat.reduceLT, Nat.reduceEqDiff, Nat.reduceAdd, Nat.reduceLeDiff, reduceIte, reduceCtorEq]
      refine lfunG_eq (fresh_ok _ _) ?_
      simp +contextual only [go_sem, hlen1, hlv, Rn.enc, cdD, cdN, gdT, gdF, gdD, Nat.reduceLT, Nat.reduceEqDiff, Nat.reduceAdd, Nat.reduceLeDiff, reduceIte, reduceCtorEq]
      refine lmem_eq (app89 (acellsOf_rs (by simp only [go_sem, cdD, cdN, gdT, gdF, gdD, Nat.reduceLT, Nat.reduceEqDiff, Nat.reduceAdd, Nat.reduceLeDiff, reduceIte, reduceCtorEq]; rfl) (by rfl) rfl) (by decide) (by simp only [go_sem, cdD, cdN, gdT, gdF, gdD, Nat.reduceLT, Nat.reduceEqDiff, Nat.reduceAdd, Nat.reduceLeDiff, reduceIte, reduceCtorEq]) (by simp only [go_sem, cdD, cdN, gdT, gdF, gdD, Nat.reduceLT, Nat.reduceEqDiff, Nat.reduceAdd, Nat.reduceLeDiff, reduceIte, reduceCtorEq]) (rnc_len R) (by omega) rfl) ?_
      simp +contextual only [go_sem, hlen1, hlv, cdD, cdN, gdT, gdF, gdD, Nat.reduceLT, Nat.reduceEqDiff, Nat.reduceAdd, Nat.reduceLeDiff, reduceIte, reduceCtorEq]
      have hsn : R ++ [⟨0, 0, b.drop k⟩] = dr 0 a b := hD
      obtain ⟨hbd, hdl⟩ := dr_bd a 0 b
      refine lfunG_freeze 2 3 ((R ++ [(⟨0, 0, b.drop k⟩ : Rn)]).map Rn.enc) (TT := some 98) (by simp only [go_sem, cdD, cdN, gdT, gdF, gdD, Nat.reduceLT, Nat.reduceEqDiff, Nat.reduceAdd, Nat.reduceLeDiff, reduceIte, reduceCtorEq]; exact congrArg (fun c => some (AObj.cells c (some 98))) (rnc_snoc R ⟨0, 0, b.drop k⟩).symm) (rn_len _) ?_
      simp +contextual only [go_sem, hlen1, hlv, cdD, cdN, gdT, gdF, gdD, Nat.reduceLT, Nat.reduceEqDiff, Nat.reduceAdd, Nat.reduceLeDiff, reduceIte, reduceCtorEq]
      have hl3 : R.length + 1 = (List.map Rn.enc (R ++ [⟨0, 0, b.drop k⟩])).length := by simp
      have hv3 : AV.vs 3 false (List.map Rn.enc (dr 0 a b)) = rnv (dr 0 a b) := by
        rw [rnv, fsv_pos]
        rw [← hsn]; simp
      rw [if_pos hl3, hsn, hv3]
      refine lfunG_eq (editsR_ok a.length (dr 0 a b) (by omega) (fun r hr => ?_) (by omega) _) ?_
      · have := hbd r hr
        omega
      simp +contextual only [go_sem, hlen1, hlv, cdD, cdN, gdT, gdF, gdD, Nat.reduceLT, Nat.reduceEqDiff, Nat.reduceAdd, Nat.reduceLeDiff, reduceIte, reduceCtorEq]
      exact lexit_pure (.refl s) (low.mono (Nat.zero_le _) (by simp only [low, lowL, and_true]; exact edv_pu _)) ⟨rfl, rfl⟩
end Go.S1N
end
section
namespace Go.S1N
open Go Go.Am Go.Proofs Go.S1
set_option maxRecDepth 100000
attribute [local irreducible] lopsB lvb lstepB lfunG lcondB lguardB ldrawB ldrunB ldstepB ldguardB lmem lval ldmem ldval ldfun lexit ldloadB ldlenB lpostB athen ablock
theorem rfault_nil {n : Nat} (hn : n ≤ 20000) : faultOf n [] = 0 := by
  have e : longOf (n : Int) [] = n := rfl
  have e2 : scan (n : Int) (-1) [] = 0 := rfl
  rw [faultOf, e, e2, if_neg (by omega), if_neg (by simp), if_neg (by simp), if_neg (by omega)]
theorem rightS {s : AHeap} {b : Nat} {Lv : AV} {L : List Int} {at_ : Int} (h : Sm s b Lv L at_) (h1 : at_ < 3700000000000000000) (n : Nat) (hn : n ≤ 20000) :
    ACall Tryz.prog 10 [.ptr b 0, .int .i64 n] s fun v t => ∃ (l : List Ed) (k : Nat), v = edv l ∧ l.length ≤ 4 ∧ (∀ e ∈ l, e.new.length ≤ 4) ∧ faultOf n l = 0 ∧ k ≤ 100 ∧ t = s.upd b (strm Lv (at_ + k)) := by
  refine gob10 (by simp) ?_
  intro tm hlen harg
  have hb := h.lt
  have h0 := h.at0
  simp +contextual only [go_sem, L10, hlen, harg, hb, cdD, cdN, gdT, gdF, gdD, Nat.reduceLT, Nat.reduceEqDiff, Nat.reduceAdd, Nat.reduceLeDiff, reduceIte, reduceCtorEq]
  refine ⟨Nat × Nat × AHeap, fun a => [(0, .ptr b 0), (1, .int .i64 n), (6, .int .i64 a.1)], fun a => loc a.2.2 0 [],
    fun a => a.1 ≤ 5 ∧ a.2.1 ≤ 20 * a.1 ∧ ((a.1 = 0 ∧ a.2.2 = s) ∨ a.2.2 = s.upd b (strm Lv (at_ + a.2.1))) ∧ (∀ o, a.2.2.upd b o = s.upd b o) ∧ Sm a.2.2 b Lv L (at_ + a.2.1) ∧ a.2.2.nx = s.nx, fun a => 5 - a.1, (0, 0, s),
    ⟨by simp, by simp, .inl ⟨rfl, rfl⟩, fun _ => rfl, by simpa using h, rfl⟩, ?_, ?_⟩
  · refine To.go [] [] rfl (OKo.refl s) (by decide) (by simp) ?_ trivial
    simp +contextual only [go_sem, hlen, harg, rnm_low hb, cdD, cdN, gdT, gdF, gdD, Nat.reduceLT, Nat.reduceEqDiff, Nat.reduceAdd, Nat.reduceLeDiff, reduceIte, reduceCtorEq]
    simp
  · rintro ⟨i, k, S⟩ tm1 ⟨hi, hk, hS, hup, hSm, hnx⟩ hlen1 hlv
    simp only [go_sem, hlen, cdD, cdN, gdT, gdF, gdD, Nat.reduceLT, Nat.reduceEqDiff, Nat.reduceAdd, Nat.reduceLeDiff, reduceIte, reduceCtorEq] at hlen1 hlv hi hk hS hup hSm hnx
    have hbS : b < S.nx := hSm.lt
    simp +contextual only [go_sem, hlen, hlen1, hlv, cdD, cdN, gdT, gdF, gdD, Nat.reduceLT, Nat.reduceEqDiff, Nat.reduceAdd, Nat.reduceLeDiff, reduceIte, reduceCtorEq]
    refine ⟨fun hlt => ?_, fun hge => ?_⟩
    · refine lfunG_of (changeS hSm.loc (by omega) n) ?_
      rintro _ _ ⟨l, k1, rfl, hl, hnl, hk1, rfl⟩
      simp +contextual only [go_sem, hlen, hlen1, hlv, hb, hbS, hup, cdD, cdN, gdT, gdF, gdD, Nat.reduceLT, Nat.reduceEqDiff, Nat.reduceAdd, Nat.reduceLeDiff, reduceIte, reduceCtorEq]
      refine lfunG_eq (exact_of (by simp only [Pu, low, lowL, and_self]) (fault_ok _ _ l (edv_sl l) (by omega) _)) ?_
      have hw : IntKind.i64.wrap ((i : Int) + 1) = ((i + 1 : Nat) : Int) := by rw [wrap_id (by omega)]; rfl
      simp +contextual only [go_sem, hlen, hlen1, hlv, hb, hbS, hup, hw, cdD, cdN, gdT, gdF, gdD, Nat.reduceLT, Nat.reduceEqDiff, Nat.reduceAdd, Nat.reduceLeDiff, reduceIte, reduceCtorEq]
      refine ⟨fun hf => ?_, fun hf => ?_⟩
      · exact lexit_pure ((OKo.refl s).upd hb h.lowO) (low.mono (Nat.zero_le _) (edv_pu _)) ⟨l, k + k1, rfl, hl, hnl, hf, by omega, by congr 2; omega⟩
      · refine ⟨(i + 1, k + k1, s.upd b (strm Lv (at_ + ((k + k1 : Nat) : Int)))), ⟨by simp only; omega, by simp only; omega, .inr rfl, ?_, ?_, AHeap.nx_upd _ _ _⟩, by simp only; omega, ?_⟩
        · intro o; simp only [go_sem]
        · exact h.upd (by omega) (by omega)
        · refine To.go [] [] (by simp only; congr 3; omega) ((OKo.refl s).upd hb h.lowO) (by decide) (by simp) ?_ trivial
          simp +contextual only [go_sem, hlen1, hlv, rnm_low hb, cdD, cdN, gdT, gdF, gdD, Nat.reduceLT, Nat.reduceEqDiff, Nat.reduceAdd, Nat.reduceLeDiff, reduceIte, reduceCtorEq]
    · have hS2 : S = s.upd b (strm Lv (at_ + k)) := by
        rcases hS with ⟨q, _⟩ | q
        · omega
        · exact q
      subst hS2
      refine lexit_pure ((OKo.refl s).upd hb h.lowO) (by simp only [low]) ⟨[], k, rfl, by simp, by simp, rfault_nil hn, by omega, rfl⟩
end Go.S1N
end
section
namespace Go.S1N
open Go Go.Am Go.Proofs Go.S1
set_option maxRecDepth 100000
attribute [local irreducible] lopsB lvb lstepB lfunG lcondB lguardB ldrawB ldrunB ldstepB ldguardB lmem lval ldmem ldval ldfun lexit ldloadB ldlenB lpostB athen ablock
theorem cutS_app : ∀ (a b : List Ed), cutS (a ++ b) = cutS a + cutS b
  | [], b => by simp [cutS]
  | e :: a, b => by rw [List.cons_append, cutS, cutS, cutS_app a b]; omega
theorem cutS_bd : ∀ (l : List Ed), (∀ e ∈ l, 0 ≤ e.cut ∧ e.cut ≤ 100000) → 0 ≤ cutS l ∧ cutS l ≤ 100000 * (l.length : Int)
  | [], _ => by simp [cutS]
  | e :: l, h => by
    have h1 := h e (List.mem_cons_self ..)
    have h2 := cutS_bd l fun x hx => h x (List.mem_cons_of_mem _ hx)
    simp only [cutS, List.length_cons]
    omega
set_option maxHeartbeats 1000000 in
theorem keptBy_ok (n : Int) (hn : 0 ≤ n ∧ n ≤ 100000) (v : AV) (l : List Ed) (hv : SlE v l) (hl : l.length ≤ 2000) (hb : ∀ e ∈ l, 0 ≤ e.cut ∧ e.cut ≤ 100000) (s : AHeap) :
    ACall Tryz.prog 27 [.int .i64 n, v] s fun r t => r = .int .i64 (n - cutS l) ∧ t = s := by
  refine gob27 (by simp) ?_
  intro tm hlen harg
  simp +contextual only [go_sem, L27, hlen, harg, hv.len, cdD, cdN, gdT, gdF, gdD, Nat.reduceLT, Nat.reduceEqDiff, Nat.reduceAdd, Nat.reduceLeDiff, reduceIte, reduceCtorEq]
  refine ⟨Nat, fun i => [(0, .int .i64 (n - cutS (l.take i))), (7, v), (8, .int .i64 l.length), (9, .int .i64 i)], fun i => loc s 0 [], fun i => i ≤ l.length, fun i => l.length - i, 0, Nat.zero_le _, ?_, ?_⟩
  · refine To.go [] [] rfl (.refl s) (by decide) (by simp) ?_ trivial
    simp +contextual only [go_sem, hlen, harg, hv.pu, pu_ren hv.pu, cutS, cdD, cdN, gdT, gdF, gdD, Nat.reduceLT, Nat.reduceEqDiff, Nat.reduceAdd, Nat.reduceLeDiff, reduceIte, reduceCtorEq]
    simp
  · rintro i tm1 hi hlen1 hlv
    simp only [go_sem, hlen, cdD, cdN, gdT, gdF, gdD, Nat.reduceLT, Nat.reduceEqDiff, Nat.reduceAdd, Nat.reduceLeDiff, reduceIte, reduceCtorEq] at hlen1 hlv hi
    simp +contextual only [go_sem, hlen, hlen1, hlv, cdD, cdN, gdT, gdF, gdD, Nat.reduceLT, Nat.reduceEqDiff, Nat.reduceAdd, Nat.reduceLeDiff, reduceIte, reduceCtorEq]
    refine ⟨fun hlt => ?_, fun hge => ?_⟩
    · have hi2 : i < l.length := by omega
      have he := List.getElem?_eq_getElem hi2
      have htk := List.take_succ_eq_append_getElem hi2
      have hmem := List.getElem_mem hi2
      generalize l[i] = e at he htk hmem
      have h1 := hb e hmem
      have h2 := cutS_bd (l.take i) fun x hx => hb x (List.mem_of_mem_take hx)
      rw [List.length_take] at h2
      have hct : cutS (l.take (i + 1)) = cutS (l.take i) + e.cut := by rw [htk, cutS_app]; simp [cutS]
      have hw1 : IntKind.i64.wrap (n - cutS (l.take i) - e.cut) = n - cutS (l.take (i + 1)) := by rw [hct, wrap_id (by omega)]; omega
      have hw3 : IntKind.i64.wrap ((i : Int) + 1) = ((i + 1 : Nat) : Int) := by rw [wrap_id (by omega)]; rfl
      simp +contextual only [go_sem, hlen, hlen1, hlv, hv.at he, hw1, hw3, cdD, cdN, gdT, gdF, gdD, Nat.reduceLT, Nat.reduceEqDiff, Nat.reduceAdd, Nat.reduceLeDiff, reduceIte, reduceCtorEq]
      refine ⟨i + 1, by omega, by omega, ?_⟩
      refine To.go [] [] rfl (.refl s) (by decide) (by simp) ?_ trivial
      simp +contextual only [go_sem, hlen1, hlv, pu_ren hv.pu, cdD, cdN, gdT, gdF, gdD, Nat.reduceLT, Nat.reduceEqDiff, Nat.reduceAdd, Nat.reduceLeDiff, reduceIte, reduceCtorEq]
    · have hi2 : i = l.length := by omega
      subst hi2
      rw [List.take_length]
      exact lexit_pure (.refl s) (by simp only [low]) ⟨rfl, rfl⟩
end Go.S1N
end
section
namespace Go.S1N
open Go Go.Am Go.Proofs Go.S1
set_option maxRecDepth 100000
theorem dl_le : ∀ (l : List Ed), (∀ e ∈ l, e.new.length ≤ 4 ∧ 0 ≤ e.cut) → dl l ≤ 4 * (l.length : Int)
  | [], _ => by simp [dl]
  | e :: l, h => by
    have h1 := h e (List.mem_cons_self ..)
    have h2 := dl_le l fun x hx => h x (List.mem_cons_of_mem _ hx)
    simp only [dl, List.length_cons]
    omega
structure Least (a : List UInt8) (c d q : List Ed) (b : List UInt8) : Prop where
  c0 : applyVal a c = (b, 0)
  bl : b.length ≤ 1000
  d0 : applyVal a d = (b, 0)
  dl : d.length ≤ 2000
  dn : ∀ e ∈ d, e.new.length ≤ 100000
  dc : ∀ e ∈ d, 0 ≤ e.cut ∧ e.cut ≤ 100000
  sq : squeezedVal a c = (q, 0)
  q0 : applyVal a q = (b, 0)
  ql : q.length ≤ 2000
  qn : ∀ e ∈ q, e.new.length ≤ 100000
  qc : ∀ e ∈ q, 0 ≤ e.cut ∧ e.cut ≤ 100000
  cc : ∀ e ∈ c, 0 ≤ e.cut ∧ e.cut ≤ 100000
  k1 : cutS d ≤ cutS c
  k2 : cutS q ≤ cutS c
  k3 : cutS d ≤ cutS q
theorem scan_cuts {n : Nat} (hn : n ≤ 100000) {l : List Ed} (h : scan n (-1) l = 0) : ∀ e ∈ l, 0 ≤ e.cut ∧ e.cut ≤ 100000 := by
  intro e he
  have := (scan_rs h).1.each e he
  omega
theorem least_law {a : List UInt8} {c : List Ed} (ha : a.length ≤ 10) (hc : faultOf a.length c = 0) (hl : c.length ≤ 4) (hn : ∀ e ∈ c, e.new.length ≤ 4) :
    Least a c (diffVal a (applyFrom a 0 c)) (sqz a c) (applyFrom a 0 c) := by
  obtain ⟨h0, h1, h2, hs⟩ := faultOf_zero hc
  have cc := scan_cuts (by omega) hs
  have hsay := say_flow a c 0 (-1) (.inr ⟨rfl, rfl⟩) (Nat.zero_le _) hs
  have hbl := apply_len a hs
  have hfl := flow_dl a.length c 0 (-1) (.inr ⟨rfl, rfl⟩) (Nat.zero_le _) hs
  have hdl := dl_le c fun e he => ⟨hn e he, (cc e he).1⟩
  have hb : (applyFrom a 0 c).length ≤ 26 := by omega
  have hcl := kc_flow a.length c 0 (-1) (.inr ⟨rfl, rfl⟩) (Nat.zero_le _) hs
  have hcm := kc_max a (flowFrom a.length 0 c) 0 (ok_flow a.length c 0 (-1) (.inr ⟨rfl, rfl⟩) (Nat.zero_le _) hs)
  rw [hsay, List.drop_zero] at hcm
  -- the least one
  obtain ⟨f1, f2, f3⟩ := dr_flow a a 0 (applyFrom a 0 c) rfl (Nat.zero_le _)
  obtain ⟨hbd, hrl⟩ := dr_bd a 0 (applyFrom a 0 c)
  have hd : diffVal a (applyFrom a 0 c) = edGo a.length 0 [] (rflow (dr 0 a (applyFrom a 0 c))) := rGo_flow a.length _ 0 [] fun r hr => (hbd r hr).1
  generalize hF : rflow (dr 0 a (applyFrom a 0 c)) = F at f1 f2 f3 hd
  have hFl : F.length = (applyFrom a 0 c).length := by rw [← f1, List.length_map]
  have hds := ed_scan a.length F 0 [] (-1) (by omega) (Nat.zero_le _) f2
  have hdr := ed_round a.length F 0 [] (Nat.zero_le _) f2
  have hde := ed_len a.length F 0 []
  have hdn := ed_new a.length F 0 []
  rw [show ((0 : Nat) : Int) = 0 from rfl] at hds hdr
  rw [← hd] at hds hdr hde hdn
  rw [show negL [] ++ F = F from rfl] at hdr
  generalize diffVal a (applyFrom a 0 c) = d at hds hdr hde hdn
  have hda : applyFrom a 0 d = applyFrom a 0 c := by
    rw [← say_flow a d 0 (-1) (.inr ⟨rfl, rfl⟩) (Nat.zero_le _) hds, hdr, f1]
  have hdcl := kc_flow a.length d 0 (-1) (.inr ⟨rfl, rfl⟩) (Nat.zero_le _) hds
  rw [hdr, f3] at hdcl
  have hdn' : ∀ e ∈ d, e.new.length ≤ 100000 := fun e he => by have := hdn e he; simp only [List.length_nil] at this; omega
  have hdf : faultOf a.length d = 0 := fault_mk (by omega) (by omega) hdn' hds (by rw [hdr]; omega)
  -- the squeezed one
  obtain ⟨q1, q2, q3, q4, q5⟩ := sqz_law a c (-1) (by omega) hs
  have hqa : applyFrom a 0 (sqz a c) = applyFrom a 0 c := q4 0 (by omega) (Nat.zero_le _)
  have hqn : ∀ e ∈ sqz a c, e.new.length ≤ 100000 := fun e he => by obtain ⟨y, hy, hy2⟩ := q5 e he; have := hn y hy; omega
  have hqsay := say_flow a (sqz a c) 0 (-1) (.inr ⟨rfl, rfl⟩) (Nat.zero_le _) q1
  have hqf : faultOf a.length (sqz a c) = 0 := fault_mk (by omega) (by omega) hqn q1 (by rw [← apply_len a q1, hqa]; omega)
  have hqcl := kc_flow a.length (sqz a c) 0 (-1) (.inr ⟨rfl, rfl⟩) (Nat.zero_le _) q1
  have hqm := kc_max a (flowFrom a.length 0 (sqz a c)) 0 (ok_flow a.length (sqz a c) 0 (-1) (.inr ⟨rfl, rfl⟩) (Nat.zero_le _) q1)
  rw [hqsay, hqa, List.drop_zero] at hqm
  refine ⟨apply_val hc, by omega, by rw [apply_val hdf, hda], by omega, hdn', scan_cuts (by omega) hds, ?_, by rw [apply_val hqf, hqa], by omega, hqn, scan_cuts (by omega) q1, cc, by omega, q3, by omega⟩
  rw [squeezedVal, if_neg (by rw [text_fault hc]; decide)]
end Go.S1N
end
section
namespace Go.S1N
open Go Go.Am Go.Proofs Go.S1
set_option maxRecDepth 100000
attribute [local irreducible] lopsB lvb lstepB lfunG lcondB lguardB ldrawB ldrunB ldstepB ldguardB lmem lval ldmem ldval ldfun lexit ldloadB ldlenB lpostB athen ablock
set_option maxHeartbeats 2000000 in
theorem diffIsLeast_gen (hready : ∀ s, ACall Tryz.prog 15 [] s fun v t => v = .bool true ∧ t = s) (v : AV) (L : List Int) (hv : IsInts v L) (hL : L.length < 4611686018427387904) (s : AHeap) :
    ACall Tryz.prog 8 [v] s fun r t => r = .bool true ∧ t = s := by
  refine gob8 (by simp) ?_
  intro tm hlen harg
  simp +contextual only [go_sem, L8, hlen, harg, ints_cells hv, ints_israw hv, cdD, cdN, gdT, gdF, gdD, Nat.reduceLT, Nat.reduceEqDiff, Nat.reduceAdd, Nat.reduceLeDiff, reduceIte, reduceCtorEq]
  have hS : ∀ (a : Int) (n : Nat) (l : List (Nat × Option AObj)), 0 ≤ a → a < 4000000000000000000 → Sm (loc s (n + 1) ((0, some (strm v a)) :: l)) (nm s.nx 0) v L a := fun a n l h1 h2 =>
    ⟨hv, hL, h1, h2, by rw [nx_loc, nm_lt]; omega, by simp only [go_sem, cdD, cdN, gdT, gdF, gdD, Nat.reduceLT, Nat.reduceEqDiff, Nat.reduceAdd, Nat.reduceLeDiff, reduceIte, reduceCtorEq]⟩
  refine lfunG_of (lettersS (hS 0 0 [] (by omega) (by omega)) (by omega) 10 (by omega) (by omega)) ?_
  rintro _ _ ⟨x, k1, rfl, hx, hk1, rfl⟩
  simp +contextual only [go_sem, hlen, harg, cdD, cdN, gdT, gdF, gdD, Nat.reduceLT, Nat.reduceEqDiff, Nat.reduceAdd, Nat.reduceLeDiff, reduceIte, reduceCtorEq]
  refine lfunG_of (rightS (hS _ _ _ (by omega) (by omega)) (by omega) x.length (by omega)) ?_
  rintro _ _ ⟨c, k2, rfl, hc, hnc, hf, hk2, rfl⟩
  have hnc' : ∀ e ∈ c, e.new.length ≤ 100000 := fun e he => by have := hnc e he; omega
  obtain ⟨c0, bl, d0, dl, dn, dc, sq, q0, ql, qn, qc, cc, g1, g2, g3⟩ := least_law (by omega) hf hc hnc
  generalize applyFrom x 0 c = b at c0 bl d0 dl dn dc sq q0 ql qn qc cc g1 g2 g3
  have hdiff := diff_ok x b (by omega) bl
  generalize diffVal x b = d at d0 dl dn dc g1 g3 hdiff
  generalize sqz x c = q at sq q0 ql qn qc g2 g3
  simp +contextual only [go_sem, hlen, harg, cdD, cdN, gdT, gdF, gdD, Nat.reduceLT, Nat.reduceEqDiff, Nat.reduceAdd, Nat.reduceLeDiff, reduceIte, reduceCtorEq]
  refine lfunG_eq (apply21_ok x _ c (edv_sl c) (by omega) hnc' _) ?_
  simp +contextual only [go_sem, hlen, harg, c0, cdD, cdN, gdT, gdF, gdD, Nat.reduceLT, Nat.reduceEqDiff, Nat.reduceAdd, Nat.reduceLeDiff, reduceIte, reduceCtorEq]
  refine lfunG_eq (hdiff _) ?_
  simp +contextual only [go_sem, hlen, harg, cdD, cdN, gdT, gdF, gdD, Nat.reduceLT, Nat.reduceEqDiff, Nat.reduceAdd, Nat.reduceLeDiff, reduceIte, reduceCtorEq]
  refine lfunG_eq (apply21_ok x _ d (edv_sl d) (by omega) dn _) ?_
  simp +contextual only [go_sem, hlen, harg, d0, cdD, cdN, gdT, gdF, gdD, Nat.reduceLT, Nat.reduceEqDiff, Nat.reduceAdd, Nat.reduceLeDiff, reduceIte, reduceCtorEq]
  refine lfunG_eq (squeezed_ok x _ c (edv_sl c) (by omega) hnc' _) ?_
  simp +contextual only [go_sem, hlen, harg, sq, cdD, cdN, gdT, gdF, gdD, Nat.reduceLT, Nat.reduceEqDiff, Nat.reduceAdd, Nat.reduceLeDiff, reduceIte, reduceCtorEq]
  refine lfunG_eq (apply21_ok x _ q (edv_sl q) (by omega) qn _) ?_
  simp +contextual only [go_sem, hlen, harg, q0, cdD, cdN, gdT, gdF, gdD, Nat.reduceLT, Nat.reduceEqDiff, Nat.reduceAdd, Nat.reduceLeDiff, reduceIte, reduceCtorEq]
  refine lfunG_eq (errs_ok _ [0, 0, 0, 0, 0] (some 29) (by simp) _ (by simp only [go_sem, List.map_cons, cdD, cdN, gdT, gdF, gdD, Nat.reduceLT, Nat.reduceEqDiff, Nat.reduceAdd, Nat.reduceLeDiff, reduceIte, reduceCtorEq])) ?_
  have he : errsOf [0, 0, 0, 0, 0] = 0 := by decide
  have hg1 : (x.length : Int) - cutS c ≤ x.length - cutS d := by omega
  have hg2 : (x.length : Int) - cutS c ≤ x.length - cutS q := by omega
  have hg3 : (x.length : Int) - cutS q ≤ x.length - cutS d := by omega
  have kd := fun s => keptBy_ok x.length (by omega) _ d (edv_sl d) dl dc s
  have kc := fun s => keptBy_ok x.length (by omega) _ c (edv_sl c) (by omega) cc s
  have kq := fun s => keptBy_ok x.length (by omega) _ q (edv_sl q) ql qc s
  simp +contextual only [go_sem, hlen, harg, he, cdD, cdN, gdT, gdF, gdD, Nat.reduceLT, Nat.reduceEqDiff, Nat.reduceAdd, Nat.reduceLeDiff, reduceIte, reduceCtorEq]
  refine lfunG_eq (kd _) ?_
  simp +contextual only [go_sem, hlen, harg, cdD, cdN, gdT, gdF, gdD, Nat.reduceLT, Nat.reduceEqDiff, Nat.reduceAdd, Nat.reduceLeDiff, reduceIte, reduceCtorEq]
  refine lfunG_eq (kc _) ?_
  simp +contextual only [go_sem, hlen, harg, hg1, cdD, cdN, gdT, gdF, gdD, Nat.reduceLT, Nat.reduceEqDiff, Nat.reduceAdd, Nat.reduceLeDiff, reduceIte, reduceCtorEq]
  refine lfunG_eq (kq _) ?_
  simp +contextual only [go_sem, hlen, harg, cdD, cdN, gdT, gdF, gdD, Nat.reduceLT, Nat.reduceEqDiff, Nat.reduceAdd, Nat.reduceLeDiff, reduceIte, reduceCtorEq]
  refine lfunG_eq (kc _) ?_
  simp +contextual only [go_sem, hlen, harg, hg2, cdD, cdN, gdT, gdF, gdD, Nat.reduceLT, Nat.reduceEqDiff, Nat.reduceAdd, Nat.reduceLeDiff, reduceIte, reduceCtorEq]
  refine lfunG_eq (kd _) ?_
  simp +contextual only [go_sem, hlen, harg, cdD, cdN, gdT, gdF, gdD, Nat.reduceLT, Nat.reduceEqDiff, Nat.reduceAdd, Nat.reduceLeDiff, reduceIte, reduceCtorEq]
  refine lfunG_eq (kq _) ?_
  simp +contextual only [go_sem, hlen, harg, hg3, cdD, cdN, gdT, gdF, gdD, Nat.reduceLT, Nat.reduceEqDiff, Nat.reduceAdd, Nat.reduceLeDiff, reduceIte, reduceCtorEq]
  refine lfunG_eq (hready _) ?_
  simp only [go_sem, hlen, harg, cdD, cdN, gdT, gdF, gdD, Nat.reduceLT, Nat.reduceEqDiff, Nat.reduceAdd, Nat.reduceLeDiff, reduceIte, reduceCtorEq]
  exact lexit_pure (.refl s) (by simp only [low]) ⟨rfl, rfl⟩
end Go.S1N
end
section
namespace Go.S1N
open Go Go.Proofs
set_option maxRecDepth 100000
def fastVia (P : Program) : Nat → List FuncId → List FuncId → Nat → List FuncId
  | 0, _, seen, _ => seen.reverse
  | n + 1, todo, seen, mask => match todo with
    | [] => seen.reverse
    | f :: todo => match Nat.testBit mask f with
      | true => fastVia P n todo seen mask
      | false => fastVia P n ((P.funcs[f]?).elim [] P.leadsTo ++ todo) (f :: seen) (mask ||| 2 ^ f)
theorem fastVia_eq (P : Program) : ∀ (n : Nat) (todo seen : List FuncId) (mask : Nat), (∀ x, Nat.testBit mask x = seen.contains x) → P.closureVia n todo seen = fastVia P n todo seen mask
  | 0, todo, seen, mask, h => by simp [Program.closureVia, fastVia]
  | n + 1, [], seen, mask, h => by simp [Program.closureVia, fastVia]
  | n + 1, f :: todo, seen, mask, h => by
    rw [Program.closureVia, fastVia, h f]
    cases hc : seen.contains f with
    | true => simp only [if_true]; exact fastVia_eq P n todo seen mask h
    | false =>
      simp only [Bool.false_eq_true, if_false]
      refine fastVia_eq P n _ _ _ fun x => ?_
      rw [Nat.testBit_or, h x, Nat.testBit_two_pow, List.contains_cons]
      by_cases e : f = x
      · subst e; simp
      · have e2 : (x == f) = false := by simpa using fun q => e q.symm
        simp [e, e2]
theorem closure_fast (P : Program) (f : FuncId) : P.closure f = fastVia P (1 + (P.funcs.toList.map fun g => (P.leadsTo g).length + 1).sum) [f] [] 0 := by
  unfold Program.closure
  exact fastVia_eq P _ _ _ _ fun x => by simp
end Go.S1N
end
