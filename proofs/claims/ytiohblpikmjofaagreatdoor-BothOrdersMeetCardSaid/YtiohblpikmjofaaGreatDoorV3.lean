/- Part 3 of a proof: texts of this work, put together. -/
import Derived.Test.YtiohblpikmjofaaGreatDoorV2
import Derived.KernelRfl
set_option linter.unusedVariables false
set_option linter.unusedSimpArgs false
section
namespace Go.S1N
open Go Go.Am Go.Proofs Go.S1
set_option maxRecDepth 100000
attribute [local irreducible] lopsB lvb lstepB lfunG lcondB lguardB ldrawB ldrunB ldstepB ldguardB lmem lval ldmem ldval ldfun lexit ldloadB ldlenB lpostB athen ablock
def strm (Lv : AV) (at_ : Int) : AObj := .cells [Lv, .int .i64 at_] (some 25)
theorem _root_.Go.S1.IsInts.pu {v : AV} {l : List Int} (h : IsInts v l) : Pu v := by
  rcases h with ⟨f, rfl⟩ | ⟨rfl, rfl⟩
  · simp only [Pu, low, lowL_iff, List.mem_map]
    rintro x ⟨e, _, rfl⟩
    simp only [low]
  · simp only [Pu, low]
structure Sm (s : AHeap) (b : Nat) (Lv : AV) (L : List Int) (at_ : Int) : Prop where
  ints : IsInts Lv L
  len : L.length < 4611686018427387904
  at0 : 0 ≤ at_
  at1 : at_ < 4000000000000000000
  lt : b < s.nx
  get : s.get b = some (strm Lv at_)
theorem Sm.lowO {s : AHeap} {b : Nat} {Lv : AV} {L : List Int} {at_ : Int} (h : Sm s b Lv L at_) {n : Nat} {a : Int} : lowO n (strm Lv a) := by
  simp only [strm, Am.lowO, lowL, low, and_true]
  exact low.mono (Nat.zero_le _) h.ints.pu
theorem Sm.upd {s : AHeap} {b : Nat} {Lv : AV} {L : List Int} {at_ a : Int} (h : Sm s b Lv L at_) (h0 : 0 ≤ a) (h1 : a < 4000000000000000000) : Sm (s.upd b (strm Lv a)) b Lv L a :=
  ⟨h.ints, h.len, h0, h1, by rw [AHeap.nx_upd]; exact h.lt, get_upd_same⟩
theorem Sm.loc {s : AHeap} {b : Nat} {Lv : AV} {L : List Int} {at_ : Int} (h : Sm s b Lv L at_) {n : Nat} {l : List (Nat × Option AObj)} : Sm (loc s n l) b Lv L at_ :=
  ⟨h.ints, h.len, h.at0, h.at1, by rw [nx_loc]; exact lt_nm h.lt, by rw [get_loc_out h.lt]; exact h.get⟩
theorem nextS {s : AHeap} {b : Nat} {Lv : AV} {L : List Int} {at_ : Int} (h : Sm s b Lv L at_) (n : Int) :
    ACall Tryz.prog 41 [.ptr b 0, .int .i64 n] s fun v t => v = .int .i64 (nextOf L at_ n) ∧ t = s.upd b (strm Lv (at_ + 1)) := by
  refine gob41 (by simp) ?_
  intro tm hlen harg
  have hb := h.lt
  have hg := h.get
  have hlow := h.lowO (n := s.nx) (a := at_ + 1)
  have hL := h.ints
  have h0 := h.at0
  have e1 : IntKind.i64.wrap (at_ + 1) = at_ + 1 := wrap_id (by have := h.at1; omega)
  have hll := h.len
  rw [strm] at hg
  simp only [strm] at hlow ⊢
  simp +contextual only [go_sem, L41, hlen, harg, hb, hg, e1, hL.len, cdD, cdN, gdT, gdF, gdD, Nat.reduceLT, Nat.reduceEqDiff, Nat.reduceAdd, Nat.reduceLeDiff, reduceIte, reduceCtorEq]
  refine ⟨fun hz => ?_, fun hz => ?_⟩
  · have hL0 : L = [] := List.eq_nil_of_length_eq_zero (by omega)
    refine lfunG_eq (below_ok _ _ _) ?_
    simp +contextual only [go_sem, hlen, cdD, cdN, gdT, gdF, gdD, Nat.reduceLT, Nat.reduceEqDiff, Nat.reduceAdd, Nat.reduceLeDiff, reduceIte, reduceCtorEq]
    subst hL0
    refine lexit_pure ((OKo.refl s).upd hb hlow) (by simp only [low]) ⟨?_, rfl⟩
    simp [nextOf, e1, wr]
  · have hL0 : L ≠ [] := by rintro rfl; simp at hz
    have hlz : (L.length : Int) ≠ 0 := hz
    have e2 : IntKind.i64.wrap (at_ + 1 - 1) = at_ := by rw [wrap_id (by have := h.at1; omega)]; omega
    refine ldrawB_go [] [] 10 (by decide) ?_
    simp +contextual only [go_sem, hlen, harg, hb, hg, e1, e2, hL.len, abin_rem hlz, cdD, cdN, gdT, gdF, gdD, Nat.reduceLT, Nat.reduceEqDiff, Nat.reduceAdd, Nat.reduceLeDiff, reduceIte, reduceCtorEq]
    refine ⟨by kernel_rfl, ?_⟩
    refine ldrawB_go [] [] 10 (by decide) ?_
    simp +contextual only [go_sem, hlen, harg, hb, hg, e1, e2, hL.len, abin_quo hlz, cdD, cdN, gdT, gdF, gdD, Nat.reduceLT, Nat.reduceEqDiff, Nat.reduceAdd, Nat.reduceLeDiff, reduceIte, reduceCtorEq]
    refine ⟨by kernel_rfl, ?_⟩
    have hi0 : 0 ≤ at_.tmod L.length := Int.tmod_nonneg _ h0
    have hi1 : at_.tmod L.length < L.length := Int.tmod_lt_of_pos _ (by omega)
    obtain ⟨x, hx⟩ : ∃ x, L[(at_.tmod L.length).toNat]? = some x := ⟨_, List.getElem?_eq_getElem (by omega)⟩
    simp +contextual only [go_sem, hlen, harg, hb, hg, e1, e2, hL.len, hL.at hi0 hx, cdD, cdN, gdT, gdF, gdD, Nat.reduceLT, Nat.reduceEqDiff, Nat.reduceAdd, Nat.reduceLeDiff, reduceIte, reduceCtorEq]
    refine lfunG_eq (below_ok _ _ _) ?_
    simp +contextual only [go_sem, hlen, harg, cdD, cdN, gdT, gdF, gdD, Nat.reduceLT, Nat.reduceEqDiff, Nat.reduceAdd, Nat.reduceLeDiff, reduceIte, reduceCtorEq]
    refine lfunG_eq (below_ok _ _ _) ?_
    simp +contextual only [go_sem, hlen, cdD, cdN, gdT, gdF, gdD, Nat.reduceLT, Nat.reduceEqDiff, Nat.reduceAdd, Nat.reduceLeDiff, reduceIte, reduceCtorEq]
    refine lexit_pure ((OKo.refl s).upd hb hlow) (by simp only [low]) ⟨?_, rfl⟩
    have hx' : L.getD (at_.tmod L.length).toNat 0 = x := by rw [List.getD_eq_getElem?_getD, hx]; rfl
    simp only [nextOf, if_neg hL0, wr, e1, e2, hx']
theorem flipS {s : AHeap} {b : Nat} {Lv : AV} {L : List Int} {at_ : Int} (h : Sm s b Lv L at_) (n : Int) :
    ACall Tryz.prog 50 [.ptr b 0, .int .i64 n] s fun v t => v = .bool (decide (nextOf L at_ n = 0)) ∧ t = s.upd b (strm Lv (at_ + 1)) := by
  refine gob50 (by simp) ?_
  intro tm hlen harg
  have hb := h.lt
  simp +contextual only [go_sem, L50, hlen, harg, cdD, cdN, gdT, gdF, gdD, Nat.reduceLT, Nat.reduceEqDiff, Nat.reduceAdd, Nat.reduceLeDiff, reduceIte, reduceCtorEq]
  refine lfunG_eq (nextS h.loc _) ?_
  simp +contextual only [go_sem, hlen, hb, cdD, cdN, gdT, gdF, gdD, Nat.reduceLT, Nat.reduceEqDiff, Nat.reduceAdd, Nat.reduceLeDiff, reduceIte, reduceCtorEq]
  exact lexit_pure ((OKo.refl s).upd hb h.lowO) (by simp only [low]) ⟨rfl, rfl⟩
theorem rangeS {s : AHeap} {b : Nat} {Lv : AV} {L : List Int} {at_ : Int} (h : Sm s b Lv L at_) (lo hi : Int) (hlh : lo ≤ hi) (hhi : hi < 2000000000000000000) (hl2 : -2000000000000000000 < lo) :
    ACall Tryz.prog 19 [.ptr b 0, .int .i64 lo, .int .i64 hi] s fun v t => v = .int .i64 (lo + nextOf L at_ (hi - lo + 1)) ∧ t = s.upd b (strm Lv (at_ + 1)) := by
  refine gob19 (by simp) ?_
  intro tm hlen harg
  have hb := h.lt
  have e1 : IntKind.i64.wrap (hi - lo) = hi - lo := wrap_id (by omega)
  have e2 : IntKind.i64.wrap (hi - lo + 1) = hi - lo + 1 := wrap_id (by omega)
  have hbd := nextOf_lt L at_ (show 1 ≤ hi - lo + 1 by omega) (by omega)
  have e3 : IntKind.i64.wrap (lo + nextOf L at_ (hi - lo + 1)) = lo + nextOf L at_ (hi - lo + 1) := wrap_id (by omega)
  have hlt : ¬ hi < lo := by omega
  simp +contextual only [go_sem, L19, hlen, harg, e1, e2, hlt, cdD, cdN, gdT, gdF, gdD, Nat.reduceLT, Nat.reduceEqDiff, Nat.reduceAdd, Nat.reduceLeDiff, reduceIte, reduceCtorEq]
  refine lfunG_eq (nextS h.loc _) ?_
  simp +contextual only [go_sem, hlen, harg, hb, e3, cdD, cdN, gdT, gdF, gdD, Nat.reduceLT, Nat.reduceEqDiff, Nat.reduceAdd, Nat.reduceLeDiff, reduceIte, reduceCtorEq]
  exact lexit_pure ((OKo.refl s).upd hb h.lowO) (by simp only [low]) ⟨rfl, rfl⟩
theorem pickS {s : AHeap} {b : Nat} {Lv : AV} {L : List Int} {at_ : Int} (h : Sm s b Lv L at_) (c : Nat) (l : List Int) (To : Option TypeId) (hl : l ≠ []) (hl2 : l.length < 1000) (hc : s.get c = some (.cells (l.map (AV.int .i64)) To)) (hne : c ≠ b) (hcn : c < s.nx) :
    ACall Tryz.prog 49 [.ptr b 0, .rs 1 c 0 l.length] s fun v t => v = .int .i64 (l.getD (nextOf L at_ l.length).toNat 0) ∧ t = s.upd b (strm Lv (at_ + 1)) := by
  refine gob49 (by simp) ?_
  intro tm hlen harg
  have hb := h.lt
  have hpos : 0 < l.length := List.length_pos_iff.2 hl
  have hbd := nextOf_lt L at_ (n := l.length) (by omega) (by omega)
  obtain ⟨x, hx⟩ : ∃ x, l[(nextOf L at_ l.length).toNat]? = some x := ⟨_, List.getElem?_eq_getElem (by omega)⟩
  have hgc : (s.upd b (strm Lv (at_ + 1))).get c = some (.cells (l.map (AV.int .i64)) To) := by rw [AHeap.get_upd, if_neg hne, hc]
  have hd : (List.drop (nextOf L at_ l.length).toNat (l.map (AV.int .i64)))[0]? = some (.int .i64 x) := by simp [hx]
  simp +contextual only [go_sem, L49, hlen, harg, cdD, cdN, gdT, gdF, gdD, Nat.reduceLT, Nat.reduceEqDiff, Nat.reduceAdd, Nat.reduceLeDiff, reduceIte, reduceCtorEq]
  refine lfunG_eq (nextS h.loc _) ?_
  simp +contextual only [go_sem, hlen, harg, hb, hcn, rs_at hbd.1 hbd.2, hgc, hd, cdD, cdN, gdT, gdF, gdD, Nat.reduceLT, Nat.reduceEqDiff, Nat.reduceAdd, Nat.reduceLeDiff, reduceIte, reduceCtorEq]
  refine lexit_pure ((OKo.refl s).upd hb h.lowO) (by simp only [low]) ⟨?_, rfl⟩
  rw [List.getD_eq_getElem?_getD, hx]
  rfl
theorem someS {s : AHeap} {b : Nat} {Lv : AV} {L : List Int} {at_ : Int} (h : Sm s b Lv L at_) (c : Nat) (l : List (List UInt8)) (To : Option TypeId) (hl : l ≠ []) (hl2 : l.length < 1000) (hc : s.get c = some (.cells (l.map AV.str) To)) (hne : c ≠ b) (hcn : c < s.nx) :
    ACall Tryz.prog 28 [.ptr b 0, .rs 1 c 0 l.length] s fun v t => v = .str (l.getD (nextOf L at_ l.length).toNat []) ∧ t = s.upd b (strm Lv (at_ + 1)) := by
  refine gob28 (by simp) ?_
  intro tm hlen harg
  have hb := h.lt
  have hpos : 0 < l.length := List.length_pos_iff.2 hl
  have hbd := nextOf_lt L at_ (n := l.length) (by omega) (by omega)
  obtain ⟨x, hx⟩ : ∃ x, l[(nextOf L at_ l.length).toNat]? = some x := ⟨_, List.getElem?_eq_getElem (by omega)⟩
  have hgc : (s.upd b (strm Lv (at_ + 1))).get c = some (.cells (l.map AV.str) To) := by rw [AHeap.get_upd, if_neg hne, hc]
  have hd : (List.drop (nextOf L at_ l.length).toNat (l.map AV.str))[0]? = some (.str x) := by simp [hx]
  simp +contextual only [go_sem, L28, hlen, harg, cdD, cdN, gdT, gdF, gdD, Nat.reduceLT, Nat.reduceEqDiff, Nat.reduceAdd, Nat.reduceLeDiff, reduceIte, reduceCtorEq]
  refine lfunG_eq (nextS h.loc _) ?_
  simp +contextual only [go_sem, hlen, harg, hb, hcn, rs_at63 hbd.1 hbd.2, hgc, hd, cdD, cdN, gdT, gdF, gdD, Nat.reduceLT, Nat.reduceEqDiff, Nat.reduceAdd, Nat.reduceLeDiff, reduceIte, reduceCtorEq]
  refine lexit_pure ((OKo.refl s).upd hb h.lowO) (by simp only [low]) ⟨?_, rfl⟩
  rw [List.getD_eq_getElem?_getD, hx]
  rfl
end Go.S1N
end
section
namespace Go.S1N
open Go Go.Am Go.Proofs Go.S1
set_option maxRecDepth 100000
attribute [local irreducible] lopsB lvb lstepB lfunG lcondB lguardB ldrawB ldrunB ldstepB ldguardB lmem lval ldmem ldval ldfun lexit ldloadB ldlenB lpostB athen ablock
end Go.S1N
end
section
namespace Go.S1N
open Go Go.Am Go.Proofs Go.S1
set_option maxRecDepth 100000
attribute [local irreducible] lopsB lvb lstepB lfunG lcondB lguardB ldrawB ldrunB ldstepB ldguardB lmem lval ldmem ldval ldfun lexit ldloadB ldlenB lpostB athen ablock
theorem getD_le {l : List (List UInt8)} {k : Nat} (h : ∀ x ∈ l, x.length ≤ k) (j : Nat) : (l.getD j []).length ≤ k := by
  rw [List.getD_eq_getElem?_getD]
  cases hj : l[j]? with
  | none => simp
  | some x => exact h x (List.mem_of_getElem? hj)
theorem anEditS {s : AHeap} {b : Nat} {Lv : AV} {L : List Int} {at_ : Int} (h : Sm s b Lv L at_) (h1 : at_ < 3900000000000000000) (n : Int) :
    ACall Tryz.prog 51 [.ptr b 0, .int .i64 n] s fun v t => ∃ (e : Ed) (k : Nat), v = e.enc ∧ e.new.length ≤ 4 ∧ k ≤ 6 ∧ t = s.upd b (strm Lv (at_ + k)) := by
  refine gob51 (by simp) ?_
  intro tm hlen harg
  have hb := h.lt
  have h0 := h.at0
  simp +contextual only [go_sem, L51, hlen, harg, cdD, cdN, gdT, gdF, gdD, Nat.reduceLT, Nat.reduceEqDiff, Nat.reduceAdd, Nat.reduceLeDiff, reduceIte, reduceCtorEq]
  refine lfunG_eq (nextS h.loc _) ?_
  simp +contextual only [go_sem, hlen, harg, hb, cdD, cdN, gdT, gdF, gdD, Nat.reduceLT, Nat.reduceEqDiff, Nat.reduceAdd, Nat.reduceLeDiff, reduceIte, reduceCtorEq]
  refine lfunG_eq (pickS ((h.upd (by omega) (by omega)).loc) (nm s.nx 1) [0, 0, 1, 2, 5] (some 3) (by simp) (by simp) (by simp only [go_sem, List.map_cons, cdD, cdN, gdT, gdF, gdD, Nat.reduceLT, Nat.reduceEqDiff, Nat.reduceAdd, Nat.reduceLeDiff, reduceIte, reduceCtorEq]) (by rw [ne_eq, nm_ne hb]; simp) (by simp only [go_sem, cdD, cdN, gdT, gdF, gdD, Nat.reduceLT, Nat.reduceEqDiff, Nat.reduceAdd, Nat.reduceLeDiff, reduceIte, reduceCtorEq])) ?_
  simp +contextual only [go_sem, hlen, harg, hb, cdD, cdN, gdT, gdF, gdD, Nat.reduceLT, Nat.reduceEqDiff, Nat.reduceAdd, Nat.reduceLeDiff, reduceIte, reduceCtorEq]
  refine lfunG_eq (someS ((h.upd (by omega) (by omega)).loc) (nm s.nx 2) [[], [97], [32], [49], [43], [41], [35], [34], [97, 98, 32, 49], [46]] (some 9) (by simp) (by simp) (by simp only [go_sem, List.map_cons, cdD, cdN, gdT, gdF, gdD, Nat.reduceLT, Nat.reduceEqDiff, Nat.reduceAdd, Nat.reduceLeDiff, reduceIte, reduceCtorEq]) (by rw [ne_eq, nm_ne hb]; simp) (by simp only [go_sem, cdD, cdN, gdT, gdF, gdD, Nat.reduceLT, Nat.reduceEqDiff, Nat.reduceAdd, Nat.reduceLeDiff, reduceIte, reduceCtorEq])) ?_
  simp +contextual only [go_sem, hlen, harg, hb, cdD, cdN, gdT, gdF, gdD, Nat.reduceLT, Nat.reduceEqDiff, Nat.reduceAdd, Nat.reduceLeDiff, reduceIte, reduceCtorEq]
  refine lfunG_eq (flipS ((h.upd (by omega) (by omega)).loc) _) ?_
  have hS := getD_le (l := [[], [97], [32], [49], [43], [41], [35], [34], [97, 98, 32, 49], [46]]) (k := 4) (by simp) (nextOf L (at_ + 1 + 1) (([[], [97], [32], [49], [43], [41], [35], [34], [97, 98, 32, 49], [46]] : List (List UInt8)).length)).toNat
  generalize ([[], [97], [32], [49], [43], [41], [35], [34], [97, 98, 32, 49], [46]] : List (List UInt8)).getD _ [] = y at hS ⊢
  simp +contextual only [go_sem, hlen, harg, hb, cdD, cdN, gdT, gdF, gdD, Nat.reduceLT, Nat.reduceEqDiff, Nat.reduceAdd, Nat.reduceLeDiff, reduceIte, reduceCtorEq]
  refine ⟨fun hf => ?_, fun hf => ?_⟩
  · refine lfunG_eq (pickS ((h.upd (by omega) (by omega)).loc) (nm s.nx 4) [-1, _, _] (some 3) (by simp) (by simp) (by simp only [go_sem, List.map_cons, cdD, cdN, gdT, gdF, gdD, Nat.reduceLT, Nat.reduceEqDiff, Nat.reduceAdd, Nat.reduceLeDiff, reduceIte, reduceCtorEq]; rfl) (by rw [ne_eq, nm_ne hb]; simp) (by simp only [go_sem, cdD, cdN, gdT, gdF, gdD, Nat.reduceLT, Nat.reduceEqDiff, Nat.reduceAdd, Nat.reduceLeDiff, reduceIte, reduceCtorEq])) ?_
    simp +contextual only [go_sem, hlen, harg, hb, cdD, cdN, gdT, gdF, gdD, Nat.reduceLT, Nat.reduceEqDiff, Nat.reduceAdd, Nat.reduceLeDiff, reduceIte, reduceCtorEq]
    refine lfunG_eq (pickS ((h.upd (by omega) (by omega)).loc) (nm s.nx 5) [0, -1, _] (some 3) (by simp) (by simp) (by simp only [go_sem, List.map_cons, cdD, cdN, gdT, gdF, gdD, Nat.reduceLT, Nat.reduceEqDiff, Nat.reduceAdd, Nat.reduceLeDiff, reduceIte, reduceCtorEq]; rfl) (by rw [ne_eq, nm_ne hb]; simp) (by simp only [go_sem, cdD, cdN, gdT, gdF, gdD, Nat.reduceLT, Nat.reduceEqDiff, Nat.reduceAdd, Nat.reduceLeDiff, reduceIte, reduceCtorEq])) ?_
    simp +contextual only [go_sem, hlen, harg, hb, cdD, cdN, gdT, gdF, gdD, Nat.reduceLT, Nat.reduceEqDiff, Nat.reduceAdd, Nat.reduceLeDiff, reduceIte, reduceCtorEq]
    refine lexit_pure ((OKo.refl s).upd hb h.lowO) (by simp only [low, lowL, and_self]) ⟨⟨_, _, y⟩, 6, rfl, hS, by omega, ?_⟩
    congr 2
    omega
  · refine lexit_pure ((OKo.refl s).upd hb h.lowO) (by simp only [low, lowL, and_self]) ⟨⟨_, _, y⟩, 4, rfl, hS, by omega, ?_⟩
    congr 2
    omega
end Go.S1N
end
section
namespace Go.S1N
open Go Go.Am Go.Proofs Go.S1
set_option maxRecDepth 100000
attribute [local irreducible] lopsB lvb lstepB lfunG lcondB lguardB ldrawB ldrunB ldstepB ldguardB lmem lval ldmem ldval ldfun lexit ldloadB ldlenB lpostB athen ablock
def edc (l : List Ed) : List AV := (l.map Ed.enc).flatMap AV.cells
theorem edc_len (l : List Ed) : (edc l).length = l.length * 3 := by
  unfold edc
  induction l with
  | nil => rfl
  | cons e l ih => simp only [List.map_cons, List.flatMap_cons, List.length_append, ih, List.length_cons, Ed.enc, AV.cells, List.length_nil]; omega
theorem edc_snoc (l : List Ed) (e : Ed) : edc (l ++ [e]) = edc l ++ [.int .i64 e.at_, .int .i64 e.cut, .str e.new] := by
  simp [edc, Ed.enc, AV.cells]
theorem edc_pul (l : List Ed) : PuL (edc l) := by
  unfold edc
  induction l with
  | nil => simp only [List.map_nil, List.flatMap_nil, PuL, lowL]
  | cons e l ih =>
    rw [List.map_cons, List.flatMap_cons, PuL, lowL_append]
    exact ⟨by simp only [Ed.enc, AV.cells, lowL, low, and_self], ih⟩
def edv (l : List Ed) : AV := fsv 3 (l.map Ed.enc)
theorem edv_sl (l : List Ed) : SlE (edv l) l := by
  unfold edv
  cases l with
  | nil => exact .inr ⟨rfl, rfl⟩
  | cons e l => exact .inl ⟨false, fsv_pos (by simp)⟩
theorem edv_pu (l : List Ed) : Pu (edv l) := (edv_sl l).pu
theorem enc_len (l : List Ed) : ∀ x ∈ l.map Ed.enc, x.cells.length = 3 := by
  intro x hx
  obtain ⟨e, _, rfl⟩ := List.mem_map.1 hx
  rfl
theorem len_fz {b : Nat} {l : List Ed} : fz b 3 (l.map Ed.enc) (gsv 3 b l.length) = edv l := by
  rw [show l.length = (l.map Ed.enc).length from (List.length_map ..).symm, fz_gsv]; rfl
theorem len_fz1 {b : Nat} {l : List Ed} {e : Ed} : fz b 3 ((l ++ [e]).map Ed.enc) (.rs 3 b 0 (l.length + 1)) = edv (l ++ [e]) := by
  simp only [fz, List.length_map, List.length_append, List.length_cons, List.length_nil, Nat.zero_add, and_self, if_true, edv]
  rw [fsv_pos (by simp)]
theorem loc_at {s : AHeap} {b : Nat} {Lv : AV} {a a' : Int} {n : Nat} {l : List (Nat × Option AObj)} (h : a = a') : loc (s.upd b (strm Lv a)) n l = loc (s.upd b (strm Lv a')) n l := by rw [h]
theorem getI_le {l : List Int} {lo hi : Int} (h0 : lo ≤ 0 ∧ 0 ≤ hi) (h : ∀ x ∈ l, lo ≤ x ∧ x ≤ hi) (j : Nat) : lo ≤ l.getD j 0 ∧ l.getD j 0 ≤ hi := by
  rw [List.getD_eq_getElem?_getD]
  cases hj : l[j]? with
  | none => simpa using h0
  | some x => exact h x (List.mem_of_getElem? hj)
theorem changeS {s : AHeap} {b : Nat} {Lv : AV} {L : List Int} {at_ : Int} (h : Sm s b Lv L at_) (h1 : at_ < 3800000000000000000) (n : Int) :
    ACall Tryz.prog 29 [.ptr b 0, .int .i64 n] s fun v t => ∃ (l : List Ed) (k : Nat), v = edv l ∧ l.length ≤ 4 ∧ (∀ e ∈ l, e.new.length ≤ 4) ∧ k ≤ 20 ∧ t = s.upd b (strm Lv (at_ + k)) := by
  refine gob29 (by simp) ?_
  intro tm hlen harg
  have hb := h.lt
  have h0 := h.at0
  simp +contextual only [go_sem, L29, hlen, harg, cdD, cdN, gdT, gdF, gdD, Nat.reduceLT, Nat.reduceEqDiff, Nat.reduceAdd, Nat.reduceLeDiff, reduceIte, reduceCtorEq]
  refine lfunG_eq (rangeS h.loc 0 3 (by omega) (by omega) (by omega)) ?_
  simp +contextual only [go_sem, hlen, harg, hb, cdD, cdN, gdT, gdF, gdD, Nat.reduceLT, Nat.reduceEqDiff, Nat.reduceAdd, Nat.reduceLeDiff, reduceIte, reduceCtorEq]
  refine lfunG_eq (pickS ((h.upd (by omega) (by omega)).loc) (nm s.nx 0) [0, 1, 1, 2, 3] (some 3) (by simp) (by simp) (by simp only [go_sem, List.map_cons, cdD, cdN, gdT, gdF, gdD, Nat.reduceLT, Nat.reduceEqDiff, Nat.reduceAdd, Nat.reduceLeDiff, reduceIte, reduceCtorEq]) (by rw [ne_eq, nm_ne hb]; simp) (by simp only [go_sem, cdD, cdN, gdT, gdF, gdD, Nat.reduceLT, Nat.reduceEqDiff, Nat.reduceAdd, Nat.reduceLeDiff, reduceIte, reduceCtorEq])) ?_
  have hN := getI_le (l := [0, 1, 1, 2, 3]) (lo := 0) (hi := 3) (by omega) (by simp) (nextOf L (at_ + 1) (([0, 1, 1, 2, 3] : List Int).length)).toNat
  generalize ([0, 1, 1, 2, 3] : List Int).getD _ 0 = N at hN ⊢
  simp +contextual only [go_sem, hlen, harg, hb, cdD, cdN, gdT, gdF, gdD, Nat.reduceLT, Nat.reduceEqDiff, Nat.reduceAdd, Nat.reduceLeDiff, reduceIte, reduceCtorEq]
  refine ⟨Nat × Int × Nat × List Ed, fun a => [(0, .ptr b 0), (1, .int .i64 n), (5, gsv 3 (nm s.nx 0) a.2.2.2.length), (6, .int .i64 a.2.1), (12, .int .i64 N), (13, .int .i64 a.1)],
    fun a => loc (s.upd b (strm Lv (at_ + a.2.2.1))) 1 [(0, gso 37 (edc a.2.2.2))], fun a => (a.1 : Int) ≤ N ∧ a.2.2.1 ≤ 2 + 3 * a.1 ∧ a.2.2.2.length ≤ a.1 ∧ ∀ e ∈ a.2.2.2, e.new.length ≤ 4, fun a => N.toNat - a.1, (0, 0 + nextOf L at_ (3 - 0 + 1), 2, []),
    ⟨by simp only; omega, by simp only; omega, by simp, by simp⟩, ?_, ?_⟩
  · refine To.go [9] [(0, none)] (by simp only [edc, List.map_nil, List.flatMap_nil, gso_nil]; congr 3; omega) ((OKo.refl s).upd hb h.lowO) (by decide) (by simp) ?_ ?_
    · simp +contextual only [go_sem, hlen, harg, gsv_zero, rnm_low hb, cdD, cdN, gdT, gdF, gdD, Nat.reduceLT, Nat.reduceEqDiff, Nat.reduceAdd, Nat.reduceLeDiff, reduceIte, reduceCtorEq]
      simp
    · simp only [go_sem, cdD, cdN, gdT, gdF, gdD, Nat.reduceLT, Nat.reduceEqDiff, Nat.reduceAdd, Nat.reduceLeDiff, reduceIte, reduceCtorEq]
  · rintro ⟨i, at1, k, l⟩ tm1 ⟨hi, hk, hl, hnew⟩ hlen1 hlv
    simp only [go_sem, hlen, cdD, cdN, gdT, gdF, gdD, Nat.reduceLT, Nat.reduceEqDiff, Nat.reduceAdd, Nat.reduceLeDiff, reduceIte, reduceCtorEq] at hlen1 hlv hi hk hl hnew
    simp +contextual only [go_sem, hlen, hlen1, hlv, cdD, cdN, gdT, gdF, gdD, Nat.reduceLT, Nat.reduceEqDiff, Nat.reduceAdd, Nat.reduceLeDiff, reduceIte, reduceCtorEq]
    refine ⟨fun hlt => ⟨fun hbr => ?_, fun hnb => ?_⟩, fun hge => ?_⟩
    rotate_left
    · refine lfunG_eq (pickS ((h.upd (by omega) (by omega)).loc) (nm s.nx 1) [0, 1, 1, 2, 4] (some 3) (by simp) (by simp) (by simp only [go_sem, List.map_cons, cdD, cdN, gdT, gdF, gdD, Nat.reduceLT, Nat.reduceEqDiff, Nat.reduceAdd, Nat.reduceLeDiff, reduceIte, reduceCtorEq]) (by rw [ne_eq, nm_ne hb]; simp) (by simp only [go_sem, cdD, cdN, gdT, gdF, gdD, Nat.reduceLT, Nat.reduceEqDiff, Nat.reduceAdd, Nat.reduceLeDiff, reduceIte, reduceCtorEq])) ?_
      simp +contextual only [go_sem, hlen1, hlv, hb, cdD, cdN, gdT, gdF, gdD, Nat.reduceLT, Nat.reduceEqDiff, Nat.reduceAdd, Nat.reduceLeDiff, reduceIte, reduceCtorEq]
      refine lfunG_eq (someS ((h.upd (by omega) (by omega)).loc) (nm s.nx 2) [[], [120], [121, 122], [120], [195, 169]] (some 9) (by simp) (by simp) (by simp only [go_sem, List.map_cons, cdD, cdN, gdT, gdF, gdD, Nat.reduceLT, Nat.reduceEqDiff, Nat.reduceAdd, Nat.reduceLeDiff, reduceIte, reduceCtorEq]) (by rw [ne_eq, nm_ne hb]; simp) (by simp only [go_sem, cdD, cdN, gdT, gdF, gdD, Nat.reduceLT, Nat.reduceEqDiff, Nat.reduceAdd, Nat.reduceLeDiff, reduceIte, reduceCtorEq])) ?_
      have hS := getD_le (l := [[], [120], [121, 122], [120], [195, 169]]) (k := 4) (by simp) (nextOf L (at_ + k + 1) (([[], [120], [121, 122], [120], [195, 169]] : List (List UInt8)).length)).toNat
      generalize ([[], [120], [121, 122], [120], [195, 169]] : List (List UInt8)).getD _ [] = y at hS ⊢
      generalize ([0, 1, 1, 2, 4] : List Int).getD _ 0 = z
      simp +contextual only [go_sem, hlen1, hlv, hb, cdD, cdN, gdT, gdF, gdD, Nat.reduceLT, Nat.reduceEqDiff, Nat.reduceAdd, Nat.reduceLeDiff, reduceIte, reduceCtorEq]
      generalize (if IntKind.i64.wrap (n - at1) < z then IntKind.i64.wrap (n - at1) else z) = w
      have hw : IntKind.i64.wrap ((i : Int) + 1) = ((i + 1 : Nat) : Int) := by rw [wrap_id (by omega)]; rfl
      refine ⟨fun c1 => ⟨fun c2 => ?_, fun c2 => ?_⟩, fun c1 => ?_⟩
      all_goals
        refine lmem_eq (app27 (acellsOf_rs (by simp only [go_sem, cdD, cdN, gdT, gdF, gdD, Nat.reduceLT, Nat.reduceEqDiff, Nat.reduceAdd, Nat.reduceLeDiff, reduceIte, reduceCtorEq]; rfl) (by rfl) (AHeap.nx_upd _ _ _)) (by decide) (by simp only [go_sem, cdD, cdN, gdT, gdF, gdD, Nat.reduceLT, Nat.reduceEqDiff, Nat.reduceAdd, Nat.reduceLeDiff, reduceIte, reduceCtorEq]) (by simp only [go_sem, cdD, cdN, gdT, gdF, gdD, Nat.reduceLT, Nat.reduceEqDiff, Nat.reduceAdd, Nat.reduceLeDiff, reduceIte, reduceCtorEq]) (edc_len l) (by omega) (AHeap.nx_upd _ _ _)) ?_
        simp +contextual only [go_sem, hlen1, hlv, hb, cdD, cdN, gdT, gdF, gdD, Nat.reduceLT, Nat.reduceEqDiff, Nat.reduceAdd, Nat.reduceLeDiff, reduceIte, reduceCtorEq]
        refine ldrawB_go [] [(2, 1), (2, 2)] 7 (by decide) ?_
        simp +contextual only [go_sem, hlen1, hlv, hb, cdD, cdN, gdT, gdF, gdD, Nat.reduceLT, Nat.reduceEqDiff, Nat.reduceAdd, Nat.reduceLeDiff, reduceIte, reduceCtorEq]
        refine ldfun_eff _ _ (pickS ((h.upd (by omega) (by omega)).loc) _ [1, 1, 2, 5] (some 3) (by simp) (by simp) (by simp only [go_sem, List.map_cons, cdD, cdN, gdT, gdF, gdD, Nat.reduceLT, Nat.reduceEqDiff, Nat.reduceAdd, Nat.reduceLeDiff, reduceIte, reduceCtorEq]) (by rw [ne_eq, nm_ne hb]; simp) (by simp only [go_sem, cdD, cdN, gdT, gdF, gdD, Nat.reduceLT, Nat.reduceEqDiff, Nat.reduceAdd, Nat.reduceLeDiff, reduceIte, reduceCtorEq])) ?_
        simp +contextual only [go_sem, hlen1, hlv, hb, cdD, cdN, gdT, gdF, gdD, Nat.reduceLT, Nat.reduceEqDiff, Nat.reduceAdd, Nat.reduceLeDiff, reduceIte, reduceCtorEq]
        generalize ([1, 1, 2, 5] : List Int).getD _ 0 = p
      · refine ⟨by kernel_rfl, (i + 1, IntKind.i64.wrap (at1 + IntKind.i64.wrap (0 + p)), k + 3, l ++ [⟨at1, 0, [119]⟩]), ⟨by simp only; omega, by simp only; omega, by simp only [List.length_append, List.length_cons, List.length_nil]; omega, ?_⟩, by simp only; omega, ?_⟩
        · intro e he
          rcases List.mem_append.1 he with he | he
          · exact hnew e he
          · rw [List.mem_singleton.1 he]; simp
        · refine To.go [5] [(0, gso 37 (edc (l ++ [⟨at1, 0, [119]⟩])))] (loc_at (by simp only; omega)) ((OKo.refl s).upd hb h.lowO) (by decide) (by simp) ?_ ?_
          · simp +contextual only [go_sem, hlen1, hlv, hw, rnm_low hb, List.length_append, gsv_pos (Nat.succ_ne_zero l.length), cdD, cdN, gdT, gdF, gdD, Nat.reduceLT, Nat.reduceEqDiff, Nat.reduceAdd, Nat.reduceLeDiff, reduceIte, reduceCtorEq]
          · simp only [go_sem, map_gso_pu (edc_pul _), cdD, cdN, gdT, gdF, gdD, Nat.reduceLT, Nat.reduceEqDiff, Nat.reduceAdd, Nat.reduceLeDiff, reduceIte, reduceCtorEq]
            simp only [edc_snoc, gso_pos (List.append_ne_nil_of_right_ne_nil (edc l) (List.cons_ne_nil _ _))]
      · refine ⟨by kernel_rfl, (i + 1, IntKind.i64.wrap (at1 + IntKind.i64.wrap (0 + p)), k + 3, l ++ [⟨at1, 0, y⟩]), ⟨by simp only; omega, by simp only; omega, by simp only [List.length_append, List.length_cons, List.length_nil]; omega, ?_⟩, by simp only; omega, ?_⟩
        · intro e he
          rcases List.mem_append.1 he with he | he
          · exact hnew e he
          · rw [List.mem_singleton.1 he]; exact hS
        · refine To.go [5] [(0, gso 37 (edc (l ++ [⟨at1, 0, y⟩])))] (loc_at (by simp only; omega)) ((OKo.refl s).upd hb h.lowO) (by decide) (by simp) ?_ ?_
          · simp +contextual only [go_sem, hlen1, hlv, hw, rnm_low hb, List.length_append, gsv_pos (Nat.succ_ne_zero l.length), cdD, cdN, gdT, gdF, gdD, Nat.reduceLT, Nat.reduceEqDiff, Nat.reduceAdd, Nat.reduceLeDiff, reduceIte, reduceCtorEq]
          · simp only [go_sem, map_gso_pu (edc_pul _), cdD, cdN, gdT, gdF, gdD, Nat.reduceLT, Nat.reduceEqDiff, Nat.reduceAdd, Nat.reduceLeDiff, reduceIte, reduceCtorEq]
            simp only [edc_snoc, gso_pos (List.append_ne_nil_of_right_ne_nil (edc l) (List.cons_ne_nil _ _))]
      · refine ⟨by kernel_rfl, (i + 1, IntKind.i64.wrap (at1 + IntKind.i64.wrap (w + p)), k + 3, l ++ [⟨at1, w, y⟩]), ⟨by simp only; omega, by simp only; omega, by simp only [List.length_append, List.length_cons, List.length_nil]; omega, ?_⟩, by simp only; omega, ?_⟩
        · intro e he
          rcases List.mem_append.1 he with he | he
          · exact hnew e he
          · rw [List.mem_singleton.1 he]; exact hS
        · refine To.go [5] [(0, gso 37 (edc (l ++ [⟨at1, w, y⟩])))] (loc_at (by simp only; omega)) ((OKo.refl s).upd hb h.lowO) (by decide) (by simp) ?_ ?_
          · simp +contextual only [go_sem, hlen1, hlv, hw, rnm_low hb, List.length_append, gsv_pos (Nat.succ_ne_zero l.length), cdD, cdN, gdT, gdF, gdD, Nat.reduceLT, Nat.reduceEqDiff, Nat.reduceAdd, Nat.reduceLeDiff, reduceIte, reduceCtorEq]
          · simp only [go_sem, map_gso_pu (edc_pul _), cdD, cdN, gdT, gdF, gdD, Nat.reduceLT, Nat.reduceEqDiff, Nat.reduceAdd, Nat.reduceLeDiff, reduceIte, reduceCtorEq]
            simp only [edc_snoc, gso_pos (List.append_ne_nil_of_right_ne_nil (edc l) (List.cons_ne_nil _ _))]
    all_goals
      refine lfunG_eq (flipS ((h.upd (by omega) (by omega)).loc) _) ?_
      simp +contextual only [go_sem, hlen1, hlv, hb, cdD, cdN, gdT, gdF, gdD, Nat.reduceLT, Nat.reduceEqDiff, Nat.reduceAdd, Nat.reduceLeDiff, reduceIte, reduceCtorEq]
      refine ⟨fun hf => ?_, fun hf => ?_⟩
      · refine lfunG_of (anEditS ((h.upd (by omega) (by omega)).loc) (by omega) _) ?_
        rintro _ _ ⟨e, m, rfl, he, hm, rfl⟩
        simp +contextual only [go_sem, hlen1, hlv, hb, Ed.enc, cdD, cdN, gdT, gdF, gdD, Nat.reduceLT, Nat.reduceEqDiff, Nat.reduceAdd, Nat.reduceLeDiff, reduceIte, reduceCtorEq]
        refine lmem_eq (app27 (acellsOf_rs (by simp only [go_sem, cdD, cdN, gdT, gdF, gdD, Nat.reduceLT, Nat.reduceEqDiff, Nat.reduceAdd, Nat.reduceLeDiff, reduceIte, reduceCtorEq]; rfl) (by rfl) (AHeap.nx_upd _ _ _)) (by decide) (by simp only [go_sem, cdD, cdN, gdT, gdF, gdD, Nat.reduceLT, Nat.reduceEqDiff, Nat.reduceAdd, Nat.reduceLeDiff, reduceIte, reduceCtorEq]) (by simp only [go_sem, cdD, cdN, gdT, gdF, gdD, Nat.reduceLT, Nat.reduceEqDiff, Nat.reduceAdd, Nat.reduceLeDiff, reduceIte, reduceCtorEq]) (edc_len l) (by omega) (AHeap.nx_upd _ _ _)) ?_
        simp +contextual only [go_sem, hlen1, hlv, hb, cdD, cdN, gdT, gdF, gdD, Nat.reduceLT, Nat.reduceEqDiff, Nat.reduceAdd, Nat.reduceLeDiff, reduceIte, reduceCtorEq]
        refine lexit_freeze 2 3 ((l ++ [e]).map Ed.enc) (by simp only [go_sem, cdD, cdN, gdT, gdF, gdD, Nat.reduceLT, Nat.reduceEqDiff, Nat.reduceAdd, Nat.reduceLeDiff, reduceIte, reduceCtorEq]; exact congrArg (fun c => some (AObj.cells c (some 37))) (edc_snoc l e).symm) (enc_len _) ?_
        simp only [AHeap.nx_upd, len_fz1]
        refine lexit_pure ((OKo.refl s).upd hb h.lowO) (low.mono (Nat.zero_le _) (edv_pu _)) ⟨_, k + 1 + m, rfl, by simp only [List.length_append, List.length_cons, List.length_nil]; omega, ?_, by omega, by congr 2; omega⟩
        intro x hx
        rcases List.mem_append.1 hx with hx | hx
        · exact hnew x hx
        · rw [List.mem_singleton.1 hx]; exact he
      · refine lexit_freezeG 0 3 (l.map Ed.enc) (by simp only [go_sem, cdD, cdN, gdT, gdF, gdD, Nat.reduceLT, Nat.reduceEqDiff, Nat.reduceAdd, Nat.reduceLeDiff, reduceIte, reduceCtorEq]; rfl) (enc_len l) (by decide) ?_
        simp only [AHeap.nx_upd, len_fz]
        exact lexit_pure ((OKo.refl s).upd hb h.lowO) (low.mono (Nat.zero_le _) (edv_pu _)) ⟨_, k + 1, rfl, by omega, hnew, by omega, by congr 2; omega⟩
end Go.S1N
end
section
namespace Go.S1N
open Go Go.Am Go.Proofs Go.S1
set_option maxRecDepth 100000
attribute [local irreducible] lopsB lvb lstepB lfunG lcondB lguardB ldrawB ldrunB ldstepB ldguardB lmem lval ldmem ldval ldfun lexit ldloadB ldlenB lpostB athen ablock
theorem scan_range {n : Int} : ∀ (l : List Ed) (B : Int), scan n B l = 0 → ∀ z ∈ l, 0 ≤ z.at_ ∧ 0 ≤ z.cut ∧ z.at_ ≤ n ∧ z.cut ≤ n
  | [], B, _, z, hz => by cases hz
  | a :: l, B, h, z, hz => by
    obtain ⟨d1, d2, d3, d4, d5, d6⟩ := scan_cons h
    rcases List.mem_cons.1 hz with rfl | hz
    · omega
    · exact scan_range l _ d6 z hz
end Go.S1N
end
section
namespace Go.S1
open Go Go.Am Go.Proofs
set_option maxRecDepth 100000
noncomputable def L14 : LCode := .seq (.ops [⟨.assign (.const (.bool false)), some 4, none⟩]) (.seq (.seq (.ops [⟨.move (.tmp 0), some 6, none⟩, ⟨.call { callee := .builtin .len, args := { toList := [.tmp 6] }, argTypes := { toList := [27] } }, some 7, none⟩, ⟨.move (.tmp 1), some 8, none⟩, ⟨.call { callee := .builtin .len, args := { toList := [.tmp 8] }, argTypes := { toList := [27] } }, some 9, none⟩, ⟨.binOp .neq 3 (.tmp 7) (.tmp 9) 3, some 10, none⟩]) (.cond (.tmp 10) (.seq (.ops [⟨.assign (.const (.bool false)), some 4, none⟩]) .ret) .skip)) (.seq (.seq (.ops [⟨.move (.tmp 0), some 11, none⟩, ⟨.call { callee := .builtin .len, args := { toList := [.tmp 11] }, argTypes := { toList := [27] } }, some 12, none⟩, ⟨.move (.const (.int .i64 0)), some 13, none⟩]) (.block 0 (.loop (.seq (.ops [⟨.binOp .lss 3 (.tmp 13) (.tmp 12) 3, some 14, none⟩]) (.seq (.cond (.tmp 14) .skip (.exit 0)) (.seq (.block 1 (.seq (.ops [⟨.move (.tmp 13), some 15, none⟩, ⟨.assign (.tmp 15), some 5, none⟩]) (.seq (.draw [0, 0, 3, 7, 0, 0, 48, 112, 255] [⟨.move (.tmp 0), some 16, none⟩, ⟨.move (.tmp 5), some 17, none⟩, ⟨.indexAddr 27 (.tmp 16) (.tmp 17), some 18, none⟩, ⟨.load 37 (.tmp 18), some 19, none⟩, ⟨.move (.tmp 1), some 20, none⟩, ⟨.move (.tmp 5), some 21, none⟩, ⟨.indexAddr 27 (.tmp 20) (.tmp 21), some 22, none⟩, ⟨.load 37 (.tmp 22), some 23, none⟩, ⟨.binOp .neq 37 (.tmp 19) (.tmp 23) 37, some 24, none⟩]) (.cond (.tmp 24) (.seq (.ops [⟨.assign (.const (.bool false)), some 4, none⟩]) .ret) .skip)))) (.ops [⟨.binOp .add 3 (.tmp 13) (.const (.int .i64 1)) 3, some 25, none⟩, ⟨.move (.tmp 25), some 13, none⟩]))))))) (.seq (.ops [⟨.assign (.const (.bool true)), some 4, none⟩]) .ret)))
theorem l14 : Tryz.f14.body.map lighten = some L14 := by kernel_rfl
theorem rs14 : Tryz.f14.results.toList = [ResultVar.tmp 4] := by kernel_rfl
theorem nt14 : Tryz.f14.ntmps = 26 := by kernel_rfl
theorem gob14 {args : List AV} {s : AHeap} {R : AV → AHeap → Prop} (hl : args.length ≤ 26) (h : ∀ tm, tm.length = 26 → (∀ i, aev tm (.tmp i) = args.getD i aundef) → lvb Tryz.prog tab s L14 (lpostB tab s [ResultVar.tmp 4] R) tm (loc s 0 [])) : ACall Tryz.prog 14 args s R := ACall.goB tab_ok mixed Tryz.func14 l14 nm14 rs14 nt14 hl h
noncomputable def L68 : LCode := .seq (.ops [⟨.assign (.const (.slice none 0 0)), some 4, none⟩]) (.seq (.ops [⟨.assign (.const (.slice none 0 0)), some 5, none⟩]) (.seq (.ops [⟨.assign (.const (.int .i64 0)), some 6, none⟩]) (.seq (.seq (.ops [⟨.move (.tmp 1), some 9, none⟩, ⟨.call { callee := .builtin .len, args := { toList := [.tmp 9] }, argTypes := { toList := [27] } }, some 10, none⟩, ⟨.move (.const (.int .i64 0)), some 11, none⟩]) (.block 0 (.loop (.seq (.ops [⟨.binOp .lss 3 (.tmp 11) (.tmp 10) 3, some 12, none⟩]) (.seq (.cond (.tmp 12) .skip (.exit 0)) (.seq (.block 1 (.seq (.ops [⟨.indexAddr 27 (.tmp 9) (.tmp 11), some 13, none⟩, ⟨.load 37 (.tmp 13), some 14, none⟩, ⟨.alloc 37, some 8, none⟩, ⟨.store 37 (.tmp 8) (.tmp 14), none, none⟩]) (.seq (.draw [0, 0, 0, 4, 0, 28, 62, 0, 128, 510, 1022, 2047, 4095] [⟨.move (.tmp 5), some 15, none⟩, ⟨.move (.tmp 6), some 16, none⟩, ⟨.fieldAddr 37 (.tmp 8) 0, some 17, none⟩, ⟨.load 3 (.tmp 17), some 18, none⟩, ⟨.move (.tmp 6), some 19, none⟩, ⟨.binOp .sub 3 (.tmp 18) (.tmp 19) 3, some 20, none⟩, ⟨.call { callee := .value (.func 48), args := { toList := [.tmp 16, .tmp 20] }, argTypes := { toList := [3, 3] } }, some 21, none⟩, ⟨.fieldAddr 37 (.tmp 8) 2, some 22, none⟩, ⟨.load 9 (.tmp 22), some 23, none⟩, ⟨.call { callee := .value (.func 47), args := { toList := [.tmp 23] }, argTypes := { toList := [9] } }, some 24, none⟩, ⟨.buildSlice 89 2 { toList := [(0, .tmp 21), (1, .tmp 24)] }, some 25, none⟩, ⟨.call { callee := .builtin .append, args := { toList := [.tmp 15, .tmp 25] }, argTypes := { toList := [89, 89] } }, some 26, none⟩, ⟨.assign (.tmp 26), some 5, none⟩]) (.ops [⟨.fieldAddr 37 (.tmp 8) 0, some 27, none⟩, ⟨.load 3 (.tmp 27), some 28, none⟩, ⟨.fieldAddr 37 (.tmp 8) 1, some 29, none⟩, ⟨.load 3 (.tmp 29), some 30, none⟩, ⟨.binOp .add 3 (.tmp 28) (.tmp 30) 3, some 31, none⟩, ⟨.assign (.tmp 31), some 6, none⟩])))) (.ops [⟨.binOp .add 3 (.tmp 11) (.const (.int .i64 1)) 3, some 32, none⟩, ⟨.move (.tmp 32), some 11, none⟩]))))))) (.seq (.ops [⟨.move (.tmp 5), some 33, none⟩, ⟨.move (.tmp 6), some 34, none⟩, ⟨.move (.tmp 0), some 35, none⟩, ⟨.move (.tmp 6), some 36, none⟩, ⟨.binOp .sub 3 (.tmp 35) (.tmp 36) 3, some 37, none⟩, ⟨.call { callee := .value (.func 48), args := { toList := [.tmp 34, .tmp 37] }, argTypes := { toList := [3, 3] } }, some 38, none⟩, ⟨.buildSlice 89 1 { toList := [(0, .tmp 38)] }, some 39, none⟩, ⟨.call { callee := .builtin .append, args := { toList := [.tmp 33, .tmp 39] }, argTypes := { toList := [89, 89] } }, some 40, none⟩, ⟨.assign (.tmp 40), some 4, none⟩]) .ret))))
theorem l68 : Tryz.f68.body.map lighten = some L68 := by kernel_rfl
theorem rs68 : Tryz.f68.results.toList = [ResultVar.tmp 4] := by kernel_rfl
theorem nt68 : Tryz.f68.ntmps = 41 := by kernel_rfl
theorem gob68 {args : List AV} {s : AHeap} {R : AV → AHeap → Prop} (hl : args.length ≤ 41) (h : ∀ tm, tm.length = 41 → (∀ i, aev tm (.tmp i) = args.getD i aundef) → lvb Tryz.prog tab s L68 (lpostB tab s [ResultVar.tmp 4] R) tm (loc s 0 [])) : ACall Tryz.prog 68 args s R := ACall.goB tab_ok mixed Tryz.func68 l68 nm68 rs68 nt68 hl h
noncomputable def L48 : LCode := .seq (.ops [⟨.alloc 98, some 4, none⟩]) (.seq (.ops [⟨.move (.tmp 0), some 5, none⟩, ⟨.move (.tmp 1), some 6, none⟩, ⟨.build 98 { toList := [(0, .tmp 5), (1, .tmp 6)] }, some 7, none⟩, ⟨.store 98 (.tmp 4) (.tmp 7), none, none⟩]) .ret)
theorem l48 : Tryz.f48.body.map lighten = some L48 := by kernel_rfl
theorem rs48 : Tryz.f48.results.toList = [ResultVar.cell 4 98] := by kernel_rfl
theorem nt48 : Tryz.f48.ntmps = 8 := by kernel_rfl
theorem gob48 {args : List AV} {s : AHeap} {R : AV → AHeap → Prop} (hl : args.length ≤ 8) (h : ∀ tm, tm.length = 8 → (∀ i, aev tm (.tmp i) = args.getD i aundef) → lvb Tryz.prog tab s L48 (lpostB tab s [ResultVar.cell 4 98] R) tm (loc s 0 [])) : ACall Tryz.prog 48 args s R := ACall.goB tab_ok mixed Tryz.func48 l48 nm48 rs48 nt48 hl h
noncomputable def L47 : LCode := .seq (.ops [⟨.alloc 98, some 2, none⟩]) (.seq (.ops [⟨.move (.tmp 0), some 3, none⟩, ⟨.build 98 { toList := [(2, .tmp 3)] }, some 4, none⟩, ⟨.store 98 (.tmp 2) (.tmp 4), none, none⟩]) .ret)
theorem l47 : Tryz.f47.body.map lighten = some L47 := by kernel_rfl
theorem rs47 : Tryz.f47.results.toList = [ResultVar.cell 2 98] := by kernel_rfl
theorem nt47 : Tryz.f47.ntmps = 5 := by kernel_rfl
theorem gob47 {args : List AV} {s : AHeap} {R : AV → AHeap → Prop} (hl : args.length ≤ 5) (h : ∀ tm, tm.length = 5 → (∀ i, aev tm (.tmp i) = args.getD i aundef) → lvb Tryz.prog tab s L47 (lpostB tab s [ResultVar.cell 2 98] R) tm (loc s 0 [])) : ACall Tryz.prog 47 args s R := ACall.goB tab_ok mixed Tryz.func47 l47 nm47 rs47 nt47 hl h
end Go.S1
end
section
namespace Go.S1N
open Go Go.Am Go.Proofs Go.S1
set_option maxRecDepth 100000
attribute [local irreducible] lopsB lvb lstepB lfunG lcondB lguardB ldrawB ldrunB ldstepB ldguardB lmem lval ldmem ldval ldfun lexit ldloadB ldlenB lpostB athen ablock
theorem longE (n : Int) (v : AV) (l : List Ed) (hv : SlE v l) (hl : l.length < 4611686018427387904) (s : AHeap) : ACall Tryz.prog 38 [.int .i64 n, v] s fun r t => r = .int .i64 (longOf n l) ∧ t = s :=
  exact_of (by simp only [Pu, low]) (long_ok n v l hv hl s)
theorem checkE (n : Int) (v : AV) (l : List Ed) (hv : SlE v l) (hl : l.length < 4611686018427387904) (s : AHeap) : ACall Tryz.prog 37 [.int .i64 n, v] s fun r t => r = .int .i64 (faultOf n l) ∧ t = s :=
  exact_of (by simp only [Pu, low]) (check_ok n v l hv hl s)
end Go.S1N
end
section
namespace Go.S1N
open Go Go.Am Go.Proofs Go.S1
set_option maxRecDepth 100000
attribute [local irreducible] lopsB lvb lstepB lfunG lcondB lguardB ldrawB ldrunB ldstepB ldguardB lmem lval ldmem ldval ldfun lexit ldloadB ldlenB lpostB athen ablock
theorem gso_ed {O : List Ed} {z : Ed} : gso 37 (edc (O ++ [z])) = some (.cells (edc (O ++ [z])) (some 37)) := gso_pos (by simp [edc_snoc])
end Go.S1N
end
section
namespace Go.S1N
open Go Go.Am Go.Proofs Go.S1
set_option maxRecDepth 100000
attribute [local irreducible] lopsB lvb lstepB lfunG lcondB lguardB ldrawB ldrunB ldstepB ldguardB lmem lval ldmem ldval ldfun lexit ldloadB ldlenB lpostB athen ablock
structure Rn where
  at_ : Int
  long : Int
  text : List UInt8
def Rn.enc (e : Rn) : AV := .agg [.int .i64 e.at_, .int .i64 e.long, .str e.text]
def rnc (l : List Rn) : List AV := (l.map Rn.enc).flatMap AV.cells
def rnv (l : List Rn) : AV := fsv 3 (l.map Rn.enc)
theorem rnc_len (l : List Rn) : (rnc l).length = l.length * 3 := by
  unfold rnc
  induction l with
  | nil => rfl
  | cons e l ih => simp only [List.map_cons, List.flatMap_cons, List.length_append, ih, List.length_cons, Rn.enc, AV.cells, List.length_nil]; omega
theorem rnc_snoc (l : List Rn) (e : Rn) : rnc (l ++ [e]) = rnc l ++ [.int .i64 e.at_, .int .i64 e.long, .str e.text] := by
  simp [rnc, Rn.enc, AV.cells]
theorem rnc_pul (l : List Rn) : PuL (rnc l) := by
  unfold rnc
  induction l with
  | nil => simp only [List.map_nil, List.flatMap_nil, PuL, lowL]
  | cons e l ih =>
    rw [List.map_cons, List.flatMap_cons, PuL, lowL_append]
    exact ⟨by simp only [Rn.enc, AV.cells, lowL, low, and_self], ih⟩
theorem rn_len (l : List Rn) : ∀ x ∈ l.map Rn.enc, x.cells.length = 3 := by
  intro x hx
  obtain ⟨e, _, rfl⟩ := List.mem_map.1 hx
  rfl
theorem rnv_pu (l : List Rn) : Pu (rnv l) := pu_fsv (by
  simp only [PuL, lowL_iff]
  intro x hx
  obtain ⟨e, _, rfl⟩ := List.mem_map.1 hx
  simp only [Rn.enc, low, lowL, and_self])
theorem kept_ok (a n : Int) (s : AHeap) : ACall Tryz.prog 48 [.int .i64 a, .int .i64 n] s fun r t => r = Rn.enc ⟨a, n, []⟩ ∧ t = s := by
  refine gob48 (by simp) ?_
  intro tm hlen harg
  simp +contextual only [go_sem, L48, hlen, harg, cdD, cdN, gdT, gdF, gdD, Nat.reduceLT, Nat.reduceEqDiff, Nat.reduceAdd, Nat.reduceLeDiff, reduceIte, reduceCtorEq]
  exact lexit_pure (.refl s) (by simp only [low, lowL, and_self]) ⟨rfl, rfl⟩
theorem fresh_ok (x : List UInt8) (s : AHeap) : ACall Tryz.prog 47 [.str x] s fun r t => r = Rn.enc ⟨0, 0, x⟩ ∧ t = s := by
  refine gob47 (by simp) ?_
  intro tm hlen harg
  simp +contextual only [go_sem, L47, hlen, harg, cdD, cdN, gdT, gdF, gdD, Nat.reduceLT, Nat.reduceEqDiff, Nat.reduceAdd, Nat.reduceLeDiff, reduceIte, reduceCtorEq]
  exact lexit_pure (.refl s) (by simp only [low, lowL, and_self]) ⟨rfl, rfl⟩
def runsFrom (n : Int) : Int → List Ed → List Rn
  | a, [] => [⟨a, n - a, []⟩]
  | a, e :: r => ⟨a, e.at_ - a, []⟩ :: ⟨0, 0, e.new⟩ :: runsFrom n (e.at_ + e.cut) r
theorem len_rnfz {b : Nat} {l : List Rn} : fz b 3 (l.map Rn.enc) (gsv 3 b l.length) = rnv l := by
  rw [show l.length = (l.map Rn.enc).length from (List.length_map ..).symm, fz_gsv]; rfl
end Go.S1N
end
section
namespace Go.S1N
open Go Go.Am Go.Proofs Go.S1
set_option maxRecDepth 100000
attribute [local irreducible] lopsB lvb lstepB lfunG lcondB lguardB ldrawB ldrunB ldstepB ldguardB lmem lval ldmem ldval ldfun lexit ldloadB ldlenB lpostB athen ablock
def inl_ (O : List Int) : List AV := O.map (AV.int .i64)
def intv (O : List Int) : AV := fsv 1 (inl_ O)
theorem inl_flat (O : List Int) : (inl_ O).flatMap AV.cells = inl_ O := by
  unfold inl_
  induction O with
  | nil => rfl
  | cons x O ih => simp only [List.map_cons, List.flatMap_cons, AV.cells, ih, List.cons_append, List.nil_append]
theorem inl_pul (O : List Int) : PuL (inl_ O) := by
  simp only [PuL, lowL_iff, inl_, List.mem_map]
  rintro x ⟨z, _, rfl⟩
  simp only [low]
theorem intv_pu (O : List Int) : Pu (intv O) := pu_fsv (inl_pul O)
theorem inl_cl (O : List Int) : ∀ x ∈ inl_ O, x.cells.length = 1 := by
  intro x hx
  obtain ⟨z, _, rfl⟩ := List.mem_map.1 hx
  rfl
theorem inl_length (O : List Int) : (inl_ O).length = O.length := List.length_map ..
theorem len_infz {b : Nat} {O : List Int} : fz b 1 (inl_ O) (gsv 1 b O.length) = intv O := by
  rw [← inl_length O, fz_gsv]; rfl
theorem intv_ints (O : List Int) : IsInts (intv O) O := by
  cases O with
  | nil => exact .inr ⟨rfl, rfl⟩
  | cons x O => exact .inl ⟨false, fsv_pos (by simp [inl_])⟩
theorem runs_len (n : Int) : ∀ (l : List Ed) (a : Int), (runsFrom n a l).length = 2 * l.length + 1
  | [], a => rfl
  | e :: l, a => by simp only [runsFrom, List.length_cons, runs_len n l]; omega
theorem rn_at (RS : List Rn) {j : Nat} {r : Rn} (h : RS[j]? = some r) : aindexAddr tab 89 (rnv RS) (.int .i64 j) = some (.rptr [.int .i64 r.at_, .int .i64 r.long, .str r.text]) :=
  ix89f (v := r.enc) (by omega) (by rw [List.getElem?_map, Int.toNat_natCast, h]; rfl) rfl
end Go.S1N
end
section
namespace Go.S1N
open Go Go.Am Go.Proofs Go.S1
set_option maxRecDepth 100000
theorem lfunG_eqc' {P : Program} {s0 s : AHeap} {N : List AV → AHeap → Prop} {f : Operand} {args : List Operand} {d : Option Nat} {tm : List AV} {g : FuncId} {av fi ca av' : List AV} {R : AV → AHeap → Prop} (he : fi ++ av ++ ca = av') (h : ACall P g av' s R) (k : ∀ v t, R v t → N (aput tm d v) t) :
    lfunG P s0 N f args d tm s (.func (.func g) fi ca) av := by
  intro hf ha
  refine .now ?_
  rw [← hf, ← ha]
  show lcall P N g (fi ++ av ++ ca) s d tm
  rw [he]
  exact lcall_of h k
theorem lexit_now {s0 s : AHeap} {R : AV → AHeap → Prop} {v : AV} (h : R v s) : lexit s0 R (some v) s := Gh.now ⟨v, rfl, h⟩
attribute [local irreducible] lopsB lvb lstepB lfunG lcondB lguardB ldrawB ldrunB ldstepB ldguardB lmem lval ldmem ldval ldfun lexit ldloadB ldlenB lpostB athen ablock
def pushE (a : Int) (w : List UInt8) (to : Int) : List Ed := if a < to ∨ w ≠ [] then [⟨a, to - a, w⟩] else []
def edGo (n : Int) : Int → List UInt8 → List (Int × UInt8) → List Ed
  | a, w, [] => pushE a w n
  | a, w, p :: r => if p.1 < 0 then edGo n a (w ++ [p.2]) r else pushE a w p.1 ++ edGo n (p.1 + 1) [] r
end Go.S1N
end
section
namespace Go.S1N
open Go Go.Am Go.Proofs Go.S1
set_option maxRecDepth 100000
attribute [local irreducible] lopsB lvb lstepB lfunG lcondB lguardB ldrawB ldrunB ldstepB ldguardB lmem lval ldmem ldval ldfun lexit ldloadB ldlenB lpostB athen ablock
end Go.S1N
end
section
namespace Go.S1N
open Go Go.Am Go.Proofs Go.S1
set_option maxRecDepth 100000
attribute [local irreducible] lopsB lvb lstepB lfunG lcondB lguardB ldrawB ldrunB ldstepB ldguardB lmem lval ldmem ldval ldfun lexit ldloadB ldlenB lpostB athen ablock
theorem eq_of_take {α : Type} {a b : List α} {i : Nat} (h : a.take i = b.take i) (hi : i = a.length) (hl : a.length = b.length) : a = b := by
  subst hi
  rw [List.take_length, hl, List.take_length] at h
  exact h
theorem take_snoc {α : Type} {a b : List α} {i : Nat} {x : α} (h : a.take i = b.take i) (ha : a[i]? = some x) (hb : b[i]? = some x) : a.take (i + 1) = b.take (i + 1) := by
  rw [List.take_add_one, List.take_add_one, h, ha, hb]
theorem ints_at' {v : AV} {l : List Int} (h : IsInts v l) {i : Nat} {x : Int} (he : l[i]? = some x) : aindexAddr tab 22 v (.int .i64 i) = some (.rptr [.int .i64 x]) :=
  h.at (n := i) (by omega) (by simpa using he)
theorem Ed.ext' {a b : Ed} (h1 : a.at_ = b.at_) (h2 : a.cut = b.cut) (h3 : a.new = b.new) : a = b := by cases a; cases b; simp_all
theorem beqd {α : Type} [BEq α] [LawfulBEq α] [DecidableEq α] {a b : α} : (a == b) = decide (a = b) := by
  by_cases h : a = b <;> simp [h]
theorem neq35 {a b a' b' : Int} {c c' : List UInt8} : abin tab .neq 37 (.agg [.int .i64 a, .int .i64 b, .str c]) (.agg [.int .i64 a', .int .i64 b', .str c']) = some (.bool (decide (¬ (a = a' ∧ b = b' ∧ c = c')))) := by
  simp [abin, abin1, aeq, ty37, ty3, ty9, aeqFields, apart, TD.isAgg, beqd]
  by_cases h1 : a = a' <;> by_cases h2 : b = b' <;> by_cases h3 : c = c' <;> simp [h1, h2, h3]
theorem equalEds_ok {v w : AV} {a b : List Ed} (hv : SlE v a) (hw : SlE w b) (ha : a.length < 4611686018427387904) (s : AHeap) [Decidable (a = b)] :
    ACall Tryz.prog 14 [v, w] s fun r t => r = .bool (decide (a = b)) ∧ t = s := by
  refine gob14 (by simp) ?_
  intro tm hlen harg
  simp +contextual only [go_sem, L14, hlen, harg, hv.len, hw.len, cdD, cdN, gdT, gdF, gdD, Nat.reduceLT, Nat.reduceEqDiff, Nat.reduceAdd, Nat.reduceLeDiff, reduceIte, reduceCtorEq]
  refine ⟨fun c => ?_, fun c => ?_⟩
  · refine lexit_pure (.refl s) (by simp only [low]) ⟨?_, rfl⟩
    have : a ≠ b := by rintro rfl; exact c rfl
    simp [this]
  · have hl : a.length = b.length := by omega
    refine ⟨Nat, fun i => [(0, v), (1, w), (12, .int .i64 a.length), (13, .int .i64 i)], fun i => loc s 0 [], fun i => i ≤ a.length ∧ a.take i = b.take i, fun i => a.length - i, 0, by simp, ?_, ?_⟩
    · refine To.go [] [] rfl (.refl s) (by decide) (by simp) ?_ trivial
      simp +contextual only [go_sem, hlen, harg, pu_ren hv.pu, pu_ren hw.pu, cdD, cdN, gdT, gdF, gdD, Nat.reduceLT, Nat.reduceEqDiff, Nat.reduceAdd, Nat.reduceLeDiff, reduceIte, reduceCtorEq]
      simp [hl]
    · rintro i tm1 ⟨hi, ht⟩ hlen1 hlv
      simp only [go_sem, hlen, cdD, cdN, gdT, gdF, gdD, Nat.reduceLT, Nat.reduceEqDiff, Nat.reduceAdd, Nat.reduceLeDiff, reduceIte, reduceCtorEq] at hlen1 hlv
      simp +contextual only [go_sem, hlen, hlen1, hlv, cdD, cdN, gdT, gdF, gdD, Nat.reduceLT, Nat.reduceEqDiff, Nat.reduceAdd, Nat.reduceLeDiff, reduceIte, reduceCtorEq]
      refine ⟨fun hlt => ?_, fun hge => ?_⟩
      · have hea := List.getElem?_eq_getElem (show i < a.length by omega)
        have heb := List.getElem?_eq_getElem (show i < b.length by omega)
        generalize a[i] = x at hea
        generalize b[i] = y at heb
        have hw1 : IntKind.i64.wrap ((i : Int) + 1) = ((i + 1 : Nat) : Int) := by rw [wrap_id (by omega)]; rfl
        refine ldrawB_go [] [] 8 (by decide) ?_
        simp only [go_sem, hlen1, hlv, hv.at hea, hw.at heb, neq35, hw1, cdD, Nat.reduceLT, Nat.reduceEqDiff, Nat.reduceAdd, Nat.reduceLeDiff, reduceIte, reduceCtorEq]
        refine ⟨by kernel_rfl, fun hne => ?_, fun he => ?_⟩
        · refine lexit_pure (.refl s) (by simp only [low]) ⟨?_, rfl⟩
          have : a ≠ b := by rintro rfl; rw [hea] at heb; cases heb; exact hne ⟨rfl, rfl, rfl⟩
          simp [this]
        · have he : _ ∧ _ ∧ _ := he
          have hxy : y = x := (Ed.ext' he.1 he.2.1 he.2.2).symm
          refine ⟨i + 1, ⟨by omega, take_snoc ht hea (by rw [heb, hxy])⟩, by omega, ?_⟩
          refine To.go [] [] rfl (.refl s) (by decide) (by simp) ?_ trivial
          simp +contextual only [go_sem, hlen1, hlv, pu_ren hv.pu, pu_ren hw.pu, cdD, cdN, gdT, gdF, gdD, Nat.reduceLT, Nat.reduceEqDiff, Nat.reduceAdd, Nat.reduceLeDiff, reduceIte, reduceCtorEq]
      · refine lexit_pure (.refl s) (by simp only [low]) ⟨?_, rfl⟩
        simp [eq_of_take ht (by omega) hl]
end Go.S1N
end
section
namespace Go.S1N
open Go Go.Am Go.Proofs Go.S1
set_option maxRecDepth 100000
attribute [local irreducible] lopsB lvb lstepB lfunG lcondB lguardB ldrawB ldrunB ldstepB ldguardB lmem lval ldmem ldval ldfun lexit ldloadB ldlenB lpostB athen ablock
end Go.S1N
end
section
namespace Go.S1N
open Go Go.Am Go.Proofs Go.S1
set_option maxRecDepth 100000
attribute [local irreducible] lopsB lvb lstepB lfunG lcondB lguardB ldrawB ldrunB ldstepB ldguardB lmem lval ldmem ldval ldfun lexit ldloadB ldlenB lpostB athen ablock
end Go.S1N
end
section
namespace Go.S1N
open Go Go.Am Go.Proofs Go.S1
set_option maxRecDepth 100000
def dl : List Ed → Int
  | [] => 0
  | e :: r => (e.new.length - e.cut) + dl r
theorem long_dl : ∀ (l : List Ed) (m : Int), (∀ e ∈ l, e.new.length ≤ 100000 ∧ 0 ≤ e.cut ∧ e.cut ≤ 100000) → -1000000000000 ≤ m - 100000 * (l.length : Int) → m + 100000 * (l.length : Int) ≤ 1000000000000 → longOf m l = m + dl l
  | [], m, _, _, _ => by simp [longOf, dl]
  | e :: r, m, h, h1, h2 => by
    have he := h e (List.mem_cons_self ..)
    simp only [List.length_cons] at h1 h2
    have hw1 : IntKind.i64.wrap ((e.new.length : Int) - e.cut) = (e.new.length : Int) - e.cut := wrap_id (by omega)
    have hw2 : IntKind.i64.wrap (m + ((e.new.length : Int) - e.cut)) = m + ((e.new.length : Int) - e.cut) := wrap_id (by omega)
    have := long_dl r (m + ((e.new.length : Int) - e.cut)) (fun x hx => h x (List.mem_cons_of_mem _ hx)) (by omega) (by omega)
    rw [longOf, List.foldl_cons, hw1, hw2]
    rw [longOf] at this
    rw [this, dl]
    omega
theorem run_len (a k : Nat) : (runOf a k).length = k := by simp [runOf]
theorem flow_dl (n : Nat) : ∀ (l : List Ed) (a : Nat) (B : Int), (B = a ∨ (B = -1 ∧ a = 0)) → a ≤ n → scan n B l = 0 → ((flowFrom n a l).length : Int) = (n - a) + dl l
  | [], a, B, _, ha, _ => by simp only [flowFrom, run_len, dl]; omega
  | e :: r, a, B, hB, ha, h => by
    obtain ⟨c1, c2, c3, c4, c5, c6⟩ := scan_cons h
    have := flow_dl n r (e.at_ + e.cut).toNat (e.at_ + e.cut) (.inl (by omega)) (by omega) c6
    simp only [flowFrom, List.length_append, run_len, List.length_map, dl]
    omega
def negL (w : List UInt8) : List (Int × UInt8) := w.map fun c => ((-1 : Int), c)
theorem push_same {p : Int} : pushE p [] p = [] := if_neg (by rintro (h | h); omega; exact h rfl)
theorem ed_neg (N : Int) : ∀ (u : List UInt8) (q : Int) (w : List UInt8) (t : List (Int × UInt8)), edGo N q w (negL u ++ t) = edGo N q (w ++ u) t
  | [], q, w, t => by simp [negL]
  | c :: u, q, w, t => by
    have ih := ed_neg N u q (w ++ [c]) t
    simp only [negL, List.map_cons, List.cons_append] at ih ⊢
    rw [edGo, if_pos (by simp only; omega), ih, List.append_assoc]; rfl
theorem runOf_cons (a k : Nat) : runOf a (k + 1) = ((a : Int), 0) :: runOf (a + 1) k := rfl
end Go.S1N
end
section
namespace Go.S1N
open Go Go.Am Go.Proofs Go.S1
set_option maxRecDepth 100000
attribute [local irreducible] lopsB lvb lstepB lfunG lcondB lguardB ldrawB ldrunB ldstepB ldguardB lmem lval ldmem ldval ldfun lexit ldloadB ldlenB lpostB athen ablock
theorem ints_cells {v : AV} {l : List Int} (h : IsInts v l) : v.cells = [v] := by rcases h with ⟨f, rfl⟩ | ⟨rfl, rfl⟩ <;> rfl
theorem ints_israw {v : AV} {l : List Int} (h : IsInts v l) : v.israw = false := by rcases h with ⟨f, rfl⟩ | ⟨rfl, rfl⟩ <;> rfl
theorem faultOf_zero {n : Int} {l : List Ed} (h : faultOf n l = 0) : 0 ≤ n ∧ n ≤ 20000 ∧ l.length ≤ 2000 ∧ scan n (-1) l = 0 := by
  rw [faultOf] at h
  split at h
  · cases h
  · rename_i h1
    have h1 := Classical.not_not.1 h1
    split at h
    · cases h
    · split at h
      · rename_i h3; exact absurd h h3
      · rename_i h2 h3
        exact ⟨h1.1, h1.2, by omega, Classical.not_not.1 h3⟩
theorem same33 (l : List Ed) (h : l.length < 4611686018427387904) (s : AHeap) : ACall Tryz.prog 14 [edv l, edv l] s fun r t => r = .bool true ∧ t = s := by
  classical
  have := equalEds_ok (edv_sl l) (edv_sl l) h s
  simpa using this
end Go.S1N
end
section
namespace Go.S1
open Go Go.Am Go.Proofs
set_option maxRecDepth 100000
noncomputable def L17 : LCode := .seq (.ops [⟨.assign (.const (.slice none 0 0)), some 6, none⟩, ⟨.assign (.const (.int .i64 0)), some 7, none⟩]) (.seq (.seq (.ops [⟨.move (.tmp 0), some 11, none⟩, ⟨.move (.tmp 1), some 12, none⟩, ⟨.call { callee := .value (.func 37), args := { toList := [.tmp 11, .tmp 12] }, argTypes := { toList := [3, 27] } }, some 13, none⟩, ⟨.assign (.tmp 13), some 8, none⟩]) (.seq (.ops [⟨.move (.tmp 8), some 14, none⟩, ⟨.binOp .neq 29 (.tmp 14) (.const (.int .i64 0)) 29, some 15, none⟩]) (.cond (.tmp 15) (.seq (.ops [⟨.move (.tmp 8), some 16, none⟩, ⟨.assign (.const (.slice none 0 0)), some 6, none⟩, ⟨.assign (.tmp 16), some 7, none⟩]) .ret) .skip))) (.seq (.seq (.ops [⟨.move (.tmp 0), some 17, none⟩, ⟨.move (.tmp 1), some 18, none⟩, ⟨.call { callee := .value (.func 38), args := { toList := [.tmp 17, .tmp 18] }, argTypes := { toList := [3, 27] } }, some 19, none⟩, ⟨.move (.tmp 2), some 20, none⟩, ⟨.call { callee := .value (.func 37), args := { toList := [.tmp 19, .tmp 20] }, argTypes := { toList := [3, 27] } }, some 21, none⟩, ⟨.assign (.tmp 21), some 9, none⟩]) (.seq (.ops [⟨.move (.tmp 9), some 22, none⟩, ⟨.binOp .neq 29 (.tmp 22) (.const (.int .i64 0)) 29, some 23, none⟩]) (.cond (.tmp 23) (.seq (.ops [⟨.move (.tmp 9), some 24, none⟩, ⟨.assign (.const (.slice none 0 0)), some 6, none⟩, ⟨.assign (.tmp 24), some 7, none⟩]) .ret) .skip))) (.seq (.ops [⟨.move (.tmp 0), some 25, none⟩, ⟨.move (.tmp 1), some 26, none⟩, ⟨.move (.tmp 2), some 27, none⟩, ⟨.call { callee := .value (.func 39), args := { toList := [.tmp 25, .tmp 26, .tmp 27] }, argTypes := { toList := [3, 27, 27] } }, some 28, none⟩, ⟨.assign (.tmp 28), some 10, none⟩]) (.seq (.seq (.ops [⟨.move (.tmp 10), some 29, none⟩, ⟨.call { callee := .builtin .len, args := { toList := [.tmp 29] }, argTypes := { toList := [27] } }, some 30, none⟩, ⟨.binOp .gtr 3 (.tmp 30) (.const (.int .i64 2000)) 3, some 31, none⟩]) (.cond (.tmp 31) (.seq (.ops [⟨.assign (.const (.slice none 0 0)), some 6, none⟩, ⟨.assign (.const (.int .i64 2)), some 7, none⟩]) .ret) .skip)) (.seq (.ops [⟨.move (.tmp 10), some 32, none⟩, ⟨.assign (.tmp 32), some 6, none⟩, ⟨.assign (.const (.int .i64 0)), some 7, none⟩]) .ret)))))
theorem l17 : Tryz.f17.body.map lighten = some L17 := by kernel_rfl
theorem rs17 : Tryz.f17.results.toList = [ResultVar.tmp 6, ResultVar.tmp 7] := by kernel_rfl
theorem nt17 : Tryz.f17.ntmps = 33 := by kernel_rfl
theorem gob17 {args : List AV} {s : AHeap} {R : AV → AHeap → Prop} (hl : args.length ≤ 33) (h : ∀ tm, tm.length = 33 → (∀ i, aev tm (.tmp i) = args.getD i aundef) → lvb Tryz.prog tab s L17 (lpostB tab s [ResultVar.tmp 6, ResultVar.tmp 7] R) tm (loc s 0 [])) : ACall Tryz.prog 17 args s R := ACall.goB tab_ok mixed Tryz.func17 l17 nm17 rs17 nt17 hl h
noncomputable def L39 : LCode := .seq (.ops [⟨.assign (.const (.slice none 0 0)), some 6, none⟩]) (.seq (.ops [⟨.move (.tmp 0), some 11, none⟩, ⟨.move (.tmp 1), some 12, none⟩, ⟨.call { callee := .value (.func 68), args := { toList := [.tmp 11, .tmp 12] }, argTypes := { toList := [3, 27] } }, some 13, none⟩, ⟨.call { callee := .value (.func 67), args := { toList := [.tmp 13, .func 69] }, argTypes := { toList := [89, 133] } }, some 14, none⟩, ⟨.build 135 { toList := [(0, .tmp 14)] }, some 15, none⟩, ⟨.box 135 (.tmp 15), some 16, none⟩, ⟨.assign (.tmp 16), some 7, none⟩]) (.seq (.ops [⟨.assign (.const (.int .i64 0)), some 8, none⟩]) (.seq (.seq (.ops [⟨.move (.tmp 2), some 17, none⟩, ⟨.call { callee := .builtin .len, args := { toList := [.tmp 17] }, argTypes := { toList := [27] } }, some 18, none⟩, ⟨.move (.const (.int .i64 0)), some 19, none⟩]) (.block 0 (.loop (.seq (.ops [⟨.binOp .lss 3 (.tmp 19) (.tmp 18) 3, some 20, none⟩]) (.seq (.cond (.tmp 20) .skip (.exit 0)) (.seq (.block 1 (.seq (.ops [⟨.indexAddr 27 (.tmp 17) (.tmp 19), some 21, none⟩, ⟨.load 37 (.tmp 21), some 22, none⟩, ⟨.alloc 37, some 10, none⟩, ⟨.store 37 (.tmp 10) (.tmp 22), none, none⟩]) (.seq (.ops [⟨.move (.tmp 7), some 23, none⟩, ⟨.fieldAddr 37 (.tmp 10) 0, some 24, none⟩, ⟨.load 3 (.tmp 24), some 25, none⟩, ⟨.move (.tmp 8), some 26, none⟩, ⟨.binOp .sub 3 (.tmp 25) (.tmp 26) 3, some 27, none⟩, ⟨.call { callee := .value (.func 70), args := { toList := [.tmp 23, .tmp 27, .const (.bool true)] }, argTypes := { toList := [130, 3, 4] } }, some 28, none⟩]) (.seq (.ops [⟨.move (.tmp 7), some 29, none⟩, ⟨.fieldAddr 37 (.tmp 10) 1, some 30, none⟩, ⟨.load 3 (.tmp 30), some 31, none⟩, ⟨.call { callee := .value (.func 70), args := { toList := [.tmp 29, .tmp 31, .const (.bool false)] }, argTypes := { toList := [130, 3, 4] } }, some 32, none⟩]) (.seq (.draw [0, 0, 2, 6, 14, 0, 32, 96, 224, 510, 1023, 2047, 4095] [⟨.move (.tmp 7), some 33, none⟩, ⟨.move (.tmp 7), some 34, none⟩, ⟨.nilCheck (.tmp 34), some 35, none⟩, ⟨.fieldAddr 135 (.tmp 35) 1, some 36, none⟩, ⟨.load 89 (.tmp 36), some 37, none⟩, ⟨.fieldAddr 37 (.tmp 10) 2, some 38, none⟩, ⟨.load 9 (.tmp 38), some 39, none⟩, ⟨.call { callee := .value (.func 47), args := { toList := [.tmp 39] }, argTypes := { toList := [9] } }, some 40, none⟩, ⟨.buildSlice 89 1 { toList := [(0, .tmp 40)] }, some 41, none⟩, ⟨.call { callee := .builtin .append, args := { toList := [.tmp 37, .tmp 41] }, argTypes := { toList := [89, 89] } }, some 42, none⟩, ⟨.nilCheck (.tmp 33), some 43, none⟩, ⟨.fieldAddr 135 (.tmp 43) 1, some 44, none⟩, ⟨.store 89 (.tmp 44) (.tmp 42), none, none⟩]) (.ops [⟨.fieldAddr 37 (.tmp 10) 0, some 45, none⟩, ⟨.load 3 (.tmp 45), some 46, none⟩, ⟨.fieldAddr 37 (.tmp 10) 1, some 47, none⟩, ⟨.load 3 (.tmp 47), some 48, none⟩, ⟨.binOp .add 3 (.tmp 46) (.tmp 48) 3, some 49, none⟩, ⟨.assign (.tmp 49), some 8, none⟩])))))) (.ops [⟨.binOp .add 3 (.tmp 19) (.const (.int .i64 1)) 3, some 50, none⟩, ⟨.move (.tmp 50), some 19, none⟩]))))))) (.seq (.ops [⟨.move (.tmp 7), some 51, none⟩, ⟨.move (.tmp 0), some 52, none⟩, ⟨.move (.tmp 1), some 53, none⟩, ⟨.call { callee := .value (.func 38), args := { toList := [.tmp 52, .tmp 53] }, argTypes := { toList := [3, 27] } }, some 54, none⟩, ⟨.move (.tmp 8), some 55, none⟩, ⟨.binOp .sub 3 (.tmp 54) (.tmp 55) 3, some 56, none⟩, ⟨.call { callee := .value (.func 70), args := { toList := [.tmp 51, .tmp 56, .const (.bool true)] }, argTypes := { toList := [130, 3, 4] } }, some 57, none⟩]) (.seq (.ops [⟨.move (.tmp 0), some 58, none⟩, ⟨.move (.tmp 7), some 59, none⟩, ⟨.nilCheck (.tmp 59), some 60, none⟩, ⟨.fieldAddr 135 (.tmp 60) 1, some 61, none⟩, ⟨.load 89 (.tmp 61), some 62, none⟩, ⟨.call { callee := .value (.func 44), args := { toList := [.tmp 58, .tmp 62] }, argTypes := { toList := [3, 89] } }, some 63, none⟩, ⟨.assign (.tmp 63), some 6, none⟩]) .ret)))))
theorem l39 : Tryz.f39.body.map lighten = some L39 := by kernel_rfl
theorem rs39 : Tryz.f39.results.toList = [ResultVar.tmp 6] := by kernel_rfl
theorem nt39 : Tryz.f39.ntmps = 64 := by kernel_rfl
theorem gob39 {args : List AV} {s : AHeap} {R : AV → AHeap → Prop} (hl : args.length ≤ 64) (h : ∀ tm, tm.length = 64 → (∀ i, aev tm (.tmp i) = args.getD i aundef) → lvb Tryz.prog tab s L39 (lpostB tab s [ResultVar.tmp 6] R) tm (loc s 0 [])) : ACall Tryz.prog 39 args s R := ACall.goB tab_ok mixed Tryz.func39 l39 nm39 rs39 nt39 hl h
noncomputable def L44 : LCode := .seq (.ops [⟨.assign (.const (.slice none 0 0)), some 4, none⟩]) (.seq (.ops [⟨.alloc 27, some 5, none⟩]) (.seq (.ops [⟨.alloc 3, some 6, none⟩, ⟨.alloc 9, some 7, none⟩, ⟨.store 3 (.tmp 6) (.const (.int .i64 0)), none, none⟩, ⟨.store 9 (.tmp 7) (.const (.string { data := { toList := [] } })), none, none⟩]) (.seq (.ops [⟨.makeFunc (Fn.func 75) { toList := [] } { toList := [.tmp 6, .tmp 7, .tmp 5] }, some 11, none⟩, ⟨.assign (.tmp 11), some 8, none⟩]) (.seq (.seq (.ops [⟨.move (.tmp 1), some 12, none⟩, ⟨.call { callee := .builtin .len, args := { toList := [.tmp 12] }, argTypes := { toList := [89] } }, some 13, none⟩, ⟨.move (.const (.int .i64 0)), some 14, none⟩]) (.block 0 (.loop (.seq (.ops [⟨.binOp .lss 3 (.tmp 14) (.tmp 13) 3, some 15, none⟩]) (.seq (.cond (.tmp 15) .skip (.exit 0)) (.seq (.block 1 (.seq (.ops [⟨.indexAddr 89 (.tmp 12) (.tmp 14), some 16, none⟩, ⟨.load 98 (.tmp 16), some 17, none⟩, ⟨.alloc 98, some 10, none⟩, ⟨.store 98 (.tmp 10) (.tmp 17), none, none⟩]) (.block 2 (.seq (.ops [⟨.fieldAddr 98 (.tmp 10) 2, some 19, none⟩, ⟨.load 9 (.tmp 19), some 20, none⟩, ⟨.binOp .neq 9 (.tmp 20) (.const (.string { data := { toList := [] } })) 9, some 21, none⟩, ⟨.assign (.tmp 21), some 18, none⟩]) (.cond (.tmp 18) (.ops [⟨.load 9 (.tmp 7), some 22, none⟩, ⟨.fieldAddr 98 (.tmp 10) 2, some 23, none⟩, ⟨.load 9 (.tmp 23), some 24, none⟩, ⟨.binOp .add 9 (.tmp 22) (.tmp 24) 9, some 25, none⟩, ⟨.store 9 (.tmp 7) (.tmp 25), none, none⟩]) (.seq (.ops [⟨.fieldAddr 98 (.tmp 10) 1, some 27, none⟩, ⟨.load 3 (.tmp 27), some 28, none⟩, ⟨.binOp .gtr 3 (.tmp 28) (.const (.int .i64 0)) 3, some 29, none⟩, ⟨.assign (.tmp 29), some 26, none⟩]) (.cond (.tmp 26) (.seq (.ops [⟨.move (.tmp 8), some 30, none⟩, ⟨.fieldAddr 98 (.tmp 10) 0, some 31, none⟩, ⟨.load 3 (.tmp 31), some 32, none⟩, ⟨.call { callee := .value (.tmp 30), args := { toList := [.tmp 32] }, argTypes := { toList := [3] } }, some 33, none⟩]) (.ops [⟨.fieldAddr 98 (.tmp 10) 0, some 34, none⟩, ⟨.load 3 (.tmp 34), some 35, none⟩, ⟨.fieldAddr 98 (.tmp 10) 1, some 36, none⟩, ⟨.load 3 (.tmp 36), some 37, none⟩, ⟨.binOp .add 3 (.tmp 35) (.tmp 37) 3, some 38, none⟩, ⟨.store 3 (.tmp 6) (.tmp 38), none, none⟩, ⟨.store 9 (.tmp 7) (.const (.string { data := { toList := [] } })), none, none⟩])) .skip))))))) (.ops [⟨.binOp .add 3 (.tmp 14) (.const (.int .i64 1)) 3, some 39, none⟩, ⟨.move (.tmp 39), some 14, none⟩]))))))) (.seq (.ops [⟨.move (.tmp 8), some 40, none⟩, ⟨.move (.tmp 0), some 41, none⟩, ⟨.call { callee := .value (.tmp 40), args := { toList := [.tmp 41] }, argTypes := { toList := [3] } }, some 42, none⟩]) (.seq (.ops [⟨.load 27 (.tmp 5), some 43, none⟩, ⟨.assign (.tmp 43), some 4, none⟩]) .ret))))))
theorem l44 : Tryz.f44.body.map lighten = some L44 := by kernel_rfl
theorem rs44 : Tryz.f44.results.toList = [ResultVar.tmp 4] := by kernel_rfl
theorem nt44 : Tryz.f44.ntmps = 44 := by kernel_rfl
theorem gob44 {args : List AV} {s : AHeap} {R : AV → AHeap → Prop} (hl : args.length ≤ 44) (h : ∀ tm, tm.length = 44 → (∀ i, aev tm (.tmp i) = args.getD i aundef) → lvb Tryz.prog tab s L44 (lpostB tab s [ResultVar.tmp 4] R) tm (loc s 0 [])) : ACall Tryz.prog 44 args s R := ACall.goB tab_ok mixed Tryz.func44 l44 nm44 rs44 nt44 hl h
noncomputable def L67 : LCode := .seq (.ops [⟨.assign (.const (.slice none 0 0)), some 4, none⟩]) (.seq (.ops [⟨.move (.tmp 0), some 8, none⟩, ⟨.move (.tmp 1), some 9, none⟩, ⟨.call { callee := .value (.func 93), args := { toList := [.tmp 8, .tmp 9] }, argTypes := { toList := [89, 133] } }, some 10, none⟩, ⟨.assign (.tmp 10), some 5, none⟩]) (.seq (.seq (.ops [⟨.move (.tmp 5), some 11, none⟩, ⟨.binOp .eql 3 (.tmp 11) (.const (.int .i64 (-1))) 3, some 12, none⟩]) (.cond (.tmp 12) (.seq (.ops [⟨.move (.tmp 0), some 13, none⟩, ⟨.assign (.tmp 13), some 4, none⟩]) .ret) .skip)) (.seq (.seq (.ops [⟨.move (.tmp 5), some 14, none⟩, ⟨.binOp .add 3 (.tmp 14) (.const (.int .i64 1)) 3, some 15, none⟩, ⟨.assign (.tmp 15), some 6, none⟩]) (.block 0 (.loop (.seq (.seq (.ops [⟨.move (.tmp 6), some 16, none⟩, ⟨.move (.tmp 0), some 17, none⟩, ⟨.call { callee := .builtin .len, args := { toList := [.tmp 17] }, argTypes := { toList := [89] } }, some 18, none⟩, ⟨.binOp .lss 3 (.tmp 16) (.tmp 18) 3, some 19, none⟩]) (.cond (.tmp 19) .skip (.exit 0))) (.seq (.block 1 (.seq (.ops [⟨.move (.tmp 0), some 22, none⟩, ⟨.move (.tmp 6), some 23, none⟩, ⟨.indexAddr 89 (.tmp 22) (.tmp 23), some 24, none⟩, ⟨.load 98 (.tmp 24), some 25, none⟩, ⟨.alloc 98, some 7, none⟩, ⟨.store 98 (.tmp 7) (.tmp 25), none, none⟩]) (.seq (.ops [⟨.move (.tmp 1), some 26, none⟩, ⟨.load 98 (.tmp 7), some 27, none⟩, ⟨.call { callee := .value (.tmp 26), args := { toList := [.tmp 27] }, argTypes := { toList := [98] } }, some 28, none⟩, ⟨.unOp .not 4 (.tmp 28), some 29, none⟩]) (.cond (.tmp 29) (.seq (.ops [⟨.move (.tmp 0), some 30, none⟩, ⟨.move (.tmp 5), some 31, none⟩, ⟨.load 98 (.tmp 7), some 32, none⟩, ⟨.indexAddr 89 (.tmp 30) (.tmp 31), some 33, none⟩, ⟨.store 98 (.tmp 33) (.tmp 32), none, none⟩]) (.ops [⟨.move (.tmp 5), some 34, none⟩, ⟨.binOp .add 3 (.tmp 34) (.const (.int .i64 1)) 3, some 35, none⟩, ⟨.assign (.tmp 35), some 5, none⟩])) .skip)))) (.ops [⟨.move (.tmp 6), some 20, none⟩, ⟨.binOp .add 3 (.tmp 20) (.const (.int .i64 1)) 3, some 21, none⟩, ⟨.assign (.tmp 21), some 6, none⟩])))))) (.seq (.ops [⟨.move (.tmp 0), some 36, none⟩, ⟨.move (.tmp 5), some 37, none⟩, ⟨.slice 89 (.tmp 36) (some (.tmp 37)) none none, some 38, none⟩, ⟨.call { callee := .builtin .clear, args := { toList := [.tmp 38] }, argTypes := { toList := [89] } }, none, none⟩]) (.seq (.ops [⟨.move (.tmp 0), some 39, none⟩, ⟨.move (.tmp 5), some 40, none⟩, ⟨.slice 89 (.tmp 39) none (some (.tmp 40)) none, some 41, none⟩, ⟨.assign (.tmp 41), some 4, none⟩]) .ret)))))
theorem l67 : Tryz.f67.body.map lighten = some L67 := by kernel_rfl
theorem rs67 : Tryz.f67.results.toList = [ResultVar.tmp 4] := by kernel_rfl
theorem nt67 : Tryz.f67.ntmps = 42 := by kernel_rfl
theorem gob67 {args : List AV} {s : AHeap} {R : AV → AHeap → Prop} (hl : args.length ≤ 42) (h : ∀ tm, tm.length = 42 → (∀ i, aev tm (.tmp i) = args.getD i aundef) → lvb Tryz.prog tab s L67 (lpostB tab s [ResultVar.tmp 4] R) tm (loc s 0 [])) : ACall Tryz.prog 67 args s R := ACall.goB tab_ok mixed Tryz.func67 l67 nm67 rs67 nt67 hl h
noncomputable def L69 : LCode := .seq (.ops [⟨.box 98 (.tmp 0), some 1, none⟩, ⟨.assign (.const (.bool false)), some 2, none⟩]) (.seq (.ops [⟨.fieldAddr 98 (.tmp 1) 1, some 3, none⟩, ⟨.load 3 (.tmp 3), some 4, none⟩, ⟨.binOp .eql 3 (.tmp 4) (.const (.int .i64 0)) 3, some 5, none⟩, ⟨.move (.tmp 5), some 6, none⟩, ⟨.fieldAddr 98 (.tmp 1) 2, some 7, some (6, true)⟩, ⟨.load 9 (.tmp 7), some 8, some (6, true)⟩, ⟨.binOp .eql 9 (.tmp 8) (.const (.string { data := { toList := [] } })) 9, some 9, some (6, true)⟩, ⟨.pick (.tmp 6) (.tmp 9) (.const (.bool false)), some 10, none⟩, ⟨.assign (.tmp 10), some 2, none⟩]) .ret)
theorem l69 : Tryz.f69.body.map lighten = some L69 := by kernel_rfl
theorem rs69 : Tryz.f69.results.toList = [ResultVar.tmp 2] := by kernel_rfl
theorem nt69 : Tryz.f69.ntmps = 11 := by kernel_rfl
theorem gob69 {args : List AV} {s : AHeap} {R : AV → AHeap → Prop} (hl : args.length ≤ 11) (h : ∀ tm, tm.length = 11 → (∀ i, aev tm (.tmp i) = args.getD i aundef) → lvb Tryz.prog tab s L69 (lpostB tab s [ResultVar.tmp 2] R) tm (loc s 0 [])) : ACall Tryz.prog 69 args s R := ACall.goB tab_ok mixed Tryz.func69 l69 nm69 rs69 nt69 hl h
noncomputable def L70 : LCode := .block 0 (.loop (.seq (.seq (.ops [⟨.move (.tmp 1), some 9, none⟩, ⟨.binOp .gtr 3 (.tmp 9) (.const (.int .i64 0)) 3, some 10, none⟩]) (.cond (.tmp 10) .skip (.exit 0))) (.block 1 (.seq (.ops [⟨.move (.tmp 0), some 11, none⟩, ⟨.nilCheck (.tmp 11), some 12, none⟩, ⟨.fieldAddr 135 (.tmp 12) 0, some 13, none⟩, ⟨.load 89 (.tmp 13), some 14, none⟩, ⟨.indexAddr 89 (.tmp 14) (.const (.int .i64 0)), some 15, none⟩, ⟨.load 98 (.tmp 15), some 16, none⟩, ⟨.alloc 98, some 6, none⟩, ⟨.store 98 (.tmp 6) (.tmp 16), none, none⟩]) (.seq (.ops [⟨.fieldAddr 98 (.tmp 6) 1, some 17, none⟩, ⟨.load 3 (.tmp 17), some 18, none⟩, ⟨.fieldAddr 98 (.tmp 6) 2, some 19, none⟩, ⟨.load 9 (.tmp 19), some 20, none⟩, ⟨.call { callee := .builtin .len, args := { toList := [.tmp 20] }, argTypes := { toList := [9] } }, some 21, none⟩, ⟨.call { callee := .builtin .max, args := { toList := [.tmp 18, .tmp 21] }, argTypes := { toList := [3, 3] } }, some 22, none⟩, ⟨.assign (.tmp 22), some 7, none⟩]) (.seq (.ops [⟨.move (.tmp 1), some 23, none⟩, ⟨.move (.tmp 7), some 24, none⟩, ⟨.call { callee := .builtin .min, args := { toList := [.tmp 23, .tmp 24] }, argTypes := { toList := [3, 3] } }, some 25, none⟩, ⟨.assign (.tmp 25), some 8, none⟩]) (.seq (.seq (.ops [⟨.move (.tmp 2), some 26, none⟩, ⟨.move (.tmp 26), some 27, none⟩, ⟨.fieldAddr 98 (.tmp 6) 2, some 28, some (27, true)⟩, ⟨.load 9 (.tmp 28), some 29, some (27, true)⟩, ⟨.binOp .neq 9 (.tmp 29) (.const (.string { data := { toList := [] } })) 9, some 30, some (27, true)⟩, ⟨.pick (.tmp 27) (.tmp 30) (.const (.bool false)), some 31, none⟩]) (.cond (.tmp 31) (.draw [0, 0, 2, 6, 14, 0, 32, 0, 224, 480, 992, 2046, 4095, 8191, 16383] [⟨.move (.tmp 0), some 32, none⟩, ⟨.move (.tmp 0), some 33, none⟩, ⟨.nilCheck (.tmp 33), some 34, none⟩, ⟨.fieldAddr 135 (.tmp 34) 1, some 35, none⟩, ⟨.load 89 (.tmp 35), some 36, none⟩, ⟨.fieldAddr 98 (.tmp 6) 2, some 37, none⟩, ⟨.load 9 (.tmp 37), some 38, none⟩, ⟨.move (.tmp 8), some 39, none⟩, ⟨.slice 9 (.tmp 38) none (some (.tmp 39)) none, some 40, none⟩, ⟨.call { callee := .value (.func 47), args := { toList := [.tmp 40] }, argTypes := { toList := [9] } }, some 41, none⟩, ⟨.buildSlice 89 1 { toList := [(0, .tmp 41)] }, some 42, none⟩, ⟨.call { callee := .builtin .append, args := { toList := [.tmp 36, .tmp 42] }, argTypes := { toList := [89, 89] } }, some 43, none⟩, ⟨.nilCheck (.tmp 32), some 44, none⟩, ⟨.fieldAddr 135 (.tmp 44) 1, some 45, none⟩, ⟨.store 89 (.tmp 45) (.tmp 43), none, none⟩]) (.seq (.ops [⟨.move (.tmp 2), some 46, none⟩]) (.cond (.tmp 46) (.draw [0, 0, 2, 6, 14, 0, 32, 0, 224, 480, 1022, 2047, 4095, 8191] [⟨.move (.tmp 0), some 47, none⟩, ⟨.move (.tmp 0), some 48, none⟩, ⟨.nilCheck (.tmp 48), some 49, none⟩, ⟨.fieldAddr 135 (.tmp 49) 1, some 50, none⟩, ⟨.load 89 (.tmp 50), some 51, none⟩, ⟨.fieldAddr 98 (.tmp 6) 0, some 52, none⟩, ⟨.load 3 (.tmp 52), some 53, none⟩, ⟨.move (.tmp 8), some 54, none⟩, ⟨.call { callee := .value (.func 48), args := { toList := [.tmp 53, .tmp 54] }, argTypes := { toList := [3, 3] } }, some 55, none⟩, ⟨.buildSlice 89 1 { toList := [(0, .tmp 55)] }, some 56, none⟩, ⟨.call { callee := .builtin .append, args := { toList := [.tmp 51, .tmp 56] }, argTypes := { toList := [89, 89] } }, some 57, none⟩, ⟨.nilCheck (.tmp 47), some 58, none⟩, ⟨.fieldAddr 135 (.tmp 58) 1, some 59, none⟩, ⟨.store 89 (.tmp 59) (.tmp 57), none, none⟩]) .skip)))) (.seq (.block 2 (.seq (.ops [⟨.move (.tmp 8), some 75, none⟩, ⟨.move (.tmp 7), some 76, none⟩, ⟨.binOp .eql 3 (.tmp 75) (.tmp 76) 3, some 77, none⟩, ⟨.assign (.tmp 77), some 74, none⟩]) (.cond (.tmp 74) (.ops [⟨.move (.tmp 0), some 78, none⟩, ⟨.move (.tmp 0), some 79, none⟩, ⟨.nilCheck (.tmp 79), some 80, none⟩, ⟨.fieldAddr 135 (.tmp 80) 0, some 81, none⟩, ⟨.load 89 (.tmp 81), some 82, none⟩, ⟨.slice 89 (.tmp 82) (some (.const (.int .i64 1))) none none, some 83, none⟩, ⟨.nilCheck (.tmp 78), some 84, none⟩, ⟨.fieldAddr 135 (.tmp 84) 0, some 85, none⟩, ⟨.store 89 (.tmp 85) (.tmp 83), none, none⟩]) (.seq (.ops [⟨.fieldAddr 98 (.tmp 6) 2, some 87, none⟩, ⟨.load 9 (.tmp 87), some 88, none⟩, ⟨.binOp .neq 9 (.tmp 88) (.const (.string { data := { toList := [] } })) 9, some 89, none⟩, ⟨.assign (.tmp 89), some 86, none⟩]) (.cond (.tmp 86) (.draw [0, 1, 3, 7, 0, 16, 0, 112, 255, 511, 1023] [⟨.move (.tmp 0), some 90, none⟩, ⟨.nilCheck (.tmp 90), some 91, none⟩, ⟨.fieldAddr 135 (.tmp 91) 0, some 92, none⟩, ⟨.load 89 (.tmp 92), some 93, none⟩, ⟨.fieldAddr 98 (.tmp 6) 2, some 94, none⟩, ⟨.load 9 (.tmp 94), some 95, none⟩, ⟨.move (.tmp 8), some 96, none⟩, ⟨.slice 9 (.tmp 95) (some (.tmp 96)) none none, some 97, none⟩, ⟨.indexAddr 89 (.tmp 93) (.const (.int .i64 0)), some 98, none⟩, ⟨.fieldAddr 98 (.tmp 98) 2, some 99, none⟩, ⟨.store 9 (.tmp 99) (.tmp 97), none, none⟩]) (.draw [0, 1, 3, 7, 0, 16, 0, 112, 0, 256, 0, 1792, 4080, 8191, 16383] [⟨.move (.tmp 0), some 60, none⟩, ⟨.nilCheck (.tmp 60), some 61, none⟩, ⟨.fieldAddr 135 (.tmp 61) 0, some 62, none⟩, ⟨.load 89 (.tmp 62), some 63, none⟩, ⟨.fieldAddr 98 (.tmp 6) 0, some 64, none⟩, ⟨.load 3 (.tmp 64), some 65, none⟩, ⟨.move (.tmp 8), some 66, none⟩, ⟨.binOp .add 3 (.tmp 65) (.tmp 66) 3, some 67, none⟩, ⟨.fieldAddr 98 (.tmp 6) 1, some 68, none⟩, ⟨.load 3 (.tmp 68), some 69, none⟩, ⟨.move (.tmp 8), some 70, none⟩, ⟨.binOp .sub 3 (.tmp 69) (.tmp 70) 3, some 71, none⟩, ⟨.call { callee := .value (.func 48), args := { toList := [.tmp 67, .tmp 71] }, argTypes := { toList := [3, 3] } }, some 72, none⟩, ⟨.indexAddr 89 (.tmp 63) (.const (.int .i64 0)), some 73, none⟩, ⟨.store 98 (.tmp 73) (.tmp 72), none, none⟩])))))) (.ops [⟨.move (.tmp 1), some 100, none⟩, ⟨.move (.tmp 8), some 101, none⟩, ⟨.binOp .sub 3 (.tmp 100) (.tmp 101) 3, some 102, none⟩, ⟨.assign (.tmp 102), some 1, none⟩])))))))))
theorem l70 : Tryz.f70.body.map lighten = some L70 := by kernel_rfl
theorem rs70 : Tryz.f70.results.toList = [] := by kernel_rfl
theorem nt70 : Tryz.f70.ntmps = 103 := by kernel_rfl
theorem gob70 {args : List AV} {s : AHeap} {R : AV → AHeap → Prop} (hl : args.length ≤ 103) (h : ∀ tm, tm.length = 103 → (∀ i, aev tm (.tmp i) = args.getD i aundef) → lvb Tryz.prog tab s L70 (lpostB tab s [] R) tm (loc s 0 [])) : ACall Tryz.prog 70 args s R := ACall.goB tab_ok mixed Tryz.func70 l70 nm70 rs70 nt70 hl h
noncomputable def L75 : LCode := .seq (.ops [⟨.move (.tmp 0), some 5, none⟩, ⟨.load 3 (.tmp 1), some 6, none⟩, ⟨.binOp .gtr 3 (.tmp 5) (.tmp 6) 3, some 7, none⟩, ⟨.move (.tmp 7), some 8, none⟩, ⟨.load 9 (.tmp 2), some 9, some (8, false)⟩, ⟨.binOp .neq 9 (.tmp 9) (.const (.string { data := { toList := [] } })) 9, some 10, some (8, false)⟩, ⟨.pick (.tmp 8) (.const (.bool true)) (.tmp 10), some 11, none⟩]) (.cond (.tmp 11) (.ops [⟨.load 27 (.tmp 3), some 12, none⟩, ⟨.load 3 (.tmp 1), some 13, none⟩, ⟨.move (.tmp 0), some 14, none⟩, ⟨.load 3 (.tmp 1), some 15, none⟩, ⟨.binOp .sub 3 (.tmp 14) (.tmp 15) 3, some 16, none⟩, ⟨.load 9 (.tmp 2), some 17, none⟩, ⟨.build 37 { toList := [(0, .tmp 13), (1, .tmp 16), (2, .tmp 17)] }, some 18, none⟩, ⟨.buildSlice 27 1 { toList := [(0, .tmp 18)] }, some 19, none⟩, ⟨.call { callee := .builtin .append, args := { toList := [.tmp 12, .tmp 19] }, argTypes := { toList := [27, 27] } }, some 20, none⟩, ⟨.store 27 (.tmp 3) (.tmp 20), none, none⟩]) .skip)
theorem l75 : Tryz.f75.body.map lighten = some L75 := by kernel_rfl
theorem rs75 : Tryz.f75.results.toList = [] := by kernel_rfl
theorem nt75 : Tryz.f75.ntmps = 21 := by kernel_rfl
theorem gob75 {args : List AV} {s : AHeap} {R : AV → AHeap → Prop} (hl : args.length ≤ 21) (h : ∀ tm, tm.length = 21 → (∀ i, aev tm (.tmp i) = args.getD i aundef) → lvb Tryz.prog tab s L75 (lpostB tab s [] R) tm (loc s 0 [])) : ACall Tryz.prog 75 args s R := ACall.goB tab_ok mixed Tryz.func75 l75 nm75 rs75 nt75 hl h
noncomputable def L93 : LCode := .seq (.ops [⟨.assign (.const (.int .i64 0)), some 4, none⟩]) (.seq (.seq (.ops [⟨.move (.tmp 0), some 6, none⟩, ⟨.call { callee := .builtin .len, args := { toList := [.tmp 6] }, argTypes := { toList := [89] } }, some 7, none⟩, ⟨.move (.const (.int .i64 0)), some 8, none⟩]) (.block 0 (.loop (.seq (.ops [⟨.binOp .lss 3 (.tmp 8) (.tmp 7) 3, some 9, none⟩]) (.seq (.cond (.tmp 9) .skip (.exit 0)) (.seq (.block 1 (.seq (.ops [⟨.move (.tmp 8), some 10, none⟩, ⟨.assign (.tmp 10), some 5, none⟩]) (.seq (.ops [⟨.move (.tmp 1), some 11, none⟩, ⟨.move (.tmp 0), some 12, none⟩, ⟨.move (.tmp 5), some 13, none⟩, ⟨.indexAddr 89 (.tmp 12) (.tmp 13), some 14, none⟩, ⟨.load 98 (.tmp 14), some 15, none⟩, ⟨.call { callee := .value (.tmp 11), args := { toList := [.tmp 15] }, argTypes := { toList := [98] } }, some 16, none⟩]) (.cond (.tmp 16) (.seq (.ops [⟨.move (.tmp 5), some 17, none⟩, ⟨.assign (.tmp 17), some 4, none⟩]) .ret) .skip)))) (.ops [⟨.binOp .add 3 (.tmp 8) (.const (.int .i64 1)) 3, some 18, none⟩, ⟨.move (.tmp 18), some 8, none⟩]))))))) (.seq (.ops [⟨.assign (.const (.int .i64 (-1))), some 4, none⟩]) .ret))
theorem l93 : Tryz.f93.body.map lighten = some L93 := by kernel_rfl
theorem rs93 : Tryz.f93.results.toList = [ResultVar.tmp 4] := by kernel_rfl
theorem nt93 : Tryz.f93.ntmps = 19 := by kernel_rfl
theorem gob93 {args : List AV} {s : AHeap} {R : AV → AHeap → Prop} (hl : args.length ≤ 19) (h : ∀ tm, tm.length = 19 → (∀ i, aev tm (.tmp i) = args.getD i aundef) → lvb Tryz.prog tab s L93 (lpostB tab s [ResultVar.tmp 4] R) tm (loc s 0 [])) : ACall Tryz.prog 93 args s R := ACall.goB tab_ok mixed Tryz.func93 l93 nm93 rs93 nt93 hl h
end Go.S1
end
section
namespace Go.S1N
open Go Go.Am Go.Proofs Go.S1
set_option maxRecDepth 100000
attribute [local irreducible] lopsB lvb lstepB lfunG lcondB lguardB ldrawB ldrunB ldstepB ldguardB lmem lval ldmem ldval ldfun lexit ldloadB ldlenB lpostB athen ablock
def overL (F : List (Int × UInt8)) (p : Int × UInt8) : Int × UInt8 := if 0 ≤ p.1 then F.getD p.1.toNat (0, 0) else p
def overF (F G : List (Int × UInt8)) : List (Int × UInt8) := G.map (overL F)
def thenVal (n : Nat) (a b : List Ed) : List Ed × Int :=
  if faultOf n a ≠ 0 then ([], faultOf n a)
  else if faultOf (flowFrom n 0 a).length b ≠ 0 then ([], faultOf (flowFrom n 0 a).length b)
  else if 2000 < (edGo n 0 [] (overF (flowFrom n 0 a) (flowFrom (flowFrom n 0 a).length 0 b))).length then ([], 2)
  else (edGo n 0 [] (overF (flowFrom n 0 a) (flowFrom (flowFrom n 0 a).length 0 b)), 0)
end Go.S1N
end
section
namespace Go.S1N
open Go Go.Am Go.Proofs Go.S1
set_option maxRecDepth 100000
def okF (n : Nat) : Nat → List (Int × UInt8) → Prop
  | _, [] => True
  | a, p :: F => (p.1 = -1 ∧ okF n a F) ∨ ∃ o : Nat, p = ((o : Int), 0) ∧ a ≤ o ∧ o < n ∧ okF n (o + 1) F
theorem scan_one {n B : Int} {e : Ed} {r : List Ed} (h1 : 0 ≤ e.at_ ∧ e.at_ ≤ n) (h2 : 0 ≤ e.cut ∧ e.cut ≤ n - e.at_) (h3 : ¬ (e.cut = 0 ∧ e.new = [])) (h4 : B < e.at_) : scan n B (e :: r) = scan n (e.at_ + e.cut) r := by
  rw [scan, if_neg (Classical.not_not.2 h1), if_neg (Classical.not_not.2 h2), if_neg h3, if_neg (by omega)]
theorem ed_scan (n : Nat) : ∀ (F : List (Int × UInt8)) (a : Nat) (w : List UInt8) (B : Int), B < a → a ≤ n → okF n a F → scan n B (edGo n a w F) = 0
  | [], a, w, B, hB, ha, _ => by
    rw [edGo, pushE]
    split
    · rename_i h
      rw [scan_one (by simp only; omega) (by simp only; omega) (by
        simp only; rintro ⟨q1, q2⟩
        rcases h with h | h
        · omega
        · exact h q2) (by simp only; omega)]
      rfl
    · rfl
  | p :: F, a, w, B, hB, ha, h => by
    rcases h with ⟨hp, h⟩ | ⟨o, rfl, h1, h2, h3⟩
    · rw [edGo, if_pos (by omega)]
      exact ed_scan n F a _ B hB ha h
    · rw [edGo, if_neg (by simp only; omega)]
      have ih := fun B hB => ed_scan n F (o + 1) [] B hB (by omega) h3
      rw [show (((o + 1 : Nat) : Int)) = (o : Int) + 1 by omega] at ih
      simp only
      rw [pushE]
      split
      · rename_i h
        rw [List.cons_append, List.nil_append, scan_one (by simp only; omega) (by simp only; omega) (by
          simp only; rintro ⟨q1, q2⟩
          rcases h with h | h
          · omega
          · exact h q2) (by simp only; omega)]
        exact ih _ (by simp only; omega)
      · rw [List.nil_append]
        exact ih _ (by omega)
theorem ed_head (n : Nat) : ∀ (F : List (Int × UInt8)) (a : Nat) (w : List UInt8), okF n a F → ∀ e r, edGo n a w F = e :: r → (a : Int) ≤ e.at_
  | [], a, w, _, e, r, he => by
    rw [edGo, pushE] at he
    split at he
    · cases he; exact Int.le_refl _
    · cases he
  | p :: F, a, w, h, e, r, he => by
    rcases h with ⟨hp, h⟩ | ⟨o, rfl, h1, h2, h3⟩
    · rw [edGo, if_pos (by omega)] at he
      exact ed_head n F a _ h e r he
    · rw [edGo, if_neg (by simp only; omega)] at he
      simp only at he
      rw [pushE] at he
      split at he
      · cases he; exact Int.le_refl _
      · rw [List.nil_append, show (o : Int) + 1 = ((o + 1 : Nat) : Int) by omega] at he
        have := ed_head n F (o + 1) [] h3 e r he
        omega
theorem flow_step (n o : Nat) (E : List Ed) (ho : o < n) (h : ∀ e r, E = e :: r → ((o + 1 : Nat) : Int) ≤ e.at_) : flowFrom n o E = ((o : Int), 0) :: flowFrom n (o + 1) E := by
  cases E with
  | nil =>
    rw [flowFrom, flowFrom, show n - o = (n - (o + 1)) + 1 by omega, runOf_cons]
  | cons e r =>
    have := h e r rfl
    rw [flowFrom, flowFrom, show e.at_.toNat - o = (e.at_.toNat - (o + 1)) + 1 by omega, runOf_cons]
    rfl
theorem ed_round (n : Nat) : ∀ (F : List (Int × UInt8)) (a : Nat) (w : List UInt8), a ≤ n → okF n a F → flowFrom n a (edGo n a w F) = negL w ++ F
  | [], a, w, ha, _ => by
    rw [edGo, pushE]
    split
    · simp only [flowFrom]
      rw [show ((a : Int) + ((n : Int) - (a : Int))).toNat = n by omega]
      simp [runOf, negL]
    · rename_i h
      have hw : w = [] := by
        apply Classical.byContradiction; intro q; exact h (.inr q)
      have hn : ¬ (a : Int) < n := fun q => h (.inl q)
      subst hw
      rw [flowFrom, show n - a = 0 by omega]; rfl
  | p :: F, a, w, ha, h => by
    rcases h with ⟨hp, h⟩ | ⟨o, rfl, h1, h2, h3⟩
    · rw [edGo, if_pos (by omega), ed_round n F a _ ha h]
      simp only [negL, List.map_append, List.map_cons, List.map_nil, List.append_assoc, List.cons_append, List.nil_append]
      rw [← hp]
    · rw [edGo, if_neg (by simp only; omega)]
      simp only
      have ih := ed_round n F (o + 1) [] (by omega) h3
      have hh := ed_head n F (o + 1) [] h3
      rw [show (((o + 1 : Nat) : Int)) = (o : Int) + 1 by omega] at ih
      have hs := flow_step n o (edGo n ((o : Int) + 1) [] F) h2 (by
        intro e r he
        rw [show (o : Int) + 1 = ((o + 1 : Nat) : Int) by omega] at he
        exact hh e r he)
      rw [pushE]
      split
      · rw [List.cons_append, List.nil_append, flowFrom]
        simp only
        rw [show ((a : Int) + ((o : Int) - (a : Int))).toNat = o by omega, hs, ih]
        simp [runOf, negL]
      · rename_i h
        have hw : w = [] := by
          apply Classical.byContradiction; intro q; exact h (.inr q)
        have hn : ¬ (a : Int) < o := fun q => h (.inl q)
        have hao : a = o := by omega
        subst hw
        rw [List.nil_append, hao, hs, ih]
        rfl
theorem okF_mono {n : Nat} : ∀ {F : List (Int × UInt8)} {a b : Nat}, b ≤ a → okF n a F → okF n b F
  | [], _, _, _, _ => trivial
  | p :: F, a, b, hb, h => by
    rcases h with ⟨hp, h⟩ | ⟨o, hp, h1, h2, h3⟩
    · exact .inl ⟨hp, okF_mono hb h⟩
    · exact .inr ⟨o, hp, by omega, h2, h3⟩
theorem okF_tail {n a : Nat} {p : Int × UInt8} {F : List (Int × UInt8)} (h : okF n a (p :: F)) : okF n a F := by
  rcases h with ⟨hp, h⟩ | ⟨o, hp, h1, h2, h3⟩
  · exact h
  · exact okF_mono (by omega) h3
theorem okF_drop {n a : Nat} : ∀ (k : Nat) {F : List (Int × UInt8)}, okF n a F → okF n a (F.drop k)
  | 0, F, h => h
  | k + 1, [], h => h
  | k + 1, p :: F, h => okF_drop k (okF_tail h)
theorem ok_run {n : Nat} {F : List (Int × UInt8)} : ∀ (k a : Nat), a + k ≤ n → okF n (a + k) F → okF n a (runOf a k ++ F)
  | 0, a, _, h => h
  | k + 1, a, hk, h => by
    rw [runOf_cons, List.cons_append]
    exact .inr ⟨a, rfl, Nat.le_refl _, by omega, ok_run k (a + 1) (by omega) (by rwa [show a + 1 + k = a + (k + 1) by omega])⟩
theorem ok_neg {n a : Nat} {F : List (Int × UInt8)} (h : okF n a F) : ∀ w : List UInt8, okF n a (negL w ++ F)
  | [] => h
  | c :: w => .inl ⟨rfl, ok_neg h w⟩
theorem ok_flow (n : Nat) : ∀ (l : List Ed) (a : Nat) (B : Int), (B = a ∨ (B = -1 ∧ a = 0)) → a ≤ n → scan n B l = 0 → okF n a (flowFrom n a l)
  | [], a, B, _, ha, _ => by
    have := ok_run (n := n) (F := []) (n - a) a (by omega) trivial
    rwa [List.append_nil] at this
  | e :: r, a, B, hB, ha, hs => by
    obtain ⟨c1, c2, c3, c4, c5, c6⟩ := scan_cons hs
    have ih := ok_flow n r (e.at_ + e.cut).toNat (e.at_ + e.cut) (.inl (by omega)) (by omega) c6
    rw [flowFrom, List.append_assoc]
    refine ok_run _ _ (by omega) (ok_neg (okF_mono (by omega) ih) e.new)
theorem ok_over (n : Nat) (F : List (Int × UInt8)) : ∀ (G : List (Int × UInt8)) (b c : Nat), okF F.length b G → okF n c (F.drop b) → okF n c (overF F G)
  | [], _, _, _, _ => trivial
  | p :: G, b, c, hG, hF => by
    rcases hG with ⟨hp, hG⟩ | ⟨o, rfl, h1, h2, h3⟩
    · have : overL F p = p := by rw [overL, if_neg (by omega)]
      rw [overF, List.map_cons, this]
      exact .inl ⟨hp, ok_over n F G b c hG hF⟩
    · have hd : okF n c (F.drop o) := by
        have := okF_drop (o - b) hF
        rwa [List.drop_drop, show b + (o - b) = o by omega] at this
      rw [List.drop_eq_getElem_cons h2] at hd
      have hv : overL F ((o : Int), 0) = F[o] := by
        rw [overL, if_pos (by simp only; omega)]
        simp [List.getD_eq_getElem?_getD, h2]
      rw [overF, List.map_cons, hv]
      rcases hd with ⟨hp, hd⟩ | ⟨q, hp, q1, q2, q3⟩
      · exact .inl ⟨hp, ok_over n F G (o + 1) c h3 hd⟩
      · exact .inr ⟨q, hp, q1, q2, ok_over n F G (o + 1) (q + 1) h3 q3⟩
theorem over_right (n : Nat) (a b : List Ed) (ha : scan n (-1) a = 0) (hb : scan (flowFrom n 0 a).length (-1) b = 0) :
    scan n (-1) (edGo n 0 [] (overF (flowFrom n 0 a) (flowFrom (flowFrom n 0 a).length 0 b))) = 0 ∧
    flowFrom n 0 (edGo n 0 [] (overF (flowFrom n 0 a) (flowFrom (flowFrom n 0 a).length 0 b))) = overF (flowFrom n 0 a) (flowFrom (flowFrom n 0 a).length 0 b) := by
  have h1 := ok_flow n a 0 (-1) (.inr ⟨rfl, rfl⟩) (by omega) ha
  have h2 := ok_flow (flowFrom n 0 a).length b 0 (-1) (.inr ⟨rfl, rfl⟩) (by omega) hb
  have h3 := ok_over n (flowFrom n 0 a) _ 0 0 h2 h1
  refine ⟨ed_scan n _ 0 [] (-1) (by omega) (by omega) h3, ?_⟩
  have := ed_round n _ 0 [] (by omega) h3
  exact this
end Go.S1N
end
section
namespace Go.S1N
open Go Go.Am Go.Proofs Go.S1
set_option maxRecDepth 100000
theorem push_new {a to : Int} {w : List UInt8} {e : Ed} (h : e ∈ pushE a w to) : e.new.length = w.length := by
  rw [pushE] at h
  split at h
  · rw [List.mem_singleton.1 h]
  · cases h
theorem ed_new (n : Int) : ∀ (F : List (Int × UInt8)) (a : Int) (w : List UInt8), ∀ e ∈ edGo n a w F, e.new.length ≤ w.length + F.length
  | [], a, w, e, h => by rw [edGo] at h; rw [push_new h]; exact Nat.le_add_right _ _
  | p :: F, a, w, e, h => by
    rw [edGo] at h
    split at h
    · have := ed_new n F a _ e h
      simp only [List.length_append, List.length_cons, List.length_nil] at this ⊢
      omega
    · rcases List.mem_append.1 h with h | h
      · rw [push_new h]; exact Nat.le_add_right _ _
      · have := ed_new n F _ _ e h
        simp only [List.length_nil, List.length_cons] at this ⊢
        omega
theorem faultOf_long {n : Int} {l : List Ed} (h : faultOf n l = 0) : longOf n l ≤ 20000 := by
  rw [faultOf] at h
  split at h
  · cases h
  · split at h
    · cases h
    · split at h
      · rename_i h3; exact absurd h h3
      · split at h
        · cases h
        · omega
theorem flow_short {n : Nat} {l : List Ed} (h : faultOf n l = 0) (hnew : ∀ e ∈ l, e.new.length ≤ 100000) : (flowFrom n 0 l).length ≤ 20000 ∧ longOf n l = (flowFrom n 0 l).length := by
  obtain ⟨h0, h1, h2, hs⟩ := faultOf_zero h
  have q1 := flow_dl n l 0 (-1) (.inr ⟨rfl, rfl⟩) (by omega) hs
  have q2 := long_dl l n (fun e he => ⟨hnew e he, by have := scan_range l _ hs e he; omega⟩) (by omega) (by omega)
  have q3 := faultOf_long h
  omega
end Go.S1N
end
section
namespace Go.S1N
open Go Go.Am Go.Proofs Go.S1
set_option maxRecDepth 100000
end Go.S1N
end
section
namespace Go.S1N
open Go Go.Am Go.Proofs Go.S1
set_option maxRecDepth 100000
end Go.S1N
end
section
namespace Go.S1N
open Go Go.Am Go.Proofs Go.S1
set_option maxRecDepth 100000
attribute [local irreducible] lopsB lvb lstepB lfunG lcondB lguardB ldrawB ldrunB ldstepB ldguardB lmem lval ldmem ldval ldfun lexit ldloadB ldlenB lpostB athen ablock
def edsv (l : List (List Ed)) : AV := fsv 1 (l.map edv)
theorem edsv_len (l : List (List Ed)) : alen tab 44 (edsv l) = some (.int .i64 l.length) := by rw [edsv, len44f, List.length_map]
theorem edsv_at {l : List (List Ed)} {j : Nat} {c : List Ed} (h : l[j]? = some c) : aindexAddr tab 44 (edsv l) (.int .i64 j) = some (.rptr [edv c]) := by
  have hc : (edv c).cells = [edv c] := by rcases edv_sl c with ⟨f, h⟩ | ⟨h, _⟩ <;> rw [h] <;> rfl
  have hr : (edv c).israw = false := by rcases edv_sl c with ⟨f, h⟩ | ⟨h, _⟩ <;> rw [h] <;> rfl
  have := ix44f (xs := l.map edv) (n := j) (v := edv c) (by omega) (by rw [List.getElem?_map, Int.toNat_natCast, h]; rfl) hr
  rw [hc] at this
  exact this
theorem edsv_pu (l : List (List Ed)) : Pu (edsv l) := pu_fsv (by
  simp only [PuL, lowL_iff]
  intro x hx
  obtain ⟨c, _, rfl⟩ := List.mem_map.1 hx
  exact edv_pu c)
structure IsEds (v : AV) (l : List (List Ed)) : Prop where
  len : alen tab 44 v = some (.int .i64 l.length)
  at_ : ∀ {j : Nat} {c : List Ed}, l[j]? = some c → aindexAddr tab 44 v (.int .i64 j) = some (.rptr [edv c])
  pu : Pu v
theorem edsv_is (l : List (List Ed)) : IsEds (edsv l) l := ⟨edsv_len l, edsv_at, edsv_pu l⟩
theorem eds_is (l : List (List Ed)) : IsEds (.vs 1 false (l.map edv)) l := by
  by_cases h : l = []
  · subst h
    refine ⟨by rw [List.map_nil, len44v]; rfl, fun h => by simp at h, by simp only [List.map_nil, Pu, low, lowL]⟩
  · have : (.vs 1 false (l.map edv) : AV) = edsv l := by rw [edsv, fsv_pos (by simpa using h)]
    rw [this]; exact edsv_is l
theorem ld27r {c : List Ed} {s : AHeap} : aload tab 27 (.rptr [edv c]) s = some (edv c) := by rw [ld27]; rfl
end Go.S1N
end
section
namespace Go.S1N
open Go Go.Am Go.Proofs Go.S1
set_option maxRecDepth 100000
def rfl1 (r : Rn) : List (Int × UInt8) := if r.text ≠ [] then negL r.text else (List.range r.long.toNat).map fun (i : Nat) => (r.at_ + (i : Int), (0 : UInt8))
def rflow (l : List Rn) : List (Int × UInt8) := l.flatMap rfl1
def rGo (n : Int) : Int → List UInt8 → List Rn → List Ed
  | a, w, [] => pushE a w n
  | a, w, r :: l => if r.text ≠ [] then rGo n a (w ++ r.text) l else if 0 < r.long then pushE a w r.at_ ++ rGo n (r.at_ + r.long) [] l else rGo n a w l
theorem ed_kept (N : Int) (t : List (Int × UInt8)) : ∀ (k : Nat) (o q : Int) (w : List UInt8), 0 ≤ o → edGo N q w ((List.range (k + 1)).map (fun (i : Nat) => (o + (i : Int), (0 : UInt8))) ++ t) = pushE q w o ++ edGo N (o + (k + 1 : Nat)) [] t
  | 0, o, q, w, h => by
    simp only [List.range_succ, List.range_zero, List.nil_append, List.map_cons, List.map_nil, List.cons_append, edGo]
    rw [if_neg (by omega)]
    simp
  | k + 1, o, q, w, h => by
    have ih := ed_kept N t k (o + 1) (o + 1) [] (by omega)
    rw [List.range_succ_eq_map, List.map_cons, List.map_map, List.cons_append, edGo, if_neg (by simp only; omega)]
    have e : (List.range (k + 1)).map ((fun (i : Nat) => (o + (i : Int), (0 : UInt8))) ∘ Nat.succ) = (List.range (k + 1)).map (fun (i : Nat) => (o + 1 + (i : Int), (0 : UInt8))) := by
      refine List.map_congr_left fun i _ => ?_
      simp only [Function.comp_apply, Nat.succ_eq_add_one, Prod.mk.injEq, and_true]
      omega
    rw [e]
    simp only [Int.natCast_zero, Int.add_zero] at ih ⊢
    rw [ih, push_same, List.nil_append]
    congr 2; omega
theorem rGo_flow (n : Int) : ∀ (l : List Rn) (a : Int) (w : List UInt8), (∀ r ∈ l, 0 ≤ r.at_) → rGo n a w l = edGo n a w (rflow l)
  | [], a, w, _ => rfl
  | r :: l, a, w, h => by
    have ih := fun a w => rGo_flow n l a w fun x hx => h x (List.mem_cons_of_mem _ hx)
    have hr := h r (List.mem_cons_self ..)
    have hf : rflow (r :: l) = rfl1 r ++ rflow l := List.flatMap_cons
    rw [rGo, hf, rfl1]
    split
    · rw [ed_neg, ih]
    · split
      · rename_i h0
        obtain ⟨k, hk⟩ : ∃ k, r.long.toNat = k + 1 := ⟨r.long.toNat - 1, by omega⟩
        rw [hk, ed_kept _ _ _ _ _ _ hr, ih]
        congr 2; omega
      · rename_i h0
        rw [show r.long.toNat = 0 by omega, ih]; rfl
theorem rflow_app (a b : List Rn) : rflow (a ++ b) = rflow a ++ rflow b := List.flatMap_append
theorem rfl1_kept {a k : Nat} : rfl1 ⟨a, k, []⟩ = runOf a k := by
  simp only [rfl1, ne_eq, not_true_eq_false, if_false, runOf, Int.toNat_natCast]
  rw [List.range'_eq_map_range, List.map_map]
  refine List.map_congr_left fun i _ => ?_
  simp
theorem rfl1_fresh {w : List UInt8} : rfl1 ⟨0, 0, w⟩ = negL w := by
  unfold rfl1
  split
  · rfl
  · rename_i h
    have : w = [] := Classical.not_not.1 h
    subst this; rfl
theorem runs_flow (n : Nat) : ∀ (l : List Ed) (a : Nat) (B : Int), (B = a ∨ (B = -1 ∧ a = 0)) → a ≤ n → scan n B l = 0 → rflow (runsFrom n a l) = flowFrom n a l
  | [], a, B, _, ha, _ => by
    rw [runsFrom, flowFrom]
    rw [show ((n : Int) - (a : Int)) = ((n - a : Nat) : Int) by omega]
    simp only [rflow, List.flatMap_cons, List.flatMap_nil, List.append_nil]
    exact rfl1_kept
  | e :: r, a, B, hB, ha, hs => by
    obtain ⟨c1, c2, c3, c4, c5, c6⟩ := scan_cons hs
    have ih := runs_flow n r (e.at_ + e.cut).toNat (e.at_ + e.cut) (.inl (by omega)) (by omega) c6
    rw [show (((e.at_ + e.cut).toNat : Nat) : Int) = e.at_ + e.cut by omega] at ih
    rw [runsFrom, flowFrom, show e.at_ - (a : Int) = ((e.at_.toNat - a : Nat) : Int) by omega]
    simp only [rflow, List.flatMap_cons] at ih ⊢
    rw [ih, rfl1_kept, rfl1_fresh, List.append_assoc]
    rfl
def rsize (r : Rn) : Nat := max r.long.toNat r.text.length
def cutR (r : Rn) (k : Nat) : Rn := if r.text ≠ [] then ⟨0, 0, r.text.take k⟩ else ⟨r.at_, k, []⟩
def restR (r : Rn) (k : Nat) : Rn := if r.text ≠ [] then ⟨r.at_, r.long, r.text.drop k⟩ else ⟨r.at_ + k, r.long - k, []⟩
def takeO : Nat → List Rn → List Rn
  | _, [] => []
  | n, r :: l => if n = 0 then [] else if n < rsize r then [cutR r n] else cutR r (rsize r) :: takeO (n - rsize r) l
def restO : Nat → List Rn → List Rn
  | _, [] => []
  | n, r :: l => if n = 0 then r :: l else if n < rsize r then restR r n :: l else restO (n - rsize r) l
def okR (r : Rn) : Prop := 0 ≤ r.at_ ∧ 0 ≤ r.long ∧ (r.text = [] ∨ r.long = 0)
theorem rfl1_len {r : Rn} (h : okR r) : (rfl1 r).length = rsize r := by
  obtain ⟨h1, h2, h3⟩ := h
  unfold rfl1 rsize
  split
  · rename_i ht
    rcases h3 with h3 | h3
    · exact absurd h3 ht
    · rw [h3]; simp [negL]
  · rename_i ht
    have : r.text = [] := Classical.not_not.1 ht
    rw [this]; simp
theorem rfl1_cut {r : Rn} (h : okR r) {k : Nat} (hk : k ≤ rsize r) : rfl1 (cutR r k) = (rfl1 r).take k := by
  obtain ⟨h1, h2, h3⟩ := h
  unfold cutR
  by_cases ht : r.text = []
  · rw [if_neg (by simpa using ht)]
    simp only [rfl1, ht, ne_eq, not_true_eq_false, if_false, Int.toNat_natCast]
    rw [← List.map_take, List.take_range]
    congr 2
    unfold rsize at hk
    rw [ht] at hk
    simp at hk
    omega
  · rw [if_pos ht, rfl1_fresh]
    simp only [rfl1, ne_eq, ht, not_false_eq_true, if_true, negL, List.map_take]
theorem rfl1_rest {r : Rn} (h : okR r) {k : Nat} (hk : k < rsize r) : rfl1 (restR r k) = (rfl1 r).drop k ∧ okR (restR r k) := by
  obtain ⟨h1, h2, h3⟩ := h
  unfold restR
  by_cases ht : r.text = []
  · rw [if_neg (by simpa using ht)]
    unfold rsize at hk
    rw [ht] at hk
    simp at hk
    refine ⟨?_, by simp only; omega, by simp only; omega, .inl rfl⟩
    simp only [rfl1, ht, ne_eq, not_true_eq_false, if_false]
    rw [← List.map_drop]
    apply List.ext_getElem
    · simp <;> omega
    · intro i g1 g2
      simp at g1 g2 ⊢
      omega
  · rw [if_pos ht]
    have hl : r.long = 0 := by rcases h3 with h3 | h3; exact absurd h3 ht; exact h3
    refine ⟨?_, h1, h2, .inr hl⟩
    unfold rsize at hk
    rw [hl] at hk
    simp at hk
    have hd : r.text.drop k ≠ [] := by simp; omega
    simp only [rfl1, ne_eq, ht, hd, not_false_eq_true, if_true, negL, List.map_drop]
theorem take_flow : ∀ (l : List Rn) (n : Nat), (∀ r ∈ l, okR r) → rflow (takeO n l) = (rflow l).take n ∧ rflow (restO n l) = (rflow l).drop n ∧ ∀ r ∈ restO n l, okR r
  | [], n, _ => ⟨by simp [takeO, rflow], by simp [restO, rflow], fun r hr => by simp [restO] at hr⟩
  | r :: l, n, h => by
    have hr := h r (List.mem_cons_self ..)
    have hl := fun x hx => h x (List.mem_cons_of_mem r hx)
    have hf : ∀ (r : Rn) l, rflow (r :: l) = rfl1 r ++ rflow l := fun r l => List.flatMap_cons
    have hlen := rfl1_len hr
    rw [takeO, restO, hf]
    by_cases h0 : n = 0
    · subst h0
      simp only [if_true, List.take_zero, List.drop_zero]
      exact ⟨rfl, hf r l, h⟩
    · rw [if_neg h0, if_neg h0]
      by_cases h1 : n < rsize r
      · rw [if_pos h1, if_pos h1, hf, hf]
        have q := rfl1_rest hr h1
        refine ⟨?_, ?_, ?_⟩
        · rw [rfl1_cut hr (by omega), List.take_append_of_le_length (by omega)]
          simp [rflow]
        · rw [q.1, List.drop_append_of_le_length (by omega)]
        · intro x hx
          rcases List.mem_cons.1 hx with rfl | hx
          · exact q.2
          · exact hl x hx
      · rw [if_neg h1, if_neg h1, hf]
        have ih := take_flow l (n - rsize r) hl
        refine ⟨?_, ?_, ih.2.2⟩
        · rw [rfl1_cut hr (Nat.le_refl _), ih.1, List.take_append, hlen, List.take_of_length_le (l := rfl1 r) (i := rsize r) (by omega), List.take_of_length_le (l := rfl1 r) (i := n) (by omega)]
        · rw [ih.2.1, List.drop_append, hlen, List.drop_of_length_le (l := rfl1 r) (i := n) (by omega), List.nil_append]
end Go.S1N
end
section
namespace Go.S1N
open Go Go.Am Go.Proofs Go.S1
set_option maxRecDepth 100000
theorem ty135 : tab.ty 135 = some { td := .struct [(89, 0, true), (89, 1, true)], size := 2, bytes := 48, zero := .agg #[.slice none 0 0, .slice none 0 0], eqok := false } := by kernel_rfl
@[go_sem] theorem fa135_0p {b o : Nat} : afieldAddr tab 135 (.ptr b o) 0 = some (.ptr b (o + 0)) := by simp [afieldAddr, ty135, Tab.size, ty89]
@[go_sem] theorem fa135_1p {b o : Nat} : afieldAddr tab 135 (.ptr b o) 1 = some (.ptr b (o + 1)) := by simp [afieldAddr, ty135, Tab.size, ty89]
@[go_sem] theorem bd135 {parts : List (Nat × AV)} : abuild tab 135 parts = if parts.any (·.2.israw) = true then none else (afill (fun i => ([(0, 1), (1, 1)] : List (Nat × Nat))[i]?) [.nils, .nils] parts).map .agg := abuild_struct ty135 rfl rfl (by simp [Tab.size, ty89])
end Go.S1N
end
section
namespace Go.S1N
open Go Go.Am Go.Proofs Go.S1
set_option maxRecDepth 100000
attribute [local irreducible] lopsB lvb lstepB lfunG lcondB lguardB ldrawB ldrunB ldstepB ldguardB lmem lval ldmem ldval ldfun lexit ldloadB ldlenB lpostB athen ablock
theorem runs_own (n : Int) (v : AV) (l : List Ed) (hv : SlE v l) (hl : l.length ≤ 2000) (hn0 : 0 ≤ n) (hn : n ≤ 20000) (hsc : scan n (-1) l = 0) (s : AHeap) :
    ACall Tryz.prog 68 [.int .i64 n, v] s fun r t => r = .rs 3 (nm s.nx 0) 0 (runsFrom n 0 l).length ∧ t = loc s 1 [(0, some (.cells (rnc (runsFrom n 0 l)) (some 98)))] := by
  refine gob68 (by simp) ?_
  intro tm hlen harg
  simp +contextual only [go_sem, L68, hlen, harg, hv.len, cdD, cdN, gdT, gdF, gdD, Nat.reduceLT, Nat.reduceEqDiff, Nat.reduceAdd, Nat.reduceLeDiff, reduceIte, reduceCtorEq]
  refine ⟨Nat × Int × Int × List Rn, fun a => [(0, .int .i64 n), (5, gsv 3 (nm s.nx 0) a.2.2.2.length), (6, .int .i64 a.2.1), (9, v), (10, .int .i64 l.length), (11, .int .i64 a.1)],
    fun a => loc s 1 [(0, gso 98 (rnc a.2.2.2))], fun a => a.1 ≤ l.length ∧ a.2.2.2.length ≤ 2 * a.1 ∧ 0 ≤ a.2.1 ∧ a.2.1 ≤ n ∧ (a.2.2.1 = a.2.1 ∨ (a.2.2.1 = -1 ∧ a.2.1 = 0)) ∧ scan n a.2.2.1 (l.drop a.1) = 0 ∧ a.2.2.2 ++ runsFrom n a.2.1 (l.drop a.1) = runsFrom n 0 l,
    fun a => l.length - a.1, (0, 0, -1, []), ⟨by simp, by simp, by simp, hn0, by simp, by simpa using hsc, by simp⟩, ?_, ?_⟩
  · refine To.go [9] [(0, none)] (by simp only [rnc, List.map_nil, List.flatMap_nil, gso_nil]; rfl) (.refl s) (by decide) (by simp) ?_ ?_
    · simp +contextual only [go_sem, hlen, harg, hv.pu, pu_ren hv.pu, List.length_nil, gsv_zero, cdD, cdN, gdT, gdF, gdD, Nat.reduceLT, Nat.reduceEqDiff, Nat.reduceAdd, Nat.reduceLeDiff, reduceIte, reduceCtorEq]
      simp
    · simp only [go_sem, cdD, cdN, gdT, gdF, gdD, Nat.reduceLT, Nat.reduceEqDiff, Nat.reduceAdd, Nat.reduceLeDiff, reduceIte, reduceCtorEq]
  · rintro ⟨i, a, B, R⟩ tm1 ⟨hi, hR, ha0, ha, hB, hs, hL⟩ hlen1 hlv
    simp only [go_sem, hlen, cdD, cdN, gdT, gdF, gdD, Nat.reduceLT, Nat.reduceEqDiff, Nat.reduceAdd, Nat.reduceLeDiff, reduceIte, reduceCtorEq] at hlen1 hlv hi hR ha0 ha hB hs hL
    simp +contextual only [go_sem, hlen, hlen1, hlv, cdD, cdN, gdT, gdF, gdD, Nat.reduceLT, Nat.reduceEqDiff, Nat.reduceAdd, Nat.reduceLeDiff, reduceIte, reduceCtorEq]
    refine ⟨fun hlt => ?_, fun hge => ?_⟩
    · have hi2 : i < l.length := by omega
      have he := List.getElem?_eq_getElem hi2
      have hdrop := List.drop_eq_getElem_cons hi2
      generalize l[i] = e at he hdrop
      rw [hdrop] at hs hL
      obtain ⟨c1, c2, c3, c4, c5, c6⟩ := scan_cons hs
      have hw1 : IntKind.i64.wrap (e.at_ - a) = e.at_ - a := wrap_id (by omega)
      have hw2 : IntKind.i64.wrap (e.at_ + e.cut) = e.at_ + e.cut := wrap_id (by omega)
      have hw3 : IntKind.i64.wrap ((i : Int) + 1) = ((i + 1 : Nat) : Int) := by rw [wrap_id (by omega)]; rfl
      simp +contextual only [go_sem, hlen, hlen1, hlv, hv.at he, cdD, cdN, gdT, gdF, gdD, Nat.reduceLT, Nat.reduceEqDiff, Nat.reduceAdd, Nat.reduceLeDiff, reduceIte, reduceCtorEq]
      refine ldrawB_go [] [] 11 (by decide) ?_
      simp +contextual only [go_sem, hlen1, hlv, hw1, cdD, cdN, gdT, gdF, gdD, Nat.reduceLT, Nat.reduceEqDiff, Nat.reduceAdd, Nat.reduceLeDiff, reduceIte, reduceCtorEq]
      refine ldfun_pure _ (kept_ok _ _) ?_
      simp +contextual only [go_sem, hlen1, hlv, cdD, cdN, gdT, gdF, gdD, Nat.reduceLT, Nat.reduceEqDiff, Nat.reduceAdd, Nat.reduceLeDiff, reduceIte, reduceCtorEq]
      refine ldfun_pure _ (fresh_ok _) ?_
      simp +contextual only [go_sem, hlen1, hlv, Rn.enc, cdD, cdN, gdT, gdF, gdD, Nat.reduceLT, Nat.reduceEqDiff, Nat.reduceAdd, Nat.reduceLeDiff, reduceIte, reduceCtorEq]
      refine ⟨by kernel_rfl, ?_⟩
      refine lmem_eq (app89 (acellsOf_rs (by simp only [go_sem, cdD, cdN, gdT, gdF, gdD, Nat.reduceLT, Nat.reduceEqDiff, Nat.reduceAdd, Nat.reduceLeDiff, reduceIte, reduceCtorEq]; rfl) (by rfl) rfl) (by decide) (by simp only [go_sem, cdD, cdN, gdT, gdF, gdD, Nat.reduceLT, Nat.reduceEqDiff, Nat.reduceAdd, Nat.reduceLeDiff, reduceIte, reduceCtorEq]) (by simp only [go_sem, cdD, cdN, gdT, gdF, gdD, Nat.reduceLT, Nat.reduceEqDiff, Nat.reduceAdd, Nat.reduceLeDiff, reduceIte, reduceCtorEq]) (rnc_len R) (by omega) rfl) ?_
      simp +contextual only [go_sem, hlen1, hlv, hw2, hw3, cdD, cdN, gdT, gdF, gdD, Nat.reduceLT, Nat.reduceEqDiff, Nat.reduceAdd, Nat.reduceLeDiff, reduceIte, reduceCtorEq]
      refine ⟨(i + 1, e.at_ + e.cut, e.at_ + e.cut, R ++ [⟨a, e.at_ - a, []⟩, ⟨0, 0, e.new⟩]), ⟨by simp only; omega, by simp only [List.length_append, List.length_cons, List.length_nil]; omega, by simp only; omega, by simp only; omega, .inl rfl, c6, ?_⟩, by simp only; omega, ?_⟩
      · rw [← hL]
        simp only [runsFrom, List.append_assoc, List.cons_append, List.nil_append]
      · refine To.go [14] [(0, gso 98 (rnc (R ++ [⟨a, e.at_ - a, []⟩, ⟨0, 0, e.new⟩])))] rfl (.refl s) (by decide) (by simp) ?_ ?_
        · simp +contextual only [go_sem, hlen1, hlv, pu_ren hv.pu, List.length_append, gsv_pos (Nat.succ_ne_zero (R.length + 1)), cdD, cdN, gdT, gdF, gdD, Nat.reduceLT, Nat.reduceEqDiff, Nat.reduceAdd, Nat.reduceLeDiff, reduceIte, reduceCtorEq]
        · simp only [go_sem, map_gso_pu (rnc_pul _), cdD, cdN, gdT, gdF, gdD, Nat.reduceLT, Nat.reduceEqDiff, Nat.reduceAdd, Nat.reduceLeDiff, reduceIte, reduceCtorEq]
          rw [show R ++ [⟨a, e.at_ - a, []⟩, ⟨0, 0, e.new⟩] = (R ++ [⟨a, e.at_ - a, []⟩]) ++ [⟨0, 0, e.new⟩] from by simp, rnc_snoc, rnc_snoc, List.append_assoc]
          exact (gso_pos (by simp)).symm
    · have hi2 : i = l.length := by omega
      have hw1 : IntKind.i64.wrap (n - a) = n - a := wrap_id (by omega)
      rw [hi2, List.drop_length, runsFrom] at hL
      simp +contextual only [go_sem, hlen1, hlv, hw1, cdD, cdN, gdT, gdF, gdD, Nat.reduceLT, Nat.reduceEqDiff, Nat.reduceAdd, Nat.reduceLeDiff, reduceIte, reduceCtorEq]
      refine lfunG_eq (kept_ok _ _ _) ?_
      simp +contextual only [go_sem, hlen1, hlv, Rn.enc, cdD, cdN, gdT, gdF, gdD, Nat.reduceLT, Nat.reduceEqDiff, Nat.reduceAdd, Nat.reduceLeDiff, reduceIte, reduceCtorEq]
      refine lmem_eq (app89 (acellsOf_rs (by simp only [go_sem, cdD, cdN, gdT, gdF, gdD, Nat.reduceLT, Nat.reduceEqDiff, Nat.reduceAdd, Nat.reduceLeDiff, reduceIte, reduceCtorEq]; rfl) (by rfl) rfl) (by decide) (by simp only [go_sem, cdD, cdN, gdT, gdF, gdD, Nat.reduceLT, Nat.reduceEqDiff, Nat.reduceAdd, Nat.reduceLeDiff, reduceIte, reduceCtorEq]) (by simp only [go_sem, cdD, cdN, gdT, gdF, gdD, Nat.reduceLT, Nat.reduceEqDiff, Nat.reduceAdd, Nat.reduceLeDiff, reduceIte, reduceCtorEq]) (rnc_len R) (by omega) rfl) ?_
      simp +contextual only [go_sem, hlen1, hlv, cdD, cdN, gdT, gdF, gdD, Nat.reduceLT, Nat.reduceEqDiff, Nat.reduceAdd, Nat.reduceLeDiff, reduceIte, reduceCtorEq]
      refine lexit_ren [2] (.refl s) (by decide) (v' := .rs 3 (nm s.nx 0) 0 (runsFrom n 0 l).length) (l' := [(0, some (.cells (rnc (runsFrom n 0 l)) (some 98)))]) ?_ ?_ ⟨rfl, rfl⟩
      · simp only [go_sem, cdD, cdN, gdT, gdF, gdD, Nat.reduceLT, Nat.reduceEqDiff, Nat.reduceAdd, Nat.reduceLeDiff, reduceIte, reduceCtorEq]
        rw [← hL, List.length_append]; rfl
      · simp only [go_sem, pul_ren (rnc_pul _), cdD, cdN, gdT, gdF, gdD, Nat.reduceLT, Nat.reduceEqDiff, Nat.reduceAdd, Nat.reduceLeDiff, reduceIte, reduceCtorEq]
        rw [← hL, rnc_snoc]
theorem loc_loc0 {s : AHeap} {n : Nat} {l : List (Nat × Option AObj)} : loc (loc s 0 []) n l = loc s n l := by
  have h2 : ∀ b, b < s.nx → (loc s 0 []).get b = s.get b := fun b hb => get_loc_out hb
  show AHeap.mk ((loc s 0 []).nx + n) true .nil (fun b => if b < (loc s 0 []).nx then (loc s 0 []).get b else lget l (b - (loc s 0 []).nx)) = AHeap.mk (s.nx + n) true .nil (fun b => if b < s.nx then s.get b else lget l (b - s.nx))
  congr 1
  funext b
  show (if b < s.nx then (loc s 0 []).get b else lget l (b - s.nx)) = if b < s.nx then s.get b else lget l (b - s.nx)
  by_cases hb : b < s.nx
  · rw [if_pos hb, if_pos hb, h2 b hb]
  · rw [if_neg hb, if_neg hb]
theorem runs_own' (n : Int) (v : AV) (l : List Ed) (hv : SlE v l) (hl : l.length ≤ 2000) (hn0 : 0 ≤ n) (hn : n ≤ 20000) (hsc : scan n (-1) l = 0) (s : AHeap) :
    ACall Tryz.prog 68 [.int .i64 n, v] (loc s 0 []) fun r t => r = .rs 3 (nm s.nx 0) 0 (runsFrom n 0 l).length ∧ t = loc s 1 [(0, some (.cells (rnc (runsFrom n 0 l)) (some 98)))] := by
  refine (runs_own n v l hv hl hn0 hn hsc (loc s 0 [])).mono ?_
  rintro r t ⟨rfl, rfl⟩
  exact ⟨rfl, loc_loc0⟩
def Rn.emp (r : Rn) : Prop := r.long = 0 ∧ r.text = []
instance (r : Rn) : Decidable r.emp := inferInstanceAs (Decidable (_ ∧ _))
theorem emp_ok (r : Rn) (s : AHeap) : ACall Tryz.prog 69 [Rn.enc r] s fun v t => v = .bool (decide r.emp) ∧ t = s := by
  refine gob69 (by simp) ?_
  intro tm hlen harg
  simp +contextual only [go_sem, L69, hlen, harg, Rn.enc, cdD, cdN, gdT, gdF, gdD, Nat.reduceLT, Nat.reduceEqDiff, Nat.reduceAdd, Nat.reduceLeDiff, reduceIte, reduceCtorEq]
  refine ⟨fun h => ?_, fun h => ?_⟩
  · exact lexit_pure (.refl s) (by simp only [low]) ⟨by simp only [Rn.emp, h, true_and], rfl⟩
  · exact lexit_pure (.refl s) (by simp only [low]) ⟨by simp only [Rn.emp, h, false_and, decide_false], rfl⟩
theorem rnc_cons (r : Rn) (l : List Rn) : rnc (r :: l) = .int .i64 r.at_ :: .int .i64 r.long :: .str r.text :: rnc l := rfl
theorem rnc_app (a b : List Rn) : rnc (a ++ b) = rnc a ++ rnc b := by simp [rnc]
theorem rnc_drop : ∀ (j : Nat) (l : List Rn), (rnc l).drop (j * 3) = rnc (l.drop j)
  | 0, l => by simp
  | j + 1, [] => by simp [rnc]
  | j + 1, r :: l => by
    rw [rnc_cons, show (j + 1) * 3 = j * 3 + 1 + 1 + 1 by omega, List.drop_succ_cons, List.drop_succ_cons, List.drop_succ_cons, List.drop_succ_cons]
    exact rnc_drop j l
theorem index_ok {s : AHeap} {b : Nat} {L : List Rn} (hb : s.get b = some (.cells (rnc L) (some 98))) (hlt : b < s.nx) (hL : L.length ≤ 1000000000) :
    ACall Tryz.prog 93 [.rs 3 b 0 L.length, .func (.func 69) [] []] s fun r t => ((r = .int .i64 (-1) ∧ ∀ x ∈ L, ¬ x.emp) ∨ ∃ k : Nat, r = .int .i64 k ∧ k < L.length ∧ (∀ x ∈ L.take k, ¬ x.emp) ∧ ∃ x, L[k]? = some x ∧ x.emp) ∧ t = s := by
  refine gob93 (by simp) ?_
  intro tm hlen harg
  simp +contextual only [go_sem, L93, hlen, harg, cdD, cdN, gdT, gdF, gdD, Nat.reduceLT, Nat.reduceEqDiff, Nat.reduceAdd, Nat.reduceLeDiff, reduceIte, reduceCtorEq]
  refine ⟨Nat, fun j => [(0, .rs 3 b 0 L.length), (1, .func (.func 69) [] []), (7, .int .i64 L.length), (8, .int .i64 j)], fun j => loc s 0 [], fun j => j ≤ L.length ∧ ∀ x ∈ L.take j, ¬ x.emp, fun j => L.length - j, 0, by simp, ?_, ?_⟩
  · refine To.go [] [] rfl (.refl s) (by decide) (by simp) ?_ trivial
    simp +contextual only [go_sem, hlen, harg, rnm_low hlt, cdD, cdN, gdT, gdF, gdD, Nat.reduceLT, Nat.reduceEqDiff, Nat.reduceAdd, Nat.reduceLeDiff, reduceIte, reduceCtorEq]
    simp
  · rintro j tm1 ⟨hj, hx⟩ hlen1 hlv
    simp only [go_sem, hlen, cdD, cdN, gdT, gdF, gdD, Nat.reduceLT, Nat.reduceEqDiff, Nat.reduceAdd, Nat.reduceLeDiff, reduceIte, reduceCtorEq] at hlen1 hlv
    simp +contextual only [go_sem, hlen, hlen1, hlv, cdD, cdN, gdT, gdF, gdD, Nat.reduceLT, Nat.reduceEqDiff, Nat.reduceAdd, Nat.reduceLeDiff, reduceIte, reduceCtorEq]
    refine ⟨fun hl => ?_, fun hge => ?_⟩
    · have hj2 : j < L.length := by omega
      have he := List.getElem?_eq_getElem hj2
      have hdrop := List.drop_eq_getElem_cons hj2
      generalize L[j] = r at he hdrop
      have hd : (rnc L).drop (j * 3) = .int .i64 r.at_ :: .int .i64 r.long :: .str r.text :: rnc (L.drop (j + 1)) := by rw [rnc_drop, hdrop, rnc_cons]
      have hw3 : IntKind.i64.wrap ((j : Int) + 1) = ((j + 1 : Nat) : Int) := by rw [wrap_id (by omega)]; rfl
      have hix : aindexAddr tab 89 (.rs 3 b 0 L.length) (.int .i64 j) = some (.ptr b (j * 3)) := by
        have := ix89r (b := b) (o := 0) (m := L.length) (n := j) (by omega) (by omega)
        simpa using this
      simp +contextual only [go_sem, hlen1, hlv, hix, hb, hlt, hd, cdD, cdN, gdT, gdF, gdD, Nat.reduceLT, Nat.reduceEqDiff, Nat.reduceAdd, Nat.reduceLeDiff, reduceIte, reduceCtorEq]
      refine lfunG_eq (emp_ok r _) ?_
      simp +contextual only [go_sem, hlen1, hlv, hw3, cdD, cdN, gdT, gdF, gdD, Nat.reduceLT, Nat.reduceEqDiff, Nat.reduceAdd, Nat.reduceLeDiff, reduceIte, reduceCtorEq]
      refine ⟨fun hemp => ?_, fun hemp => ?_⟩
      · exact lexit_pure (.refl s) (by simp only [low]) ⟨.inr ⟨j, rfl, hj2, hx, r, he, hemp⟩, rfl⟩
      · refine ⟨j + 1, ⟨by omega, ?_⟩, by omega, ?_⟩
        · intro x hm
          rw [List.take_add_one, he] at hm
          rcases List.mem_append.1 hm with q | q
          · exact hx x q
          · have : x = r := by simpa using q
            rw [this]; exact hemp
        · refine To.go [] [] rfl (.refl s) (by decide) (by simp) ?_ trivial
          simp +contextual only [go_sem, hlen1, hlv, rnm_low hlt, cdD, cdN, gdT, gdF, gdD, Nat.reduceLT, Nat.reduceEqDiff, Nat.reduceAdd, Nat.reduceLeDiff, reduceIte, reduceCtorEq]
    · have hj2 : j = L.length := by omega
      rw [hj2, List.take_length] at hx
      exact lexit_pure (.refl s) (by simp only [low]) ⟨.inl ⟨rfl, hx⟩, rfl⟩
structure LB (C : List AV) (off : Nat) (R : List Rn) : Prop where
  pu : PuL C
  rest : ∃ J, C.drop off = rnc R ++ J
theorem LB.head {C : List AV} {off : Nat} {r : Rn} {R : List Rn} (h : LB C off (r :: R)) : ∃ T, C.drop off = .int .i64 r.at_ :: .int .i64 r.long :: .str r.text :: T := by
  obtain ⟨J, hJ⟩ := h.rest
  exact ⟨rnc R ++ J, by rw [hJ, rnc_cons]; rfl⟩
theorem LB.le {C : List AV} {off : Nat} {r : Rn} {R : List Rn} (h : LB C off (r :: R)) : off + 3 ≤ C.length := by
  obtain ⟨T, hT⟩ := h.head
  have := congrArg List.length hT
  simp only [List.length_drop, List.length_cons] at this
  omega
theorem LB.tail {C : List AV} {off : Nat} {r : Rn} {R : List Rn} (h : LB C off (r :: R)) : LB C (off + 3) R := by
  obtain ⟨J, hJ⟩ := h.rest
  refine ⟨h.pu, J, ?_⟩
  rw [show off + 3 = off + 3 from rfl, ← List.drop_drop, hJ, rnc_cons]
  rfl
theorem pul_set {C : List AV} (h : PuL C) (i : Nat) {v : AV} (hv : low 0 v) : PuL (C.set i v) := by
  unfold PuL at *
  rw [lowL_iff] at *
  intro x hx
  rcases List.mem_or_eq_of_mem_set hx with q | rfl
  · exact h x q
  · exact hv
theorem drop_set_at {C : List AV} (off k : Nat) (v : AV) : (C.set (off + k) v).drop off = (C.drop off).set k v := by
  rw [List.drop_set, if_neg (by omega), Nat.add_sub_cancel_left]
theorem LB.text {C : List AV} {off : Nat} {r : Rn} {R : List Rn} (h : LB C off (r :: R)) (x : List UInt8) : LB (C.set (off + 2) (.str x)) off (⟨r.at_, r.long, x⟩ :: R) := by
  obtain ⟨J, hJ⟩ := h.rest
  refine ⟨pul_set h.pu _ (by simp only [low]), J, ?_⟩
  rw [drop_set_at, hJ, rnc_cons, rnc_cons]
  rfl
theorem LB.set {C : List AV} {off : Nat} {r : Rn} {R : List Rn} (h : LB C off (r :: R)) (a b : Int) (x : List UInt8) : LB (((C.set off (.int .i64 a)).set (off + 1) (.int .i64 b)).set (off + 1 + 1) (.str x)) off (⟨a, b, x⟩ :: R) := by
  obtain ⟨J, hJ⟩ := h.rest
  refine ⟨pul_set (pul_set (pul_set h.pu _ (by simp only [low])) _ (by simp only [low])) _ (by simp only [low]), J, ?_⟩
  rw [show off + 1 + 1 = off + 2 from rfl, drop_set_at, drop_set_at, show C.set off (.int .i64 a) = C.set (off + 0) (.int .i64 a) from rfl, drop_set_at, hJ, rnc_cons, rnc_cons]
  rfl
end Go.S1N
end
section
namespace Go.S1N
open Go Go.Am Go.Proofs Go.S1
set_option maxRecDepth 100000
attribute [local irreducible] lopsB lvb lstepB lfunG lcondB lguardB ldrawB ldrunB ldstepB ldguardB lmem lval ldmem ldval ldfun lexit ldloadB ldlenB lpostB athen ablock
theorem splice_take : ∀ (vs c : List AV) (off : Nat), (splice c off vs).take off = c.take off
  | [], c, off => rfl
  | v :: vs, c, off => by
    rw [splice]
    have ih := splice_take vs (c.set off v) (off + 1)
    have := congrArg (List.take off) ih
    rw [List.take_take, List.take_take, Nat.min_eq_left (by omega)] at this
    rw [this, List.take_set_of_le (Nat.le_refl _)]
theorem splice_pul : ∀ (vs c : List AV) (off : Nat), PuL c → PuL vs → PuL (splice c off vs)
  | [], c, off, h, _ => h
  | v :: vs, c, off, h, hv => by
    rw [splice]
    simp only [PuL, lowL] at hv
    exact splice_pul vs _ _ (pul_set h _ hv.1) hv.2
theorem set3 {D : List AV} {i : Nat} (h : i + 3 ≤ D.length) (a b c : AV) : ((D.set i a).set (i + 1) b).set (i + 1 + 1) c = D.take i ++ a :: b :: c :: D.drop (i + 3) := by
  obtain ⟨X, y0, y1, y2, Z, rfl, rfl⟩ : ∃ X y0 y1 y2 Z, D = X ++ y0 :: y1 :: y2 :: Z ∧ i = X.length := by
    have h1 := List.take_append_drop i D
    have hl : (D.drop i).length = D.length - i := List.length_drop ..
    match hd : D.drop i with
    | [] => rw [hd] at hl; simp at hl; omega
    | [_] => rw [hd] at hl; simp at hl; omega
    | [_, _] => rw [hd] at hl; simp at hl; omega
    | y0 :: y1 :: y2 :: Z => exact ⟨D.take i, y0, y1, y2, Z, by rw [← hd, h1], by rw [List.length_take]; omega⟩
  simp [List.set_append]
  rw [if_neg (by omega), show X.length + 1 + 1 - X.length = 2 by omega]; rfl
theorem sl108_lo {b m i : Nat} (h : i ≤ m) : aslice tab 89 (.rs 3 b 0 m) (some (.int .i64 i)) none none = some (.rs 3 b (i * 3) (m - i)) := by
  simp [aslice, ty89, Tab.size, ty98, abounds, aidx, h]
theorem sl108_hi {b m i : Nat} (h : i ≤ m) : aslice tab 89 (.rs 3 b 0 m) none (some (.int .i64 i)) none = some (.rs 3 b 0 i) := by
  simp [aslice, ty89, Tab.size, ty98, abounds, aidx, h]
theorem clear108 {s : AHeap} {n k i m : Nat} {l : List (Nat × Option AObj)} {D : List AV} (hl : lget l k = some (.cells D (some 98))) (h : i * 3 + m * 3 ≤ D.length) (hm : m ≠ 0) :
    lclear tab 89 (.rs 3 (nm s.nx k) (i * 3) m) (loc s n l) = some (.tuple [], loc s n (lput l k (.cells (splice D (i * 3) (List.replicate m [.int .i64 0, .int .i64 0, .str []]).flatten) (some 98)))) := by
  simp only [lclear, ty89, aclear, ty98]
  have hz : (AV.ofV (Value.agg #[Value.int IntKind.i64 0, Value.int IntKind.i64 0, Value.string { data := #[] }])).cells = [.int .i64 0, .int .i64 0, .str []] := rfl
  rw [if_neg (by decide), if_neg hm, get_loc_nm, hl]
  simp only [AObj.cells?, hz]
  rw [if_pos ⟨trivial, h, rfl⟩, upd_loc_nm]
def live (L : List Rn) : List Rn := L.filter fun x => !decide x.emp
theorem del_ok {s : AHeap} {L : List Rn} (hL : L.length ≤ 1000000000) : ACall Tryz.prog 67 [.rs 3 (nm s.nx 0) 0 L.length, .func (.func 69) [] []] (loc s 1 [(0, some (.cells (rnc L) (some 98)))])
    fun r t => ∃ C, LB C 0 (live L) ∧ r = .rs 3 (nm s.nx 0) 0 (live L).length ∧ t = loc s 1 [(0, some (.cells C (some 98)))] := by
  refine gob67 (by simp) ?_
  intro tm hlen harg
  rw [loc_flat (by intro j hj; simp only [lget]; rw [if_neg (by omega)])]
  simp +contextual only [go_sem, L67, hlen, harg, cdD, cdN, gdT, gdF, gdD, Nat.reduceLT, Nat.reduceEqDiff, Nat.reduceAdd, Nat.reduceLeDiff, reduceIte, reduceCtorEq]
  refine lfunG_of (index_ok (L := L) (by simp only [go_sem, cdD, cdN, gdT, gdF, gdD, Nat.reduceLT, Nat.reduceEqDiff, Nat.reduceAdd, Nat.reduceLeDiff, reduceIte, reduceCtorEq]) (by simp only [go_sem, cdD, cdN, gdT, gdF, gdD, Nat.reduceLT, Nat.reduceEqDiff, Nat.reduceAdd, Nat.reduceLeDiff, reduceIte, reduceCtorEq]) hL) ?_
  rintro v t ⟨⟨rfl, hno⟩ | ⟨k, rfl, hk, hno, x, hx, hemp⟩, rfl⟩
  · simp +contextual only [go_sem, hlen, harg, cdD, cdN, gdT, gdF, gdD, Nat.reduceLT, Nat.reduceEqDiff, Nat.reduceAdd, Nat.reduceLeDiff, reduceIte, reduceCtorEq]
    have hf : live L = L := List.filter_eq_self.2 fun x hx => by simp [hno x hx]
    refine lexit_now ⟨rnc L, ⟨rnc_pul L, [], by rw [hf]; simp⟩, by rw [hf], rfl⟩
  · have hw1 : IntKind.i64.wrap ((k : Int) + 1) = ((k + 1 : Nat) : Int) := by rw [wrap_id (by omega)]; rfl
    simp +contextual only [go_sem, hlen, harg, hw1, cdD, cdN, gdT, gdF, gdD, Nat.reduceLT, Nat.reduceEqDiff, Nat.reduceAdd, Nat.reduceLeDiff, reduceIte, reduceCtorEq]
    have hxs := List.drop_eq_getElem_cons hk
    rw [List.getElem?_eq_getElem hk] at hx
    cases hx
    have hlive : L.take k ++ (L.drop (k + 1)).filter (fun x => !decide x.emp) = live L := by
      unfold live
      have hft : (L.take k).filter (fun x => !decide x.emp) = L.take k := List.filter_eq_self.2 fun x hx => by simp [hno x hx]
      conv => rhs; rw [← List.take_append_drop k L, hxs, List.filter_append, List.filter_cons]
      rw [if_neg (by simp [hemp]), hft]
    have hwi : IntKind.i64.wrap ((k : Int)) = (k : Int) := wrap_id (by omega)
    refine ⟨Nat × List Rn × List AV, fun a => [(0, .rs 3 (nm s.nx 0) 0 L.length), (1, .func (.func 69) [] []), (5, .int .i64 a.2.1.length), (6, .int .i64 a.1)], fun a => loc s 1 [(0, some (.cells a.2.2 (some 98)))],
      fun a => a.1 ≤ L.length ∧ a.2.1.length < a.1 ∧ a.2.1 ++ (L.drop a.1).filter (fun x => !decide x.emp) = live L ∧ a.2.2.length = L.length * 3 ∧ a.2.2.take (a.2.1.length * 3) = rnc a.2.1 ∧ a.2.2.drop (a.1 * 3) = rnc (L.drop a.1) ∧ PuL a.2.2,
      fun a => L.length - a.1, (k + 1, L.take k, rnc L), ⟨by simp only; omega, by simp only [List.length_take]; omega, hlive, rnc_len L, ?_, rnc_drop _ _, rnc_pul L⟩, ?_, ?_⟩
    · simp only [List.length_take, Nat.min_eq_left (Nat.le_of_lt hk)]
      conv => lhs; rw [← List.take_append_drop k L, rnc_app]
      rw [List.take_append_of_le_length (by rw [rnc_len, List.length_take]; omega), List.take_of_length_le (by rw [rnc_len, List.length_take]; omega)]
    · refine To.goK [0] _ rfl rfl (.refl s) (by decide) (by decide) (by simp) ?_ ?_
      · simp +contextual only [go_sem, hlen, harg, List.length_take, Nat.min_eq_left (Nat.le_of_lt hk), cdD, cdN, gdT, gdF, gdD, Nat.reduceLT, Nat.reduceEqDiff, Nat.reduceAdd, Nat.reduceLeDiff, reduceIte, reduceCtorEq]
      · simp only [go_sem, pul_ren (rnc_pul _), cdD, cdN, gdT, gdF, gdD, Nat.reduceLT, Nat.reduceEqDiff, Nat.reduceAdd, Nat.reduceLeDiff, reduceIte, reduceCtorEq]
    · rintro ⟨j, F, D⟩ tm1 ⟨hj, hF, hl, hDl, hDt, hDd, hDp⟩ hlen1 hlv
      simp only [go_sem, hlen, cdD, cdN, gdT, gdF, gdD, Nat.reduceLT, Nat.reduceEqDiff, Nat.reduceAdd, Nat.reduceLeDiff, reduceIte, reduceCtorEq] at hlen1 hlv hj hF hl hDl hDt hDd hDp
      simp +contextual only [go_sem, hlen, hlen1, hlv, cdD, cdN, gdT, gdF, gdD, Nat.reduceLT, Nat.reduceEqDiff, Nat.reduceAdd, Nat.reduceLeDiff, reduceIte, reduceCtorEq]
      refine ⟨fun hlt => ?_, fun hge => ?_⟩
      · have hj2 : j < L.length := by omega
        have he := List.getElem?_eq_getElem hj2
        have hdrop := List.drop_eq_getElem_cons hj2
        generalize L[j] = r at he hdrop
        rw [hdrop] at hl hDd
        have hd : D.drop (j * 3) = .int .i64 r.at_ :: .int .i64 r.long :: .str r.text :: rnc (L.drop (j + 1)) := by rw [hDd, rnc_cons]
        have hd1 : D.drop ((j + 1) * 3) = rnc (L.drop (j + 1)) := by
          rw [show (j + 1) * 3 = j * 3 + 3 by omega, ← List.drop_drop, hd]; rfl
        have hw3 : IntKind.i64.wrap ((j : Int) + 1) = ((j + 1 : Nat) : Int) := by rw [wrap_id (by omega)]; rfl
        have hw4 : IntKind.i64.wrap ((F.length : Int) + 1) = ((F.length + 1 : Nat) : Int) := by rw [wrap_id (by omega)]; rfl
        have hix : ∀ i : Nat, i < L.length → aindexAddr tab 89 (.rs 3 (nm s.nx 0) 0 L.length) (.int .i64 i) = some (.ptr (nm s.nx 0) (i * 3)) := by
          intro i hi
          have := ix89r (b := nm s.nx 0) (o := 0) (m := L.length) (n := i) (by omega) (by omega)
          simpa using this
        simp +contextual only [go_sem, hlen1, hlv, hix j hj2, hd, cdD, cdN, gdT, gdF, gdD, Nat.reduceLT, Nat.reduceEqDiff, Nat.reduceAdd, Nat.reduceLeDiff, reduceIte, reduceCtorEq]
        refine lfunG_eq (emp_ok r _) ?_
        simp +contextual only [go_sem, hlen1, hlv, hw3, hw4, hix F.length (by omega), show F.length * 3 + 3 ≤ D.length by omega, cdD, cdN, gdT, gdF, gdD, Nat.reduceLT, Nat.reduceEqDiff, Nat.reduceAdd, Nat.reduceLeDiff, reduceIte, reduceCtorEq]
        refine ⟨fun hemp => ?_, fun hemp => ?_⟩
        · obtain ⟨D', hD', g1, g2, g3, g4⟩ : ∃ D', ((D.set (F.length * 3) (.int .i64 r.at_)).set (F.length * 3 + 1) (.int .i64 r.long)).set (F.length * 3 + 1 + 1) (.str r.text) = D' ∧ D'.length = L.length * 3 ∧
              D'.take ((F ++ [r]).length * 3) = rnc (F ++ [r]) ∧ D'.drop ((j + 1) * 3) = rnc (L.drop (j + 1)) ∧ PuL D' := by
            refine ⟨_, rfl, ?_, ?_, ?_, ?_⟩
            · simp only [List.length_set, hDl]
            · rw [set3 (by omega), hDt, rnc_snoc, show ∀ a b c Z, rnc F ++ a :: b :: c :: Z = (rnc F ++ [a, b, c]) ++ Z from fun a b c Z => by simp, List.take_left' (by simp [rnc_len]; omega)]
            · rw [List.drop_set, if_pos (by omega), List.drop_set, if_pos (by omega), List.drop_set, if_pos (by omega), hd1]
            · exact pul_set (pul_set (pul_set hDp _ (by simp only [low])) _ (by simp only [low])) _ (by simp only [low])
          rw [hD']
          refine ⟨(j + 1, F ++ [r], D'), ⟨by simp only; omega, by simp only [List.length_append, List.length_singleton]; omega, ?_, g1, g2, g3, g4⟩, by simp only; omega, ?_⟩
          · rw [← hl, List.filter_cons, if_pos (by simp [hemp])]
            simp
          · refine To.goK [0] [(0, some (.cells D' (some 98)))] rfl rfl (.refl s) (by decide) (by decide) (by simp) ?_ ?_
            · simp +contextual only [go_sem, hlen1, hlv, List.length_append, cdD, cdN, gdT, gdF, gdD, Nat.reduceLT, Nat.reduceEqDiff, Nat.reduceAdd, Nat.reduceLeDiff, reduceIte, reduceCtorEq]
            · simp only [go_sem, pul_ren g4, cdD, cdN, gdT, gdF, gdD, Nat.reduceLT, Nat.reduceEqDiff, Nat.reduceAdd, Nat.reduceLeDiff, reduceIte, reduceCtorEq]
        · refine ⟨(j + 1, F, D), ⟨by simp only; omega, by simp only; omega, ?_, hDl, hDt, hd1, hDp⟩, by simp only; omega, ?_⟩
          · rw [← hl, List.filter_cons, if_neg (by simp [hemp])]
          · refine To.goK [0] [(0, some (.cells D (some 98)))] rfl rfl (.refl s) (by decide) (by decide) (by simp) ?_ ?_
            · simp +contextual only [go_sem, hlen1, hlv, cdD, cdN, gdT, gdF, gdD, Nat.reduceLT, Nat.reduceEqDiff, Nat.reduceAdd, Nat.reduceLeDiff, reduceIte, reduceCtorEq]
            · simp only [go_sem, pul_ren hDp, cdD, cdN, gdT, gdF, gdD, Nat.reduceLT, Nat.reduceEqDiff, Nat.reduceAdd, Nat.reduceLeDiff, reduceIte, reduceCtorEq]
      · have hj2 : j = L.length := by omega
        rw [hj2, List.drop_length, List.filter_nil, List.append_nil] at hl
        simp +contextual only [go_sem, hlen1, hlv, sl108_lo (show F.length ≤ L.length by omega), cdD, cdN, gdT, gdF, gdD, Nat.reduceLT, Nat.reduceEqDiff, Nat.reduceAdd, Nat.reduceLeDiff, reduceIte, reduceCtorEq]
        refine lmem_eq (clear108 (l := [(0, some (.cells D (some 98)))]) rfl (by omega) (by omega)) ?_
        simp +contextual only [go_sem, hlen1, hlv, sl108_hi (show F.length ≤ L.length by omega), cdD, cdN, gdT, gdF, gdD, Nat.reduceLT, Nat.reduceEqDiff, Nat.reduceAdd, Nat.reduceLeDiff, reduceIte, reduceCtorEq]
        refine lexit_now ⟨_, ⟨splice_pul _ _ _ hDp ?_, (splice D (F.length * 3) (List.replicate (L.length - F.length) [AV.int IntKind.i64 0, AV.int IntKind.i64 0, AV.str []]).flatten).drop (F.length * 3), ?_⟩, by rw [← hl], rfl⟩
        · unfold PuL
          rw [lowL_iff]
          intro x hx
          obtain ⟨y, hy, hx⟩ := List.mem_flatten.1 hx
          rw [(List.mem_replicate.1 hy).2] at hx
          simp only [List.mem_cons, List.not_mem_nil, or_false] at hx
          rcases hx with rfl | rfl | rfl <;> simp only [low]
        · rw [List.drop_zero, ← hl, ← hDt, ← splice_take (List.replicate (L.length - F.length) [AV.int IntKind.i64 0, AV.int IntKind.i64 0, AV.str []]).flatten, List.take_append_drop]
end Go.S1N
end
section
namespace Go.S1N
open Go Go.Am Go.Proofs Go.S1
set_option maxRecDepth 100000
attribute [local irreducible] lopsB lvb lstepB lfunG lcondB lguardB ldrawB ldrunB ldstepB ldguardB lmem lval ldmem ldval ldfun lexit ldloadB ldlenB lpostB athen ablock
theorem ix89z {b o m : Nat} : aindexAddr tab 89 (.rs 3 b o (m + 1)) (.int .i64 0) = some (.ptr b o) := by
  rw [ix89r (by omega) (by omega)]; rfl
theorem sl108_1 {b o m : Nat} : aslice tab 89 (.rs 3 b o (m + 1)) (some (.int .i64 1)) none none = some (.rs 3 b (o + 3) m) := by
  simp [aslice, ty89, Tab.size, ty98, abounds, aidx, show (1 : Int) ≤ (m : Int) + 1 by omega]
def tot : List Rn → Nat
  | [] => 0
  | r :: R => rsize r + tot R
structure RB (r : Rn) : Prop where
  ok : okR r
  pos : 0 < rsize r
  lo : 0 ≤ r.at_
  hi : r.at_ + r.long ≤ 1000000000
theorem takeO_cons {n : Nat} {r : Rn} {R : List Rn} (h0 : n ≠ 0) (h : rsize r ≤ n) : takeO n (r :: R) = cutR r (rsize r) :: takeO (n - rsize r) R := by rw [takeO, if_neg h0, if_neg (by omega)]
theorem restO_cons {n : Nat} {r : Rn} {R : List Rn} (h0 : n ≠ 0) (h : rsize r ≤ n) : restO n (r :: R) = restO (n - rsize r) R := by rw [restO, if_neg h0, if_neg (by omega)]
theorem takeO_lt {n : Nat} {r : Rn} {R : List Rn} (h0 : n ≠ 0) (h : n < rsize r) : takeO n (r :: R) = [cutR r n] := by rw [takeO, if_neg h0, if_pos h]
theorem restO_lt {n : Nat} {r : Rn} {R : List Rn} (h0 : n ≠ 0) (h : n < rsize r) : restO n (r :: R) = restR r n :: R := by rw [restO, if_neg h0, if_pos h]
theorem takeO_zero (R : List Rn) : takeO 0 R = [] := by cases R <;> simp [takeO]
theorem restO_zero (R : List Rn) : restO 0 R = R := by cases R <;> simp [restO]
theorem RB.rest {r : Rn} (h : RB r) {m : Nat} (hm : m < rsize r) : RB (restR r m) := by
  obtain ⟨⟨a1, a2, a3⟩, a4, a5, a6⟩ := h
  refine ⟨(rfl1_rest ⟨a1, a2, a3⟩ hm).2, ?_, ?_, ?_⟩
  · unfold restR
    split
    · rename_i ht
      unfold rsize at hm ⊢
      rcases a3 with a3 | a3
      · exact absurd a3 ht
      · simp only [List.length_drop]; omega
    · rename_i ht
      have ht : r.text = [] := by simpa using ht
      unfold rsize at hm ⊢
      rw [ht] at hm
      simp at hm ⊢
      omega
  · unfold restR; split <;> simp only <;> omega
  · unfold restR; split <;> simp only <;> omega
theorem RB.restL {r : Rn} {R : List Rn} (h : ∀ x ∈ r :: R, RB x) {m : Nat} (hm : m < rsize r) {r' : Rn} (hr : restR r m = r') : ∀ x ∈ r' :: R, RB x := by
  intro x hx
  rcases List.mem_cons.1 hx with rfl | hx
  · rw [← hr]; exact (h r (List.mem_cons_self ..)).rest hm
  · exact h x (List.mem_cons_of_mem _ hx)
theorem drop_ok {s : AHeap} (n : Nat) (C : List AV) (off : Nat) (R O : List Rn) (o3 : Option AObj) (h3 : ∀ f, o3.map (renO f) = o3) (hC : LB C off R) (hR : ∀ r ∈ R, RB r) (hn : n ≤ tot R) (hn2 : n ≤ 1000000000) :
    ACall Tryz.prog 70 [.ptr (nm s.nx 0) 0, .int .i64 n, .bool false] (loc s 4 [(0, some (.cells [.rs 3 (nm s.nx 1) off R.length, gsv 3 (nm s.nx 2) O.length] (some 135))), (1, some (.cells C (some 98))), (2, gso 98 (rnc O)), (3, o3)])
      fun v t => v = .tuple [] ∧ ∃ C' off', LB C' off' (restO n R) ∧ t = loc s 4 [(0, some (.cells [.rs 3 (nm s.nx 1) off' (restO n R).length, gsv 3 (nm s.nx 2) O.length] (some 135))), (1, some (.cells C' (some 98))), (2, gso 98 (rnc O)), (3, o3)] := by
  refine gob70 (by simp) ?_
  intro tm hlen harg
  rw [loc_flat (by intro j hj; simp only [lget]; rw [if_neg (by omega), if_neg (by omega), if_neg (by omega), if_neg (by omega)])]
  simp +contextual only [go_sem, L70, hlen, harg, cdD, cdN, gdT, gdF, gdD, Nat.reduceLT, Nat.reduceEqDiff, Nat.reduceAdd, Nat.reduceLeDiff, reduceIte, reduceCtorEq]
  refine ⟨Nat × List AV × Nat × List Rn, fun a => [(0, .ptr (nm s.nx 0) 0), (1, .int .i64 a.1), (2, .bool false)],
    fun a => loc s 4 [(0, some (.cells [.rs 3 (nm s.nx 1) a.2.2.1 a.2.2.2.length, gsv 3 (nm s.nx 2) O.length] (some 135))), (1, some (.cells a.2.1 (some 98))), (2, gso 98 (rnc O)), (3, o3)],
    fun a => a.1 ≤ n ∧ a.1 ≤ tot a.2.2.2 ∧ LB a.2.1 a.2.2.1 a.2.2.2 ∧ (∀ r ∈ a.2.2.2, RB r) ∧ restO a.1 a.2.2.2 = restO n R, fun a => a.1, (n, C, off, R), ⟨Nat.le_refl _, hn, hC, hR, rfl⟩, ?_, ?_⟩
  · refine To.goK [0, 1, 2, 3] _ rfl rfl (.refl s) (by decide) (by decide) (by simp) ?_ ?_
    · simp +contextual only [go_sem, hlen, harg, cdD, cdN, gdT, gdF, gdD, Nat.reduceLT, Nat.reduceEqDiff, Nat.reduceAdd, Nat.reduceLeDiff, reduceIte, reduceCtorEq]
    · simp only [go_sem, map_gso_pu (rnc_pul _), pul_ren hC.pu, h3, cdD, cdN, gdT, gdF, gdD, Nat.reduceLT, Nat.reduceEqDiff, Nat.reduceAdd, Nat.reduceLeDiff, reduceIte, reduceCtorEq]
  · rintro ⟨m, D, q, Q⟩ tm1 ⟨hm, hmt, hD, hQ, hE⟩ hlen1 hlv
    simp only [go_sem, hlen, cdD, cdN, gdT, gdF, gdD, Nat.reduceLT, Nat.reduceEqDiff, Nat.reduceAdd, Nat.reduceLeDiff, reduceIte, reduceCtorEq] at hlen1 hlv hm hmt hD hQ hE
    simp +contextual only [go_sem, hlen, hlen1, hlv, cdD, cdN, gdT, gdF, gdD, Nat.reduceLT, Nat.reduceEqDiff, Nat.reduceAdd, Nat.reduceLeDiff, reduceIte, reduceCtorEq]
    refine ⟨fun hpos => ?_, fun hge => ?_⟩
    · obtain ⟨r, Q', rfl⟩ : ∃ r Q', Q = r :: Q' := by
        cases Q with
        | nil => simp only [tot] at hmt; omega
        | cons r Q' => exact ⟨r, Q', rfl⟩
      obtain ⟨T, hT⟩ := hD.head
      have hle := hD.le
      obtain ⟨⟨a1, a2, a3⟩, a4, a5, a6⟩ := hQ r (List.mem_cons_self ..)
      have hQ' := fun x hx => hQ x (List.mem_cons_of_mem r hx)
      have hmx : (if (r.text.length : Int) > r.long then (r.text.length : Int) else r.long) = (rsize r : Nat) := by unfold rsize; split <;> omega
      have hmn : (if ((rsize r : Nat) : Int) < (m : Int) then ((rsize r : Nat) : Int) else (m : Int)) = ((min m (rsize r) : Nat) : Int) := by split <;> omega
      have hw : IntKind.i64.wrap ((m : Int) - ((min m (rsize r) : Nat) : Int)) = ((m - min m (rsize r) : Nat) : Int) := by rw [wrap_id (by omega)]; omega
      simp +contextual only [go_sem, hlen1, hlv, ix89z, sl108_1, hT, hmx, hmn, hw, cdD, cdN, gdT, gdF, gdD, Nat.reduceLT, Nat.reduceEqDiff, Nat.reduceAdd, Nat.reduceLeDiff, reduceIte, reduceCtorEq]
      refine ⟨fun h => ?_, fun h => ⟨fun h2 => ?_, fun h2 => ?_⟩⟩
      · have hms : rsize r ≤ m := by omega
        have hw1 : IntKind.i64.wrap ((m : Int) - ((rsize r : Nat) : Int)) = ((m - rsize r : Nat) : Int) := by rw [wrap_id (by omega)]; omega
        refine ⟨(m - rsize r, D, q + 3, Q'), ⟨by simp only; omega, by simp only [tot] at hmt ⊢; omega, hD.tail, hQ', ?_⟩, by simp only; omega, ?_⟩
        · rw [← hE, restO_cons (by omega) hms]
        · refine To.goK [0, 1, 2, 3] _ rfl rfl (.refl s) (by decide) (by decide) (by simp) ?_ ?_
          · simp +contextual only [go_sem, hlen1, hlv, Nat.min_eq_right hms, hw1, cdD, cdN, gdT, gdF, gdD, Nat.reduceLT, Nat.reduceEqDiff, Nat.reduceAdd, Nat.reduceLeDiff, reduceIte, reduceCtorEq]
          · simp only [go_sem, map_gso_pu (rnc_pul _), pul_ren hD.pu, h3, cdD, cdN, gdT, gdF, gdD, Nat.reduceLT, Nat.reduceEqDiff, Nat.reduceAdd, Nat.reduceLeDiff, reduceIte, reduceCtorEq]
      · have hmr : m < rsize r := by omega
        have hmt2 : m ≤ r.text.length := by unfold rsize at hmr; rcases a3 with a3 | a3; exact absurd a3 h2; omega
        have hmin : min m (rsize r) = m := Nat.min_eq_left (Nat.le_of_lt hmr)
        have hsl : aslice tab 9 (.str r.text) (some (.int .i64 (m : Int))) none none = some (.str (r.text.drop m)) := by rw [slice9a (by omega) (by omega)]; rfl
        have hw0 : IntKind.i64.wrap ((m : Int) - (m : Int)) = ((0 : Nat) : Int) := by rw [wrap_id (by omega)]; omega
        refine ldrawB_go [] [] 8 (by decide) ?_
        simp +contextual only [go_sem, hlen1, hlv, hmin, hsl, cdD, cdN, gdT, gdF, gdD, Nat.reduceLT, Nat.reduceEqDiff, Nat.reduceAdd, Nat.reduceLeDiff, reduceIte, reduceCtorEq]
        refine ⟨by kernel_rfl, ?_⟩
        simp +contextual only [go_sem, hlen1, hlv, ix89z, hw0, show q + 2 + 1 ≤ D.length by omega, cdD, cdN, gdT, gdF, gdD, Nat.reduceLT, Nat.reduceEqDiff, Nat.reduceAdd, Nat.reduceLeDiff, reduceIte, reduceCtorEq]
        have hD2 := hD.text (r.text.drop m)
        have hr2 : restR r m = ⟨r.at_, r.long, r.text.drop m⟩ := by rw [restR, if_pos h2]
        rw [restO_lt (by omega) hmr, hr2] at hE
        refine ⟨(0, D.set (q + 2) (.str (r.text.drop m)), q, ⟨r.at_, r.long, r.text.drop m⟩ :: Q'), ⟨by simp only; omega, by simp only; omega, hD2, ?_, by rw [restO_zero]; exact hE⟩, by simp only; omega, ?_⟩
        · exact RB.restL hQ hmr hr2
        · refine To.goK [0, 1, 2, 3] _ rfl rfl (.refl s) (by decide) (by decide) (by simp) ?_ ?_
          · simp +contextual only [go_sem, hlen1, hlv, cdD, cdN, gdT, gdF, gdD, Nat.reduceLT, Nat.reduceEqDiff, Nat.reduceAdd, Nat.reduceLeDiff, reduceIte, reduceCtorEq]
          · simp only [go_sem, map_gso_pu (rnc_pul _), pul_ren hD2.pu, h3, cdD, cdN, gdT, gdF, gdD, Nat.reduceLT, Nat.reduceEqDiff, Nat.reduceAdd, Nat.reduceLeDiff, reduceIte, reduceCtorEq]
      · have hmr : m < rsize r := by omega
        have hlong : (rsize r : Int) = r.long := by unfold rsize; rw [h2]; simp; omega
        have hmin : min m (rsize r) = m := Nat.min_eq_left (Nat.le_of_lt hmr)
        have hw0 : IntKind.i64.wrap ((m : Int) - (m : Int)) = ((0 : Nat) : Int) := by rw [wrap_id (by omega)]; omega
        have hw1 : IntKind.i64.wrap (r.at_ + (m : Int)) = r.at_ + m := wrap_id (by omega)
        have hw2 : IntKind.i64.wrap (r.long - (m : Int)) = r.long - m := wrap_id (by omega)
        refine ldrawB_go [] [] 13 (by decide) ?_
        simp +contextual only [go_sem, hlen1, hlv, hmin, hw1, hw2, cdD, cdN, gdT, gdF, gdD, Nat.reduceLT, Nat.reduceEqDiff, Nat.reduceAdd, Nat.reduceLeDiff, reduceIte, reduceCtorEq]
        refine ldfun_pure _ (kept_ok _ _) ?_
        simp +contextual only [go_sem, hlen1, hlv, Rn.enc, cdD, cdN, gdT, gdF, gdD, Nat.reduceLT, Nat.reduceEqDiff, Nat.reduceAdd, Nat.reduceLeDiff, reduceIte, reduceCtorEq]
        refine ⟨by kernel_rfl, ?_⟩
        simp +contextual only [go_sem, hlen1, hlv, ix89z, hw0, hle, cdD, cdN, gdT, gdF, gdD, Nat.reduceLT, Nat.reduceEqDiff, Nat.reduceAdd, Nat.reduceLeDiff, reduceIte, reduceCtorEq]
        have hD2 := hD.set (r.at_ + m) (r.long - m) []
        have hr2 : restR r m = ⟨r.at_ + m, r.long - m, []⟩ := by rw [restR, if_neg (by simpa using h2)]
        rw [restO_lt (by omega) hmr, hr2] at hE
        refine ⟨(0, _, q, ⟨r.at_ + m, r.long - m, []⟩ :: Q'), ⟨by simp only; omega, by simp only; omega, hD2, ?_, by rw [restO_zero]; exact hE⟩, by simp only; omega, ?_⟩
        · exact RB.restL hQ hmr hr2
        · refine To.goK [0, 1, 2, 3] _ rfl rfl (.refl s) (by decide) (by decide) (by simp) ?_ ?_
          · simp +contextual only [go_sem, hlen1, hlv, cdD, cdN, gdT, gdF, gdD, Nat.reduceLT, Nat.reduceEqDiff, Nat.reduceAdd, Nat.reduceLeDiff, reduceIte, reduceCtorEq]
          · simp only [go_sem, map_gso_pu (rnc_pul _), pul_ren hD2.pu, h3, cdD, cdN, gdT, gdF, gdD, Nat.reduceLT, Nat.reduceEqDiff, Nat.reduceAdd, Nat.reduceLeDiff, reduceIte, reduceCtorEq]
    · have hm0 : m = 0 := by omega
      subst hm0
      rw [restO_zero] at hE
      subst hE
      exact lexit_now ⟨rfl, D, q, hD, rfl⟩
end Go.S1N
end
section
namespace Go.S1N
open Go Go.Am Go.Proofs Go.S1
set_option maxRecDepth 100000
attribute [local irreducible] lopsB lvb lstepB lfunG lcondB lguardB ldrawB ldrunB ldstepB ldguardB lmem lval ldmem ldval ldfun lexit ldloadB ldlenB lpostB athen ablock
theorem slice9b {x : List UInt8} {k : Nat} (h : k ≤ x.length) : aslice tab 9 (.str x) none (some (.int .i64 k)) none = some (.str (x.take k)) := by
  have hi : (0 : Int) ≤ (k : Int) ∧ (k : Int) ≤ x.length := by omega
  simp [aslice, ty9, abounds, aidx, h]
set_option maxHeartbeats 1000000 in
theorem keep_ok {s : AHeap} (n : Nat) (C : List AV) (off : Nat) (R O : List Rn) (o3 : Option AObj) (h3 : ∀ f, o3.map (renO f) = o3) (hC : LB C off R) (hR : ∀ r ∈ R, RB r) (hn : n ≤ tot R) (hO : O.length + n ≤ 1000000000) :
    ACall Tryz.prog 70 [.ptr (nm s.nx 0) 0, .int .i64 n, .bool true] (loc s 4 [(0, some (.cells [.rs 3 (nm s.nx 1) off R.length, gsv 3 (nm s.nx 2) O.length] (some 135))), (1, some (.cells C (some 98))), (2, gso 98 (rnc O)), (3, o3)])
      fun v t => v = .tuple [] ∧ ∃ C' off' j, (j = 2 ∨ j = 4) ∧ LB C' off' (restO n R) ∧
        t = loc s 5 [(0, some (.cells [.rs 3 (nm s.nx 1) off' (restO n R).length, gsv 3 (nm s.nx j) (O ++ takeO n R).length] (some 135))), (1, some (.cells C' (some 98))), (3, o3), (j, gso 98 (rnc (O ++ takeO n R)))] := by
  refine gob70 (by simp) ?_
  intro tm hlen harg
  rw [loc_flat (by intro j hj; simp only [lget]; rw [if_neg (by omega), if_neg (by omega), if_neg (by omega), if_neg (by omega)])]
  simp +contextual only [go_sem, L70, hlen, harg, cdD, cdN, gdT, gdF, gdD, Nat.reduceLT, Nat.reduceEqDiff, Nat.reduceAdd, Nat.reduceLeDiff, reduceIte, reduceCtorEq]
  refine ⟨Nat × List AV × Nat × List Rn × List Rn × Nat, fun a => [(0, .ptr (nm s.nx 0) 0), (1, .int .i64 a.1), (2, .bool true)],
    fun a => loc s 5 [(0, some (.cells [.rs 3 (nm s.nx 1) a.2.2.1 a.2.2.2.1.length, gsv 3 (nm s.nx a.2.2.2.2.2) a.2.2.2.2.1.length] (some 135))), (1, some (.cells a.2.1 (some 98))), (3, o3), (a.2.2.2.2.2, gso 98 (rnc a.2.2.2.2.1))],
    fun a => (a.2.2.2.2.2 = 2 ∨ a.2.2.2.2.2 = 4) ∧ a.1 ≤ n ∧ a.1 ≤ tot a.2.2.2.1 ∧ LB a.2.1 a.2.2.1 a.2.2.2.1 ∧ (∀ r ∈ a.2.2.2.1, RB r) ∧ restO a.1 a.2.2.2.1 = restO n R ∧ a.2.2.2.2.1 ++ takeO a.1 a.2.2.2.1 = O ++ takeO n R ∧ a.2.2.2.2.1.length + a.1 ≤ 1000000000, fun a => a.1, (n, C, off, R, O, 2),
    ⟨.inl rfl, Nat.le_refl _, hn, hC, hR, rfl, rfl, hO⟩, ?_, ?_⟩
  · refine To.goK [0, 1, 2, 3, 9] _ rfl rfl (.refl s) (by decide) (by decide) (by simp) ?_ ?_
    · simp +contextual only [go_sem, hlen, harg, cdD, cdN, gdT, gdF, gdD, Nat.reduceLT, Nat.reduceEqDiff, Nat.reduceAdd, Nat.reduceLeDiff, reduceIte, reduceCtorEq]
    · simp only [go_sem, map_gso_pu (rnc_pul _), pul_ren hC.pu, ren_gsv, h3, cdD, cdN, gdT, gdF, gdD, Nat.reduceLT, Nat.reduceEqDiff, Nat.reduceAdd, Nat.reduceLeDiff, reduceIte, reduceCtorEq]
  · rintro ⟨m, D, q, Q, P, j⟩ tm1 ⟨hj, hm, hmt, hD, hQ, hE, hT, hP⟩ hlen1 hlv
    simp only at hj
    rcases hj with rfl | rfl
    all_goals simp only [go_sem, hlen, cdD, cdN, gdT, gdF, gdD, Nat.reduceLT, Nat.reduceEqDiff, Nat.reduceAdd, Nat.reduceLeDiff, reduceIte, reduceCtorEq] at hlen1 hlv hm hmt hD hQ hE hT hP
    all_goals simp +contextual only [go_sem, hlen, hlen1, hlv, cdD, cdN, gdT, gdF, gdD, Nat.reduceLT, Nat.reduceEqDiff, Nat.reduceAdd, Nat.reduceLeDiff, reduceIte, reduceCtorEq]
    all_goals
      refine ⟨fun hpos => ?_, fun hge => ?_⟩
      · obtain ⟨r, Q', rfl⟩ : ∃ r Q', Q = r :: Q' := by
          cases Q with
          | nil => simp only [tot] at hmt; omega
          | cons r Q' => exact ⟨r, Q', rfl⟩
        obtain ⟨T, hdT⟩ := hD.head
        have hle := hD.le
        obtain ⟨⟨a1, a2, a3⟩, a4, a5, a6⟩ := hQ r (List.mem_cons_self ..)
        have hQ' := fun x hx => hQ x (List.mem_cons_of_mem r hx)
        have hmx : (if (r.text.length : Int) > r.long then (r.text.length : Int) else r.long) = (rsize r : Nat) := by unfold rsize; split <;> omega
        have hmn : (if ((rsize r : Nat) : Int) < (m : Int) then ((rsize r : Nat) : Int) else (m : Int)) = ((min m (rsize r) : Nat) : Int) := by split <;> omega
        have hw : IntKind.i64.wrap ((m : Int) - ((min m (rsize r) : Nat) : Int)) = ((m - min m (rsize r) : Nat) : Int) := by rw [wrap_id (by omega)]; omega
        by_cases ht : r.text = []
        · simp +contextual only [go_sem, hlen1, hlv, ix89z, sl108_1, hdT, hmx, hmn, hw, ht, cdD, cdN, gdT, gdF, gdD, Nat.reduceLT, Nat.reduceEqDiff, Nat.reduceAdd, Nat.reduceLeDiff, reduceIte, reduceCtorEq]
          rw [ht, List.length_nil] at hmx
          simp +contextual only [go_sem, hlen1, hlv, ix89z, sl108_1, hdT, hmx, hmn, hw, ht, cdD, cdN, gdT, gdF, gdD, Nat.reduceLT, Nat.reduceEqDiff, Nat.reduceAdd, Nat.reduceLeDiff, reduceIte, reduceCtorEq]
          refine ldrawB_go [] [(4, 1)] 11 (by decide) ?_
          simp +contextual only [go_sem, hlen1, hlv, cdD, cdN, gdT, gdF, gdD, Nat.reduceLT, Nat.reduceEqDiff, Nat.reduceAdd, Nat.reduceLeDiff, reduceIte, reduceCtorEq]
          refine ldfun_pure _ (kept_ok _ _) ?_
          simp +contextual only [go_sem, hlen1, hlv, Rn.enc, cdD, cdN, gdT, gdF, gdD, Nat.reduceLT, Nat.reduceEqDiff, Nat.reduceAdd, Nat.reduceLeDiff, reduceIte, reduceCtorEq]
          refine ldmem_eq (app89 (acellsOf_rs (by simp only [go_sem, cdD, cdN, gdT, gdF, gdD, Nat.reduceLT, Nat.reduceEqDiff, Nat.reduceAdd, Nat.reduceLeDiff, reduceIte, reduceCtorEq]; rfl) (by rfl) rfl) (by decide) (by simp only [go_sem, cdD, cdN, gdT, gdF, gdD, Nat.reduceLT, Nat.reduceEqDiff, Nat.reduceAdd, Nat.reduceLeDiff, reduceIte, reduceCtorEq]) (by simp only [go_sem, cdD, cdN, gdT, gdF, gdD, Nat.reduceLT, Nat.reduceEqDiff, Nat.reduceAdd, Nat.reduceLeDiff, reduceIte, reduceCtorEq]) (rnc_len P) (by omega) rfl) ?_
          simp +contextual only [go_sem, hlen1, hlv, ht, ix89z, sl108_1, hw, cdD, cdN, gdT, gdF, gdD, Nat.reduceLT, Nat.reduceEqDiff, Nat.reduceAdd, Nat.reduceLeDiff, reduceIte, reduceCtorEq]
          refine ⟨by kernel_rfl, fun h => ?_, fun h => ?_⟩
          · have hms : rsize r ≤ m := by omega
            have hmin : min m (rsize r) = rsize r := Nat.min_eq_right hms
            have hw1 : IntKind.i64.wrap ((m : Int) - ((rsize r : Nat) : Int)) = ((m - rsize r : Nat) : Int) := by rw [wrap_id (by omega)]; omega
            have hcut : cutR r (rsize r) = ⟨r.at_, (rsize r : Nat), []⟩ := by rw [cutR, if_neg (by simpa using ht)]
            refine ⟨(m - rsize r, D, q + 3, Q', P ++ [⟨r.at_, (rsize r : Nat), []⟩], 4), ⟨.inr rfl, by simp only; omega, by simp only [tot] at hmt ⊢; omega, hD.tail, hQ', ?_, ?_, by simp only [List.length_append, List.length_singleton]; omega⟩, by simp only; omega, ?_⟩
            · rw [← hE, restO_cons (by omega) hms]
            · rw [← hT, takeO_cons (by omega) hms, hcut, List.append_assoc]; rfl
            · refine To.goK [0, 1, 2, 3, 18] _ rfl rfl (.refl s) (by decide) (by decide) (by simp) ?_ ?_
              · simp +contextual only [go_sem, hlen1, hlv, hmin, hw1, cdD, cdN, gdT, gdF, gdD, Nat.reduceLT, Nat.reduceEqDiff, Nat.reduceAdd, Nat.reduceLeDiff, reduceIte, reduceCtorEq]
              · simp only [go_sem, map_gso_pu (rnc_pul _), pul_ren hD.pu, h3, hmin, ren_gsv, cdD, cdN, gdT, gdF, gdD, Nat.reduceLT, Nat.reduceEqDiff, Nat.reduceAdd, Nat.reduceLeDiff, reduceIte, reduceCtorEq]
                rw [List.length_append, List.length_singleton, gsv_pos (Nat.succ_ne_zero _), gso_pos (by rw [rnc_snoc]; simp), rnc_snoc]
                exact ⟨rfl, rfl⟩
          · have hmr : m < rsize r := by omega
            have hlong : (rsize r : Int) = r.long := by unfold rsize; rw [ht]; simp; omega
            have hmin : min m (rsize r) = m := Nat.min_eq_left (Nat.le_of_lt hmr)
            have hw0 : IntKind.i64.wrap ((m : Int) - (m : Int)) = ((0 : Nat) : Int) := by rw [wrap_id (by omega)]; omega
            have hw1 : IntKind.i64.wrap (r.at_ + (m : Int)) = r.at_ + m := wrap_id (by omega)
            have hw2 : IntKind.i64.wrap (r.long - (m : Int)) = r.long - m := wrap_id (by omega)
            have hcut : cutR r m = ⟨r.at_, m, []⟩ := by rw [cutR, if_neg (by simpa using ht)]
            refine ldrawB_go [] [] 13 (by decide) ?_
            simp +contextual only [go_sem, hlen1, hlv, hmin, hw1, hw2, cdD, cdN, gdT, gdF, gdD, Nat.reduceLT, Nat.reduceEqDiff, Nat.reduceAdd, Nat.reduceLeDiff, reduceIte, reduceCtorEq]
            refine ldfun_pure _ (kept_ok _ _) ?_
            simp +contextual only [go_sem, hlen1, hlv, Rn.enc, cdD, cdN, gdT, gdF, gdD, Nat.reduceLT, Nat.reduceEqDiff, Nat.reduceAdd, Nat.reduceLeDiff, reduceIte, reduceCtorEq]
            refine ⟨by kernel_rfl, ?_⟩
            simp +contextual only [go_sem, hlen1, hlv, ix89z, hw0, hle, cdD, cdN, gdT, gdF, gdD, Nat.reduceLT, Nat.reduceEqDiff, Nat.reduceAdd, Nat.reduceLeDiff, reduceIte, reduceCtorEq]
            have hD2 := hD.set (r.at_ + m) (r.long - m) []
            have hr2 : restR r m = ⟨r.at_ + m, r.long - m, []⟩ := by rw [restR, if_neg (by simpa using ht)]
            rw [restO_lt (by omega) hmr, hr2] at hE
            rw [takeO_lt (by omega) hmr, hcut] at hT
            refine ⟨(0, _, q, ⟨r.at_ + m, r.long - m, []⟩ :: Q', P ++ [⟨r.at_, m, []⟩], 4), ⟨.inr rfl, by simp only; omega, by simp only; omega, hD2, RB.restL hQ hmr hr2, by rw [restO_zero]; exact hE, by rw [takeO_zero, List.append_nil]; exact hT, by simp only [List.length_append, List.length_singleton]; omega⟩, by simp only; omega, ?_⟩
            · refine To.goK [0, 1, 2, 3, 18] _ rfl rfl (.refl s) (by decide) (by decide) (by simp) ?_ ?_
              · simp +contextual only [go_sem, hlen1, hlv, cdD, cdN, gdT, gdF, gdD, Nat.reduceLT, Nat.reduceEqDiff, Nat.reduceAdd, Nat.reduceLeDiff, reduceIte, reduceCtorEq]
              · simp only [go_sem, map_gso_pu (rnc_pul _), pul_ren hD2.pu, h3, ren_gsv, cdD, cdN, gdT, gdF, gdD, Nat.reduceLT, Nat.reduceEqDiff, Nat.reduceAdd, Nat.reduceLeDiff, reduceIte, reduceCtorEq]
                rw [List.length_append, List.length_singleton, gsv_pos (Nat.succ_ne_zero _), gso_pos (by rw [rnc_snoc]; simp), rnc_snoc]
                exact ⟨rfl, rfl⟩
        · have hkt : min m (rsize r) ≤ r.text.length := by
            have : rsize r = r.text.length := by unfold rsize; rcases a3 with a3 | a3; exact absurd a3 ht; omega
            omega
          have hsl := slice9b hkt
          simp +contextual only [go_sem, hlen1, hlv, ix89z, sl108_1, hdT, hmx, hmn, hw, ht, cdD, cdN, gdT, gdF, gdD, Nat.reduceLT, Nat.reduceEqDiff, Nat.reduceAdd, Nat.reduceLeDiff, reduceIte, reduceCtorEq]
          refine ldrawB_go [] [(4, 1)] 12 (by decide) ?_
          simp +contextual only [go_sem, hlen1, hlv, hsl, cdD, cdN, gdT, gdF, gdD, Nat.reduceLT, Nat.reduceEqDiff, Nat.reduceAdd, Nat.reduceLeDiff, reduceIte, reduceCtorEq]
          refine ldfun_pure _ (fresh_ok _) ?_
          simp +contextual only [go_sem, hlen1, hlv, Rn.enc, cdD, cdN, gdT, gdF, gdD, Nat.reduceLT, Nat.reduceEqDiff, Nat.reduceAdd, Nat.reduceLeDiff, reduceIte, reduceCtorEq]
          refine ldmem_eq (app89 (acellsOf_rs (by simp only [go_sem, cdD, cdN, gdT, gdF, gdD, Nat.reduceLT, Nat.reduceEqDiff, Nat.reduceAdd, Nat.reduceLeDiff, reduceIte, reduceCtorEq]; rfl) (by rfl) rfl) (by decide) (by simp only [go_sem, cdD, cdN, gdT, gdF, gdD, Nat.reduceLT, Nat.reduceEqDiff, Nat.reduceAdd, Nat.reduceLeDiff, reduceIte, reduceCtorEq]) (by simp only [go_sem, cdD, cdN, gdT, gdF, gdD, Nat.reduceLT, Nat.reduceEqDiff, Nat.reduceAdd, Nat.reduceLeDiff, reduceIte, reduceCtorEq]) (rnc_len P) (by omega) rfl) ?_
          simp +contextual only [go_sem, hlen1, hlv, ht, ix89z, sl108_1, hw, cdD, cdN, gdT, gdF, gdD, Nat.reduceLT, Nat.reduceEqDiff, Nat.reduceAdd, Nat.reduceLeDiff, reduceIte, reduceCtorEq]
          refine ⟨by kernel_rfl, fun h => ?_, fun h => ?_⟩
          · have hms : rsize r ≤ m := by omega
            have hmin : min m (rsize r) = rsize r := Nat.min_eq_right hms
            have hw1 : IntKind.i64.wrap ((m : Int) - ((rsize r : Nat) : Int)) = ((m - rsize r : Nat) : Int) := by rw [wrap_id (by omega)]; omega
            have hcut : cutR r (rsize r) = ⟨0, 0, r.text.take (rsize r)⟩ := by rw [cutR, if_pos ht]
            refine ⟨(m - rsize r, D, q + 3, Q', P ++ [⟨0, 0, r.text.take (rsize r)⟩], 4), ⟨.inr rfl, by simp only; omega, by simp only [tot] at hmt ⊢; omega, hD.tail, hQ', ?_, ?_, by simp only [List.length_append, List.length_singleton]; omega⟩, by simp only; omega, ?_⟩
            · rw [← hE, restO_cons (by omega) hms]
            · rw [← hT, takeO_cons (by omega) hms, hcut, List.append_assoc]; rfl
            · refine To.goK [0, 1, 2, 3, 19] _ rfl rfl (.refl s) (by decide) (by decide) (by simp) ?_ ?_
              · simp +contextual only [go_sem, hlen1, hlv, hmin, hw1, cdD, cdN, gdT, gdF, gdD, Nat.reduceLT, Nat.reduceEqDiff, Nat.reduceAdd, Nat.reduceLeDiff, reduceIte, reduceCtorEq]
              · simp only [go_sem, map_gso_pu (rnc_pul _), pul_ren hD.pu, h3, hmin, ren_gsv, cdD, cdN, gdT, gdF, gdD, Nat.reduceLT, Nat.reduceEqDiff, Nat.reduceAdd, Nat.reduceLeDiff, reduceIte, reduceCtorEq]
                rw [List.length_append, List.length_singleton, gsv_pos (Nat.succ_ne_zero _), gso_pos (by rw [rnc_snoc]; simp), rnc_snoc]
                exact ⟨rfl, rfl⟩
          · have hmr : m < rsize r := by omega
            have hmin : min m (rsize r) = m := Nat.min_eq_left (Nat.le_of_lt hmr)
            have hsl2 : aslice tab 9 (.str r.text) (some (.int .i64 (m : Int))) none none = some (.str (r.text.drop m)) := by rw [slice9a (by omega) (by omega)]; rfl
            have hw0 : IntKind.i64.wrap ((m : Int) - (m : Int)) = ((0 : Nat) : Int) := by rw [wrap_id (by omega)]; omega
            have hcut : cutR r m = ⟨0, 0, r.text.take m⟩ := by rw [cutR, if_pos ht]
            refine ldrawB_go [] [] 8 (by decide) ?_
            simp +contextual only [go_sem, hlen1, hlv, hmin, hsl2, cdD, cdN, gdT, gdF, gdD, Nat.reduceLT, Nat.reduceEqDiff, Nat.reduceAdd, Nat.reduceLeDiff, reduceIte, reduceCtorEq]
            refine ⟨by kernel_rfl, ?_⟩
            simp +contextual only [go_sem, hlen1, hlv, ix89z, hw0, show q + 2 + 1 ≤ D.length by omega, cdD, cdN, gdT, gdF, gdD, Nat.reduceLT, Nat.reduceEqDiff, Nat.reduceAdd, Nat.reduceLeDiff, reduceIte, reduceCtorEq]
            have hD2 := hD.text (r.text.drop m)
            have hr2 : restR r m = ⟨r.at_, r.long, r.text.drop m⟩ := by rw [restR, if_pos ht]
            rw [restO_lt (by omega) hmr, hr2] at hE
            rw [takeO_lt (by omega) hmr, hcut] at hT
            refine ⟨(0, D.set (q + 2) (.str (r.text.drop m)), q, ⟨r.at_, r.long, r.text.drop m⟩ :: Q', P ++ [⟨0, 0, r.text.take m⟩], 4), ⟨.inr rfl, by simp only; omega, by simp only; omega, hD2, RB.restL hQ hmr hr2, by rw [restO_zero]; exact hE, by rw [takeO_zero, List.append_nil]; exact hT, by simp only [List.length_append, List.length_singleton]; omega⟩, by simp only; omega, ?_⟩
            · refine To.goK [0, 1, 2, 3, 19] _ rfl rfl (.refl s) (by decide) (by decide) (by simp) ?_ ?_
              · simp +contextual only [go_sem, hlen1, hlv, cdD, cdN, gdT, gdF, gdD, Nat.reduceLT, Nat.reduceEqDiff, Nat.reduceAdd, Nat.reduceLeDiff, reduceIte, reduceCtorEq]
              · simp only [go_sem, map_gso_pu (rnc_pul _), pul_ren hD2.pu, h3, ren_gsv, cdD, cdN, gdT, gdF, gdD, Nat.reduceLT, Nat.reduceEqDiff, Nat.reduceAdd, Nat.reduceLeDiff, reduceIte, reduceCtorEq]
                rw [List.length_append, List.length_singleton, gsv_pos (Nat.succ_ne_zero _), gso_pos (by rw [rnc_snoc]; simp), rnc_snoc]
                exact ⟨rfl, rfl⟩
      · have hm0 : m = 0 := by omega
        subst hm0
        rw [restO_zero] at hE
        rw [takeO_zero, List.append_nil] at hT
        subst hE
        rw [hT]
        first
        | exact lexit_now ⟨rfl, D, q, 2, .inl rfl, hD, rfl⟩
        | exact lexit_now ⟨rfl, D, q, 4, .inr rfl, hD, rfl⟩
end Go.S1N
end
section
namespace Go.S1N
open Go Go.Am Go.Proofs Go.S1
set_option maxRecDepth 100000
attribute [local irreducible] lopsB lvb lstepB lfunG lcondB lguardB ldrawB ldrunB ldstepB ldguardB lmem lval ldmem ldval ldfun lexit ldloadB ldlenB lpostB athen ablock
theorem pushR {s : AHeap} {o4 : Option AObj} {a to : Int} {w : List UInt8} {L : List Ed} (ha : -1 ≤ a) (ha2 : a ≤ 1000000000000) (ht : -1 ≤ to) (ht2 : to ≤ 1000000000000) (hL : L.length ≤ 1000000000) :
    ACall Tryz.prog 75 [.int .i64 to, .ptr (nm s.nx 1) 0, .ptr (nm s.nx 2) 0, .ptr (nm s.nx 0) 0]
      (loc s 5 [(0, some (.cells [gsv 3 (nm s.nx 3) L.length] (some 27))), (1, some (.cells [.int .i64 a] (some 3))), (2, some (.cells [.str w] (some 9))), (3, gso 37 (edc L)), (4, o4)])
      fun v t => v = .tuple [] ∧ ((pushE a w to = [] ∧ t = loc s 5 [(0, some (.cells [gsv 3 (nm s.nx 3) L.length] (some 27))), (1, some (.cells [.int .i64 a] (some 3))), (2, some (.cells [.str w] (some 9))), (3, gso 37 (edc L)), (4, o4)]) ∨
        ∃ e, pushE a w to = [e] ∧ t = loc s 7 [(0, some (.cells [gsv 3 (nm s.nx 6) (L ++ [e]).length] (some 27))), (1, some (.cells [.int .i64 a] (some 3))), (2, some (.cells [.str w] (some 9))), (4, o4), (5, some (.cells [.int .i64 a, .int .i64 (to - a), .str w] (some 37))), (6, gso 37 (edc (L ++ [e])))]) := by
  refine gob75 (by simp) ?_
  intro tm hlen harg
  rw [loc_flat (by intro j hj; simp only [lget]; rw [if_neg (by omega), if_neg (by omega), if_neg (by omega), if_neg (by omega), if_neg (by omega)])]
  have hw : IntKind.i64.wrap (to - a) = to - a := wrap_id (by omega)
  have fin : ∀ e : Ed, e = ⟨a, to - a, w⟩ → pushE a w to = [e] →
      pushE a w to = [e] ∧ loc s 7 [(0, some (AObj.cells [AV.rs 3 (nm s.nx 6) 0 (L.length + 1)] (some 27))), (1, some (AObj.cells [AV.int IntKind.i64 a] (some 3))), (2, some (AObj.cells [AV.str w] (some 9))), (4, o4), (5, some (.cells [.int .i64 a, .int .i64 (to - a), .str w] (some 37))), (6, some (.cells (edc L ++ [.int .i64 a, .int .i64 (to - a), .str w]) (some 37)))] =
        loc s 7 [(0, some (.cells [gsv 3 (nm s.nx 6) (L ++ [e]).length] (some 27))), (1, some (.cells [.int .i64 a] (some 3))), (2, some (.cells [.str w] (some 9))), (4, o4), (5, some (.cells [.int .i64 a, .int .i64 (to - a), .str w] (some 37))), (6, gso 37 (edc (L ++ [e])))] := by
    rintro e rfl h
    refine ⟨h, ?_⟩
    rw [gso_ed, List.length_append, List.length_singleton, gsv_pos (Nat.succ_ne_zero _), edc_snoc]
  by_cases c : a < to
  · simp +contextual only [go_sem, L75, hlen, harg, hw, build35_3, c, cdD, cdN, gdT, gdF, gdD, Nat.reduceLT, Nat.reduceEqDiff, Nat.reduceAdd, Nat.reduceLeDiff, reduceIte, reduceCtorEq]
    refine lmem_eq (app27 (acellsOf_rs (by simp only [go_sem, cdD, cdN, gdT, gdF, gdD, Nat.reduceLT, Nat.reduceEqDiff, Nat.reduceAdd, Nat.reduceLeDiff, reduceIte, reduceCtorEq]; rfl) (by rfl) rfl) (by decide) (by simp only [go_sem, cdD, cdN, gdT, gdF, gdD, Nat.reduceLT, Nat.reduceEqDiff, Nat.reduceAdd, Nat.reduceLeDiff, reduceIte, reduceCtorEq]) (by simp only [go_sem, cdD, cdN, gdT, gdF, gdD, Nat.reduceLT, Nat.reduceEqDiff, Nat.reduceAdd, Nat.reduceLeDiff, reduceIte, reduceCtorEq]) (edc_len L) (by omega) rfl) ?_
    simp +contextual only [go_sem, hlen, harg, hw, cdD, cdN, gdT, gdF, gdD, Nat.reduceLT, Nat.reduceEqDiff, Nat.reduceAdd, Nat.reduceLeDiff, reduceIte, reduceCtorEq]
    exact lexit_now ⟨rfl, .inr ⟨_, fin _ rfl (if_pos (.inl c))⟩⟩
  · by_cases c2 : w = []
    · subst c2
      simp +contextual only [go_sem, L75, hlen, harg, hw, c, cdD, cdN, gdT, gdF, gdD, Nat.reduceLT, Nat.reduceEqDiff, Nat.reduceAdd, Nat.reduceLeDiff, reduceIte, reduceCtorEq]
      exact lexit_now ⟨rfl, .inl ⟨if_neg (by rintro (h | h); exact c h; exact h rfl), rfl⟩⟩
    · simp +contextual only [go_sem, L75, hlen, harg, hw, build35_3, c, c2, cdD, cdN, gdT, gdF, gdD, Nat.reduceLT, Nat.reduceEqDiff, Nat.reduceAdd, Nat.reduceLeDiff, reduceIte, reduceCtorEq]
      refine lmem_eq (app27 (acellsOf_rs (by simp only [go_sem, cdD, cdN, gdT, gdF, gdD, Nat.reduceLT, Nat.reduceEqDiff, Nat.reduceAdd, Nat.reduceLeDiff, reduceIte, reduceCtorEq]; rfl) (by rfl) rfl) (by decide) (by simp only [go_sem, cdD, cdN, gdT, gdF, gdD, Nat.reduceLT, Nat.reduceEqDiff, Nat.reduceAdd, Nat.reduceLeDiff, reduceIte, reduceCtorEq]) (by simp only [go_sem, cdD, cdN, gdT, gdF, gdD, Nat.reduceLT, Nat.reduceEqDiff, Nat.reduceAdd, Nat.reduceLeDiff, reduceIte, reduceCtorEq]) (edc_len L) (by omega) rfl) ?_
      simp +contextual only [go_sem, hlen, harg, hw, cdD, cdN, gdT, gdF, gdD, Nat.reduceLT, Nat.reduceEqDiff, Nat.reduceAdd, Nat.reduceLeDiff, reduceIte, reduceCtorEq]
      exact lexit_now ⟨rfl, .inr ⟨_, fin _ rfl (if_pos (.inr c2))⟩⟩
theorem rnv_len (F : List Rn) : alen tab 89 (rnv F) = some (.int .i64 F.length) := by rw [rnv, len89f, List.length_map]
theorem editsR_ok (n : Int) (F : List Rn) (hn : 0 ≤ n ∧ n ≤ 1000000000000) (hF : ∀ r ∈ F, 0 ≤ r.at_ ∧ r.at_ ≤ 1000000000 ∧ r.at_ + r.long ≤ 1000000000 ∧ 0 ≤ r.long ∧ r.text.length ≤ 1000000) (hFl : F.length ≤ 1000000000) (s : AHeap) :
    ACall Tryz.prog 44 [.int .i64 n, rnv F] s fun r t => r = edv (rGo n 0 [] F) ∧ t = s := by
  refine gob44 (by simp) ?_
  intro tm hlen harg
  have hpu : Pu (rnv F) := rnv_pu F
  simp +contextual only [go_sem, L44, hlen, harg, rnv_len, cdD, cdN, gdT, gdF, gdD, Nat.reduceLT, Nat.reduceEqDiff, Nat.reduceAdd, Nat.reduceLeDiff, reduceIte, reduceCtorEq]
  refine ⟨Nat × Int × List UInt8 × List Ed, fun a => [(0, .int .i64 n), (5, .ptr (nm s.nx 0) 0), (6, .ptr (nm s.nx 1) 0), (7, .ptr (nm s.nx 2) 0), (8, .func (.func 75) [] [.ptr (nm s.nx 1) 0, .ptr (nm s.nx 2) 0, .ptr (nm s.nx 0) 0]), (12, rnv F), (13, .int .i64 F.length), (14, .int .i64 a.1)],
    fun a => loc s 4 [(0, some (.cells [gsv 3 (nm s.nx 3) a.2.2.2.length] (some 27))), (1, some (.cells [.int .i64 a.2.1] (some 3))), (2, some (.cells [.str a.2.2.1] (some 9))), (3, gso 37 (edc a.2.2.2))],
    fun a => a.1 ≤ F.length ∧ a.2.2.2.length ≤ a.1 ∧ a.2.2.1.length ≤ a.1 * 1000000 ∧ 0 ≤ a.2.1 ∧ a.2.1 ≤ 1000000000 ∧ a.2.2.2 ++ rGo n a.2.1 a.2.2.1 (F.drop a.1) = rGo n 0 [] F, fun a => F.length - a.1, (0, 0, [], []), ⟨by simp, by simp, by simp, by simp, by simp, by simp⟩, ?_, ?_⟩
  · refine To.go [0, 1, 2, 9] [(0, some (.cells [.nils] (some 27))), (1, some (.cells [.int .i64 0] (some 3))), (2, some (.cells [.str []] (some 9))), (3, none)] (by simp only [edc, List.map_nil, List.flatMap_nil, gso_nil, List.length_nil, gsv_zero]; rfl) (.refl s) (by decide) (by simp) ?_ ?_
    · simp +contextual only [go_sem, hlen, harg, pu_ren hpu, gsv_zero, cdD, cdN, gdT, gdF, gdD, Nat.reduceLT, Nat.reduceEqDiff, Nat.reduceAdd, Nat.reduceLeDiff, reduceIte, reduceCtorEq]
      rfl
    · simp only [go_sem, pu_ren hpu, cdD, cdN, gdT, gdF, gdD, Nat.reduceLT, Nat.reduceEqDiff, Nat.reduceAdd, Nat.reduceLeDiff, reduceIte, reduceCtorEq]
  · rintro ⟨j, a, w, L⟩ tm1 ⟨hj, hL, hw, ha0, ha1, hE⟩ hlen1 hlv
    simp only [go_sem, hlen, cdD, cdN, gdT, gdF, gdD, Nat.reduceLT, Nat.reduceEqDiff, Nat.reduceAdd, Nat.reduceLeDiff, reduceIte, reduceCtorEq] at hlen1 hlv hj hL hw ha0 ha1 hE
    simp +contextual only [go_sem, hlen, hlen1, hlv, cdD, cdN, gdT, gdF, gdD, Nat.reduceLT, Nat.reduceEqDiff, Nat.reduceAdd, Nat.reduceLeDiff, reduceIte, reduceCtorEq]
    refine ⟨fun hlt => ?_, fun hge => ?_⟩
    · have hj2 : j < F.length := by omega
      have he := List.getElem?_eq_getElem hj2
      have hmem : F[j] ∈ F := List.getElem_mem hj2
      have hdrop := List.drop_eq_getElem_cons hj2
      generalize F[j] = r at he hmem hdrop
      obtain ⟨b1, b2, b3, b4, b5⟩ := hF r hmem
      rw [hdrop, rGo] at hE
      have hw3 : IntKind.i64.wrap ((j : Int) + 1) = ((j + 1 : Nat) : Int) := by rw [wrap_id (by omega)]; rfl
      have hw4 : IntKind.i64.wrap (r.at_ + r.long) = r.at_ + r.long := wrap_id (by omega)
      have hadd := abin_sadd (T := tab) (t := 9) (x := w) (y := r.text) (by omega)
      simp +contextual only [go_sem, hlen1, hlv, rn_at F he, hadd, hw3, hw4, cdD, cdN, gdT, gdF, gdD, Nat.reduceLT, Nat.reduceEqDiff, Nat.reduceAdd, Nat.reduceLeDiff, reduceIte, reduceCtorEq]
      refine ⟨fun ht => ?_, fun ht => ⟨fun hl => ?_, fun hl => ?_⟩⟩
      · rw [if_pos ht] at hE
        refine ⟨(j + 1, a, w ++ r.text, L), ⟨by simp only; omega, by simp only; omega, by simp only [List.length_append]; omega, ha0, ha1, hE⟩, by simp only; omega, ?_⟩
        refine To.go [0, 1, 2, 3] _ rfl (.refl s) (by decide) (by simp) ?_ ?_
        · simp +contextual only [go_sem, hlen1, hlv, pu_ren hpu, cdD, cdN, gdT, gdF, gdD, Nat.reduceLT, Nat.reduceEqDiff, Nat.reduceAdd, Nat.reduceLeDiff, reduceIte, reduceCtorEq]
        · simp only [go_sem, map_gso_pu (edc_pul _), ren_gsv, cdD, cdN, gdT, gdF, gdD, Nat.reduceLT, Nat.reduceEqDiff, Nat.reduceAdd, Nat.reduceLeDiff, reduceIte, reduceCtorEq]
      · rw [if_neg (by simpa using ht), if_pos hl] at hE
        refine lfunG_eqc' rfl (pushR (by omega) (by omega) (by omega) (by omega) (by omega)) ?_
        rintro _ t ⟨rfl, h | ⟨e, h⟩⟩
        · obtain ⟨hpe, rfl⟩ := h
          simp +contextual only [go_sem, hlen1, hlv, hw3, hw4, cdD, cdN, gdT, gdF, gdD, Nat.reduceLT, Nat.reduceEqDiff, Nat.reduceAdd, Nat.reduceLeDiff, reduceIte, reduceCtorEq]
          refine ⟨(j + 1, r.at_ + r.long, [], L), ⟨by simp only; omega, by simp only; omega, Nat.zero_le _, by simp only; omega, by simp only; omega, ?_⟩, by simp only; omega, ?_⟩
          · rw [← hE, hpe, List.nil_append]
          · refine To.go [0, 1, 2, 3] _ rfl (.refl s) (by decide) (by simp) ?_ ?_
            · simp +contextual only [go_sem, hlen1, hlv, pu_ren hpu, cdD, cdN, gdT, gdF, gdD, Nat.reduceLT, Nat.reduceEqDiff, Nat.reduceAdd, Nat.reduceLeDiff, reduceIte, reduceCtorEq]
            · simp only [go_sem, map_gso_pu (edc_pul _), ren_gsv, cdD, cdN, gdT, gdF, gdD, Nat.reduceLT, Nat.reduceEqDiff, Nat.reduceAdd, Nat.reduceLeDiff, reduceIte, reduceCtorEq]
        · obtain ⟨hpe, rfl⟩ := h
          simp +contextual only [go_sem, hlen1, hlv, hw3, hw4, cdD, cdN, gdT, gdF, gdD, Nat.reduceLT, Nat.reduceEqDiff, Nat.reduceAdd, Nat.reduceLeDiff, reduceIte, reduceCtorEq]
          refine ⟨(j + 1, r.at_ + r.long, [], L ++ [e]), ⟨by simp only; omega, by simp only [List.length_append, List.length_singleton]; omega, Nat.zero_le _, by simp only; omega, by simp only; omega, ?_⟩, by simp only; omega, ?_⟩
          · rw [← hE, hpe, List.append_assoc]
          · refine To.go [0, 1, 2, 6] _ rfl (.refl s) (by decide) (by simp) ?_ ?_
            · simp +contextual only [go_sem, hlen1, hlv, pu_ren hpu, cdD, cdN, gdT, gdF, gdD, Nat.reduceLT, Nat.reduceEqDiff, Nat.reduceAdd, Nat.reduceLeDiff, reduceIte, reduceCtorEq]
            · simp only [go_sem, map_gso_pu (edc_pul _), ren_gsv, cdD, cdN, gdT, gdF, gdD, Nat.reduceLT, Nat.reduceEqDiff, Nat.reduceAdd, Nat.reduceLeDiff, reduceIte, reduceCtorEq]
      · rw [if_neg (by simpa using ht), if_neg hl] at hE
        have hw1 : w.length ≤ (j + 1) * 1000000 := by
          rw [Nat.succ_mul]; exact Nat.le_trans hw (Nat.le_add_right _ _)
        refine ⟨(j + 1, a, w, L), ⟨by simp only; omega, by simp only; omega, hw1, ha0, ha1, hE⟩, by simp only; omega, ?_⟩
        refine To.go [0, 1, 2, 3] _ rfl (.refl s) (by decide) (by simp) ?_ ?_
        · simp +contextual only [go_sem, hlen1, hlv, pu_ren hpu, cdD, cdN, gdT, gdF, gdD, Nat.reduceLT, Nat.reduceEqDiff, Nat.reduceAdd, Nat.reduceLeDiff, reduceIte, reduceCtorEq]
        · simp only [go_sem, map_gso_pu (edc_pul _), ren_gsv, cdD, cdN, gdT, gdF, gdD, Nat.reduceLT, Nat.reduceEqDiff, Nat.reduceAdd, Nat.reduceLeDiff, reduceIte, reduceCtorEq]
    · have hj2 : j = F.length := by omega
      rw [hj2, List.drop_length, rGo] at hE
      refine lfunG_to (lv := [(5, .ptr (nm s.nx 0) 0), (40, .func (.func 75) [] [.ptr (nm s.nx 1) 0, .ptr (nm s.nx 2) 0, .ptr (nm s.nx 0) 0]), (41, .int .i64 n)])
        (h := loc s 5 [(0, some (.cells [gsv 3 (nm s.nx 3) L.length] (some 27))), (1, some (.cells [.int .i64 a] (some 3))), (2, some (.cells [.str w] (some 9))), (3, gso 37 (edc L)), (4, none)]) (To.go [0, 1, 2, 3, 9] _ rfl (.refl s) (by decide) (by simp) ?_ ?_) ?_
      · simp +contextual only [go_sem, hlen1, hlv, cdD, cdN, gdT, gdF, gdD, Nat.reduceLT, Nat.reduceEqDiff, Nat.reduceAdd, Nat.reduceLeDiff, reduceIte, reduceCtorEq]
      · simp only [go_sem, map_gso_pu (edc_pul _), ren_gsv, cdD, cdN, gdT, gdF, gdD, Nat.reduceLT, Nat.reduceEqDiff, Nat.reduceAdd, Nat.reduceLeDiff, reduceIte, reduceCtorEq]
      · intro tm2 hlen2 hlv2
        simp only [go_sem, hlen1, cdD, cdN, gdT, gdF, gdD, Nat.reduceLT, Nat.reduceEqDiff, Nat.reduceAdd, Nat.reduceLeDiff, reduceIte, reduceCtorEq] at hlen2 hlv2
        simp +contextual only [go_sem, hlen2, hlv2, cdD, cdN, gdT, gdF, gdD, Nat.reduceLT, Nat.reduceEqDiff, Nat.reduceAdd, Nat.reduceLeDiff, reduceIte, reduceCtorEq]
        refine lfunG_eqc' rfl (pushR (by omega) (by omega) (by omega) (by omega) (by omega)) ?_
        rintro _ t ⟨rfl, h | ⟨e, h⟩⟩
        · obtain ⟨hpe, rfl⟩ := h
          rw [hpe, List.append_nil] at hE
          simp +contextual only [go_sem, hlen2, hlv2, cdD, cdN, gdT, gdF, gdD, Nat.reduceLT, Nat.reduceEqDiff, Nat.reduceAdd, Nat.reduceLeDiff, reduceIte, reduceCtorEq]
          refine lexit_freezeG 3 3 (L.map Ed.enc) (by simp only [go_sem, cdD, cdN, gdT, gdF, gdD, Nat.reduceLT, Nat.reduceEqDiff, Nat.reduceAdd, Nat.reduceLeDiff, reduceIte, reduceCtorEq]; rfl) (enc_len L) (by decide) ?_
          simp only [go_sem, len_fz, hE, cdD, cdN, gdT, gdF, gdD, Nat.reduceLT, Nat.reduceEqDiff, Nat.reduceAdd, Nat.reduceLeDiff, reduceIte, reduceCtorEq]
          exact lexit_pure (.refl s) (low.mono (Nat.zero_le _) (edv_pu _)) ⟨rfl, rfl⟩
        · obtain ⟨hpe, rfl⟩ := h
          rw [hpe] at hE
          simp +contextual only [go_sem, hlen2, hlv2, cdD, cdN, gdT, gdF, gdD, Nat.reduceLT, Nat.reduceEqDiff, Nat.reduceAdd, Nat.reduceLeDiff, reduceIte, reduceCtorEq]
          refine lexit_freezeG 6 3 ((L ++ [e]).map Ed.enc) (by simp only [go_sem, cdD, cdN, gdT, gdF, gdD, Nat.reduceLT, Nat.reduceEqDiff, Nat.reduceAdd, Nat.reduceLeDiff, reduceIte, reduceCtorEq]; rfl) (enc_len _) (by decide) ?_
          simp only [go_sem, len_fz, hE, cdD, cdN, gdT, gdF, gdD, Nat.reduceLT, Nat.reduceEqDiff, Nat.reduceAdd, Nat.reduceLeDiff, reduceIte, reduceCtorEq]
          exact lexit_pure (.refl s) (low.mono (Nat.zero_le _) (edv_pu _)) ⟨rfl, rfl⟩
end Go.S1N
end
section
namespace Go.S1N
open Go Go.Am Go.Proofs Go.S1
set_option maxRecDepth 100000
attribute [local irreducible] lopsB lvb lstepB lfunG lcondB lguardB ldrawB ldrunB ldstepB ldguardB lmem lval ldmem ldval ldfun lexit ldloadB ldlenB lpostB athen ablock
def outs (M : Nat) : Nat → List Rn → List Ed → List Rn
  | a, Q, [] => takeO (M - a) Q
  | a, Q, e :: r => takeO (e.at_ - a).toNat Q ++ ⟨0, 0, e.new⟩ :: outs M (e.at_ + e.cut).toNat (restO e.cut.toNat (restO (e.at_ - a).toNat Q)) r
theorem restO_ok : ∀ (R : List Rn) (n : Nat), (∀ r ∈ R, RB r) → n ≤ tot R → (∀ x ∈ restO n R, RB x) ∧ tot (restO n R) = tot R - n
  | [], n, _, h => ⟨by simp [restO], by simp [restO, tot]⟩
  | r :: R, n, hR, h => by
    have hr := hR r (List.mem_cons_self ..)
    have hR2 := fun x hx => hR x (List.mem_cons_of_mem r hx)
    rw [restO]
    split
    · rename_i h0; subst h0; exact ⟨hR, by omega⟩
    · split
      · rename_i h0 h1
        refine ⟨RB.restL hR h1 rfl, ?_⟩
        have e1 := rfl1_len hr.ok
        have e2 := rfl1_len (hr.rest h1).ok
        rw [(rfl1_rest hr.ok h1).1, List.length_drop, e1] at e2
        simp only [tot]
        omega
      · rename_i h0 h1
        simp only [tot] at h
        have ih := restO_ok R (n - rsize r) hR2 (by omega)
        refine ⟨ih.1, ?_⟩
        rw [ih.2]
        simp only [tot]
        omega
theorem takeO_len : ∀ (R : List Rn) (n : Nat), (∀ r ∈ R, RB r) → (takeO n R).length ≤ n
  | [], n, _ => by simp [takeO]
  | r :: R, n, hR => by
    have hr := hR r (List.mem_cons_self ..)
    have hR2 := fun x hx => hR x (List.mem_cons_of_mem r hx)
    rw [takeO]
    split
    · simp
    · split
      · simp; omega
      · have ih := takeO_len R (n - rsize r) hR2
        have := hr.pos
        simp only [List.length_cons]
        omega
theorem then_ok (n : Int) (av bv : AV) (a b : List Ed) (ha : SlE av a) (hb : SlE bv b) (hal : a.length ≤ 2000) (hbl : b.length ≤ 2000) (hn0 : 0 ≤ n) (hn : n ≤ 20000) (hsc : scan n (-1) a = 0) (M : Nat) (hM : longOf n a = M) (hM2 : M ≤ 20000)
    (hRB : ∀ r ∈ live (runsFrom n 0 a), RB r) (htot : tot (live (runsFrom n 0 a)) = M) (hsb : scan M (-1) b = 0) (hF : ∀ r ∈ outs M 0 (live (runsFrom n 0 a)) b, 0 ≤ r.at_ ∧ r.at_ ≤ 1000000000 ∧ r.at_ + r.long ≤ 1000000000 ∧ 0 ≤ r.long ∧ r.text.length ≤ 1000000)
    (hrl : (runsFrom n 0 a).length ≤ 1000000) (s : AHeap) :
    ACall Tryz.prog 39 [.int .i64 n, av, bv] s fun r t => r = edv (rGo n 0 [] (outs M 0 (live (runsFrom n 0 a)) b)) ∧ t = s := by
  refine gob39 (by simp) ?_
  intro tm hlen harg
  simp +contextual only [go_sem, L39, hlen, harg, cdD, cdN, gdT, gdF, gdD, Nat.reduceLT, Nat.reduceEqDiff, Nat.reduceAdd, Nat.reduceLeDiff, reduceIte, reduceCtorEq]
  refine lfunG_eq (runs_own' n av a ha hal hn0 hn hsc s) ?_
  simp +contextual only [go_sem, hlen, harg, cdD, cdN, gdT, gdF, gdD, Nat.reduceLT, Nat.reduceEqDiff, Nat.reduceAdd, Nat.reduceLeDiff, reduceIte, reduceCtorEq]
  generalize hL : runsFrom n 0 a = L at *
  refine lfunG_of (del_ok (by omega)) ?_
  rintro _ _ ⟨C, hC, rfl, rfl⟩
  generalize hL0 : live L = L0 at *
  simp +contextual only [go_sem, hlen, harg, hb.len, cdD, cdN, gdT, gdF, gdD, Nat.reduceLT, Nat.reduceEqDiff, Nat.reduceAdd, Nat.reduceLeDiff, reduceIte, reduceCtorEq]
  refine ⟨Nat × Nat × Int × Nat × List AV × List Rn × List Rn, fun x => [(0, .int .i64 n), (1, av), (7, .ptr (nm s.nx 0) 0), (8, .int .i64 x.2.1), (17, bv), (18, .int .i64 b.length), (19, .int .i64 x.1)],
    fun x => loc s 3 [(0, some (.cells [.rs 3 (nm s.nx 1) x.2.2.2.1 x.2.2.2.2.2.1.length, gsv 3 (nm s.nx 2) x.2.2.2.2.2.2.length] (some 135))), (1, some (.cells x.2.2.2.2.1 (some 98))), (2, gso 98 (rnc x.2.2.2.2.2.2))],
    fun x => x.1 ≤ b.length ∧ LB x.2.2.2.2.1 x.2.2.2.1 x.2.2.2.2.2.1 ∧ (∀ r ∈ x.2.2.2.2.2.1, RB r) ∧ x.2.1 + tot x.2.2.2.2.2.1 = M ∧ (x.2.2.1 = x.2.1 ∨ (x.2.2.1 = -1 ∧ x.2.1 = 0)) ∧ scan M x.2.2.1 (b.drop x.1) = 0 ∧
      x.2.2.2.2.2.2.length ≤ x.2.1 + x.1 ∧ x.2.2.2.2.2.2 ++ outs M x.2.1 x.2.2.2.2.2.1 (b.drop x.1) = outs M 0 L0 b,
    fun x => b.length - x.1, (0, 0, -1, 0, C, L0, []), ⟨Nat.zero_le _, hC, hRB, by simp only; omega, .inr ⟨rfl, rfl⟩, hsb, by simp, by simp⟩, ?_, ?_⟩
  · refine To.go [1, 0, 9] _ rfl (.refl s) (by decide) (by simp) ?_ ?_
    · simp +contextual only [go_sem, hlen, harg, pu_ren ha.pu, pu_ren hb.pu, cdD, cdN, gdT, gdF, gdD, Nat.reduceLT, Nat.reduceEqDiff, Nat.reduceAdd, Nat.reduceLeDiff, reduceIte, reduceCtorEq]
      rfl
    · simp only [go_sem, pul_ren hC.pu, gsv_zero, cdD, cdN, gdT, gdF, gdD, Nat.reduceLT, Nat.reduceEqDiff, Nat.reduceAdd, Nat.reduceLeDiff, reduceIte, reduceCtorEq]
      simp [rnc, gso_nil]
  · rintro ⟨i, at_, B, q, D, Q, O⟩ tm1 ⟨hi, hD, hQ, hM3, hB, hs, hO, hE⟩ hlen1 hlv
    simp only [go_sem, hlen, cdD, cdN, gdT, gdF, gdD, Nat.reduceLT, Nat.reduceEqDiff, Nat.reduceAdd, Nat.reduceLeDiff, reduceIte, reduceCtorEq] at hlen1 hlv hi hD hQ hM3 hB hs hO hE
    simp +contextual only [go_sem, hlen, hlen1, hlv, cdD, cdN, gdT, gdF, gdD, Nat.reduceLT, Nat.reduceEqDiff, Nat.reduceAdd, Nat.reduceLeDiff, reduceIte, reduceCtorEq]
    refine ⟨fun hlt => ?_, fun hge => ?_⟩
    · have hi2 : i < b.length := by omega
      have he := List.getElem?_eq_getElem hi2
      have hdrop := List.drop_eq_getElem_cons hi2
      generalize b[i] = e at he hdrop
      rw [hdrop] at hs hE
      obtain ⟨c1, c2, c3, c4, c5, c6⟩ := scan_cons hs
      obtain ⟨k, hk⟩ : ∃ k : Nat, e.at_ - (at_ : Int) = k := ⟨(e.at_ - at_).toNat, by omega⟩
      obtain ⟨c, hc⟩ : ∃ c : Nat, e.cut = c := ⟨e.cut.toNat, by omega⟩
      have hw1 : IntKind.i64.wrap (e.at_ - (at_ : Int)) = (k : Int) := by rw [wrap_id (by omega), hk]
      have hw2 : IntKind.i64.wrap (e.at_ + (c : Int)) = ((at_ + k + c : Nat) : Int) := by rw [wrap_id (by omega)]; omega
      have hw3 : IntKind.i64.wrap ((i : Int) + 1) = ((i + 1 : Nat) : Int) := by rw [wrap_id (by omega)]; rfl
      obtain ⟨q1, q2⟩ := restO_ok Q k hQ (by omega)
      have q3 := takeO_len Q k hQ
      obtain ⟨q4, q5⟩ := restO_ok (restO k Q) c q1 (by omega)
      rw [outs, hk, hc, Int.toNat_natCast, Int.toNat_natCast, show (e.at_ + (c : Int)).toNat = at_ + k + c by omega] at hE
      simp +contextual only [go_sem, hlen1, hlv, hb.at he, hw1, cdD, cdN, gdT, gdF, gdD, Nat.reduceLT, Nat.reduceEqDiff, Nat.reduceAdd, Nat.reduceLeDiff, reduceIte, reduceCtorEq]
      refine lfunG_of (keep_ok k D q Q O (some (.cells [.int .i64 e.at_, .int .i64 e.cut, .str e.new] (some 37))) (by intro f; simp only [go_sem, cdD, cdN, gdT, gdF, gdD, Nat.reduceLT, Nat.reduceEqDiff, Nat.reduceAdd, Nat.reduceLeDiff, reduceIte, reduceCtorEq]) hD hQ (by omega) (by omega)) ?_
      rintro _ _ ⟨rfl, D1, o1, j, hj, hD1, rfl⟩
      have hpick : ∃ rr : List Nat, rr = [0, 1, j, 3] ∧ rr.Nodup := ⟨_, rfl, by rcases hj with rfl | rfl <;> decide⟩
      obtain ⟨rr, hrr, hnd⟩ := hpick
      simp +contextual only [go_sem, hlen1, hlv, hc, cdD, cdN, gdT, gdF, gdD, Nat.reduceLT, Nat.reduceEqDiff, Nat.reduceAdd, Nat.reduceLeDiff, reduceIte, reduceCtorEq]
      refine lfunG_to (lv := [(0, .int .i64 n), (1, av), (7, .ptr (nm s.nx 0) 0), (8, .int .i64 at_), (10, .ptr (nm s.nx 3) 0), (17, bv), (18, .int .i64 b.length), (19, .int .i64 i), (29, .ptr (nm s.nx 0) 0), (31, .int .i64 c)])
        (h := loc s 4 [(0, some (.cells [.rs 3 (nm s.nx 1) o1 (restO k Q).length, gsv 3 (nm s.nx 2) (O ++ takeO k Q).length] (some 135))), (1, some (.cells D1 (some 98))), (2, gso 98 (rnc (O ++ takeO k Q))), (3, some (.cells [.int .i64 e.at_, .int .i64 c, .str e.new] (some 37)))]) (To.go rr _ (by rw [hrr]; rfl) (.refl s) hnd (by simp) ?_ ?_) ?_
      · rw [hrr]
        rcases hj with rfl | rfl <;> simp +contextual only [go_sem, hlen1, hlv, pu_ren ha.pu, pu_ren hb.pu, cdD, cdN, gdT, gdF, gdD, Nat.reduceLT, Nat.reduceEqDiff, Nat.reduceAdd, Nat.reduceLeDiff, reduceIte, reduceCtorEq]
      · rw [hrr]
        rcases hj with rfl | rfl <;> simp only [go_sem, map_gso_pu (rnc_pul _), pul_ren hD1.pu, ren_gsv, cdD, cdN, gdT, gdF, gdD, Nat.reduceLT, Nat.reduceEqDiff, Nat.reduceAdd, Nat.reduceLeDiff, reduceIte, reduceCtorEq]
      intro tm2 hlen2 hlv2
      simp only [go_sem, hlen1, cdD, cdN, gdT, gdF, gdD, Nat.reduceLT, Nat.reduceEqDiff, Nat.reduceAdd, Nat.reduceLeDiff, reduceIte, reduceCtorEq] at hlen2 hlv2
      simp +contextual only [go_sem, hlen2, hlv2, cdD, cdN, gdT, gdF, gdD, Nat.reduceLT, Nat.reduceEqDiff, Nat.reduceAdd, Nat.reduceLeDiff, reduceIte, reduceCtorEq]
      refine lfunG_of (drop_ok c D1 o1 (restO k Q) (O ++ takeO k Q) (some (.cells [.int .i64 e.at_, .int .i64 c, .str e.new] (some 37))) (by intro f; simp only [go_sem, cdD, cdN, gdT, gdF, gdD, Nat.reduceLT, Nat.reduceEqDiff, Nat.reduceAdd, Nat.reduceLeDiff, reduceIte, reduceCtorEq]) hD1 q1 (by omega) (by omega)) ?_
      rintro _ _ ⟨rfl, D2, o2, hD2, rfl⟩
      simp +contextual only [go_sem, hlen2, hlv2, cdD, cdN, gdT, gdF, gdD, Nat.reduceLT, Nat.reduceEqDiff, Nat.reduceAdd, Nat.reduceLeDiff, reduceIte, reduceCtorEq]
      refine ldrawB_go [] [(4, 1)] 10 (by decide) ?_
      simp +contextual only [go_sem, hlen2, hlv2, cdD, cdN, gdT, gdF, gdD, Nat.reduceLT, Nat.reduceEqDiff, Nat.reduceAdd, Nat.reduceLeDiff, reduceIte, reduceCtorEq]
      refine ldfun_pure _ (fresh_ok _) ?_
      simp +contextual only [go_sem, hlen2, hlv2, Rn.enc, cdD, cdN, gdT, gdF, gdD, Nat.reduceLT, Nat.reduceEqDiff, Nat.reduceAdd, Nat.reduceLeDiff, reduceIte, reduceCtorEq]
      refine ldmem_eq (app89 (acellsOf_rs (by simp only [go_sem, cdD, cdN, gdT, gdF, gdD, Nat.reduceLT, Nat.reduceEqDiff, Nat.reduceAdd, Nat.reduceLeDiff, reduceIte, reduceCtorEq]; rfl) (by rfl) rfl) (by decide) (by simp only [go_sem, cdD, cdN, gdT, gdF, gdD, Nat.reduceLT, Nat.reduceEqDiff, Nat.reduceAdd, Nat.reduceLeDiff, reduceIte, reduceCtorEq]) (by simp only [go_sem, cdD, cdN, gdT, gdF, gdD, Nat.reduceLT, Nat.reduceEqDiff, Nat.reduceAdd, Nat.reduceLeDiff, reduceIte, reduceCtorEq]) (rnc_len (O ++ takeO k Q)) (by simp only [List.length_append]; omega) rfl) ?_
      simp +contextual only [go_sem, hlen2, hlv2, hw2, hw3, cdD, cdN, gdT, gdF, gdD, Nat.reduceLT, Nat.reduceEqDiff, Nat.reduceAdd, Nat.reduceLeDiff, reduceIte, reduceCtorEq]
      refine ⟨by kernel_rfl, (i + 1, at_ + k + c, e.at_ + e.cut, o2, D2, restO c (restO k Q), (O ++ takeO k Q) ++ [⟨0, 0, e.new⟩]), ⟨by simp only; omega, hD2, q4, by simp only; omega, .inl (by simp only; omega), c6, by simp only [List.length_append, List.length_singleton]; omega, ?_⟩, by simp only; omega, ?_⟩
      · rw [← hE]
        simp only [List.append_assoc, List.cons_append, List.nil_append]
      · refine To.go [0, 1, 15] _ rfl (.refl s) (by decide) (by simp) ?_ ?_
        · simp +contextual only [go_sem, hlen2, hlv2, pu_ren ha.pu, pu_ren hb.pu, cdD, cdN, gdT, gdF, gdD, Nat.reduceLT, Nat.reduceEqDiff, Nat.reduceAdd, Nat.reduceLeDiff, reduceIte, reduceCtorEq]
        · simp only [go_sem, map_gso_pu (rnc_pul _), pul_ren hD2.pu, ren_gsv, cdD, cdN, gdT, gdF, gdD, Nat.reduceLT, Nat.reduceEqDiff, Nat.reduceAdd, Nat.reduceLeDiff, reduceIte, reduceCtorEq]
          rw [show ((O ++ takeO k Q) ++ [(⟨0, 0, e.new⟩ : Rn)]).length = (O ++ takeO k Q).length + 1 from List.length_append, gsv_pos (Nat.succ_ne_zero _), gso_pos (by rw [rnc_snoc]; simp), rnc_snoc]
          exact ⟨rfl, rfl⟩
    · have hi2 : i = b.length := by omega
      rw [hi2, List.drop_length, outs] at hE
      have hw1 : IntKind.i64.wrap ((M : Int) - (at_ : Int)) = ((M - at_ : Nat) : Int) := by rw [wrap_id (by omega)]; omega
      have q3 := takeO_len Q (M - at_) hQ
      refine lfunG_eq (longE n av a ha (by omega) _) ?_
      simp +contextual only [go_sem, hlen1, hlv, hM, hw1, cdD, cdN, gdT, gdF, gdD, Nat.reduceLT, Nat.reduceEqDiff, Nat.reduceAdd, Nat.reduceLeDiff, reduceIte, reduceCtorEq]
      refine lfunG_to (lv := [(0, .int .i64 n), (7, .ptr (nm s.nx 0) 0), (51, .ptr (nm s.nx 0) 0), (56, .int .i64 ((M - at_ : Nat) : Int))])
        (h := loc s 4 [(0, some (.cells [.rs 3 (nm s.nx 1) q Q.length, gsv 3 (nm s.nx 2) O.length] (some 135))), (1, some (.cells D (some 98))), (2, gso 98 (rnc O)), (3, none)]) (To.go [0, 1, 2, 9] _ rfl (.refl s) (by decide) (by simp) ?_ ?_) ?_
      · simp +contextual only [go_sem, hlen1, hlv, cdD, cdN, gdT, gdF, gdD, Nat.reduceLT, Nat.reduceEqDiff, Nat.reduceAdd, Nat.reduceLeDiff, reduceIte, reduceCtorEq]
      · simp only [go_sem, map_gso_pu (rnc_pul _), pul_ren hD.pu, ren_gsv, cdD, cdN, gdT, gdF, gdD, Nat.reduceLT, Nat.reduceEqDiff, Nat.reduceAdd, Nat.reduceLeDiff, reduceIte, reduceCtorEq]
      intro tm2 hlen2 hlv2
      simp only [go_sem, hlen1, cdD, cdN, gdT, gdF, gdD, Nat.reduceLT, Nat.reduceEqDiff, Nat.reduceAdd, Nat.reduceLeDiff, reduceIte, reduceCtorEq] at hlen2 hlv2
      simp +contextual only [go_sem, hlen2, hlv2, cdD, cdN, gdT, gdF, gdD, Nat.reduceLT, Nat.reduceEqDiff, Nat.reduceAdd, Nat.reduceLeDiff, reduceIte, reduceCtorEq]
      refine lfunG_of (keep_ok (M - at_) D q Q O none (by intro f; rfl) hD hQ (by omega) (by omega)) ?_
      rintro _ _ ⟨rfl, D1, o1, j, hj, hD1, rfl⟩
      rw [hE]
      have hfl : (outs M 0 L0 b).length ≤ 1000000000 := by rw [← hE, List.length_append]; omega
      rcases hj with rfl | rfl
      all_goals
        simp +contextual only [go_sem, hlen2, hlv2, cdD, cdN, gdT, gdF, gdD, Nat.reduceLT, Nat.reduceEqDiff, Nat.reduceAdd, Nat.reduceLeDiff, reduceIte, reduceCtorEq]
        first
        | refine lfunG_freezeG 2 3 ((outs M 0 L0 b).map Rn.enc) (by simp only [go_sem, cdD, cdN, gdT, gdF, gdD, Nat.reduceLT, Nat.reduceEqDiff, Nat.reduceAdd, Nat.reduceLeDiff, reduceIte, reduceCtorEq]; rfl) (rn_len _) (by decide) ?_
        | refine lfunG_freezeG 4 3 ((outs M 0 L0 b).map Rn.enc) (by simp only [go_sem, cdD, cdN, gdT, gdF, gdD, Nat.reduceLT, Nat.reduceEqDiff, Nat.reduceAdd, Nat.reduceLeDiff, reduceIte, reduceCtorEq]; rfl) (rn_len _) (by decide) ?_
        simp +contextual only [go_sem, hlen2, hlv2, len_rnfz, cdD, cdN, gdT, gdF, gdD, Nat.reduceLT, Nat.reduceEqDiff, Nat.reduceAdd, Nat.reduceLeDiff, reduceIte, reduceCtorEq]
        refine lfunG_eq (editsR_ok n (outs M 0 L0 b) (by omega) hF hfl _) ?_
        simp +contextual only [go_sem, hlen2, hlv2, cdD, cdN, gdT, gdF, gdD, Nat.reduceLT, Nat.reduceEqDiff, Nat.reduceAdd, Nat.reduceLeDiff, reduceIte, reduceCtorEq]
        exact lexit_pure (.refl s) (low.mono (Nat.zero_le _) (edv_pu _)) ⟨rfl, rfl⟩
end Go.S1N
end
section
namespace Go.S1N
open Go Go.Am Go.Proofs Go.S1
set_option maxRecDepth 100000
theorem rflow_cons (r : Rn) (l : List Rn) : rflow (r :: l) = rfl1 r ++ rflow l := List.flatMap_cons
theorem rfl1_emp {r : Rn} (h : r.emp) : rfl1 r = [] := by
  obtain ⟨h1, h2⟩ := h
  simp [rfl1, h1, h2]
theorem live_flow : ∀ L : List Rn, rflow (live L) = rflow L
  | [] => rfl
  | r :: L => by
    have ih := live_flow L
    unfold live at ih ⊢
    rw [List.filter_cons, rflow_cons]
    by_cases h : r.emp
    · rw [if_neg (by simp [h]), rfl1_emp h, ih]; rfl
    · rw [if_pos (by simp [h]), rflow_cons, ih]
theorem tot_flow : ∀ L : List Rn, (∀ r ∈ L, okR r) → tot L = (rflow L).length
  | [], _ => rfl
  | r :: L, h => by
    rw [tot, rflow_cons, List.length_append, rfl1_len (h r (List.mem_cons_self ..)), tot_flow L fun x hx => h x (List.mem_cons_of_mem r hx)]
theorem runs_w (n : Nat) : ∀ (l : List Ed) (a : Nat) (B : Int), (B = a ∨ (B = -1 ∧ a = 0)) → a ≤ n → scan n B l = 0 → (∀ e ∈ l, e.new.length ≤ 100000) → ∀ r ∈ runsFrom n a l, okR r ∧ r.at_ + r.long ≤ n ∧ r.text.length ≤ 100000
  | [], a, B, hB, ha, hs, hn, r, hr => by
    rw [runsFrom, List.mem_singleton] at hr
    subst hr
    exact ⟨⟨by simp only; omega, by simp only; omega, .inl rfl⟩, by simp only; omega, by simp⟩
  | e :: l, a, B, hB, ha, hs, hn, r, hr => by
    obtain ⟨c1, c2, c3, c4, c5, c6⟩ := scan_cons hs
    rw [runsFrom, List.mem_cons, List.mem_cons] at hr
    rcases hr with rfl | rfl | hr
    · exact ⟨⟨by simp only; omega, by simp only; omega, .inl rfl⟩, by simp only; omega, by simp⟩
    · exact ⟨⟨by simp only; omega, by simp only; omega, .inr rfl⟩, by simp only; omega, hn e (List.mem_cons_self ..)⟩
    · have he : e.at_ + e.cut = (((e.at_ + e.cut).toNat : Nat) : Int) := by omega
      rw [he] at hr
      exact runs_w n l (e.at_ + e.cut).toNat (e.at_ + e.cut) (.inl he) (by omega) c6 (fun x hx => hn x (List.mem_cons_of_mem e hx)) r hr
theorem over_app (F G H : List (Int × UInt8)) : overF F (G ++ H) = overF F G ++ overF F H := List.map_append
theorem over_neg (F : List (Int × UInt8)) (w : List UInt8) : overF F (negL w) = negL w := by
  unfold overF negL
  rw [List.map_map]
  refine List.map_congr_left fun c _ => ?_
  simp [overL]
theorem over_run (F : List (Int × UInt8)) (a k : Nat) (h : a + k ≤ F.length) : overF F (runOf a k) = (F.drop a).take k := by
  unfold overF runOf
  rw [List.map_map]
  apply List.ext_getElem
  · simp; omega
  · intro i h1 h2
    simp at h1 h2
    simp only [List.getElem_map, List.getElem_range', Function.comp_apply, List.getElem_take, List.getElem_drop, overL]
    rw [if_pos (by omega), List.getD_eq_getElem?_getD, List.getElem?_eq_getElem (by omega)]
    simp
    have hai : ((a : Int) + (i : Int)).toNat = a + i := by omega
    simp only [hai]
theorem outs_flow (F : List (Int × UInt8)) : ∀ (b : List Ed) (a : Nat) (B : Int) (Q : List Rn), (B = a ∨ (B = -1 ∧ a = 0)) → a ≤ F.length → scan F.length B b = 0 → (∀ r ∈ Q, okR r) → rflow Q = F.drop a → rflow (outs F.length a Q b) = overF F (flowFrom F.length a b)
  | [], a, B, Q, hB, ha, hs, hQ, hd => by
    rw [outs, flowFrom, over_run F a _ (by omega), (take_flow Q _ hQ).1, hd]
  | e :: b, a, B, Q, hB, ha, hs, hQ, hd => by
    obtain ⟨c1, c2, c3, c4, c5, c6⟩ := scan_cons hs
    have t1 := take_flow Q (e.at_ - a).toNat hQ
    have t2 := take_flow (restO (e.at_ - a).toNat Q) e.cut.toNat t1.2.2
    have he : e.at_ + e.cut = (((e.at_ + e.cut).toNat : Nat) : Int) := by omega
    rw [outs, flowFrom, over_app, over_app, over_run F a _ (by omega), rflow_app, rflow_cons, rfl1_fresh, t1.1, hd]
    rw [outs_flow F b (e.at_ + e.cut).toNat (e.at_ + e.cut) _ (.inl he) (by omega) c6 t2.2.2 (by
      rw [t2.2.1, t1.2.1, hd, List.drop_drop, List.drop_drop]
      congr 1; omega)]
    rw [show (e.at_ - (a : Int)).toNat = e.at_.toNat - a by omega, List.append_assoc]
    congr 2
    exact (over_neg F e.new).symm
theorem outs_b (M : Nat) : ∀ (b : List Ed) (a : Nat) (Q : List Rn), (∀ r ∈ Q, RB r ∧ r.text.length ≤ 1000000) → (∀ e ∈ b, e.new.length ≤ 100000) → ∀ r ∈ outs M a Q b, 0 ≤ r.at_ ∧ r.at_ ≤ 1000000000 ∧ r.at_ + r.long ≤ 1000000000 ∧ 0 ≤ r.long ∧ r.text.length ≤ 1000000 := by
  have take : ∀ (Q : List Rn) (k : Nat), (∀ r ∈ Q, RB r ∧ r.text.length ≤ 1000000) → ∀ r ∈ takeO k Q, 0 ≤ r.at_ ∧ r.at_ ≤ 1000000000 ∧ r.at_ + r.long ≤ 1000000000 ∧ 0 ≤ r.long ∧ r.text.length ≤ 1000000 := by
    intro Q
    induction Q with
    | nil => intro k _ r hr; simp [takeO] at hr
    | cons q Q ih =>
      intro k hQ r hr
      have hq := hQ q (List.mem_cons_self ..)
      have cut : ∀ k, k ≤ rsize q → 0 ≤ (cutR q k).at_ ∧ (cutR q k).at_ ≤ 1000000000 ∧ (cutR q k).at_ + (cutR q k).long ≤ 1000000000 ∧ 0 ≤ (cutR q k).long ∧ (cutR q k).text.length ≤ 1000000 := by
        intro k hk
        obtain ⟨⟨⟨a1, a2, a3⟩, a4, a5, a6⟩, a7⟩ := hq
        unfold cutR
        split
        · refine ⟨by simp only; omega, by simp only; omega, by simp only; omega, by simp only; omega, ?_⟩
          simp only [List.length_take]; omega
        · rename_i ht
          have ht : q.text = [] := by simpa using ht
          unfold rsize at hk
          rw [ht] at hk
          simp at hk
          exact ⟨a5, by simp only; omega, by simp only; omega, by simp only; omega, by simp⟩
      rw [takeO] at hr
      split at hr
      · cases hr
      · split at hr
        · rw [List.mem_singleton] at hr
          subst hr
          exact cut _ (by omega)
        · rcases List.mem_cons.1 hr with rfl | hr
          · exact cut _ (Nat.le_refl _)
          · exact ih _ (fun x hx => hQ x (List.mem_cons_of_mem q hx)) r hr
  have rest : ∀ (Q : List Rn) (k : Nat), (∀ r ∈ Q, RB r ∧ r.text.length ≤ 1000000) → ∀ r ∈ restO k Q, RB r ∧ r.text.length ≤ 1000000 := by
    intro Q
    induction Q with
    | nil => intro k _ r hr; simp [restO] at hr
    | cons q Q ih =>
      intro k hQ r hr
      have hq := hQ q (List.mem_cons_self ..)
      rw [restO] at hr
      split at hr
      · exact hQ r hr
      · split at hr
        · rename_i h1
          rcases List.mem_cons.1 hr with rfl | hr
          · refine ⟨hq.1.rest h1, ?_⟩
            unfold restR
            split
            · simp only [List.length_drop]; omega
            · simp
          · exact hQ r (List.mem_cons_of_mem q hr)
        · exact ih _ (fun x hx => hQ x (List.mem_cons_of_mem q hx)) r hr
  intro b
  induction b with
  | nil => intro a Q hQ _ r hr; exact take Q _ hQ r hr
  | cons e b ih =>
    intro a Q hQ hb r hr
    rw [outs] at hr
    rcases List.mem_append.1 hr with hr | hr
    · exact take Q _ hQ r hr
    · rcases List.mem_cons.1 hr with rfl | hr
      · exact ⟨by simp only; omega, by simp only; omega, by simp only; omega, by simp only; omega, by have := hb e (List.mem_cons_self ..); simp only; omega⟩
      · exact ih _ _ (rest _ _ (rest _ _ hQ)) (fun x hx => hb x (List.mem_cons_of_mem e hx)) r hr
theorem thenE_ok (n : Nat) (av bv : AV) (a b : List Ed) (ha : SlE av a) (hb : SlE bv b) (hn : n ≤ 20000) (hfa : faultOf n a = 0) (hfb : faultOf (flowFrom n 0 a).length b = 0) (hna : ∀ e ∈ a, e.new.length ≤ 100000) (hnb : ∀ e ∈ b, e.new.length ≤ 100000) (s : AHeap) :
    ACall Tryz.prog 39 [.int .i64 n, av, bv] s fun r t => r = edv (edGo n 0 [] (overF (flowFrom n 0 a) (flowFrom (flowFrom n 0 a).length 0 b))) ∧ t = s := by
  obtain ⟨_, _, ha2, hsa⟩ := faultOf_zero hfa
  obtain ⟨_, hM, hb2, hsb⟩ := faultOf_zero hfb
  obtain ⟨q1, q2⟩ := flow_short hfa hna
  have hw := runs_w n a 0 (-1) (.inr ⟨rfl, rfl⟩) (by omega) hsa hna
  have hRB : ∀ r ∈ live (runsFrom n 0 a), RB r ∧ r.text.length ≤ 1000000 := by
    intro r hr
    obtain ⟨h1, h2⟩ := List.mem_filter.1 hr
    obtain ⟨g1, g2, g3⟩ := hw r h1
    have hne : ¬ r.emp := by simpa using h2
    refine ⟨⟨g1, ?_, g1.1, by omega⟩, by omega⟩
    unfold rsize
    rcases Nat.eq_zero_or_pos (max r.long.toNat r.text.length) with h | h
    · exfalso
      refine hne ⟨?_, List.eq_nil_of_length_eq_zero (by omega)⟩
      have := g1.2.1
      omega
    · exact h
  have hfl : rflow (live (runsFrom n 0 a)) = flowFrom n 0 a := by
    rw [live_flow]; exact runs_flow n a 0 (-1) (.inr ⟨rfl, rfl⟩) (by omega) hsa
  have htot : tot (live (runsFrom n 0 a)) = (flowFrom n 0 a).length := by rw [tot_flow _ fun r hr => (hRB r hr).1.ok, hfl]
  have hob := outs_b (flowFrom n 0 a).length b 0 _ hRB hnb
  have key := then_ok n av bv a b ha hb ha2 hb2 (by omega) (by omega) hsa (flowFrom n 0 a).length q2 q1 (fun r hr => (hRB r hr).1) htot hsb hob (by rw [runs_len]; omega) s
  rw [rGo_flow n _ 0 [] fun r hr => (hob r hr).1, outs_flow (flowFrom n 0 a) b 0 (-1) _ (.inr ⟨rfl, rfl⟩) (by omega) hsb (fun r hr => (hRB r hr).1.ok) (by rw [hfl]; rfl)] at key
  exact key
end Go.S1N
end
section
namespace Go.S1N
open Go Go.Am Go.Proofs Go.S1
set_option maxRecDepth 100000
theorem push_len (a : Int) (w : List UInt8) (to : Int) : (pushE a w to).length ≤ 1 := by unfold pushE; split <;> simp
theorem ed_len (n : Int) : ∀ (F : List (Int × UInt8)) (a : Int) (w : List UInt8), (edGo n a w F).length ≤ F.length + 1
  | [], a, w => by rw [edGo]; have := push_len a w n; simpa using this
  | p :: F, a, w => by
    rw [edGo, List.length_cons]
    split
    · have := ed_len n F a (w ++ [p.2]); omega
    · rw [List.length_append]
      have := ed_len n F (p.1 + 1) []
      have := push_len a w p.1
      omega
theorem long_flow7 {n : Nat} {l : List Ed} (hn : n ≤ 20000) (hl : l.length ≤ 2000) (hnew : ∀ e ∈ l, e.new.length ≤ 100000) (hs : scan n (-1) l = 0) : longOf n l = (flowFrom n 0 l).length := by
  have q1 := flow_dl n l 0 (-1) (.inr ⟨rfl, rfl⟩) (by omega) hs
  have q2 := long_dl l n (fun e he => ⟨hnew e he, by have := scan_range l _ hs e he; omega⟩) (by omega) (by omega)
  omega
theorem fault_mk {n : Nat} {l : List Ed} (hn : n ≤ 20000) (hl : l.length ≤ 2000) (hnew : ∀ e ∈ l, e.new.length ≤ 100000) (hs : scan n (-1) l = 0) (hf : (flowFrom n 0 l).length ≤ 20000) : faultOf n l = 0 := by
  have := long_flow7 hn hl hnew hs
  rw [faultOf, if_neg (by omega), if_neg (by omega), if_neg (by rw [hs]; decide), if_neg (by omega)]
theorem over_len (F G : List (Int × UInt8)) : (overF F G).length = G.length := by simp [overF]
theorem then_small {n : Nat} {a b : List Ed} (ha : faultOf n a = 0) (hb : faultOf (flowFrom n 0 a).length b = 0) (hs : (flowFrom (flowFrom n 0 a).length 0 b).length ≤ 1999) :
    thenVal n a b = (edGo n 0 [] (overF (flowFrom n 0 a) (flowFrom (flowFrom n 0 a).length 0 b)), 0) ∧
    faultOf n (edGo n 0 [] (overF (flowFrom n 0 a) (flowFrom (flowFrom n 0 a).length 0 b))) = 0 ∧
    flowFrom n 0 (edGo n 0 [] (overF (flowFrom n 0 a) (flowFrom (flowFrom n 0 a).length 0 b))) = overF (flowFrom n 0 a) (flowFrom (flowFrom n 0 a).length 0 b) := by
  obtain ⟨_, hn, _, sa⟩ := faultOf_zero ha
  obtain ⟨_, _, _, sb⟩ := faultOf_zero hb
  obtain ⟨r1, r2⟩ := over_right n a b sa sb
  have hl := ed_len n (overF (flowFrom n 0 a) (flowFrom (flowFrom n 0 a).length 0 b)) 0 []
  have hov := over_len (flowFrom n 0 a) (flowFrom (flowFrom n 0 a).length 0 b)
  refine ⟨?_, fault_mk (by omega) (by omega) (fun e he => ?_) r1 (by rw [r2]; omega), r2⟩
  · rw [thenVal, if_neg (by rw [ha]; decide), if_neg (by rw [hb]; decide), if_neg (by omega)]
  · have := ed_new n _ 0 [] e he
    simp only [List.length_nil] at this
    omega
end Go.S1N
end
section
namespace Go.S1
open Go Go.Am Go.Proofs
set_option maxRecDepth 100000
noncomputable def L21 : LCode := .seq (.ops [⟨.assign (.const (.slice none 0 0)), some 6, none⟩, ⟨.assign (.const (.slice none 0 0)), some 7, none⟩, ⟨.assign (.const (.int .i64 0)), some 8, none⟩]) (.seq (.seq (.ops [⟨.move (.tmp 0), some 13, none⟩, ⟨.move (.tmp 1), some 14, none⟩, ⟨.move (.tmp 2), some 15, none⟩, ⟨.call { callee := .value (.func 42), args := { toList := [.tmp 13, .tmp 14, .tmp 15] }, argTypes := { toList := [3, 27, 27] } }, some 16, none⟩, ⟨.assign (.tmp 16), some 9, none⟩]) (.seq (.ops [⟨.move (.tmp 9), some 17, none⟩, ⟨.binOp .neq 29 (.tmp 17) (.const (.int .i64 0)) 29, some 18, none⟩]) (.cond (.tmp 18) (.seq (.ops [⟨.move (.tmp 9), some 19, none⟩, ⟨.assign (.const (.slice none 0 0)), some 6, none⟩, ⟨.assign (.const (.slice none 0 0)), some 7, none⟩, ⟨.assign (.tmp 19), some 8, none⟩]) .ret) .skip))) (.seq (.ops [⟨.move (.tmp 0), some 20, none⟩, ⟨.move (.tmp 1), some 21, none⟩, ⟨.move (.tmp 2), some 22, none⟩, ⟨.call { callee := .value (.func 43), args := { toList := [.tmp 20, .tmp 21, .tmp 22] }, argTypes := { toList := [3, 27, 27] } }, some 23, none⟩, ⟨.alloc 91, some 10, none⟩, ⟨.store 91 (.tmp 10) (.tmp 23), none, none⟩]) (.seq (.draw [0, 0, 3, 0, 8, 31, 0, 0, 255, 0, 512, 2047, 4095, 8191] [⟨.move (.tmp 0), some 24, none⟩, ⟨.move (.tmp 1), some 25, none⟩, ⟨.call { callee := .value (.func 38), args := { toList := [.tmp 24, .tmp 25] }, argTypes := { toList := [3, 27] } }, some 26, none⟩, ⟨.fieldAddr 91 (.tmp 10) 1, some 27, none⟩, ⟨.load 89 (.tmp 27), some 28, none⟩, ⟨.call { callee := .value (.func 44), args := { toList := [.tmp 26, .tmp 28] }, argTypes := { toList := [3, 89] } }, some 29, none⟩, ⟨.move (.tmp 0), some 30, none⟩, ⟨.move (.tmp 2), some 31, none⟩, ⟨.call { callee := .value (.func 38), args := { toList := [.tmp 30, .tmp 31] }, argTypes := { toList := [3, 27] } }, some 32, none⟩, ⟨.fieldAddr 91 (.tmp 10) 2, some 33, none⟩, ⟨.load 89 (.tmp 33), some 34, none⟩, ⟨.call { callee := .value (.func 44), args := { toList := [.tmp 32, .tmp 34] }, argTypes := { toList := [3, 89] } }, some 35, none⟩, ⟨.assign (.tmp 29), some 11, none⟩, ⟨.assign (.tmp 35), some 12, none⟩]) (.seq (.seq (.ops [⟨.move (.tmp 11), some 36, none⟩, ⟨.call { callee := .builtin .len, args := { toList := [.tmp 36] }, argTypes := { toList := [27] } }, some 37, none⟩, ⟨.binOp .gtr 3 (.tmp 37) (.const (.int .i64 2000)) 3, some 38, none⟩, ⟨.move (.tmp 38), some 39, none⟩, ⟨.move (.tmp 12), some 40, some (39, false)⟩, ⟨.call { callee := .builtin .len, args := { toList := [.tmp 40] }, argTypes := { toList := [27] } }, some 41, some (39, false)⟩, ⟨.binOp .gtr 3 (.tmp 41) (.const (.int .i64 2000)) 3, some 42, some (39, false)⟩, ⟨.pick (.tmp 39) (.const (.bool true)) (.tmp 42), some 43, none⟩, ⟨.move (.tmp 43), some 44, none⟩, ⟨.fieldAddr 91 (.tmp 10) 3, some 45, some (44, false)⟩, ⟨.load 3 (.tmp 45), some 46, some (44, false)⟩, ⟨.binOp .gtr 3 (.tmp 46) (.const (.int .i64 20000)) 3, some 47, some (44, false)⟩, ⟨.pick (.tmp 44) (.const (.bool true)) (.tmp 47), some 48, none⟩]) (.cond (.tmp 48) (.seq (.ops [⟨.assign (.const (.slice none 0 0)), some 6, none⟩, ⟨.assign (.const (.slice none 0 0)), some 7, none⟩, ⟨.assign (.const (.int .i64 2)), some 8, none⟩]) .ret) .skip)) (.seq (.ops [⟨.move (.tmp 11), some 49, none⟩, ⟨.move (.tmp 12), some 50, none⟩, ⟨.assign (.tmp 49), some 6, none⟩, ⟨.assign (.tmp 50), some 7, none⟩, ⟨.assign (.const (.int .i64 0)), some 8, none⟩]) .ret)))))
theorem l21 : Tryz.f21.body.map lighten = some L21 := by kernel_rfl
theorem rs21 : Tryz.f21.results.toList = [ResultVar.tmp 6, ResultVar.tmp 7, ResultVar.tmp 8] := by kernel_rfl
theorem nt21 : Tryz.f21.ntmps = 51 := by kernel_rfl
theorem gob21 {args : List AV} {s : AHeap} {R : AV → AHeap → Prop} (hl : args.length ≤ 51) (h : ∀ tm, tm.length = 51 → (∀ i, aev tm (.tmp i) = args.getD i aundef) → lvb Tryz.prog tab s L21 (lpostB tab s [ResultVar.tmp 6, ResultVar.tmp 7, ResultVar.tmp 8] R) tm (loc s 0 [])) : ACall Tryz.prog 21 args s R := ACall.goB tab_ok mixed Tryz.func21 l21 nm21 rs21 nt21 hl h
noncomputable def L22 : LCode := .seq (.ops [⟨.assign (.const (.slice none 0 0)), some 6, none⟩, ⟨.assign (.const (.int .i64 0)), some 7, none⟩]) (.seq (.seq (.ops [⟨.move (.tmp 0), some 11, none⟩, ⟨.move (.tmp 1), some 12, none⟩, ⟨.move (.tmp 2), some 13, none⟩, ⟨.call { callee := .value (.func 42), args := { toList := [.tmp 11, .tmp 12, .tmp 13] }, argTypes := { toList := [3, 27, 27] } }, some 14, none⟩, ⟨.assign (.tmp 14), some 8, none⟩]) (.seq (.ops [⟨.move (.tmp 8), some 15, none⟩, ⟨.binOp .neq 29 (.tmp 15) (.const (.int .i64 0)) 29, some 16, none⟩]) (.cond (.tmp 16) (.seq (.ops [⟨.move (.tmp 8), some 17, none⟩, ⟨.assign (.const (.slice none 0 0)), some 6, none⟩, ⟨.assign (.tmp 17), some 7, none⟩]) .ret) .skip))) (.seq (.ops [⟨.move (.tmp 0), some 18, none⟩, ⟨.move (.tmp 1), some 19, none⟩, ⟨.move (.tmp 2), some 20, none⟩, ⟨.call { callee := .value (.func 43), args := { toList := [.tmp 18, .tmp 19, .tmp 20] }, argTypes := { toList := [3, 27, 27] } }, some 21, none⟩, ⟨.alloc 91, some 9, none⟩, ⟨.store 91 (.tmp 9) (.tmp 21), none, none⟩]) (.seq (.ops [⟨.move (.tmp 0), some 22, none⟩, ⟨.fieldAddr 91 (.tmp 9) 0, some 23, none⟩, ⟨.load 89 (.tmp 23), some 24, none⟩, ⟨.call { callee := .value (.func 44), args := { toList := [.tmp 22, .tmp 24] }, argTypes := { toList := [3, 89] } }, some 25, none⟩, ⟨.assign (.tmp 25), some 10, none⟩]) (.seq (.seq (.ops [⟨.move (.tmp 10), some 26, none⟩, ⟨.call { callee := .builtin .len, args := { toList := [.tmp 26] }, argTypes := { toList := [27] } }, some 27, none⟩, ⟨.binOp .gtr 3 (.tmp 27) (.const (.int .i64 2000)) 3, some 28, none⟩, ⟨.move (.tmp 28), some 29, none⟩, ⟨.fieldAddr 91 (.tmp 9) 3, some 30, some (29, false)⟩, ⟨.load 3 (.tmp 30), some 31, some (29, false)⟩, ⟨.binOp .gtr 3 (.tmp 31) (.const (.int .i64 20000)) 3, some 32, some (29, false)⟩, ⟨.pick (.tmp 29) (.const (.bool true)) (.tmp 32), some 33, none⟩]) (.cond (.tmp 33) (.seq (.ops [⟨.assign (.const (.slice none 0 0)), some 6, none⟩, ⟨.assign (.const (.int .i64 2)), some 7, none⟩]) .ret) .skip)) (.seq (.ops [⟨.move (.tmp 10), some 34, none⟩, ⟨.assign (.tmp 34), some 6, none⟩, ⟨.assign (.const (.int .i64 0)), some 7, none⟩]) .ret)))))
theorem l22 : Tryz.f22.body.map lighten = some L22 := by kernel_rfl
theorem rs22 : Tryz.f22.results.toList = [ResultVar.tmp 6, ResultVar.tmp 7] := by kernel_rfl
theorem nt22 : Tryz.f22.ntmps = 35 := by kernel_rfl
theorem gob22 {args : List AV} {s : AHeap} {R : AV → AHeap → Prop} (hl : args.length ≤ 35) (h : ∀ tm, tm.length = 35 → (∀ i, aev tm (.tmp i) = args.getD i aundef) → lvb Tryz.prog tab s L22 (lpostB tab s [ResultVar.tmp 6, ResultVar.tmp 7] R) tm (loc s 0 [])) : ACall Tryz.prog 22 args s R := ACall.goB tab_ok mixed Tryz.func22 l22 nm22 rs22 nt22 hl h
noncomputable def L24 : LCode := .seq (.ops [⟨.assign (.const (.bool false)), some 6, none⟩, ⟨.assign (.const (.int .i64 0)), some 7, none⟩]) (.seq (.seq (.ops [⟨.move (.tmp 0), some 12, none⟩, ⟨.move (.tmp 1), some 13, none⟩, ⟨.move (.tmp 2), some 14, none⟩, ⟨.call { callee := .value (.func 42), args := { toList := [.tmp 12, .tmp 13, .tmp 14] }, argTypes := { toList := [3, 27, 27] } }, some 15, none⟩, ⟨.assign (.tmp 15), some 8, none⟩]) (.seq (.ops [⟨.move (.tmp 8), some 16, none⟩, ⟨.binOp .neq 29 (.tmp 16) (.const (.int .i64 0)) 29, some 17, none⟩]) (.cond (.tmp 17) (.seq (.ops [⟨.move (.tmp 8), some 18, none⟩, ⟨.assign (.const (.bool false)), some 6, none⟩, ⟨.assign (.tmp 18), some 7, none⟩]) .ret) .skip))) (.seq (.ops [⟨.assign (.const (.int .i64 0)), some 9, none⟩]) (.seq (.seq (.ops [⟨.move (.tmp 1), some 19, none⟩, ⟨.call { callee := .builtin .len, args := { toList := [.tmp 19] }, argTypes := { toList := [27] } }, some 20, none⟩, ⟨.move (.const (.int .i64 0)), some 21, none⟩]) (.block 0 (.loop (.seq (.ops [⟨.binOp .lss 3 (.tmp 21) (.tmp 20) 3, some 22, none⟩]) (.seq (.cond (.tmp 22) .skip (.exit 0)) (.seq (.block 1 (.seq (.ops [⟨.indexAddr 27 (.tmp 19) (.tmp 21), some 23, none⟩, ⟨.load 37 (.tmp 23), some 24, none⟩, ⟨.alloc 37, some 11, none⟩, ⟨.store 37 (.tmp 11) (.tmp 24), none, none⟩]) (.seq (.block 2 (.loop (.seq (.seq (.draw [0, 0, 2, 7, 15, 31, 31, 127, 255, 511, 31, 31, 3103, 7199, 15391, 32767, 31, 65567, 262143, 524287] [⟨.move (.tmp 9), some 25, none⟩, ⟨.move (.tmp 2), some 26, none⟩, ⟨.call { callee := .builtin .len, args := { toList := [.tmp 26] }, argTypes := { toList := [27] } }, some 27, none⟩, ⟨.binOp .lss 3 (.tmp 25) (.tmp 27) 3, some 28, none⟩, ⟨.move (.tmp 28), some 29, none⟩, ⟨.move (.tmp 2), some 30, some (29, true)⟩, ⟨.move (.tmp 9), some 31, some (29, true)⟩, ⟨.indexAddr 27 (.tmp 30) (.tmp 31), some 32, some (29, true)⟩, ⟨.fieldAddr 37 (.tmp 32) 0, some 33, some (29, true)⟩, ⟨.load 3 (.tmp 33), some 34, some (29, true)⟩, ⟨.move (.tmp 2), some 35, some (29, true)⟩, ⟨.move (.tmp 9), some 36, some (29, true)⟩, ⟨.indexAddr 27 (.tmp 35) (.tmp 36), some 37, some (29, true)⟩, ⟨.fieldAddr 37 (.tmp 37) 1, some 38, some (29, true)⟩, ⟨.load 3 (.tmp 38), some 39, some (29, true)⟩, ⟨.binOp .add 3 (.tmp 34) (.tmp 39) 3, some 40, some (29, true)⟩, ⟨.fieldAddr 37 (.tmp 11) 0, some 41, some (29, true)⟩, ⟨.load 3 (.tmp 41), some 42, some (29, true)⟩, ⟨.binOp .lss 3 (.tmp 40) (.tmp 42) 3, some 43, some (29, true)⟩, ⟨.pick (.tmp 29) (.tmp 43) (.const (.bool false)), some 44, none⟩]) (.cond (.tmp 44) .skip (.exit 2))) (.block 3 (.ops [⟨.move (.tmp 9), some 45, none⟩, ⟨.binOp .add 3 (.tmp 45) (.const (.int .i64 1)) 3, some 46, none⟩, ⟨.assign (.tmp 46), some 9, none⟩]))))) (.seq (.draw [0, 0, 2, 7, 15, 31, 31, 127, 255, 511, 31, 1055, 31, 4127, 15391, 32767, 65535] [⟨.move (.tmp 9), some 47, none⟩, ⟨.move (.tmp 2), some 48, none⟩, ⟨.call { callee := .builtin .len, args := { toList := [.tmp 48] }, argTypes := { toList := [27] } }, some 49, none⟩, ⟨.binOp .lss 3 (.tmp 47) (.tmp 49) 3, some 50, none⟩, ⟨.move (.tmp 50), some 51, none⟩, ⟨.move (.tmp 2), some 52, some (51, true)⟩, ⟨.move (.tmp 9), some 53, some (51, true)⟩, ⟨.indexAddr 27 (.tmp 52) (.tmp 53), some 54, some (51, true)⟩, ⟨.fieldAddr 37 (.tmp 54) 0, some 55, some (51, true)⟩, ⟨.load 3 (.tmp 55), some 56, some (51, true)⟩, ⟨.fieldAddr 37 (.tmp 11) 0, some 57, some (51, true)⟩, ⟨.load 3 (.tmp 57), some 58, some (51, true)⟩, ⟨.fieldAddr 37 (.tmp 11) 1, some 59, some (51, true)⟩, ⟨.load 3 (.tmp 59), some 60, some (51, true)⟩, ⟨.binOp .add 3 (.tmp 58) (.tmp 60) 3, some 61, some (51, true)⟩, ⟨.binOp .leq 3 (.tmp 56) (.tmp 61) 3, some 62, some (51, true)⟩, ⟨.pick (.tmp 51) (.tmp 62) (.const (.bool false)), some 63, none⟩]) (.cond (.tmp 63) (.seq (.ops [⟨.assign (.const (.bool true)), some 6, none⟩, ⟨.assign (.const (.int .i64 0)), some 7, none⟩]) .ret) .skip))))) (.ops [⟨.binOp .add 3 (.tmp 21) (.const (.int .i64 1)) 3, some 64, none⟩, ⟨.move (.tmp 64), some 21, none⟩]))))))) (.seq (.ops [⟨.assign (.const (.bool false)), some 6, none⟩, ⟨.assign (.const (.int .i64 0)), some 7, none⟩]) .ret))))
theorem l24 : Tryz.f24.body.map lighten = some L24 := by kernel_rfl
theorem rs24 : Tryz.f24.results.toList = [ResultVar.tmp 6, ResultVar.tmp 7] := by kernel_rfl
theorem nt24 : Tryz.f24.ntmps = 65 := by kernel_rfl
theorem gob24 {args : List AV} {s : AHeap} {R : AV → AHeap → Prop} (hl : args.length ≤ 65) (h : ∀ tm, tm.length = 65 → (∀ i, aev tm (.tmp i) = args.getD i aundef) → lvb Tryz.prog tab s L24 (lpostB tab s [ResultVar.tmp 6, ResultVar.tmp 7] R) tm (loc s 0 [])) : ACall Tryz.prog 24 args s R := ACall.goB tab_ok mixed Tryz.func24 l24 nm24 rs24 nt24 hl h
noncomputable def L42 : LCode := .seq (.ops [⟨.assign (.const (.int .i64 0)), some 6, none⟩]) (.seq (.seq (.ops [⟨.move (.tmp 0), some 8, none⟩, ⟨.move (.tmp 1), some 9, none⟩, ⟨.call { callee := .value (.func 37), args := { toList := [.tmp 8, .tmp 9] }, argTypes := { toList := [3, 27] } }, some 10, none⟩, ⟨.assign (.tmp 10), some 7, none⟩]) (.seq (.ops [⟨.move (.tmp 7), some 11, none⟩, ⟨.binOp .neq 29 (.tmp 11) (.const (.int .i64 0)) 29, some 12, none⟩]) (.cond (.tmp 12) (.seq (.ops [⟨.move (.tmp 7), some 13, none⟩, ⟨.assign (.tmp 13), some 6, none⟩]) .ret) .skip))) (.seq (.ops [⟨.move (.tmp 0), some 14, none⟩, ⟨.move (.tmp 2), some 15, none⟩, ⟨.call { callee := .value (.func 37), args := { toList := [.tmp 14, .tmp 15] }, argTypes := { toList := [3, 27] } }, some 16, none⟩, ⟨.assign (.tmp 16), some 6, none⟩]) .ret))
theorem l42 : Tryz.f42.body.map lighten = some L42 := by kernel_rfl
theorem rs42 : Tryz.f42.results.toList = [ResultVar.tmp 6] := by kernel_rfl
theorem nt42 : Tryz.f42.ntmps = 17 := by kernel_rfl
theorem gob42 {args : List AV} {s : AHeap} {R : AV → AHeap → Prop} (hl : args.length ≤ 17) (h : ∀ tm, tm.length = 17 → (∀ i, aev tm (.tmp i) = args.getD i aundef) → lvb Tryz.prog tab s L42 (lpostB tab s [ResultVar.tmp 6] R) tm (loc s 0 [])) : ACall Tryz.prog 42 args s R := ACall.goB tab_ok mixed Tryz.func42 l42 nm42 rs42 nt42 hl h
noncomputable def L43 : LCode := .seq (.ops [⟨.alloc 91, some 6, none⟩]) (.seq (.ops [⟨.alloc 91, some 7, none⟩]) (.seq (.ops [⟨.assign (.const (.int .i64 0)), some 8, none⟩, ⟨.assign (.const (.int .i64 0)), some 9, none⟩]) (.seq (.ops [⟨.move (.tmp 0), some 20, none⟩, ⟨.move (.tmp 1), some 21, none⟩, ⟨.move (.tmp 2), some 22, none⟩, ⟨.call { callee := .value (.func 72), args := { toList := [.tmp 20, .tmp 21, .tmp 22] }, argTypes := { toList := [3, 27, 27] } }, some 23, none⟩, ⟨.assign (.tmp 23), some 10, none⟩]) (.seq (.seq (.ops [⟨.move (.tmp 10), some 24, none⟩, ⟨.call { callee := .builtin .len, args := { toList := [.tmp 24] }, argTypes := { toList := [22] } }, some 25, none⟩, ⟨.move (.const (.int .i64 0)), some 26, none⟩]) (.block 0 (.loop (.seq (.ops [⟨.binOp .lss 3 (.tmp 26) (.tmp 25) 3, some 27, none⟩]) (.seq (.cond (.tmp 27) .skip (.exit 0)) (.seq (.block 1 (.seq (.ops [⟨.move (.tmp 26), some 28, none⟩, ⟨.indexAddr 22 (.tmp 24) (.tmp 26), some 29, none⟩, ⟨.load 3 (.tmp 29), some 30, none⟩, ⟨.assign (.tmp 28), some 11, none⟩, ⟨.assign (.tmp 30), some 12, none⟩]) (.seq (.seq (.ops [⟨.move (.tmp 1), some 32, none⟩, ⟨.move (.tmp 12), some 33, none⟩, ⟨.call { callee := .value (.func 73), args := { toList := [.tmp 32, .tmp 33] }, argTypes := { toList := [27, 3] } }, some 34, none⟩, ⟨.move (.tmp 34), some 31, none⟩, ⟨.extract (.tmp 31) 0, some 35, none⟩, ⟨.extract (.tmp 31) 1, some 36, none⟩, ⟨.assign (.tmp 35), some 13, none⟩, ⟨.assign (.tmp 36), some 14, none⟩]) (.seq (.ops [⟨.move (.tmp 14), some 37, none⟩]) (.cond (.tmp 37) (.seq (.draw [0, 1, 0, 4, 12, 31, 0, 64, 0, 0, 512, 1855, 3903, 8191, 0, 16384, 0, 81919, 212991, 524287, 49407, 2097151, 4194303, 8388607, 16777215, 33554431] [⟨.fieldAddr 91 (.tmp 7) 0, some 38, none⟩, ⟨.load 89 (.tmp 38), some 39, none⟩, ⟨.move (.tmp 13), some 40, none⟩, ⟨.call { callee := .value (.func 47), args := { toList := [.tmp 40] }, argTypes := { toList := [9] } }, some 41, none⟩, ⟨.buildSlice 89 1 { toList := [(0, .tmp 41)] }, some 42, none⟩, ⟨.call { callee := .builtin .append, args := { toList := [.tmp 39, .tmp 42] }, argTypes := { toList := [89, 89] } }, some 43, none⟩, ⟨.fieldAddr 91 (.tmp 7) 1, some 44, none⟩, ⟨.load 89 (.tmp 44), some 45, none⟩, ⟨.move (.tmp 8), some 46, none⟩, ⟨.move (.tmp 13), some 47, none⟩, ⟨.call { callee := .builtin .len, args := { toList := [.tmp 47] }, argTypes := { toList := [9] } }, some 48, none⟩, ⟨.call { callee := .value (.func 48), args := { toList := [.tmp 46, .tmp 48] }, argTypes := { toList := [3, 3] } }, some 49, none⟩, ⟨.buildSlice 89 1 { toList := [(0, .tmp 49)] }, some 50, none⟩, ⟨.call { callee := .builtin .append, args := { toList := [.tmp 45, .tmp 50] }, argTypes := { toList := [89, 89] } }, some 51, none⟩, ⟨.fieldAddr 91 (.tmp 7) 2, some 52, none⟩, ⟨.load 89 (.tmp 52), some 53, none⟩, ⟨.move (.tmp 13), some 54, none⟩, ⟨.call { callee := .value (.func 47), args := { toList := [.tmp 54] }, argTypes := { toList := [9] } }, some 55, none⟩, ⟨.buildSlice 89 1 { toList := [(0, .tmp 55)] }, some 56, none⟩, ⟨.call { callee := .builtin .append, args := { toList := [.tmp 53, .tmp 56] }, argTypes := { toList := [89, 89] } }, some 57, none⟩, ⟨.fieldAddr 91 (.tmp 7) 0, some 58, none⟩, ⟨.store 89 (.tmp 58) (.tmp 43), none, none⟩, ⟨.fieldAddr 91 (.tmp 7) 1, some 59, none⟩, ⟨.store 89 (.tmp 59) (.tmp 51), none, none⟩, ⟨.fieldAddr 91 (.tmp 7) 2, some 60, none⟩, ⟨.store 89 (.tmp 60) (.tmp 57), none, none⟩]) (.seq (.ops [⟨.move (.tmp 8), some 61, none⟩, ⟨.move (.tmp 13), some 62, none⟩, ⟨.call { callee := .builtin .len, args := { toList := [.tmp 62] }, argTypes := { toList := [9] } }, some 63, none⟩, ⟨.binOp .add 3 (.tmp 61) (.tmp 63) 3, some 64, none⟩, ⟨.assign (.tmp 64), some 8, none⟩]) (.ops [⟨.fieldAddr 91 (.tmp 7) 3, some 65, none⟩, ⟨.load 3 (.tmp 65), some 66, none⟩, ⟨.move (.tmp 13), some 67, none⟩, ⟨.call { callee := .builtin .len, args := { toList := [.tmp 67] }, argTypes := { toList := [9] } }, some 68, none⟩, ⟨.binOp .add 3 (.tmp 66) (.tmp 68) 3, some 69, none⟩, ⟨.fieldAddr 91 (.tmp 7) 3, some 70, none⟩, ⟨.store 3 (.tmp 70) (.tmp 69), none, none⟩]))) .skip))) (.seq (.seq (.ops [⟨.move (.tmp 2), some 72, none⟩, ⟨.move (.tmp 12), some 73, none⟩, ⟨.call { callee := .value (.func 73), args := { toList := [.tmp 72, .tmp 73] }, argTypes := { toList := [27, 3] } }, some 74, none⟩, ⟨.move (.tmp 74), some 71, none⟩, ⟨.extract (.tmp 71) 0, some 75, none⟩, ⟨.extract (.tmp 71) 1, some 76, none⟩, ⟨.assign (.tmp 75), some 15, none⟩, ⟨.assign (.tmp 76), some 16, none⟩]) (.seq (.ops [⟨.move (.tmp 16), some 77, none⟩]) (.cond (.tmp 77) (.seq (.draw [0, 1, 0, 4, 12, 31, 0, 64, 0, 319, 831, 2047, 0, 4096, 0, 0, 32768, 118783, 249855, 524287, 12543, 2097151, 4194303, 8388607, 16777215, 33554431] [⟨.fieldAddr 91 (.tmp 7) 0, some 78, none⟩, ⟨.load 89 (.tmp 78), some 79, none⟩, ⟨.move (.tmp 15), some 80, none⟩, ⟨.call { callee := .value (.func 47), args := { toList := [.tmp 80] }, argTypes := { toList := [9] } }, some 81, none⟩, ⟨.buildSlice 89 1 { toList := [(0, .tmp 81)] }, some 82, none⟩, ⟨.call { callee := .builtin .append, args := { toList := [.tmp 79, .tmp 82] }, argTypes := { toList := [89, 89] } }, some 83, none⟩, ⟨.fieldAddr 91 (.tmp 7) 1, some 84, none⟩, ⟨.load 89 (.tmp 84), some 85, none⟩, ⟨.move (.tmp 15), some 86, none⟩, ⟨.call { callee := .value (.func 47), args := { toList := [.tmp 86] }, argTypes := { toList := [9] } }, some 87, none⟩, ⟨.buildSlice 89 1 { toList := [(0, .tmp 87)] }, some 88, none⟩, ⟨.call { callee := .builtin .append, args := { toList := [.tmp 85, .tmp 88] }, argTypes := { toList := [89, 89] } }, some 89, none⟩, ⟨.fieldAddr 91 (.tmp 7) 2, some 90, none⟩, ⟨.load 89 (.tmp 90), some 91, none⟩, ⟨.move (.tmp 9), some 92, none⟩, ⟨.move (.tmp 15), some 93, none⟩, ⟨.call { callee := .builtin .len, args := { toList := [.tmp 93] }, argTypes := { toList := [9] } }, some 94, none⟩, ⟨.call { callee := .value (.func 48), args := { toList := [.tmp 92, .tmp 94] }, argTypes := { toList := [3, 3] } }, some 95, none⟩, ⟨.buildSlice 89 1 { toList := [(0, .tmp 95)] }, some 96, none⟩, ⟨.call { callee := .builtin .append, args := { toList := [.tmp 91, .tmp 96] }, argTypes := { toList := [89, 89] } }, some 97, none⟩, ⟨.fieldAddr 91 (.tmp 7) 0, some 98, none⟩, ⟨.store 89 (.tmp 98) (.tmp 83), none, none⟩, ⟨.fieldAddr 91 (.tmp 7) 1, some 99, none⟩, ⟨.store 89 (.tmp 99) (.tmp 89), none, none⟩, ⟨.fieldAddr 91 (.tmp 7) 2, some 100, none⟩, ⟨.store 89 (.tmp 100) (.tmp 97), none, none⟩]) (.seq (.ops [⟨.move (.tmp 9), some 101, none⟩, ⟨.move (.tmp 15), some 102, none⟩, ⟨.call { callee := .builtin .len, args := { toList := [.tmp 102] }, argTypes := { toList := [9] } }, some 103, none⟩, ⟨.binOp .add 3 (.tmp 101) (.tmp 103) 3, some 104, none⟩, ⟨.assign (.tmp 104), some 9, none⟩]) (.ops [⟨.fieldAddr 91 (.tmp 7) 3, some 105, none⟩, ⟨.load 3 (.tmp 105), some 106, none⟩, ⟨.move (.tmp 15), some 107, none⟩, ⟨.call { callee := .builtin .len, args := { toList := [.tmp 107] }, argTypes := { toList := [9] } }, some 108, none⟩, ⟨.binOp .add 3 (.tmp 106) (.tmp 108) 3, some 109, none⟩, ⟨.fieldAddr 91 (.tmp 7) 3, some 110, none⟩, ⟨.store 3 (.tmp 110) (.tmp 109), none, none⟩]))) .skip))) (.seq (.seq (.ops [⟨.move (.tmp 11), some 111, none⟩, ⟨.move (.tmp 10), some 112, none⟩, ⟨.call { callee := .builtin .len, args := { toList := [.tmp 112] }, argTypes := { toList := [22] } }, some 113, none⟩, ⟨.binOp .sub 3 (.tmp 113) (.const (.int .i64 1)) 3, some 114, none⟩, ⟨.binOp .eql 3 (.tmp 111) (.tmp 114) 3, some 115, none⟩]) (.cond (.tmp 115) (.exit 0) .skip)) (.seq (.ops [⟨.move (.tmp 10), some 116, none⟩, ⟨.move (.tmp 11), some 117, none⟩, ⟨.binOp .add 3 (.tmp 117) (.const (.int .i64 1)) 3, some 118, none⟩, ⟨.indexAddr 22 (.tmp 116) (.tmp 118), some 119, none⟩, ⟨.load 3 (.tmp 119), some 120, none⟩, ⟨.move (.tmp 12), some 121, none⟩, ⟨.binOp .sub 3 (.tmp 120) (.tmp 121) 3, some 122, none⟩, ⟨.assign (.tmp 122), some 17, none⟩]) (.seq (.ops [⟨.move (.tmp 1), some 123, none⟩, ⟨.move (.tmp 12), some 124, none⟩, ⟨.call { callee := .value (.func 74), args := { toList := [.tmp 123, .tmp 124] }, argTypes := { toList := [27, 3] } }, some 125, none⟩, ⟨.move (.tmp 2), some 126, none⟩, ⟨.move (.tmp 12), some 127, none⟩, ⟨.call { callee := .value (.func 74), args := { toList := [.tmp 126, .tmp 127] }, argTypes := { toList := [27, 3] } }, some 128, none⟩, ⟨.assign (.tmp 125), some 18, none⟩, ⟨.assign (.tmp 128), some 19, none⟩]) (.seq (.seq (.ops [⟨.move (.tmp 18), some 129, none⟩, ⟨.move (.tmp 129), some 130, none⟩, ⟨.move (.tmp 19), some 131, some (130, true)⟩, ⟨.pick (.tmp 130) (.tmp 131) (.const (.bool false)), some 132, none⟩]) (.cond (.tmp 132) (.seq (.draw [0, 1, 0, 0, 12, 28, 63, 0, 128, 0, 0, 1663, 3711, 8191, 0, 16384, 0, 0, 212991, 475135, 1048575, 49663, 4194303, 8388607, 16777215, 33554431, 67108863] [⟨.fieldAddr 91 (.tmp 7) 0, some 133, none⟩, ⟨.load 89 (.tmp 133), some 134, none⟩, ⟨.move (.tmp 12), some 135, none⟩, ⟨.move (.tmp 17), some 136, none⟩, ⟨.call { callee := .value (.func 48), args := { toList := [.tmp 135, .tmp 136] }, argTypes := { toList := [3, 3] } }, some 137, none⟩, ⟨.buildSlice 89 1 { toList := [(0, .tmp 137)] }, some 138, none⟩, ⟨.call { callee := .builtin .append, args := { toList := [.tmp 134, .tmp 138] }, argTypes := { toList := [89, 89] } }, some 139, none⟩, ⟨.fieldAddr 91 (.tmp 7) 1, some 140, none⟩, ⟨.load 89 (.tmp 140), some 141, none⟩, ⟨.move (.tmp 8), some 142, none⟩, ⟨.move (.tmp 17), some 143, none⟩, ⟨.call { callee := .value (.func 48), args := { toList := [.tmp 142, .tmp 143] }, argTypes := { toList := [3, 3] } }, some 144, none⟩, ⟨.buildSlice 89 1 { toList := [(0, .tmp 144)] }, some 145, none⟩, ⟨.call { callee := .builtin .append, args := { toList := [.tmp 141, .tmp 145] }, argTypes := { toList := [89, 89] } }, some 146, none⟩, ⟨.fieldAddr 91 (.tmp 7) 2, some 147, none⟩, ⟨.load 89 (.tmp 147), some 148, none⟩, ⟨.move (.tmp 9), some 149, none⟩, ⟨.move (.tmp 17), some 150, none⟩, ⟨.call { callee := .value (.func 48), args := { toList := [.tmp 149, .tmp 150] }, argTypes := { toList := [3, 3] } }, some 151, none⟩, ⟨.buildSlice 89 1 { toList := [(0, .tmp 151)] }, some 152, none⟩, ⟨.call { callee := .builtin .append, args := { toList := [.tmp 148, .tmp 152] }, argTypes := { toList := [89, 89] } }, some 153, none⟩, ⟨.fieldAddr 91 (.tmp 7) 0, some 154, none⟩, ⟨.store 89 (.tmp 154) (.tmp 139), none, none⟩, ⟨.fieldAddr 91 (.tmp 7) 1, some 155, none⟩, ⟨.store 89 (.tmp 155) (.tmp 146), none, none⟩, ⟨.fieldAddr 91 (.tmp 7) 2, some 156, none⟩, ⟨.store 89 (.tmp 156) (.tmp 153), none, none⟩]) (.ops [⟨.fieldAddr 91 (.tmp 7) 3, some 157, none⟩, ⟨.load 3 (.tmp 157), some 158, none⟩, ⟨.move (.tmp 17), some 159, none⟩, ⟨.binOp .add 3 (.tmp 158) (.tmp 159) 3, some 160, none⟩, ⟨.fieldAddr 91 (.tmp 7) 3, some 161, none⟩, ⟨.store 3 (.tmp 161) (.tmp 160), none, none⟩])) .skip)) (.seq (.seq (.ops [⟨.move (.tmp 18), some 162, none⟩]) (.cond (.tmp 162) (.ops [⟨.move (.tmp 8), some 163, none⟩, ⟨.move (.tmp 17), some 164, none⟩, ⟨.binOp .add 3 (.tmp 163) (.tmp 164) 3, some 165, none⟩, ⟨.assign (.tmp 165), some 8, none⟩]) .skip)) (.seq (.ops [⟨.move (.tmp 19), some 166, none⟩]) (.cond (.tmp 166) (.ops [⟨.move (.tmp 9), some 167, none⟩, ⟨.move (.tmp 17), some 168, none⟩, ⟨.binOp .add 3 (.tmp 167) (.tmp 168) 3, some 169, none⟩, ⟨.assign (.tmp 169), some 9, none⟩]) .skip))))))))))) (.ops [⟨.binOp .add 3 (.tmp 26) (.const (.int .i64 1)) 3, some 170, none⟩, ⟨.move (.tmp 170), some 26, none⟩]))))))) (.seq (.ops [⟨.load 91 (.tmp 7), some 171, none⟩, ⟨.store 91 (.tmp 6) (.tmp 171), none, none⟩]) .ret)))))
theorem l43 : Tryz.f43.body.map lighten = some L43 := by kernel_rfl
theorem rs43 : Tryz.f43.results.toList = [ResultVar.cell 6 91] := by kernel_rfl
theorem nt43 : Tryz.f43.ntmps = 172 := by kernel_rfl
theorem gob43 {args : List AV} {s : AHeap} {R : AV → AHeap → Prop} (hl : args.length ≤ 172) (h : ∀ tm, tm.length = 172 → (∀ i, aev tm (.tmp i) = args.getD i aundef) → lvb Tryz.prog tab s L43 (lpostB tab s [ResultVar.cell 6 91] R) tm (loc s 0 [])) : ACall Tryz.prog 43 args s R := ACall.goB tab_ok mixed Tryz.func43 l43 nm43 rs43 nt43 hl h
noncomputable def L72 : LCode := .seq (.ops [⟨.assign (.const (.slice none 0 0)), some 6, none⟩]) (.seq (.ops [⟨.move (.tmp 0), some 10, none⟩, ⟨.buildSlice 22 2 { toList := [(0, .const (.int .i64 0)), (1, .tmp 10)] }, some 11, none⟩, ⟨.assign (.tmp 11), some 7, none⟩]) (.seq (.seq (.ops [⟨.move (.tmp 1), some 12, none⟩, ⟨.move (.tmp 2), some 13, none⟩, ⟨.buildSlice 44 2 { toList := [(0, .tmp 12), (1, .tmp 13)] }, some 14, none⟩, ⟨.call { callee := .value (.func 94), args := { toList := [.tmp 14] }, argTypes := { toList := [44] } }, some 15, none⟩, ⟨.call { callee := .builtin .len, args := { toList := [.tmp 15] }, argTypes := { toList := [27] } }, some 16, none⟩, ⟨.move (.const (.int .i64 0)), some 17, none⟩]) (.block 0 (.loop (.seq (.ops [⟨.binOp .lss 3 (.tmp 17) (.tmp 16) 3, some 18, none⟩]) (.seq (.cond (.tmp 18) .skip (.exit 0)) (.seq (.block 1 (.seq (.ops [⟨.indexAddr 27 (.tmp 15) (.tmp 17), some 19, none⟩, ⟨.load 37 (.tmp 19), some 20, none⟩, ⟨.alloc 37, some 9, none⟩, ⟨.store 37 (.tmp 9) (.tmp 20), none, none⟩]) (.ops [⟨.move (.tmp 7), some 21, none⟩, ⟨.fieldAddr 37 (.tmp 9) 0, some 22, none⟩, ⟨.load 3 (.tmp 22), some 23, none⟩, ⟨.fieldAddr 37 (.tmp 9) 0, some 24, none⟩, ⟨.load 3 (.tmp 24), some 25, none⟩, ⟨.fieldAddr 37 (.tmp 9) 1, some 26, none⟩, ⟨.load 3 (.tmp 26), some 27, none⟩, ⟨.binOp .add 3 (.tmp 25) (.tmp 27) 3, some 28, none⟩, ⟨.buildSlice 22 2 { toList := [(0, .tmp 23), (1, .tmp 28)] }, some 29, none⟩, ⟨.call { callee := .builtin .append, args := { toList := [.tmp 21, .tmp 29] }, argTypes := { toList := [22, 22] } }, some 30, none⟩, ⟨.assign (.tmp 30), some 7, none⟩]))) (.ops [⟨.binOp .add 3 (.tmp 17) (.const (.int .i64 1)) 3, some 31, none⟩, ⟨.move (.tmp 31), some 17, none⟩]))))))) (.seq (.ops [⟨.move (.tmp 7), some 32, none⟩, ⟨.call { callee := .value (.func 95), args := { toList := [.tmp 32] }, argTypes := { toList := [22] } }, some 33, none⟩]) (.seq (.ops [⟨.move (.tmp 7), some 34, none⟩, ⟨.call { callee := .value (.func 96), args := { toList := [.tmp 34] }, argTypes := { toList := [22] } }, some 35, none⟩, ⟨.assign (.tmp 35), some 6, none⟩]) .ret))))
theorem l72 : Tryz.f72.body.map lighten = some L72 := by kernel_rfl
theorem rs72 : Tryz.f72.results.toList = [ResultVar.tmp 6] := by kernel_rfl
theorem nt72 : Tryz.f72.ntmps = 36 := by kernel_rfl
theorem gob72 {args : List AV} {s : AHeap} {R : AV → AHeap → Prop} (hl : args.length ≤ 36) (h : ∀ tm, tm.length = 36 → (∀ i, aev tm (.tmp i) = args.getD i aundef) → lvb Tryz.prog tab s L72 (lpostB tab s [ResultVar.tmp 6] R) tm (loc s 0 [])) : ACall Tryz.prog 72 args s R := ACall.goB tab_ok mixed Tryz.func72 l72 nm72 rs72 nt72 hl h
noncomputable def L73 : LCode := .seq (.ops [⟨.assign (.const (.string { data := { toList := [] } })), some 4, none⟩, ⟨.assign (.const (.bool false)), some 5, none⟩]) (.seq (.ops [⟨.move (.tmp 0), some 9, none⟩, ⟨.move (.tmp 1), some 10, none⟩, ⟨.call { callee := .value (.func 97), args := { toList := [.tmp 9, .tmp 10, .func 98] }, argTypes := { toList := [27, 3, 171] } }, some 11, none⟩, ⟨.move (.tmp 11), some 8, none⟩, ⟨.extract (.tmp 8) 0, some 12, none⟩, ⟨.extract (.tmp 8) 1, some 13, none⟩, ⟨.assign (.tmp 12), some 6, none⟩, ⟨.assign (.tmp 13), some 7, none⟩]) (.seq (.seq (.ops [⟨.move (.tmp 7), some 14, none⟩, ⟨.unOp .not 4 (.tmp 14), some 15, none⟩]) (.cond (.tmp 15) (.seq (.ops [⟨.assign (.const (.string { data := { toList := [] } })), some 4, none⟩, ⟨.assign (.const (.bool false)), some 5, none⟩]) .ret) .skip)) (.seq (.ops [⟨.move (.tmp 0), some 16, none⟩, ⟨.move (.tmp 6), some 17, none⟩, ⟨.indexAddr 27 (.tmp 16) (.tmp 17), some 18, none⟩, ⟨.fieldAddr 37 (.tmp 18) 2, some 19, none⟩, ⟨.load 9 (.tmp 19), some 20, none⟩, ⟨.assign (.tmp 20), some 4, none⟩, ⟨.assign (.const (.bool true)), some 5, none⟩]) .ret)))
theorem l73 : Tryz.f73.body.map lighten = some L73 := by kernel_rfl
theorem rs73 : Tryz.f73.results.toList = [ResultVar.tmp 4, ResultVar.tmp 5] := by kernel_rfl
theorem nt73 : Tryz.f73.ntmps = 21 := by kernel_rfl
theorem gob73 {args : List AV} {s : AHeap} {R : AV → AHeap → Prop} (hl : args.length ≤ 21) (h : ∀ tm, tm.length = 21 → (∀ i, aev tm (.tmp i) = args.getD i aundef) → lvb Tryz.prog tab s L73 (lpostB tab s [ResultVar.tmp 4, ResultVar.tmp 5] R) tm (loc s 0 [])) : ACall Tryz.prog 73 args s R := ACall.goB tab_ok mixed Tryz.func73 l73 nm73 rs73 nt73 hl h
noncomputable def L74 : LCode := .seq (.ops [⟨.assign (.const (.bool false)), some 4, none⟩]) (.seq (.ops [⟨.move (.tmp 0), some 8, none⟩, ⟨.move (.tmp 1), some 9, none⟩, ⟨.call { callee := .value (.func 97), args := { toList := [.tmp 8, .tmp 9, .func 99] }, argTypes := { toList := [27, 3, 171] } }, some 10, none⟩, ⟨.move (.tmp 10), some 7, none⟩, ⟨.extract (.tmp 7) 0, some 11, none⟩, ⟨.extract (.tmp 7) 1, some 12, none⟩, ⟨.assign (.tmp 11), some 5, none⟩, ⟨.assign (.tmp 12), some 6, none⟩]) (.seq (.seq (.ops [⟨.move (.tmp 6), some 13, none⟩, ⟨.unOp .not 4 (.tmp 13), some 14, none⟩]) (.cond (.tmp 14) (.ops [⟨.move (.tmp 5), some 15, none⟩, ⟨.binOp .sub 3 (.tmp 15) (.const (.int .i64 1)) 3, some 16, none⟩, ⟨.assign (.tmp 16), some 5, none⟩]) .skip)) (.seq (.draw [0, 1, 3, 7, 7, 7, 55, 119, 247, 7, 7, 1543, 3591, 7687, 16375, 32767, 65535, 131071] [⟨.move (.tmp 5), some 17, none⟩, ⟨.binOp .lss 3 (.tmp 17) (.const (.int .i64 0)) 3, some 18, none⟩, ⟨.move (.tmp 18), some 19, none⟩, ⟨.move (.tmp 1), some 20, some (19, false)⟩, ⟨.move (.tmp 0), some 21, some (19, false)⟩, ⟨.move (.tmp 5), some 22, some (19, false)⟩, ⟨.indexAddr 27 (.tmp 21) (.tmp 22), some 23, some (19, false)⟩, ⟨.fieldAddr 37 (.tmp 23) 0, some 24, some (19, false)⟩, ⟨.load 3 (.tmp 24), some 25, some (19, false)⟩, ⟨.move (.tmp 0), some 26, some (19, false)⟩, ⟨.move (.tmp 5), some 27, some (19, false)⟩, ⟨.indexAddr 27 (.tmp 26) (.tmp 27), some 28, some (19, false)⟩, ⟨.fieldAddr 37 (.tmp 28) 1, some 29, some (19, false)⟩, ⟨.load 3 (.tmp 29), some 30, some (19, false)⟩, ⟨.binOp .add 3 (.tmp 25) (.tmp 30) 3, some 31, some (19, false)⟩, ⟨.binOp .geq 3 (.tmp 20) (.tmp 31) 3, some 32, some (19, false)⟩, ⟨.pick (.tmp 19) (.const (.bool true)) (.tmp 32), some 33, none⟩, ⟨.assign (.tmp 33), some 4, none⟩]) .ret)))
theorem l74 : Tryz.f74.body.map lighten = some L74 := by kernel_rfl
theorem rs74 : Tryz.f74.results.toList = [ResultVar.tmp 4] := by kernel_rfl
theorem nt74 : Tryz.f74.ntmps = 34 := by kernel_rfl
theorem gob74 {args : List AV} {s : AHeap} {R : AV → AHeap → Prop} (hl : args.length ≤ 34) (h : ∀ tm, tm.length = 34 → (∀ i, aev tm (.tmp i) = args.getD i aundef) → lvb Tryz.prog tab s L74 (lpostB tab s [ResultVar.tmp 4] R) tm (loc s 0 [])) : ACall Tryz.prog 74 args s R := ACall.goB tab_ok mixed Tryz.func74 l74 nm74 rs74 nt74 hl h
noncomputable def L94 : LCode := .seq (.ops [⟨.assign (.const (.slice none 0 0)), some 2, none⟩]) (.seq (.ops [⟨.assign (.const (.int .i64 0)), some 3, none⟩]) (.seq (.seq (.ops [⟨.move (.tmp 0), some 9, none⟩, ⟨.call { callee := .builtin .len, args := { toList := [.tmp 9] }, argTypes := { toList := [44] } }, some 10, none⟩, ⟨.move (.const (.int .i64 0)), some 11, none⟩]) (.block 0 (.loop (.seq (.ops [⟨.binOp .lss 3 (.tmp 11) (.tmp 10) 3, some 12, none⟩]) (.seq (.cond (.tmp 12) .skip (.exit 0)) (.seq (.block 1 (.seq (.ops [⟨.indexAddr 44 (.tmp 9) (.tmp 11), some 13, none⟩, ⟨.load 27 (.tmp 13), some 14, none⟩, ⟨.assign (.tmp 14), some 5, none⟩]) (.seq (.ops [⟨.move (.tmp 3), some 15, none⟩, ⟨.move (.tmp 5), some 16, none⟩, ⟨.call { callee := .builtin .len, args := { toList := [.tmp 16] }, argTypes := { toList := [27] } }, some 17, none⟩, ⟨.binOp .add 3 (.tmp 15) (.tmp 17) 3, some 18, none⟩, ⟨.assign (.tmp 18), some 3, none⟩]) (.seq (.ops [⟨.move (.tmp 3), some 19, none⟩, ⟨.binOp .lss 3 (.tmp 19) (.const (.int .i64 0)) 3, some 20, none⟩]) (.cond (.tmp 20) (.ops [⟨.makeInterface 9 (.const (.string { data := { toList := [108, 101, 110, 32, 111, 117, 116, 32, 111, 102, 32, 114, 97, 110, 103, 101] } })), some 21, none⟩, ⟨.panic (.tmp 21), none, none⟩]) .skip))))) (.ops [⟨.binOp .add 3 (.tmp 11) (.const (.int .i64 1)) 3, some 22, none⟩, ⟨.move (.tmp 22), some 11, none⟩]))))))) (.seq (.ops [⟨.move (.tmp 3), some 23, none⟩, ⟨.call { callee := .value (.func 134), args := { toList := [.const (.slice none 0 0), .tmp 23] }, argTypes := { toList := [27, 3] } }, some 24, none⟩, ⟨.assign (.tmp 24), some 6, none⟩]) (.seq (.seq (.ops [⟨.move (.tmp 0), some 25, none⟩, ⟨.call { callee := .builtin .len, args := { toList := [.tmp 25] }, argTypes := { toList := [44] } }, some 26, none⟩, ⟨.move (.const (.int .i64 0)), some 27, none⟩]) (.block 2 (.loop (.seq (.ops [⟨.binOp .lss 3 (.tmp 27) (.tmp 26) 3, some 28, none⟩]) (.seq (.cond (.tmp 28) .skip (.exit 2)) (.seq (.block 3 (.seq (.ops [⟨.indexAddr 44 (.tmp 25) (.tmp 27), some 29, none⟩, ⟨.load 27 (.tmp 29), some 30, none⟩, ⟨.assign (.tmp 30), some 8, none⟩]) (.ops [⟨.move (.tmp 6), some 31, none⟩, ⟨.move (.tmp 8), some 32, none⟩, ⟨.call { callee := .builtin .append, args := { toList := [.tmp 31, .tmp 32] }, argTypes := { toList := [27, 27] } }, some 33, none⟩, ⟨.assign (.tmp 33), some 6, none⟩]))) (.ops [⟨.binOp .add 3 (.tmp 27) (.const (.int .i64 1)) 3, some 34, none⟩, ⟨.move (.tmp 34), some 27, none⟩]))))))) (.seq (.ops [⟨.move (.tmp 6), some 35, none⟩, ⟨.assign (.tmp 35), some 2, none⟩]) .ret)))))
theorem l94 : Tryz.f94.body.map lighten = some L94 := by kernel_rfl
theorem rs94 : Tryz.f94.results.toList = [ResultVar.tmp 2] := by kernel_rfl
theorem nt94 : Tryz.f94.ntmps = 36 := by kernel_rfl
theorem gob94 {args : List AV} {s : AHeap} {R : AV → AHeap → Prop} (hl : args.length ≤ 36) (h : ∀ tm, tm.length = 36 → (∀ i, aev tm (.tmp i) = args.getD i aundef) → lvb Tryz.prog tab s L94 (lpostB tab s [ResultVar.tmp 2] R) tm (loc s 0 [])) : ACall Tryz.prog 94 args s R := ACall.goB tab_ok mixed Tryz.func94 l94 nm94 rs94 nt94 hl h
noncomputable def L96 : LCode := .seq (.ops [⟨.assign (.const (.slice none 0 0)), some 2, none⟩]) (.seq (.seq (.ops [⟨.move (.tmp 0), some 6, none⟩, ⟨.call { callee := .builtin .len, args := { toList := [.tmp 6] }, argTypes := { toList := [22] } }, some 7, none⟩, ⟨.binOp .lss 3 (.tmp 7) (.const (.int .i64 2)) 3, some 8, none⟩]) (.cond (.tmp 8) (.seq (.ops [⟨.move (.tmp 0), some 9, none⟩, ⟨.assign (.tmp 9), some 2, none⟩]) .ret) .skip)) (.seq (.seq (.ops [⟨.assign (.const (.int .i64 1)), some 3, none⟩]) (.block 0 (.loop (.seq (.seq (.ops [⟨.move (.tmp 3), some 10, none⟩, ⟨.move (.tmp 0), some 11, none⟩, ⟨.call { callee := .builtin .len, args := { toList := [.tmp 11] }, argTypes := { toList := [22] } }, some 12, none⟩, ⟨.binOp .lss 3 (.tmp 10) (.tmp 12) 3, some 13, none⟩]) (.cond (.tmp 13) .skip (.exit 0))) (.seq (.block 1 (.seq (.draw [0, 0, 3, 7, 0, 0, 32, 112, 240, 511] [⟨.move (.tmp 0), some 16, none⟩, ⟨.move (.tmp 3), some 17, none⟩, ⟨.indexAddr 22 (.tmp 16) (.tmp 17), some 18, none⟩, ⟨.load 3 (.tmp 18), some 19, none⟩, ⟨.move (.tmp 0), some 20, none⟩, ⟨.move (.tmp 3), some 21, none⟩, ⟨.binOp .sub 3 (.tmp 21) (.const (.int .i64 1)) 3, some 22, none⟩, ⟨.indexAddr 22 (.tmp 20) (.tmp 22), some 23, none⟩, ⟨.load 3 (.tmp 23), some 24, none⟩, ⟨.binOp .eql 3 (.tmp 19) (.tmp 24) 3, some 25, none⟩]) (.cond (.tmp 25) (.seq (.ops [⟨.move (.tmp 0), some 26, none⟩, ⟨.move (.tmp 3), some 27, none⟩, ⟨.slice 22 (.tmp 26) (some (.tmp 27)) none none, some 28, none⟩, ⟨.assign (.tmp 28), some 4, none⟩]) (.seq (.seq (.ops [⟨.assign (.const (.int .i64 1)), some 5, none⟩]) (.block 2 (.loop (.seq (.seq (.ops [⟨.move (.tmp 5), some 29, none⟩, ⟨.move (.tmp 4), some 30, none⟩, ⟨.call { callee := .builtin .len, args := { toList := [.tmp 30] }, argTypes := { toList := [22] } }, some 31, none⟩, ⟨.binOp .lss 3 (.tmp 29) (.tmp 31) 3, some 32, none⟩]) (.cond (.tmp 32) .skip (.exit 2))) (.seq (.block 3 (.seq (.draw [0, 0, 3, 7, 0, 0, 32, 112, 240, 511] [⟨.move (.tmp 4), some 35, none⟩, ⟨.move (.tmp 5), some 36, none⟩, ⟨.indexAddr 22 (.tmp 35) (.tmp 36), some 37, none⟩, ⟨.load 3 (.tmp 37), some 38, none⟩, ⟨.move (.tmp 4), some 39, none⟩, ⟨.move (.tmp 5), some 40, none⟩, ⟨.binOp .sub 3 (.tmp 40) (.const (.int .i64 1)) 3, some 41, none⟩, ⟨.indexAddr 22 (.tmp 39) (.tmp 41), some 42, none⟩, ⟨.load 3 (.tmp 42), some 43, none⟩, ⟨.binOp .neq 3 (.tmp 38) (.tmp 43) 3, some 44, none⟩]) (.cond (.tmp 44) (.seq (.ops [⟨.move (.tmp 0), some 45, none⟩, ⟨.move (.tmp 3), some 46, none⟩, ⟨.move (.tmp 4), some 47, none⟩, ⟨.move (.tmp 5), some 48, none⟩, ⟨.indexAddr 22 (.tmp 47) (.tmp 48), some 49, none⟩, ⟨.load 3 (.tmp 49), some 50, none⟩, ⟨.indexAddr 22 (.tmp 45) (.tmp 46), some 51, none⟩, ⟨.store 3 (.tmp 51) (.tmp 50), none, none⟩]) (.ops [⟨.move (.tmp 3), some 52, none⟩, ⟨.binOp .add 3 (.tmp 52) (.const (.int .i64 1)) 3, some 53, none⟩, ⟨.assign (.tmp 53), some 3, none⟩])) .skip))) (.ops [⟨.move (.tmp 5), some 33, none⟩, ⟨.binOp .add 3 (.tmp 33) (.const (.int .i64 1)) 3, some 34, none⟩, ⟨.assign (.tmp 34), some 5, none⟩])))))) (.seq (.ops [⟨.move (.tmp 0), some 54, none⟩, ⟨.move (.tmp 3), some 55, none⟩, ⟨.slice 22 (.tmp 54) (some (.tmp 55)) none none, some 56, none⟩, ⟨.call { callee := .builtin .clear, args := { toList := [.tmp 56] }, argTypes := { toList := [22] } }, none, none⟩]) (.seq (.ops [⟨.move (.tmp 0), some 57, none⟩, ⟨.move (.tmp 3), some 58, none⟩, ⟨.slice 22 (.tmp 57) none (some (.tmp 58)) none, some 59, none⟩, ⟨.assign (.tmp 59), some 2, none⟩]) .ret)))) .skip))) (.ops [⟨.move (.tmp 3), some 14, none⟩, ⟨.binOp .add 3 (.tmp 14) (.const (.int .i64 1)) 3, some 15, none⟩, ⟨.assign (.tmp 15), some 3, none⟩])))))) (.seq (.ops [⟨.move (.tmp 0), some 60, none⟩, ⟨.assign (.tmp 60), some 2, none⟩]) .ret)))
theorem l96 : Tryz.f96.body.map lighten = some L96 := by kernel_rfl
theorem rs96 : Tryz.f96.results.toList = [ResultVar.tmp 2] := by kernel_rfl
theorem nt96 : Tryz.f96.ntmps = 61 := by kernel_rfl
theorem gob96 {args : List AV} {s : AHeap} {R : AV → AHeap → Prop} (hl : args.length ≤ 61) (h : ∀ tm, tm.length = 61 → (∀ i, aev tm (.tmp i) = args.getD i aundef) → lvb Tryz.prog tab s L96 (lpostB tab s [ResultVar.tmp 2] R) tm (loc s 0 [])) : ACall Tryz.prog 96 args s R := ACall.goB tab_ok mixed Tryz.func96 l96 nm96 rs96 nt96 hl h
noncomputable def L97 : LCode := .seq (.ops [⟨.assign (.const (.int .i64 0)), some 6, none⟩, ⟨.assign (.const (.bool false)), some 7, none⟩]) (.seq (.ops [⟨.move (.tmp 0), some 12, none⟩, ⟨.call { callee := .builtin .len, args := { toList := [.tmp 12] }, argTypes := { toList := [27] } }, some 13, none⟩, ⟨.assign (.tmp 13), some 8, none⟩]) (.seq (.ops [⟨.move (.tmp 8), some 14, none⟩, ⟨.assign (.const (.int .i64 0)), some 9, none⟩, ⟨.assign (.tmp 14), some 10, none⟩]) (.seq (.block 0 (.loop (.seq (.seq (.ops [⟨.move (.tmp 9), some 15, none⟩, ⟨.move (.tmp 10), some 16, none⟩, ⟨.binOp .lss 3 (.tmp 15) (.tmp 16) 3, some 17, none⟩]) (.cond (.tmp 17) .skip (.exit 0))) (.block 1 (.seq (.ops [⟨.move (.tmp 9), some 18, none⟩, ⟨.move (.tmp 10), some 19, none⟩, ⟨.binOp .add 3 (.tmp 18) (.tmp 19) 3, some 20, none⟩, ⟨.convert 3 216 (.tmp 20), some 21, none⟩, ⟨.binOp .shr 216 (.tmp 21) (.const (.int .u64 1)) 216, some 22, none⟩, ⟨.convert 216 3 (.tmp 22), some 23, none⟩, ⟨.assign (.tmp 23), some 11, none⟩]) (.seq (.ops [⟨.move (.tmp 2), some 24, none⟩, ⟨.move (.tmp 0), some 25, none⟩, ⟨.move (.tmp 11), some 26, none⟩, ⟨.indexAddr 27 (.tmp 25) (.tmp 26), some 27, none⟩, ⟨.load 37 (.tmp 27), some 28, none⟩, ⟨.move (.tmp 1), some 29, none⟩, ⟨.call { callee := .value (.tmp 24), args := { toList := [.tmp 28, .tmp 29] }, argTypes := { toList := [37, 3] } }, some 30, none⟩, ⟨.binOp .lss 3 (.tmp 30) (.const (.int .i64 0)) 3, some 31, none⟩]) (.cond (.tmp 31) (.ops [⟨.move (.tmp 11), some 32, none⟩, ⟨.binOp .add 3 (.tmp 32) (.const (.int .i64 1)) 3, some 33, none⟩, ⟨.assign (.tmp 33), some 9, none⟩]) (.ops [⟨.move (.tmp 11), some 34, none⟩, ⟨.assign (.tmp 34), some 10, none⟩])))))))) (.seq (.ops [⟨.move (.tmp 9), some 35, none⟩, ⟨.move (.tmp 9), some 36, none⟩, ⟨.move (.tmp 8), some 37, none⟩, ⟨.binOp .lss 3 (.tmp 36) (.tmp 37) 3, some 38, none⟩, ⟨.move (.tmp 38), some 39, none⟩, ⟨.move (.tmp 2), some 40, some (39, true)⟩, ⟨.move (.tmp 0), some 41, some (39, true)⟩, ⟨.move (.tmp 9), some 42, some (39, true)⟩, ⟨.indexAddr 27 (.tmp 41) (.tmp 42), some 43, some (39, true)⟩, ⟨.load 37 (.tmp 43), some 44, some (39, true)⟩, ⟨.move (.tmp 1), some 45, some (39, true)⟩, ⟨.call { callee := .value (.tmp 40), args := { toList := [.tmp 44, .tmp 45] }, argTypes := { toList := [37, 3] } }, some 46, some (39, true)⟩, ⟨.binOp .eql 3 (.tmp 46) (.const (.int .i64 0)) 3, some 47, some (39, true)⟩, ⟨.pick (.tmp 39) (.tmp 47) (.const (.bool false)), some 48, none⟩, ⟨.assign (.tmp 35), some 6, none⟩, ⟨.assign (.tmp 48), some 7, none⟩]) .ret))))
theorem l97 : Tryz.f97.body.map lighten = some L97 := by kernel_rfl
theorem rs97 : Tryz.f97.results.toList = [ResultVar.tmp 6, ResultVar.tmp 7] := by kernel_rfl
theorem nt97 : Tryz.f97.ntmps = 49 := by kernel_rfl
theorem gob97 {args : List AV} {s : AHeap} {R : AV → AHeap → Prop} (hl : args.length ≤ 49) (h : ∀ tm, tm.length = 49 → (∀ i, aev tm (.tmp i) = args.getD i aundef) → lvb Tryz.prog tab s L97 (lpostB tab s [ResultVar.tmp 6, ResultVar.tmp 7] R) tm (loc s 0 [])) : ACall Tryz.prog 97 args s R := ACall.goB tab_ok mixed Tryz.func97 l97 nm97 rs97 nt97 hl h
noncomputable def L98 : LCode := .seq (.ops [⟨.box 37 (.tmp 0), some 2, none⟩, ⟨.assign (.const (.int .i64 0)), some 4, none⟩]) (.seq (.ops [⟨.fieldAddr 37 (.tmp 2) 0, some 5, none⟩, ⟨.load 3 (.tmp 5), some 6, none⟩, ⟨.move (.tmp 1), some 7, none⟩, ⟨.binOp .sub 3 (.tmp 6) (.tmp 7) 3, some 8, none⟩, ⟨.assign (.tmp 8), some 4, none⟩]) .ret)
theorem l98 : Tryz.f98.body.map lighten = some L98 := by kernel_rfl
theorem rs98 : Tryz.f98.results.toList = [ResultVar.tmp 4] := by kernel_rfl
theorem nt98 : Tryz.f98.ntmps = 9 := by kernel_rfl
theorem gob98 {args : List AV} {s : AHeap} {R : AV → AHeap → Prop} (hl : args.length ≤ 9) (h : ∀ tm, tm.length = 9 → (∀ i, aev tm (.tmp i) = args.getD i aundef) → lvb Tryz.prog tab s L98 (lpostB tab s [ResultVar.tmp 4] R) tm (loc s 0 [])) : ACall Tryz.prog 98 args s R := ACall.goB tab_ok mixed Tryz.func98 l98 nm98 rs98 nt98 hl h
noncomputable def L99 : LCode := .seq (.ops [⟨.box 37 (.tmp 0), some 2, none⟩, ⟨.assign (.const (.int .i64 0)), some 4, none⟩]) (.seq (.ops [⟨.fieldAddr 37 (.tmp 2) 0, some 5, none⟩, ⟨.load 3 (.tmp 5), some 6, none⟩, ⟨.move (.tmp 1), some 7, none⟩, ⟨.binOp .sub 3 (.tmp 6) (.tmp 7) 3, some 8, none⟩, ⟨.assign (.tmp 8), some 4, none⟩]) .ret)
theorem l99 : Tryz.f99.body.map lighten = some L99 := by kernel_rfl
theorem rs99 : Tryz.f99.results.toList = [ResultVar.tmp 4] := by kernel_rfl
theorem nt99 : Tryz.f99.ntmps = 9 := by kernel_rfl
theorem gob99 {args : List AV} {s : AHeap} {R : AV → AHeap → Prop} (hl : args.length ≤ 9) (h : ∀ tm, tm.length = 9 → (∀ i, aev tm (.tmp i) = args.getD i aundef) → lvb Tryz.prog tab s L99 (lpostB tab s [ResultVar.tmp 4] R) tm (loc s 0 [])) : ACall Tryz.prog 99 args s R := ACall.goB tab_ok mixed Tryz.func99 l99 nm99 rs99 nt99 hl h
noncomputable def L134 : LCode := .seq (.ops [⟨.assign (.const (.slice none 0 0)), some 4, none⟩]) (.seq (.seq (.ops [⟨.move (.tmp 1), some 5, none⟩, ⟨.binOp .lss 3 (.tmp 5) (.const (.int .i64 0)) 3, some 6, none⟩]) (.cond (.tmp 6) (.ops [⟨.makeInterface 9 (.const (.string { data := { toList := [99, 97, 110, 110, 111, 116, 32, 98, 101, 32, 110, 101, 103, 97, 116, 105, 118, 101] } })), some 7, none⟩, ⟨.panic (.tmp 7), none, none⟩]) .skip)) (.seq (.seq (.ops [⟨.move (.tmp 1), some 8, none⟩, ⟨.move (.tmp 0), some 9, none⟩, ⟨.call { callee := .builtin .cap, args := { toList := [.tmp 9] }, argTypes := { toList := [27] } }, some 10, none⟩, ⟨.move (.tmp 0), some 11, none⟩, ⟨.call { callee := .builtin .len, args := { toList := [.tmp 11] }, argTypes := { toList := [27] } }, some 12, none⟩, ⟨.binOp .sub 3 (.tmp 10) (.tmp 12) 3, some 13, none⟩, ⟨.binOp .sub 3 (.tmp 8) (.tmp 13) 3, some 14, none⟩, ⟨.assign (.tmp 14), some 1, none⟩]) (.seq (.ops [⟨.move (.tmp 1), some 15, none⟩, ⟨.binOp .gtr 3 (.tmp 15) (.const (.int .i64 0)) 3, some 16, none⟩]) (.cond (.tmp 16) (.ops [⟨.move (.tmp 0), some 17, none⟩, ⟨.move (.tmp 0), some 18, none⟩, ⟨.call { callee := .builtin .cap, args := { toList := [.tmp 18] }, argTypes := { toList := [27] } }, some 19, none⟩, ⟨.slice 27 (.tmp 17) none (some (.tmp 19)) none, some 20, none⟩, ⟨.move (.tmp 1), some 21, none⟩, ⟨.call { callee := .builtin .append, args := { toList := [.tmp 20, .tmp 21] }, argTypes := { toList := [27, 3] } }, some 22, none⟩, ⟨.move (.tmp 0), some 23, none⟩, ⟨.call { callee := .builtin .len, args := { toList := [.tmp 23] }, argTypes := { toList := [27] } }, some 24, none⟩, ⟨.slice 27 (.tmp 22) none (some (.tmp 24)) none, some 25, none⟩, ⟨.assign (.tmp 25), some 0, none⟩]) .skip))) (.seq (.ops [⟨.move (.tmp 0), some 26, none⟩, ⟨.assign (.tmp 26), some 4, none⟩]) .ret)))
theorem l134 : Tryz.f134.body.map lighten = some L134 := by kernel_rfl
theorem rs134 : Tryz.f134.results.toList = [ResultVar.tmp 4] := by kernel_rfl
theorem nt134 : Tryz.f134.ntmps = 27 := by kernel_rfl
theorem gob134 {args : List AV} {s : AHeap} {R : AV → AHeap → Prop} (hl : args.length ≤ 27) (h : ∀ tm, tm.length = 27 → (∀ i, aev tm (.tmp i) = args.getD i aundef) → lvb Tryz.prog tab s L134 (lpostB tab s [ResultVar.tmp 4] R) tm (loc s 0 [])) : ACall Tryz.prog 134 args s R := ACall.goB tab_ok mixed Tryz.func134 l134 nm134 rs134 nt134 hl h
end Go.S1
end
section
namespace Go.S1N
open Go Go.Am Go.Proofs Go.S1
set_option maxRecDepth 100000
theorem ty91 : tab.ty 91 = some { td := .struct [(89, 0, true), (89, 1, true), (89, 2, true), (3, 3, true)], size := 4, bytes := 80, zero := .agg #[.slice none 0 0, .slice none 0 0, .slice none 0 0, .int .i64 0], eqok := false } := by kernel_rfl
theorem ty216 : tab.ty 216 = some { td := .int .u64, size := 1, bytes := 8, zero := .int .u64 0, eqok := false } := by kernel_rfl
@[go_sem] theorem al91 {P : Program} {s0 : AHeap} {N : List AV → AHeap → Prop} {d : Option Nat} {tm : List AV} {s : AHeap} : lstepB P tab s0 N (.alloc 91) d tm s = N (aput tm d (.ptr s.nx 0)) (s.new (.cells [.nils, .nils, .nils, .int .i64 0] (some 91))) := by rw [lstepB_alloc, ty91]; rfl
@[go_sem] theorem fa91_0p {b o : Nat} : afieldAddr tab 91 (.ptr b o) 0 = some (.ptr b (o + 0)) := by simp [afieldAddr, ty91, Tab.size, ty89]
@[go_sem] theorem fa91_1p {b o : Nat} : afieldAddr tab 91 (.ptr b o) 1 = some (.ptr b (o + 1)) := by simp [afieldAddr, ty91, Tab.size, ty89]
@[go_sem] theorem fa91_2p {b o : Nat} : afieldAddr tab 91 (.ptr b o) 2 = some (.ptr b (o + 2)) := by simp [afieldAddr, ty91, Tab.size, ty89]
@[go_sem] theorem fa91_3p {b o : Nat} : afieldAddr tab 91 (.ptr b o) 3 = some (.ptr b (o + 3)) := by simp [afieldAddr, ty91, Tab.size, ty3]
@[go_sem] theorem ld91 {x : AV} {s : AHeap} : aload tab 91 x s = (acellsAt s x).bind fun cs => if 4 ≤ cs.length then some (.agg (cs.take 4)) else none := by rw [aload_agg ty91 rfl]
@[go_sem] theorem st91 {b o : Nat} {v : AV} {s : AHeap} : astore tab 91 (.ptr b o) v s = astoreAt s b o 4 v := by rw [astore_ptr ty91]
end Go.S1N
end
section
namespace Go.S1N
open Go Go.Am Go.Proofs Go.S1
set_option maxRecDepth 100000
attribute [local irreducible] lopsB lvb lstepB lfunG lcondB lguardB ldrawB ldrunB ldstepB ldguardB lmem lval ldmem ldval ldfun lexit ldloadB ldlenB lpostB athen ablock
def Ed.covers (e : Ed) (p : Int) : Prop := e.at_ ≤ p ∧ p < e.at_ + e.cut
instance (e : Ed) (p : Int) : Decidable (Ed.covers e p) := inferInstanceAs (Decidable (_ ∧ _))
def goneB (l : List Ed) (p : Int) : Bool := l.any fun e => decide (Ed.covers e p)
end Go.S1N
end
section
namespace Go.S1N
open Go Go.Am Go.Proofs Go.S1
set_option maxRecDepth 100000
attribute [local irreducible] lopsB lvb lstepB lfunG lcondB lguardB ldrawB ldrunB ldstepB ldguardB lmem lval ldmem ldval ldfun lexit ldloadB ldlenB lpostB athen ablock
structure RS (n : Int) (l : List Ed) : Prop where
  each : ∀ e ∈ l, 0 ≤ e.at_ ∧ 0 ≤ e.cut ∧ e.at_ + e.cut ≤ n
  pair : l.Pairwise fun x y => x.at_ + x.cut < y.at_
theorem scan_rs {n : Int} : ∀ {l : List Ed} {B : Int}, scan n B l = 0 → RS n l ∧ ∀ e ∈ l, B < e.at_
  | [], _, _ => ⟨⟨by simp, .nil⟩, by simp⟩
  | e :: l, B, h => by
    obtain ⟨c1, c2, c3, c4, c5, c6⟩ := scan_cons h
    obtain ⟨⟨g1, g2⟩, g3⟩ := scan_rs c6
    refine ⟨⟨?_, ?_⟩, ?_⟩
    · intro x hx
      rcases List.mem_cons.1 hx with rfl | hx
      · exact ⟨by omega, by omega, by omega⟩
      · exact g1 x hx
    · exact List.pairwise_cons.2 ⟨fun y hy => g3 y hy, g2⟩
    · intro x hx
      rcases List.mem_cons.1 hx with rfl | hx
      · omega
      · have := g3 x hx; omega
theorem RS.tail {n : Int} {e : Ed} {l : List Ed} (h : RS n (e :: l)) : RS n l := ⟨fun x hx => h.each x (List.mem_cons_of_mem e hx), (List.pairwise_cons.1 h.pair).2⟩
def cntLt (l : List Ed) (p : Int) : Nat := (l.filter fun e => decide (e.at_ < p)).length
def hasAt (l : List Ed) (p : Int) : Bool := l.any fun e => decide (e.at_ = p)
def insAt (l : List Ed) (p : Int) : List UInt8 := match l.find? fun e => decide (e.at_ = p) with
  | some e => e.new
  | none => []
theorem cnt_iff {n : Int} (p : Int) : ∀ {l : List Ed}, RS n l → ∀ {k : Nat} {e : Ed}, l[k]? = some e → (e.at_ < p ↔ k < cntLt l p)
  | [], _, k, e, h => by simp at h
  | x :: l, hr, k, e, h => by
    have hx := hr.each x (List.mem_cons_self ..)
    have hp := (List.pairwise_cons.1 hr.pair).1
    unfold cntLt
    rw [List.filter_cons]
    by_cases hlt : x.at_ < p
    · rw [if_pos (by simpa using hlt), List.length_cons]
      cases k with
      | zero => simp at h; subst h; exact ⟨fun _ => by omega, fun _ => hlt⟩
      | succ k =>
        have := cnt_iff p hr.tail (k := k) (e := e) (by simpa using h)
        unfold cntLt at this
        omega
    · have h0 : (l.filter fun e => decide (e.at_ < p)) = [] := by
        rw [List.filter_eq_nil_iff]
        intro y hy
        have := hp y hy
        simp only [decide_eq_true_eq]; omega
      rw [if_neg (by simpa using hlt), h0]
      have : ¬ e.at_ < p := by
        cases k with
        | zero => simp at h; subst h; exact hlt
        | succ k =>
          have := hp e (List.mem_of_getElem? (i := k) (by simpa using h))
          omega
      exact ⟨fun q => absurd q this, fun q => by simp at q⟩
theorem cnt_le (l : List Ed) (p : Int) : cntLt l p ≤ l.length := List.length_filter_le ..
theorem at_uniq {n : Int} {l : List Ed} (h : RS n l) {x y : Ed} (hx : x ∈ l) (hy : y ∈ l) (he : x.at_ = y.at_) : x = y := by
  obtain ⟨i, hi, rfl⟩ := List.mem_iff_getElem.1 hx
  obtain ⟨j, hj, rfl⟩ := List.mem_iff_getElem.1 hy
  rcases Nat.lt_trichotomy i j with q | q | q
  · have := List.pairwise_iff_getElem.1 h.pair i j hi hj q
    have := h.each _ (List.getElem_mem hi)
    omega
  · subst q; rfl
  · have := List.pairwise_iff_getElem.1 h.pair j i hj hi q
    have := h.each _ (List.getElem_mem hj)
    omega
theorem has_at {n : Int} {l : List Ed} (h : RS n l) (p : Int) : (hasAt l p = true → ∃ e, l[cntLt l p]? = some e ∧ e.at_ = p ∧ insAt l p = e.new) ∧ (hasAt l p = false → insAt l p = [] ∧ ∀ e, l[cntLt l p]? = some e → e.at_ ≠ p) := by
  constructor
  · intro hh
    obtain ⟨e, he, hp⟩ := List.any_eq_true.1 hh
    have hp : e.at_ = p := by simpa using hp
    obtain ⟨k, hk, rfl⟩ := List.mem_iff_getElem.1 he
    have hgk := List.getElem?_eq_getElem hk
    have h1 := cnt_iff p h hgk
    have hge : cntLt l p ≤ k := by
      rcases Nat.lt_or_ge k (cntLt l p) with q | q
      · have := h1.2 q; omega
      · exact q
    have hle : k ≤ cntLt l p := by
      rcases Nat.lt_or_ge (cntLt l p) k with q | q
      · have hc : cntLt l p < l.length := by omega
        have h2 := cnt_iff p h (List.getElem?_eq_getElem hc)
        have h3 := List.pairwise_iff_getElem.1 h.pair _ _ hc hk q
        have h4 := h.each _ (List.getElem_mem hc)
        have := h2.1 (by omega)
        omega
      · exact q
    obtain rfl : k = cntLt l p := by omega
    refine ⟨_, hgk, hp, ?_⟩
    unfold insAt
    cases hf : l.find? fun e => decide (e.at_ = p) with
    | none =>
      have := List.find?_eq_none.1 hf _ he
      simp [hp] at this
    | some e' =>
      have h5 := List.find?_some hf
      have h6 := List.mem_of_find?_eq_some hf
      rw [at_uniq h h6 he (by simp at h5; omega)]
  · intro hh
    have hall : ∀ e ∈ l, e.at_ ≠ p := by
      intro e he hp
      have := List.any_eq_false.1 hh e he
      simp [hp] at this
    refine ⟨?_, fun e he => hall e (List.mem_of_getElem? he)⟩
    unfold insAt
    rw [List.find?_eq_none.2 (fun e he => by simpa using hall e he)]
theorem cmpA_ok (e : Ed) (p : Int) (he : -1000000000000 ≤ e.at_ ∧ e.at_ ≤ 1000000000000) (hp : -1000000000000 ≤ p ∧ p ≤ 1000000000000) (s : AHeap) : ACall Tryz.prog 98 [e.enc, .int .i64 p] s fun r t => r = .int .i64 (e.at_ - p) ∧ t = s := by
  refine gob98 (by simp) ?_
  intro tm hlen harg
  have hw : IntKind.i64.wrap (e.at_ - p) = e.at_ - p := wrap_id (by omega)
  simp +contextual only [go_sem, L98, hlen, harg, hw, Ed.enc, cdD, cdN, gdT, gdF, gdD, Nat.reduceLT, Nat.reduceEqDiff, Nat.reduceAdd, Nat.reduceLeDiff, reduceIte, reduceCtorEq]
  exact lexit_pure (.refl s) (by simp only [low]) ⟨rfl, rfl⟩
theorem cmpK_ok (e : Ed) (p : Int) (he : -1000000000000 ≤ e.at_ ∧ e.at_ ≤ 1000000000000) (hp : -1000000000000 ≤ p ∧ p ≤ 1000000000000) (s : AHeap) : ACall Tryz.prog 99 [e.enc, .int .i64 p] s fun r t => r = .int .i64 (e.at_ - p) ∧ t = s := by
  refine gob99 (by simp) ?_
  intro tm hlen harg
  have hw : IntKind.i64.wrap (e.at_ - p) = e.at_ - p := wrap_id (by omega)
  simp +contextual only [go_sem, L99, hlen, harg, hw, Ed.enc, cdD, cdN, gdT, gdF, gdD, Nat.reduceLT, Nat.reduceEqDiff, Nat.reduceAdd, Nat.reduceLeDiff, reduceIte, reduceCtorEq]
  exact lexit_pure (.refl s) (by simp only [low]) ⟨rfl, rfl⟩
theorem cv_up {ev : Operand → AV} {x : Operand} {n : Nat} {s : AHeap} (hx : ev x = .int .i64 n) (hn : n < 9223372036854775808) : lop tab ev (.convert 3 216 x) s = some (.int .u64 n, s) := by
  have : IntKind.u64.wrap (n : Int) = n := by unfold IntKind.wrap; simp [IntKind.bits, IntKind.signed]; omega
  simp [lop, aop, apure, aconv, ty3, ty216, hx, this]
theorem cv_dn {ev : Operand → AV} {x : Operand} {n : Nat} {s : AHeap} (hx : ev x = .int .u64 n) (hn : n < 9223372036854775808) : lop tab ev (.convert 216 3 x) s = some (.int .i64 n, s) := by
  have : IntKind.i64.wrap (n : Int) = n := wrap_id (by omega)
  simp [lop, aop, apure, aconv, ty3, ty216, hx, this]
theorem shr1 {n : Nat} : abin tab .shr 216 (.int .u64 n) (.int .u64 1) = some (.int .u64 ((n / 2 : Nat) : Int)) := by
  simp [abin, ashift, IntKind.bits]
  exact Int.fdiv_eq_ediv_of_nonneg _ (by omega)
theorem bs_ok (n : Int) (hn : n ≤ 1000000) (v : AV) (l : List Ed) (p : Int) (hv : SlE v l) (hl : l.length ≤ 2000) (h : RS n l) (f : FuncId) (hf : ∀ (e : Ed) (s : AHeap), (-1000000000000 ≤ e.at_ ∧ e.at_ ≤ 1000000000000) → ACall Tryz.prog f [e.enc, .int .i64 p] s fun r t => r = .int .i64 (e.at_ - p) ∧ t = s) (s : AHeap) :
    ACall Tryz.prog 97 [v, .int .i64 p, .func (.func f) [] []] s fun r t => r = .tuple [.int .i64 (cntLt l p), .bool (hasAt l p)] ∧ t = s := by
  refine gob97 (by simp) ?_
  intro tm hlen harg
  have hcl := cnt_le l p
  simp +contextual only [go_sem, L97, hlen, harg, hv.len, cdD, cdN, gdT, gdF, gdD, Nat.reduceLT, Nat.reduceEqDiff, Nat.reduceAdd, Nat.reduceLeDiff, reduceIte, reduceCtorEq]
  refine ⟨Nat × Nat, fun x => [(0, v), (1, .int .i64 p), (2, .func (.func f) [] []), (8, .int .i64 l.length), (9, .int .i64 x.1), (10, .int .i64 x.2)], fun _ => loc s 0 [], fun x => x.1 ≤ cntLt l p ∧ cntLt l p ≤ x.2 ∧ x.2 ≤ l.length, fun x => x.2 - x.1, (0, l.length), ⟨Nat.zero_le _, hcl, Nat.le_refl _⟩, ?_, ?_⟩
  · refine To.go [] [] rfl (.refl s) (by decide) (by simp) ?_ trivial
    simp +contextual only [go_sem, hlen, harg, pu_ren hv.pu, cdD, cdN, gdT, gdF, gdD, Nat.reduceLT, Nat.reduceEqDiff, Nat.reduceAdd, Nat.reduceLeDiff, reduceIte, reduceCtorEq]
    simp
  · rintro ⟨i, j⟩ tm1 ⟨hi, hj, hjl⟩ hlen1 hlv
    simp only [go_sem, hlen, cdD, cdN, gdT, gdF, gdD, Nat.reduceLT, Nat.reduceEqDiff, Nat.reduceAdd, Nat.reduceLeDiff, reduceIte, reduceCtorEq] at hlen1 hlv hi hj hjl
    simp +contextual only [go_sem, hlen, hlen1, hlv, cdD, cdN, gdT, gdF, gdD, Nat.reduceLT, Nat.reduceEqDiff, Nat.reduceAdd, Nat.reduceLeDiff, reduceIte, reduceCtorEq]
    refine ⟨fun hlt => ?_, fun hge => ?_⟩
    · have hw1 : IntKind.i64.wrap ((i : Int) + (j : Int)) = ((i + j : Nat) : Int) := by rw [wrap_id (by omega)]; omega
      have hm : (i + j) / 2 < l.length := by omega
      have hgm := List.getElem?_eq_getElem hm
      have hci := cnt_iff p h hgm
      have hea := h.each _ (List.getElem_mem hm)
      generalize l[(i + j) / 2] = e at hgm hci hea
      have hw2 : IntKind.i64.wrap ((((i + j) / 2 : Nat) : Int) + 1) = (((i + j) / 2 + 1 : Nat) : Int) := by rw [wrap_id (by omega)]; rfl
      simp +contextual only [go_sem, hlen1, hlv, hw1, cdD, cdN, gdT, gdF, gdD, Nat.reduceLT, Nat.reduceEqDiff, Nat.reduceAdd, Nat.reduceLeDiff, reduceIte, reduceCtorEq]
      rw [lstepB_convert]
      refine lmem_eq (cv_up (n := i + j) (by simp only [go_sem, hlen1, cdD, cdN, gdT, gdF, gdD, Nat.reduceLT, Nat.reduceEqDiff, Nat.reduceAdd, Nat.reduceLeDiff, reduceIte, reduceCtorEq]) (by omega)) ?_
      simp +contextual only [go_sem, hlen1, hlv, shr1, cdD, cdN, gdT, gdF, gdD, Nat.reduceLT, Nat.reduceEqDiff, Nat.reduceAdd, Nat.reduceLeDiff, reduceIte, reduceCtorEq]
      rw [lstepB_convert]
      refine lmem_eq (cv_dn (n := (i + j) / 2) (by simp only [go_sem, hlen1, cdD, cdN, gdT, gdF, gdD, Nat.reduceLT, Nat.reduceEqDiff, Nat.reduceAdd, Nat.reduceLeDiff, reduceIte, reduceCtorEq]) (by omega)) ?_
      simp +contextual only [go_sem, hlen1, hlv, hv.at hgm, cdD, cdN, gdT, gdF, gdD, Nat.reduceLT, Nat.reduceEqDiff, Nat.reduceAdd, Nat.reduceLeDiff, reduceIte, reduceCtorEq]
      refine lfunG_eq (hf e _ (by omega)) ?_
      simp +contextual only [go_sem, hlen1, hlv, hw2, cdD, cdN, gdT, gdF, gdD, Nat.reduceLT, Nat.reduceEqDiff, Nat.reduceAdd, Nat.reduceLeDiff, reduceIte, reduceCtorEq]
      refine ⟨fun hc => ?_, fun hc => ?_⟩
      · refine ⟨((i + j) / 2 + 1, j), ⟨by have := hci.1 (by omega); simp only; omega, hj, hjl⟩, by simp only; omega, ?_⟩
        refine To.go [] [] rfl (.refl s) (by decide) (by simp) ?_ trivial
        simp +contextual only [go_sem, hlen1, hlv, pu_ren hv.pu, cdD, cdN, gdT, gdF, gdD, Nat.reduceLT, Nat.reduceEqDiff, Nat.reduceAdd, Nat.reduceLeDiff, reduceIte, reduceCtorEq]
      · have hge2 : cntLt l p ≤ (i + j) / 2 := by
          rcases Nat.lt_or_ge ((i + j) / 2) (cntLt l p) with q | q
          · have := hci.2 q; omega
          · exact q
        refine ⟨(i, (i + j) / 2), ⟨hi, hge2, by simp only; omega⟩, by simp only; omega, ?_⟩
        refine To.go [] [] rfl (.refl s) (by decide) (by simp) ?_ trivial
        simp +contextual only [go_sem, hlen1, hlv, pu_ren hv.pu, cdD, cdN, gdT, gdF, gdD, Nat.reduceLT, Nat.reduceEqDiff, Nat.reduceAdd, Nat.reduceLeDiff, reduceIte, reduceCtorEq]
    · have hij : i = cntLt l p := by omega
      obtain ⟨ha1, ha2⟩ := has_at h p
      by_cases hc : cntLt l p < l.length
      · have hgm := List.getElem?_eq_getElem hc
        have hea := h.each _ (List.getElem_mem hc)
        generalize l[cntLt l p] = e at hgm hea
        subst hij
        have hci : ((cntLt l p : Nat) : Int) < (l.length : Int) := by omega
        simp +contextual only [go_sem, hlen1, hlv, hci, hv.at hgm, cdD, cdN, gdT, gdF, gdD, Nat.reduceLT, Nat.reduceEqDiff, Nat.reduceAdd, Nat.reduceLeDiff, reduceIte, reduceCtorEq]
        refine ⟨fun _ => ?_, fun q => q.elim⟩
        refine lfunG_eq (hf e _ (by omega)) ?_
        simp +contextual only [go_sem, hlen1, hlv, cdD, cdN, gdT, gdF, gdD, Nat.reduceLT, Nat.reduceEqDiff, Nat.reduceAdd, Nat.reduceLeDiff, reduceIte, reduceCtorEq]
        refine lexit_pure (.refl s) (by simp only [low, lowL, and_self]) ⟨?_, rfl⟩
        congr 3
        cases hh : hasAt l p with
        | true =>
          obtain ⟨e', q1, q2, _⟩ := ha1 hh
          rw [hgm] at q1; cases q1
          simp; omega
        | false =>
          have := (ha2 hh).2 e hgm
          simp; omega
      · subst hij
        have hci : ¬ ((cntLt l p : Nat) : Int) < (l.length : Int) := by omega
        simp +contextual only [go_sem, hlen1, hlv, hci, cdD, cdN, gdT, gdF, gdD, Nat.reduceLT, Nat.reduceEqDiff, Nat.reduceAdd, Nat.reduceLeDiff, reduceIte, reduceCtorEq]
        refine ⟨fun q => q.elim, fun _ => ?_⟩
        refine lexit_pure (.refl s) (by simp only [low, lowL, and_self]) ⟨?_, rfl⟩
        congr 3
        cases hh : hasAt l p with
        | true =>
          obtain ⟨e', q1, q2, _⟩ := ha1 hh
          rw [List.getElem?_eq_none (by omega)] at q1; cases q1
        | false => rfl
theorem at_ok (n : Int) (hn : n ≤ 1000000) (v : AV) (l : List Ed) (p : Int) (hv : SlE v l) (hl : l.length ≤ 2000) (h : RS n l) (hp : 0 ≤ p ∧ p ≤ 1000000) (s : AHeap) :
    ACall Tryz.prog 73 [v, .int .i64 p] s fun r t => r = .tuple [.str (insAt l p), .bool (hasAt l p)] ∧ t = s := by
  refine gob73 (by simp) ?_
  intro tm hlen harg
  obtain ⟨ha1, ha2⟩ := has_at h p
  simp +contextual only [go_sem, L73, hlen, harg, cdD, cdN, gdT, gdF, gdD, Nat.reduceLT, Nat.reduceEqDiff, Nat.reduceAdd, Nat.reduceLeDiff, reduceIte, reduceCtorEq]
  refine lfunG_eq (bs_ok n hn v l p hv hl h 98 (fun e s he => cmpA_ok e p he (by omega) s) _) ?_
  cases hh : hasAt l p with
  | true =>
    obtain ⟨e', q1, q2, q3⟩ := ha1 hh
    simp +contextual only [go_sem, hlen, harg, hv.at q1, cdD, cdN, gdT, gdF, gdD, Nat.reduceLT, Nat.reduceEqDiff, Nat.reduceAdd, Nat.reduceLeDiff, reduceIte, reduceCtorEq]
    refine lexit_pure (.refl s) (by simp only [low, lowL, and_self]) ⟨by rw [q3], rfl⟩
  | false =>
    simp +contextual only [go_sem, hlen, harg, cdD, cdN, gdT, gdF, gdD, Nat.reduceLT, Nat.reduceEqDiff, Nat.reduceAdd, Nat.reduceLeDiff, reduceIte, reduceCtorEq]
    refine lexit_pure (.refl s) (by simp only [low, lowL, and_self]) ⟨by rw [(ha2 hh).1], rfl⟩
theorem gone_eq {n : Int} {l : List Ed} (h : RS n l) (p : Int) : (hasAt l p = true → ∃ e, l[cntLt l p]? = some e ∧ (goneB l p = true ↔ 0 < e.cut ∧ e.at_ = p)) ∧
    (hasAt l p = false → (cntLt l p = 0 ∧ goneB l p = false) ∨ ∃ e, 0 < cntLt l p ∧ l[cntLt l p - 1]? = some e ∧ e.at_ < p ∧ (goneB l p = true ↔ p < e.at_ + e.cut)) := by
  have hcl := cnt_le l p
  have key : ∀ k (hk : k < l.length), Ed.covers l[k] p → ∀ j, (hj : j < l.length) → k < j → p < l[j].at_ := by
    intro k hk hc j hj hkj
    have := List.pairwise_iff_getElem.1 h.pair k j hk hj hkj
    have := hc.2
    omega
  have mem : goneB l p = true ↔ ∃ k, ∃ hk : k < l.length, Ed.covers l[k] p := by
    unfold goneB
    rw [List.any_eq_true]
    constructor
    · rintro ⟨e, he, hc⟩
      obtain ⟨k, hk, rfl⟩ := List.mem_iff_getElem.1 he
      exact ⟨k, hk, by simpa using hc⟩
    · rintro ⟨k, hk, hc⟩
      exact ⟨_, List.getElem_mem hk, by simpa using hc⟩
  obtain ⟨ha1, ha2⟩ := has_at h p
  constructor
  · intro hh
    obtain ⟨e, q1, q2, _⟩ := ha1 hh
    have hc : cntLt l p < l.length := by
      rcases Nat.lt_or_ge (cntLt l p) l.length with q | q
      · exact q
      · rw [List.getElem?_eq_none q] at q1; cases q1
    rw [List.getElem?_eq_getElem hc] at q1
    cases q1
    refine ⟨_, List.getElem?_eq_getElem hc, ?_⟩
    rw [mem]
    constructor
    · rintro ⟨k, hk, hcv⟩
      have h1 := cnt_iff p h (List.getElem?_eq_getElem hk)
      rcases Nat.lt_trichotomy k (cntLt l p) with q | q | q
      · have := key k hk hcv _ hc q; omega
      · subst q; have := hcv.2; exact ⟨by omega, q2⟩
      · have h3 := List.pairwise_iff_getElem.1 h.pair _ _ hc hk q
        have h4 := h.each _ (List.getElem_mem hc)
        have := hcv.1
        omega
    · rintro ⟨h1, h2⟩
      exact ⟨_, hc, by omega, by omega⟩
  · intro hh
    have hno := (ha2 hh).2
    rcases Nat.eq_zero_or_pos (cntLt l p) with h0 | h0
    · left
      refine ⟨h0, ?_⟩
      cases hg : goneB l p with
      | false => rfl
      | true =>
        obtain ⟨k, hk, hcv⟩ := mem.1 hg
        have h1 := cnt_iff p h (List.getElem?_eq_getElem hk)
        rcases Nat.eq_zero_or_pos k with q | q
        · subst q
          have := hno _ (by rw [h0]; exact List.getElem?_eq_getElem hk)
          have := hcv.1
          have := h1.1 (by omega)
          omega
        · have hc0 : 0 < l.length := by omega
          have := cnt_iff p h (List.getElem?_eq_getElem hc0)
          have h3 := List.pairwise_iff_getElem.1 h.pair _ _ hc0 hk q
          have h4 := h.each _ (List.getElem_mem hc0)
          have := hcv.1
          omega
    · right
      have hc : cntLt l p - 1 < l.length := by omega
      have h1 := (cnt_iff p h (List.getElem?_eq_getElem hc)).2 (by omega)
      refine ⟨_, h0, List.getElem?_eq_getElem hc, h1, ?_⟩
      rw [mem]
      constructor
      · rintro ⟨k, hk, hcv⟩
        have h2 := cnt_iff p h (List.getElem?_eq_getElem hk)
        rcases Nat.lt_trichotomy k (cntLt l p - 1) with q | q | q
        · have := key k hk hcv _ hc q; omega
        · subst q; exact hcv.2
        · have := hcv.1
          have hnl : ¬ l[k].at_ < p := fun w => by have := h2.1 w; omega
          have heq : l[k].at_ = p := by omega
          exfalso
          have hk2 : cntLt l p ≤ k := by omega
          rcases Nat.lt_or_ge (cntLt l p) k with w | w
          · have hcc : cntLt l p < l.length := by omega
            have h3 := List.pairwise_iff_getElem.1 h.pair _ _ hcc hk w
            have h4 := h.each _ (List.getElem_mem hcc)
            have := (cnt_iff p h (List.getElem?_eq_getElem hcc)).1 (by omega)
            omega
          · obtain rfl : k = cntLt l p := by omega
            exact hno _ (List.getElem?_eq_getElem hk) heq
      · intro hlt
        exact ⟨_, hc, by omega, hlt⟩
theorem keeps_ok (n : Int) (hn : n ≤ 1000000) (v : AV) (l : List Ed) (p : Int) (hv : SlE v l) (hl : l.length ≤ 2000) (h : RS n l) (hp : 0 ≤ p ∧ p ≤ 1000000) (s : AHeap) :
    ACall Tryz.prog 74 [v, .int .i64 p] s fun r t => r = .bool (!goneB l p) ∧ t = s := by
  refine gob74 (by simp) ?_
  intro tm hlen harg
  obtain ⟨ha1, ha2⟩ := gone_eq h p
  have hcl := cnt_le l p
  simp +contextual only [go_sem, L74, hlen, harg, cdD, cdN, gdT, gdF, gdD, Nat.reduceLT, Nat.reduceEqDiff, Nat.reduceAdd, Nat.reduceLeDiff, reduceIte, reduceCtorEq]
  refine lfunG_eq (bs_ok n hn v l p hv hl h 99 (fun e s he => cmpK_ok e p he (by omega) s) _) ?_
  cases hh : hasAt l p with
  | true =>
    obtain ⟨e, q1, q2⟩ := ha1 hh
    have hea := h.each e (List.mem_of_getElem? q1)
    have hw : IntKind.i64.wrap (e.at_ + e.cut) = e.at_ + e.cut := wrap_id (by omega)
    have hng : ¬ ((cntLt l p : Nat) : Int) < 0 := by omega
    simp +contextual only [go_sem, hlen, harg, cdD, cdN, gdT, gdF, gdD, Nat.reduceLT, Nat.reduceEqDiff, Nat.reduceAdd, Nat.reduceLeDiff, reduceIte, reduceCtorEq]
    refine ldrawB_go [] [] 15 (by decide) ?_
    simp +contextual only [go_sem, hlen, harg, hv.at q1, hw, hng, cdD, cdN, gdT, gdF, gdD, Nat.reduceLT, Nat.reduceEqDiff, Nat.reduceAdd, Nat.reduceLeDiff, reduceIte, reduceCtorEq]
    obtain ⟨e', r1, r2, _⟩ := (has_at h p).1 hh
    rw [q1] at r1; cases r1
    refine ⟨by kernel_rfl, lexit_pure (.refl s) (by simp only [low]) ⟨?_, rfl⟩⟩
    cases hg : goneB l p with
    | true => have := q2.1 hg; simp; omega
    | false =>
      have : ¬ (0 < e.cut ∧ e.at_ = p) := fun q => by rw [q2.2 q] at hg; cases hg
      simp; omega
  | false =>
    rcases ha2 hh with ⟨h0, hg⟩ | ⟨e, h0, q1, q2, q3⟩
    · have hw : IntKind.i64.wrap ((0 : Nat) - 1 : Int) = -1 := wrap_id (by omega)
      have hneg : (-1 : Int) < 0 := by omega
      rw [h0]
      simp +contextual only [go_sem, hlen, harg, cdD, cdN, gdT, gdF, gdD, Nat.reduceLT, Nat.reduceEqDiff, Nat.reduceAdd, Nat.reduceLeDiff, reduceIte, reduceCtorEq]
      refine ldrawB_go [] [] 15 (by decide) ?_
      simp +contextual only [go_sem, hlen, harg, hw, hneg, cdD, cdN, gdT, gdF, gdD, Nat.reduceLT, Nat.reduceEqDiff, Nat.reduceAdd, Nat.reduceLeDiff, reduceIte, reduceCtorEq]
      exact ⟨by kernel_rfl, lexit_pure (.refl s) (by simp only [low]) ⟨by rw [hg]; rfl, rfl⟩⟩
    · have hw1 : IntKind.i64.wrap (((cntLt l p : Nat) : Int) - 1) = ((cntLt l p - 1 : Nat) : Int) := by rw [wrap_id (by omega)]; omega
      have hea := h.each e (List.mem_of_getElem? q1)
      have hw : IntKind.i64.wrap (e.at_ + e.cut) = e.at_ + e.cut := wrap_id (by omega)
      have hng : ¬ ((cntLt l p - 1 : Nat) : Int) < 0 := by omega
      simp +contextual only [go_sem, hlen, harg, hw1, cdD, cdN, gdT, gdF, gdD, Nat.reduceLT, Nat.reduceEqDiff, Nat.reduceAdd, Nat.reduceLeDiff, reduceIte, reduceCtorEq]
      refine ldrawB_go [] [] 15 (by decide) ?_
      simp +contextual only [go_sem, hlen, harg, hv.at q1, hw, hng, cdD, cdN, gdT, gdF, gdD, Nat.reduceLT, Nat.reduceEqDiff, Nat.reduceAdd, Nat.reduceLeDiff, reduceIte, reduceCtorEq]
      refine ⟨by kernel_rfl, lexit_pure (.refl s) (by simp only [low]) ⟨?_, rfl⟩⟩
      cases hg : goneB l p with
      | true => have := q3.1 hg; simp; omega
      | false =>
        have : ¬ (p < e.at_ + e.cut) := fun q => by rw [q3.2 q] at hg; cases hg
        simp; omega
end Go.S1N
end
