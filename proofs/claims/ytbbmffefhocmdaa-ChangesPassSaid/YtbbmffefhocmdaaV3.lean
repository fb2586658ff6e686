/- Part 3 of a proof: texts of this work, put together. -/
import Derived.Test.YtbbmffefhocmdaaV2
import Derived.KernelRfl
section
set_option linter.unusedVariables false
set_option linter.unusedSimpArgs false
namespace Go.S1N
open Go Go.Am Go.Proofs Go.S1
set_option maxRecDepth 100000
set_option linter.unusedSimpArgs false
attribute [local irreducible] lopsB lvb lstepB lfunG lcondB lguardB ldrawB ldrunB ldstepB ldguardB lmem lval ldmem ldval ldfun lexit ldloadB ldlenB lpostB athen ablock
theorem rnv_one (l : List Rn) : (rnv l).one = true := fsv_one
theorem rnv_israw (l : List Rn) : (rnv l).israw = false := fsv_israw
theorem rnv_cells (l : List Rn) : (rnv l).cells = [rnv l] := fsv_cells
def bothErr (n : Int) (a b : List Ed) : Int := if faultOf n a ≠ 0 then faultOf n a else faultOf n b
theorem checkBoth_ok (n : Int) (a b : List Ed) (ha : a.length < 4611686018427387904) (hb : b.length < 4611686018427387904) (s : AHeap) : ACall Try.prog 110 [.int .i64 n, edv a, edv b] s fun r t => r = .int .i64 (bothErr n a b) ∧ t = s := by
  refine gob110 (by simp) ?_
  intro tm hlen harg
  simp +contextual only [go_sem, L110, hlen, harg, lcondB_decide, lcondB_not, lguardB_decide_true, lguardB_decide_false, ldguardB_decide, Nat.reduceLT, Nat.reduceEqDiff, Nat.reduceAdd, Nat.reduceLeDiff, reduceIte, reduceCtorEq]
  refine lfunG_eq (checkE n _ a (edv_sl a) ha _) ?_
  simp +contextual only [go_sem, hlen, harg, lcondB_decide, lcondB_not, lguardB_decide_true, lguardB_decide_false, ldguardB_decide, Nat.reduceLT, Nat.reduceEqDiff, Nat.reduceAdd, Nat.reduceLeDiff, reduceIte, reduceCtorEq]
  refine ⟨fun c => ?_, fun c => ?_⟩
  · exact lexit_pure (.refl s) (by simp only [low]) ⟨by rw [bothErr, if_pos c], rfl⟩
  · refine lfunG_eq (checkE n _ b (edv_sl b) hb _) ?_
    simp +contextual only [go_sem, hlen, harg, lcondB_decide, lcondB_not, lguardB_decide_true, lguardB_decide_false, ldguardB_decide, Nat.reduceLT, Nat.reduceEqDiff, Nat.reduceAdd, Nat.reduceLeDiff, reduceIte, reduceCtorEq]
    exact lexit_pure (.refl s) (by simp only [low]) ⟨by rw [bothErr, if_neg (by simpa using c)], rfl⟩
theorem bothFault_ok (n : Int) (a b : List Ed) (ha : a.length < 4611686018427387904) (hb : b.length < 4611686018427387904) (s : AHeap) : ACall Try.prog 113 [.int .i64 n, edv a, edv b] s fun r t => r = .int .i64 (bothErr n a b) ∧ t = s := by
  refine gob113 (by simp) ?_
  intro tm hlen harg
  simp +contextual only [go_sem, L113, hlen, harg, lcondB_decide, lcondB_not, lguardB_decide_true, lguardB_decide_false, ldguardB_decide, Nat.reduceLT, Nat.reduceEqDiff, Nat.reduceAdd, Nat.reduceLeDiff, reduceIte, reduceCtorEq]
  refine lfunG_eq (exact_of (by simp only [Pu, low]) (fault_ok n _ a (edv_sl a) ha _)) ?_
  simp +contextual only [go_sem, hlen, harg, lcondB_decide, lcondB_not, lguardB_decide_true, lguardB_decide_false, ldguardB_decide, Nat.reduceLT, Nat.reduceEqDiff, Nat.reduceAdd, Nat.reduceLeDiff, reduceIte, reduceCtorEq]
  refine ⟨fun c => ?_, fun c => ?_⟩
  · exact lexit_pure (.refl s) (by simp only [low]) ⟨by rw [bothErr, if_pos c], rfl⟩
  · refine lfunG_eq (exact_of (by simp only [Pu, low]) (fault_ok n _ b (edv_sl b) hb _)) ?_
    simp +contextual only [go_sem, hlen, harg, lcondB_decide, lcondB_not, lguardB_decide_true, lguardB_decide_false, ldguardB_decide, Nat.reduceLT, Nat.reduceEqDiff, Nat.reduceAdd, Nat.reduceLeDiff, reduceIte, reduceCtorEq]
    exact lexit_pure (.refl s) (by simp only [low]) ⟨by rw [bothErr, if_neg (by simpa using c)], rfl⟩
def rnB (l : List Rn) : Prop := (∀ r ∈ l, 0 ≤ r.at_ ∧ r.at_ ≤ 1000000000 ∧ r.at_ + r.long ≤ 1000000000 ∧ 0 ≤ r.long ∧ r.text.length ≤ 1000000) ∧ l.length ≤ 1000000000
structure MOk (n : Int) (a b : List Ed) : Prop where
  hn : 0 ≤ n ∧ n ≤ 1000000
  ha : a.length ≤ 2000
  hb : b.length ≤ 2000
  ra : RS n a
  rb : RS n b
  ia : ∀ p, (insAt a p).length ≤ 100000
  ib : ∀ p, (insAt b p).length ≤ 100000
  pl : ∀ p ∈ placesL n a b, 0 ≤ p ∧ p ≤ 1000000
  pl2 : (placesL n a b).length ≤ 10000
  mono : ∀ (i : Nat) (p q : Int), (placesL n a b)[i]? = some p → (placesL n a b)[i + 1]? = some q → p ≤ q
  la : 0 ≤ longOf n a ∧ longOf n a ≤ 1000000
  lb : 0 ≤ longOf n b ∧ longOf n b ≤ 1000000
  b1 : rnB (meetGo a b (placesL n a b) 0 0).both
  b2 : rnB (meetGo a b (placesL n a b) 0 0).first
  b3 : rnB (meetGo a b (placesL n a b) 0 0).second
theorem MOk.meet {n : Int} {a b : List Ed} (h : MOk n a b) (s : AHeap) : ACall Try.prog 111 [.int .i64 n, edv a, edv b] s fun r t => r = (meetGo a b (placesL n a b) 0 0).enc ∧ t = s :=
  meet_ok n h.hn a b h.ha h.hb h.ra h.rb h.ia h.ib h.pl h.pl2 h.mono s
def pastE (n : Int) (a b : List Ed) : List Ed × List Ed × Int :=
  if bothErr n a b ≠ 0 then ([], [], bothErr n a b) else
  if 2000 < (rGo (longOf n a) 0 [] (meetGo a b (placesL n a b) 0 0).first).length ∨ 2000 < (rGo (longOf n b) 0 [] (meetGo a b (placesL n a b) 0 0).second).length ∨ 20000 < (meetGo a b (placesL n a b) 0 0).long then ([], [], 2)
  else (rGo (longOf n a) 0 [] (meetGo a b (placesL n a b) 0 0).first, rGo (longOf n b) 0 [] (meetGo a b (placesL n a b) 0 0).second, 0)
theorem past_ok (n : Int) (a b : List Ed) (ha : a.length < 4611686018427387904) (hb : b.length < 4611686018427387904) (hm : bothErr n a b = 0 → MOk n a b) (s : AHeap) :
    ACall Try.prog 60 [.int .i64 n, edv a, edv b] s fun r t => r = .tuple [edv (pastE n a b).1, edv (pastE n a b).2.1, .int .i64 (pastE n a b).2.2] ∧ t = s := by
  refine gob60 (by simp) ?_
  intro tm hlen harg
  simp +contextual only [go_sem, L60, hlen, harg, lcondB_decide, lcondB_not, lguardB_decide_true, lguardB_decide_false, ldguardB_decide, Nat.reduceLT, Nat.reduceEqDiff, Nat.reduceAdd, Nat.reduceLeDiff, reduceIte, reduceCtorEq]
  refine lfunG_eq (checkBoth_ok n a b ha hb _) ?_
  simp +contextual only [go_sem, hlen, harg, lcondB_decide, lcondB_not, lguardB_decide_true, lguardB_decide_false, ldguardB_decide, Nat.reduceLT, Nat.reduceEqDiff, Nat.reduceAdd, Nat.reduceLeDiff, reduceIte, reduceCtorEq]
  refine ⟨fun c => ?_, fun c => ?_⟩
  · refine lexit_pure (.refl s) (by simp only [low, lowL, and_self]) ⟨by rw [pastE, if_pos c]; rfl, rfl⟩
  have c : bothErr n a b = 0 := by simpa using c
  have h := hm c
  have hval : pastE n a b = if 2000 < (rGo (longOf n a) 0 [] (meetGo a b (placesL n a b) 0 0).first).length ∨ 2000 < (rGo (longOf n b) 0 [] (meetGo a b (placesL n a b) 0 0).second).length ∨ 20000 < (meetGo a b (placesL n a b) 0 0).long then ([], [], 2)
    else (rGo (longOf n a) 0 [] (meetGo a b (placesL n a b) 0 0).first, rGo (longOf n b) 0 [] (meetGo a b (placesL n a b) 0 0).second, 0) := by rw [pastE, if_neg (by simpa using c)]
  rw [hval]
  have hb2 := h.b2
  have hb3 := h.b3
  refine lfunG_eq (h.meet _) ?_
  generalize meetGo a b (placesL n a b) 0 0 = M at *
  simp +contextual only [go_sem, hlen, harg, Mt.enc, rnv_one, rnv_israw, rnv_cells, lcondB_decide, lcondB_not, lguardB_decide_true, lguardB_decide_false, ldguardB_decide, Nat.reduceLT, Nat.reduceEqDiff, Nat.reduceAdd, Nat.reduceLeDiff, reduceIte, reduceCtorEq]
  refine ldrawB_go [] [] 11 (by decide) ?_
  simp +contextual only [go_sem, hlen, harg, lcondB_decide, lcondB_not, lguardB_decide_true, lguardB_decide_false, ldguardB_decide, Nat.reduceLT, Nat.reduceEqDiff, Nat.reduceAdd, Nat.reduceLeDiff, reduceIte, reduceCtorEq]
  refine ldfun_pure _ (longE n _ a (edv_sl a) ha) ?_
  simp +contextual only [go_sem, hlen, harg, lcondB_decide, lcondB_not, lguardB_decide_true, lguardB_decide_false, ldguardB_decide, Nat.reduceLT, Nat.reduceEqDiff, Nat.reduceAdd, Nat.reduceLeDiff, reduceIte, reduceCtorEq]
  refine ldfun_pure _ (fun s => editsR_ok (longOf n a) M.first ⟨h.la.1, by have := h.la.2; omega⟩ hb2.1 hb2.2 s) ?_
  simp +contextual only [go_sem, hlen, harg, lcondB_decide, lcondB_not, lguardB_decide_true, lguardB_decide_false, ldguardB_decide, Nat.reduceLT, Nat.reduceEqDiff, Nat.reduceAdd, Nat.reduceLeDiff, reduceIte, reduceCtorEq]
  refine ldfun_pure _ (longE n _ b (edv_sl b) hb) ?_
  simp +contextual only [go_sem, hlen, harg, lcondB_decide, lcondB_not, lguardB_decide_true, lguardB_decide_false, ldguardB_decide, Nat.reduceLT, Nat.reduceEqDiff, Nat.reduceAdd, Nat.reduceLeDiff, reduceIte, reduceCtorEq]
  refine ⟨by kernel_rfl, ?_⟩
  refine lfunG_eq (editsR_ok (longOf n b) M.second ⟨h.lb.1, by have := h.lb.2; omega⟩ hb3.1 hb3.2 _) ?_
  generalize rGo (longOf n a) 0 [] M.first = X
  generalize rGo (longOf n b) 0 [] M.second = Y
  generalize hV : (if 2000 < X.length ∨ 2000 < Y.length ∨ 20000 < M.long then (([], [], 2) : List Ed × List Ed × Int) else (X, Y, 0)) = V
  have hbad : (2000 < X.length ∨ 2000 < Y.length ∨ 20000 < M.long) → lexit s (fun r t => r = .tuple [edv V.1, edv V.2.1, .int .i64 V.2.2] ∧ t = s)
      (some (.tuple [.nils, .nils, .int .i64 2])) (loc s 12 [(0, some (.cells [rnv M.both, rnv M.first, rnv M.second, .int .i64 M.long] (some 164)))]) := by
    intro hh
    exact lexit_pure (.refl s) (by simp only [low, lowL, and_self]) ⟨by rw [← hV, if_pos hh]; rfl, rfl⟩
  by_cases c1 : 2000 < (X.length : Int)
  · simp +contextual only [go_sem, hlen, harg, (edv_sl X).len, (edv_sl Y).len, c1, lcondB_decide, lcondB_not, lguardB_decide_true, lguardB_decide_false, ldguardB_decide, Nat.reduceLT, Nat.reduceEqDiff, Nat.reduceAdd, Nat.reduceLeDiff, reduceIte, reduceCtorEq]
    exact hbad (.inl (by omega))
  by_cases c2 : 2000 < (Y.length : Int)
  · simp +contextual only [go_sem, hlen, harg, (edv_sl X).len, (edv_sl Y).len, c1, c2, lcondB_decide, lcondB_not, lguardB_decide_true, lguardB_decide_false, ldguardB_decide, Nat.reduceLT, Nat.reduceEqDiff, Nat.reduceAdd, Nat.reduceLeDiff, reduceIte, reduceCtorEq]
    exact hbad (.inr (.inl (by omega)))
  by_cases c3 : 20000 < M.long
  · simp +contextual only [go_sem, hlen, harg, (edv_sl X).len, (edv_sl Y).len, c1, c2, c3, lcondB_decide, lcondB_not, lguardB_decide_true, lguardB_decide_false, ldguardB_decide, Nat.reduceLT, Nat.reduceEqDiff, Nat.reduceAdd, Nat.reduceLeDiff, reduceIte, reduceCtorEq]
    exact hbad (.inr (.inr c3))
  · simp +contextual only [go_sem, hlen, harg, (edv_sl X).len, (edv_sl Y).len, c1, c2, c3, lcondB_decide, lcondB_not, lguardB_decide_true, lguardB_decide_false, ldguardB_decide, Nat.reduceLT, Nat.reduceEqDiff, Nat.reduceAdd, Nat.reduceLeDiff, reduceIte, reduceCtorEq]
    refine lexit_pure (.refl s) (by simp only [low, lowL, and_true]; exact ⟨low.mono (Nat.zero_le _) (edv_pu _), low.mono (Nat.zero_le _) (edv_pu _)⟩) ⟨by rw [← hV, if_neg (by omega)], rfl⟩
def bothE (n : Int) (a b : List Ed) : List Ed × Int :=
  if bothErr n a b ≠ 0 then ([], bothErr n a b) else
  if 2000 < (rGo n 0 [] (meetGo a b (placesL n a b) 0 0).both).length ∨ 20000 < (meetGo a b (placesL n a b) 0 0).long then ([], 2)
  else (rGo n 0 [] (meetGo a b (placesL n a b) 0 0).both, 0)
theorem both_ok (n : Int) (a b : List Ed) (ha : a.length < 4611686018427387904) (hb : b.length < 4611686018427387904) (hm : bothErr n a b = 0 → MOk n a b) (s : AHeap) :
    ACall Try.prog 61 [.int .i64 n, edv a, edv b] s fun r t => r = .tuple [edv (bothE n a b).1, .int .i64 (bothE n a b).2] ∧ t = s := by
  refine gob61 (by simp) ?_
  intro tm hlen harg
  simp +contextual only [go_sem, L61, hlen, harg, lcondB_decide, lcondB_not, lguardB_decide_true, lguardB_decide_false, ldguardB_decide, Nat.reduceLT, Nat.reduceEqDiff, Nat.reduceAdd, Nat.reduceLeDiff, reduceIte, reduceCtorEq]
  refine lfunG_eq (checkBoth_ok n a b ha hb _) ?_
  simp +contextual only [go_sem, hlen, harg, lcondB_decide, lcondB_not, lguardB_decide_true, lguardB_decide_false, ldguardB_decide, Nat.reduceLT, Nat.reduceEqDiff, Nat.reduceAdd, Nat.reduceLeDiff, reduceIte, reduceCtorEq]
  refine ⟨fun c => ?_, fun c => ?_⟩
  · refine lexit_pure (.refl s) (by simp only [low, lowL, and_self]) ⟨by rw [bothE, if_pos c]; rfl, rfl⟩
  have c : bothErr n a b = 0 := by simpa using c
  have h := hm c
  have hval : bothE n a b = if 2000 < (rGo n 0 [] (meetGo a b (placesL n a b) 0 0).both).length ∨ 20000 < (meetGo a b (placesL n a b) 0 0).long then ([], 2)
    else (rGo n 0 [] (meetGo a b (placesL n a b) 0 0).both, 0) := by rw [bothE, if_neg (by simpa using c)]
  rw [hval]
  have hb1 := h.b1
  refine lfunG_eq (h.meet _) ?_
  generalize meetGo a b (placesL n a b) 0 0 = M at *
  simp +contextual only [go_sem, hlen, harg, Mt.enc, rnv_one, rnv_israw, rnv_cells, lcondB_decide, lcondB_not, lguardB_decide_true, lguardB_decide_false, ldguardB_decide, Nat.reduceLT, Nat.reduceEqDiff, Nat.reduceAdd, Nat.reduceLeDiff, reduceIte, reduceCtorEq]
  refine lfunG_eq (editsR_ok n M.both ⟨h.hn.1, by have := h.hn.2; omega⟩ hb1.1 hb1.2 _) ?_
  generalize rGo n 0 [] M.both = X
  generalize hV : (if 2000 < X.length ∨ 20000 < M.long then (([], 2) : List Ed × Int) else (X, 0)) = V
  by_cases c1 : 2000 < (X.length : Int)
  · simp +contextual only [go_sem, hlen, harg, (edv_sl X).len, c1, lcondB_decide, lcondB_not, lguardB_decide_true, lguardB_decide_false, ldguardB_decide, Nat.reduceLT, Nat.reduceEqDiff, Nat.reduceAdd, Nat.reduceLeDiff, reduceIte, reduceCtorEq]
    exact lexit_pure (.refl s) (by simp only [low, lowL, and_self]) ⟨by rw [← hV, if_pos (.inl (by omega))]; rfl, rfl⟩
  by_cases c3 : 20000 < M.long
  · simp +contextual only [go_sem, hlen, harg, (edv_sl X).len, c1, c3, lcondB_decide, lcondB_not, lguardB_decide_true, lguardB_decide_false, ldguardB_decide, Nat.reduceLT, Nat.reduceEqDiff, Nat.reduceAdd, Nat.reduceLeDiff, reduceIte, reduceCtorEq]
    exact lexit_pure (.refl s) (by simp only [low, lowL, and_self]) ⟨by rw [← hV, if_pos (.inr c3)]; rfl, rfl⟩
  · simp +contextual only [go_sem, hlen, harg, (edv_sl X).len, c1, c3, lcondB_decide, lcondB_not, lguardB_decide_true, lguardB_decide_false, ldguardB_decide, Nat.reduceLT, Nat.reduceEqDiff, Nat.reduceAdd, Nat.reduceLeDiff, reduceIte, reduceCtorEq]
    exact lexit_pure (.refl s) (by simp only [low, lowL, and_true]; exact low.mono (Nat.zero_le _) (edv_pu _)) ⟨by rw [← hV, if_neg (by omega)], rfl⟩
def touch (x y : Ed) : Prop := x.at_ ≤ y.at_ + y.cut ∧ y.at_ ≤ x.at_ + x.cut
instance (x y : Ed) : Decidable (touch x y) := inferInstanceAs (Decidable (_ ∧ _))
def clashR (a b : List Ed) : Bool := a.any fun x => b.any fun y => decide (touch x y)
theorem clashOf_ok (a b : List Ed) (ha : a.length ≤ 2000) (hb : b.length ≤ 2000) (he : ∀ e ∈ a ++ b, -1000000000000 ≤ e.at_ + e.cut ∧ e.at_ + e.cut ≤ 1000000000000) (s : AHeap) :
    ACall Try.prog 65 [edv a, edv b] s fun r t => r = .bool (clashR a b) ∧ t = s := by
  refine gob65 (by simp) ?_
  intro tm hlen harg
  have hsa := edv_sl a
  have hsb := edv_sl b
  simp +contextual only [go_sem, L65, hlen, harg, hsa.len, lcondB_decide, lcondB_not, lguardB_decide_true, lguardB_decide_false, ldguardB_decide, Nat.reduceLT, Nat.reduceEqDiff, Nat.reduceAdd, Nat.reduceLeDiff, reduceIte, reduceCtorEq]
  refine ⟨Nat, fun i => [(1, edv b), (9, edv a), (10, .int .i64 a.length), (11, .int .i64 i)], fun _ => loc s 0 [], fun i => i ≤ a.length ∧ clashR (a.drop i) b = clashR a b, fun i => a.length - i, 0, ⟨Nat.zero_le _, rfl⟩, ?_, ?_⟩
  · refine To.go [] [] rfl (.refl s) (by decide) (by simp) ?_ trivial
    simp +contextual only [go_sem, hlen, harg, pu_ren (edv_pu _), lcondB_decide, lcondB_not, lguardB_decide_true, lguardB_decide_false, ldguardB_decide, Nat.reduceLT, Nat.reduceEqDiff, Nat.reduceAdd, Nat.reduceLeDiff, reduceIte, reduceCtorEq]
    rfl
  · rintro i tm1 ⟨hi, hE⟩ hlen1 hlv
    simp only [go_sem, hlen, lcondB_decide, lcondB_not, lguardB_decide_true, lguardB_decide_false, ldguardB_decide, Nat.reduceLT, Nat.reduceEqDiff, Nat.reduceAdd, Nat.reduceLeDiff, reduceIte, reduceCtorEq] at hlen1 hlv
    simp +contextual only [go_sem, hlen, hlen1, hlv, lcondB_decide, lcondB_not, lguardB_decide_true, lguardB_decide_false, ldguardB_decide, Nat.reduceLT, Nat.reduceEqDiff, Nat.reduceAdd, Nat.reduceLeDiff, reduceIte, reduceCtorEq]
    refine ⟨fun hlt => ?_, fun hge => ?_⟩
    · have hi2 : i < a.length := by omega
      have hg := List.getElem?_eq_getElem hi2
      have hmem : a[i] ∈ a := List.getElem_mem hi2
      have hdrop := List.drop_eq_getElem_cons hi2
      generalize a[i] = x at hg hmem hdrop
      have hex := he x (List.mem_append_left _ hmem)
      rw [hdrop, clashR, List.any_cons] at hE
      have hw1 : IntKind.i64.wrap (x.at_ + x.cut) = x.at_ + x.cut := wrap_id (by omega)
      have hw3 : IntKind.i64.wrap ((i : Int) + 1) = ((i + 1 : Nat) : Int) := by rw [wrap_id (by omega)]; rfl
      simp +contextual only [go_sem, hlen1, hlv, hsa.at hg, hsb.len, lcondB_decide, lcondB_not, lguardB_decide_true, lguardB_decide_false, ldguardB_decide, Nat.reduceLT, Nat.reduceEqDiff, Nat.reduceAdd, Nat.reduceLeDiff, reduceIte, reduceCtorEq]
      refine ⟨Nat, fun j => [(1, edv b), (6, .ptr (nm s.nx 0) 0), (9, edv a), (10, .int .i64 a.length), (11, .int .i64 i), (15, edv b), (16, .int .i64 b.length), (17, .int .i64 j)], fun _ => loc s 1 [(0, some (.cells [.int .i64 x.at_, .int .i64 x.cut, .str x.new] (some 35)))],
        fun j => j ≤ b.length ∧ (b.drop j).any (fun y => decide (touch x y)) = b.any fun y => decide (touch x y), fun j => b.length - j, 0, ⟨Nat.zero_le _, rfl⟩, ?_, ?_⟩
      · refine To.go [0] _ rfl (.refl s) (by decide) (by simp) ?_ ?_
        · simp +contextual only [go_sem, hlen1, hlv, pu_ren (edv_pu _), lcondB_decide, lcondB_not, lguardB_decide_true, lguardB_decide_false, ldguardB_decide, Nat.reduceLT, Nat.reduceEqDiff, Nat.reduceAdd, Nat.reduceLeDiff, reduceIte, reduceCtorEq]
          rfl
        · simp only [go_sem, lcondB_decide, lcondB_not, lguardB_decide_true, lguardB_decide_false, ldguardB_decide, Nat.reduceLT, Nat.reduceEqDiff, Nat.reduceAdd, Nat.reduceLeDiff, reduceIte, reduceCtorEq]
      · rintro j tm2 ⟨hj, hF⟩ hlen2 hlv2
        simp only [go_sem, hlen1, lcondB_decide, lcondB_not, lguardB_decide_true, lguardB_decide_false, ldguardB_decide, Nat.reduceLT, Nat.reduceEqDiff, Nat.reduceAdd, Nat.reduceLeDiff, reduceIte, reduceCtorEq] at hlen2 hlv2
        simp +contextual only [go_sem, hlen2, hlv2, lcondB_decide, lcondB_not, lguardB_decide_true, lguardB_decide_false, ldguardB_decide, Nat.reduceLT, Nat.reduceEqDiff, Nat.reduceAdd, Nat.reduceLeDiff, reduceIte, reduceCtorEq]
        refine ⟨fun hlt2 => ?_, fun hge2 => ?_⟩
        · have hj2 : j < b.length := by omega
          have hgj := List.getElem?_eq_getElem hj2
          have hmj : b[j] ∈ b := List.getElem_mem hj2
          have hdj := List.drop_eq_getElem_cons hj2
          generalize b[j] = y at hgj hmj hdj
          have hey := he y (List.mem_append_right _ hmj)
          rw [hdj, List.any_cons] at hF
          have hw2 : IntKind.i64.wrap (y.at_ + y.cut) = y.at_ + y.cut := wrap_id (by omega)
          have hw4 : IntKind.i64.wrap ((j : Int) + 1) = ((j + 1 : Nat) : Int) := by rw [wrap_id (by omega)]; rfl
          have hno : ¬ touch x y → ∃ a', (a' ≤ b.length ∧ (b.drop a').any (fun y => decide (touch x y)) = b.any fun y => decide (touch x y)) ∧ b.length - a' < b.length - j ∧ a' = j + 1 := by
            intro hn
            refine ⟨j + 1, ⟨by omega, ?_⟩, by omega, rfl⟩
            rw [← hF]; simp [hn]
          by_cases c1 : x.at_ ≤ y.at_ + y.cut
          · by_cases c2 : y.at_ ≤ x.at_ + x.cut
            · simp +contextual only [go_sem, hlen2, hlv2, hsb.at hgj, hw1, hw2, hw4, c1, c2, lcondB_decide, lcondB_not, lguardB_decide_true, lguardB_decide_false, ldguardB_decide, Nat.reduceLT, Nat.reduceEqDiff, Nat.reduceAdd, Nat.reduceLeDiff, reduceIte, reduceCtorEq]
              refine lexit_pure (.refl s) (by simp only [low]) ⟨?_, rfl⟩
              have ht : touch x y := ⟨c1, c2⟩
              rw [← hE, ← hF]; simp [ht]
            · simp +contextual only [go_sem, hlen2, hlv2, hsb.at hgj, hw1, hw2, hw4, c1, c2, lcondB_decide, lcondB_not, lguardB_decide_true, lguardB_decide_false, ldguardB_decide, Nat.reduceLT, Nat.reduceEqDiff, Nat.reduceAdd, Nat.reduceLeDiff, reduceIte, reduceCtorEq]
              obtain ⟨_, h1, h2, rfl⟩ := hno (fun t => c2 t.2)
              refine ⟨hlen1.symm, j + 1, h1, h2, ?_⟩
              refine To.go [0] _ rfl (.refl s) (by decide) (by simp) ?_ ?_
              · simp +contextual only [go_sem, hlen2, hlv2, pu_ren (edv_pu _), lcondB_decide, lcondB_not, lguardB_decide_true, lguardB_decide_false, ldguardB_decide, Nat.reduceLT, Nat.reduceEqDiff, Nat.reduceAdd, Nat.reduceLeDiff, reduceIte, reduceCtorEq]
              · simp only [go_sem, lcondB_decide, lcondB_not, lguardB_decide_true, lguardB_decide_false, ldguardB_decide, Nat.reduceLT, Nat.reduceEqDiff, Nat.reduceAdd, Nat.reduceLeDiff, reduceIte, reduceCtorEq]
          · simp +contextual only [go_sem, hlen2, hlv2, hsb.at hgj, hw1, hw2, hw4, c1, lcondB_decide, lcondB_not, lguardB_decide_true, lguardB_decide_false, ldguardB_decide, Nat.reduceLT, Nat.reduceEqDiff, Nat.reduceAdd, Nat.reduceLeDiff, reduceIte, reduceCtorEq]
            obtain ⟨_, h1, h2, rfl⟩ := hno (fun t => c1 t.1)
            refine ⟨hlen1.symm, j + 1, h1, h2, ?_⟩
            refine To.go [0] _ rfl (.refl s) (by decide) (by simp) ?_ ?_
            · simp +contextual only [go_sem, hlen2, hlv2, pu_ren (edv_pu _), lcondB_decide, lcondB_not, lguardB_decide_true, lguardB_decide_false, ldguardB_decide, Nat.reduceLT, Nat.reduceEqDiff, Nat.reduceAdd, Nat.reduceLeDiff, reduceIte, reduceCtorEq]
            · simp only [go_sem, lcondB_decide, lcondB_not, lguardB_decide_true, lguardB_decide_false, ldguardB_decide, Nat.reduceLT, Nat.reduceEqDiff, Nat.reduceAdd, Nat.reduceLeDiff, reduceIte, reduceCtorEq]
        · have hj2 : j = b.length := by omega
          rw [hj2, List.drop_length, List.any_nil] at hF
          rw [← hF, Bool.false_or] at hE
          simp +contextual only [go_sem, hlen2, hlv2, hw3, lcondB_decide, lcondB_not, lguardB_decide_true, lguardB_decide_false, ldguardB_decide, Nat.reduceLT, Nat.reduceEqDiff, Nat.reduceAdd, Nat.reduceLeDiff, reduceIte, reduceCtorEq]
          refine ⟨i + 1, ⟨by omega, hE⟩, by omega, ?_⟩
          refine To.go [] [] rfl (.refl s) (by decide) (by simp) ?_ trivial
          simp +contextual only [go_sem, hlen2, hlv2, pu_ren (edv_pu _), lcondB_decide, lcondB_not, lguardB_decide_true, lguardB_decide_false, ldguardB_decide, Nat.reduceLT, Nat.reduceEqDiff, Nat.reduceAdd, Nat.reduceLeDiff, reduceIte, reduceCtorEq]
    · have hi2 : i = a.length := by omega
      rw [hi2, List.drop_length] at hE
      exact lexit_pure (.refl s) (by simp only [low]) ⟨by rw [← hE]; rfl, rfl⟩
end Go.S1N
end
section
set_option linter.unusedVariables false
set_option linter.unusedSimpArgs false
namespace Go.S1N
open Go Go.Am Go.Proofs Go.S1
set_option maxRecDepth 100000
set_option linter.unusedSimpArgs false
attribute [local irreducible] lopsB lvb lstepB lfunG lcondB lguardB ldrawB ldrunB ldstepB ldguardB lmem lval ldmem ldval ldfun lexit ldloadB ldlenB lpostB athen ablock
def clashGo : List Ed → List Ed → Bool
  | [], _ => false
  | x :: a, b => match b.dropWhile fun y => decide (y.at_ + y.cut < x.at_) with
    | [] => clashGo a []
    | y :: r => if y.at_ ≤ x.at_ + x.cut then true else clashGo a (y :: r)
def clashE (n : Int) (a b : List Ed) : Bool × Int := if bothErr n a b ≠ 0 then (false, bothErr n a b) else (clashGo a b, 0)
theorem clash_ok (n : Int) (a b : List Ed) (ha : a.length ≤ 2000) (hb : b.length ≤ 2000) (he0 : bothErr n a b = 0 → ∀ e ∈ a ++ b, -1000000000000 ≤ e.at_ + e.cut ∧ e.at_ + e.cut ≤ 1000000000000) (s : AHeap) :
    ACall Try.prog 62 [.int .i64 n, edv a, edv b] s fun r t => r = .tuple [.bool (clashE n a b).1, .int .i64 (clashE n a b).2] ∧ t = s := by
  refine gob62 (by simp) ?_
  intro tm hlen harg
  have hsa := edv_sl a
  have hsb := edv_sl b
  simp +contextual only [go_sem, L62, hlen, harg, lcondB_decide, lcondB_not, lguardB_decide_true, lguardB_decide_false, ldguardB_decide, Nat.reduceLT, Nat.reduceEqDiff, Nat.reduceAdd, Nat.reduceLeDiff, reduceIte, reduceCtorEq]
  refine lfunG_eq (checkBoth_ok n a b (by omega) (by omega) _) ?_
  simp +contextual only [go_sem, hlen, harg, hsa.len, lcondB_decide, lcondB_not, lguardB_decide_true, lguardB_decide_false, ldguardB_decide, Nat.reduceLT, Nat.reduceEqDiff, Nat.reduceAdd, Nat.reduceLeDiff, reduceIte, reduceCtorEq]
  refine ⟨fun c => ?_, fun c => ?_⟩
  · exact lexit_pure (.refl s) (by simp only [low, lowL, and_self]) ⟨by rw [clashE, if_pos c], rfl⟩
  have he := he0 (by simpa using c)
  have hval : clashE n a b = (clashGo a b, 0) := by rw [clashE, if_neg (by simpa using c)]
  rw [hval]
  refine ⟨Nat × Nat, fun w => [(1, edv a), (2, edv b), (9, .int .i64 w.2), (19, edv a), (20, .int .i64 a.length), (21, .int .i64 w.1)], fun _ => loc s 0 [], fun w => w.1 ≤ a.length ∧ w.2 ≤ b.length ∧ clashGo (a.drop w.1) (b.drop w.2) = clashGo a b, fun w => a.length - w.1, (0, 0), ⟨Nat.zero_le _, Nat.zero_le _, rfl⟩, ?_, ?_⟩
  · refine To.go [] [] rfl (.refl s) (by decide) (by simp) ?_ trivial
    simp +contextual only [go_sem, hlen, harg, pu_ren (edv_pu _), lcondB_decide, lcondB_not, lguardB_decide_true, lguardB_decide_false, ldguardB_decide, Nat.reduceLT, Nat.reduceEqDiff, Nat.reduceAdd, Nat.reduceLeDiff, reduceIte, reduceCtorEq]
    rfl
  · rintro ⟨i, k⟩ tm1 ⟨hi, hk, hE⟩ hlen1 hlv
    simp only [go_sem, hlen, lcondB_decide, lcondB_not, lguardB_decide_true, lguardB_decide_false, ldguardB_decide, Nat.reduceLT, Nat.reduceEqDiff, Nat.reduceAdd, Nat.reduceLeDiff, reduceIte, reduceCtorEq] at hlen1 hlv hi hk hE
    simp +contextual only [go_sem, hlen, hlen1, hlv, lcondB_decide, lcondB_not, lguardB_decide_true, lguardB_decide_false, ldguardB_decide, Nat.reduceLT, Nat.reduceEqDiff, Nat.reduceAdd, Nat.reduceLeDiff, reduceIte, reduceCtorEq]
    refine ⟨fun hlt => ?_, fun hge => ?_⟩
    · have hi2 : i < a.length := by omega
      have hg := List.getElem?_eq_getElem hi2
      have hmem : a[i] ∈ a := List.getElem_mem hi2
      have hdrop := List.drop_eq_getElem_cons hi2
      generalize a[i] = x at hg hmem hdrop
      have hex := he x (List.mem_append_left _ hmem)
      rw [hdrop, clashGo] at hE
      have hw1 : IntKind.i64.wrap (x.at_ + x.cut) = x.at_ + x.cut := wrap_id (by omega)
      have hw3 : IntKind.i64.wrap ((i : Int) + 1) = ((i + 1 : Nat) : Int) := by rw [wrap_id (by omega)]; rfl
      simp +contextual only [go_sem, hlen1, hlv, hsa.at hg, lcondB_decide, lcondB_not, lguardB_decide_true, lguardB_decide_false, ldguardB_decide, Nat.reduceLT, Nat.reduceEqDiff, Nat.reduceAdd, Nat.reduceLeDiff, reduceIte, reduceCtorEq]
      refine ⟨Nat, fun j => [(1, edv a), (2, edv b), (9, .int .i64 j), (11, .ptr (nm s.nx 0) 0), (19, edv a), (20, .int .i64 a.length), (21, .int .i64 i)], fun _ => loc s 1 [(0, some (.cells [.int .i64 x.at_, .int .i64 x.cut, .str x.new] (some 35)))],
        fun j => j ≤ b.length ∧ (b.drop j).dropWhile (fun y => decide (y.at_ + y.cut < x.at_)) = (b.drop k).dropWhile fun y => decide (y.at_ + y.cut < x.at_), fun j => b.length - j, k, ⟨hk, rfl⟩, ?_, ?_⟩
      · refine To.go [0] _ rfl (.refl s) (by decide) (by simp) ?_ ?_
        · simp +contextual only [go_sem, hlen1, hlv, pu_ren (edv_pu _), lcondB_decide, lcondB_not, lguardB_decide_true, lguardB_decide_false, ldguardB_decide, Nat.reduceLT, Nat.reduceEqDiff, Nat.reduceAdd, Nat.reduceLeDiff, reduceIte, reduceCtorEq]
        · simp only [go_sem, lcondB_decide, lcondB_not, lguardB_decide_true, lguardB_decide_false, ldguardB_decide, Nat.reduceLT, Nat.reduceEqDiff, Nat.reduceAdd, Nat.reduceLeDiff, reduceIte, reduceCtorEq]
      · rintro j tm2 ⟨hj, hF⟩ hlen2 hlv2
        simp only [go_sem, hlen1, lcondB_decide, lcondB_not, lguardB_decide_true, lguardB_decide_false, ldguardB_decide, Nat.reduceLT, Nat.reduceEqDiff, Nat.reduceAdd, Nat.reduceLeDiff, reduceIte, reduceCtorEq] at hlen2 hlv2
        have hw4 : IntKind.i64.wrap ((j : Int) + 1) = ((j + 1 : Nat) : Int) := by rw [wrap_id (by omega)]; rfl
        by_cases hjl : (j : Int) < (b.length : Int)
        · have hj2 : j < b.length := by omega
          have hgj := List.getElem?_eq_getElem hj2
          have hmj : b[j] ∈ b := List.getElem_mem hj2
          have hdj := List.drop_eq_getElem_cons hj2
          generalize b[j] = y at hgj hmj hdj
          have hey := he y (List.mem_append_right _ hmj)
          rw [hdj, List.dropWhile_cons] at hF
          have hw2 : IntKind.i64.wrap (y.at_ + y.cut) = y.at_ + y.cut := wrap_id (by omega)
          simp +contextual only [go_sem, hlen2, hlv2, lcondB_decide, lcondB_not, lguardB_decide_true, lguardB_decide_false, ldguardB_decide, Nat.reduceLT, Nat.reduceEqDiff, Nat.reduceAdd, Nat.reduceLeDiff, reduceIte, reduceCtorEq]
          refine ldrawB_go [] [] 18 (by decide) ?_
          by_cases c1 : y.at_ + y.cut < x.at_
          · rw [if_pos (by simpa using c1)] at hF
            simp +contextual only [go_sem, hlen2, hlv2, hsb.len, hjl, hsb.at hgj, hw2, hw4, c1, lcondB_decide, lcondB_not, lguardB_decide_true, lguardB_decide_false, ldguardB_decide, Nat.reduceLT, Nat.reduceEqDiff, Nat.reduceAdd, Nat.reduceLeDiff, reduceIte, reduceCtorEq]
            refine ⟨by kernel_rfl, ?_⟩
            first
            | refine ⟨by simp only [hlen1], j + 1, ⟨by omega, hF⟩, by omega, ?_⟩
            | refine ⟨j + 1, ⟨by omega, hF⟩, by omega, ?_⟩
            refine To.go [0] _ rfl (.refl s) (by decide) (by simp) ?_ ?_
            · simp +contextual only [go_sem, hlen2, hlv2, pu_ren (edv_pu _), lcondB_decide, lcondB_not, lguardB_decide_true, lguardB_decide_false, ldguardB_decide, Nat.reduceLT, Nat.reduceEqDiff, Nat.reduceAdd, Nat.reduceLeDiff, reduceIte, reduceCtorEq]
            · simp only [go_sem, lcondB_decide, lcondB_not, lguardB_decide_true, lguardB_decide_false, ldguardB_decide, Nat.reduceLT, Nat.reduceEqDiff, Nat.reduceAdd, Nat.reduceLeDiff, reduceIte, reduceCtorEq]
          · rw [if_neg (by simpa using c1)] at hF
            rw [← hF] at hE
            simp only at hE
            simp +contextual only [go_sem, hlen2, hlv2, hsb.len, hjl, hsb.at hgj, hw2, hw4, c1, lcondB_decide, lcondB_not, lguardB_decide_true, lguardB_decide_false, ldguardB_decide, Nat.reduceLT, Nat.reduceEqDiff, Nat.reduceAdd, Nat.reduceLeDiff, reduceIte, reduceCtorEq]
            refine ⟨by kernel_rfl, ?_⟩
            refine ldrawB_go [] [] 15 (by decide) ?_
            by_cases c2 : y.at_ ≤ x.at_ + x.cut
            · rw [if_pos c2] at hE
              simp +contextual only [go_sem, hlen2, hlv2, hsb.len, hjl, hsb.at hgj, hw1, hw3, c2, lcondB_decide, lcondB_not, lguardB_decide_true, lguardB_decide_false, ldguardB_decide, Nat.reduceLT, Nat.reduceEqDiff, Nat.reduceAdd, Nat.reduceLeDiff, reduceIte, reduceCtorEq]
              refine ⟨by kernel_rfl, ?_⟩
              exact lexit_pure (.refl s) (by simp only [low, lowL, and_self]) ⟨by rw [← hE], rfl⟩
            · rw [if_neg c2] at hE
              simp +contextual only [go_sem, hlen2, hlv2, hsb.len, hjl, hsb.at hgj, hw1, hw3, c2, lcondB_decide, lcondB_not, lguardB_decide_true, lguardB_decide_false, ldguardB_decide, Nat.reduceLT, Nat.reduceEqDiff, Nat.reduceAdd, Nat.reduceLeDiff, reduceIte, reduceCtorEq]
              refine ⟨by kernel_rfl, ?_⟩
              first
              | refine ⟨by simp only [hlen1], (i + 1, j), ⟨by simp only; omega, by simp only; omega, by simp only; rw [hdj]; exact hE⟩, by simp only; omega, ?_⟩
              | refine ⟨(i + 1, j), ⟨by simp only; omega, by simp only; omega, by simp only; rw [hdj]; exact hE⟩, by simp only; omega, ?_⟩
              refine To.go [] [] rfl (.refl s) (by decide) (by simp) ?_ trivial
              simp +contextual only [go_sem, hlen2, hlv2, pu_ren (edv_pu _), lcondB_decide, lcondB_not, lguardB_decide_true, lguardB_decide_false, ldguardB_decide, Nat.reduceLT, Nat.reduceEqDiff, Nat.reduceAdd, Nat.reduceLeDiff, reduceIte, reduceCtorEq]
        · have hj2 : j = b.length := by omega
          have hdj : b.drop j = [] := by rw [hj2, List.drop_length]
          rw [hdj, List.dropWhile_nil] at hF
          rw [← hF] at hE
          simp only at hE
          simp +contextual only [go_sem, hlen2, hlv2, lcondB_decide, lcondB_not, lguardB_decide_true, lguardB_decide_false, ldguardB_decide, Nat.reduceLT, Nat.reduceEqDiff, Nat.reduceAdd, Nat.reduceLeDiff, reduceIte, reduceCtorEq]
          refine ldrawB_go [] [] 18 (by decide) ?_
          simp +contextual only [go_sem, hlen2, hlv2, hsb.len, hjl, lcondB_decide, lcondB_not, lguardB_decide_true, lguardB_decide_false, ldguardB_decide, Nat.reduceLT, Nat.reduceEqDiff, Nat.reduceAdd, Nat.reduceLeDiff, reduceIte, reduceCtorEq]
          refine ⟨by kernel_rfl, ?_⟩
          refine ldrawB_go [] [] 15 (by decide) ?_
          simp +contextual only [go_sem, hlen2, hlv2, hsb.len, hjl, hw3, lcondB_decide, lcondB_not, lguardB_decide_true, lguardB_decide_false, ldguardB_decide, Nat.reduceLT, Nat.reduceEqDiff, Nat.reduceAdd, Nat.reduceLeDiff, reduceIte, reduceCtorEq]
          refine ⟨by kernel_rfl, ?_⟩
          first
          | refine ⟨by simp only [hlen1], (i + 1, j), ⟨by simp only; omega, by simp only; omega, by simp only; rw [hdj]; exact hE⟩, by simp only; omega, ?_⟩
          | refine ⟨(i + 1, j), ⟨by simp only; omega, by simp only; omega, by simp only; rw [hdj]; exact hE⟩, by simp only; omega, ?_⟩
          refine To.go [] [] rfl (.refl s) (by decide) (by simp) ?_ trivial
          simp +contextual only [go_sem, hlen2, hlv2, pu_ren (edv_pu _), lcondB_decide, lcondB_not, lguardB_decide_true, lguardB_decide_false, ldguardB_decide, Nat.reduceLT, Nat.reduceEqDiff, Nat.reduceAdd, Nat.reduceLeDiff, reduceIte, reduceCtorEq]
    · have hi2 : i = a.length := by omega
      rw [hi2, List.drop_length, clashGo] at hE
      exact lexit_pure (.refl s) (by simp only [low, lowL, and_self]) ⟨by rw [← hE], rfl⟩
end Go.S1N
end
section
set_option linter.unusedVariables false
set_option linter.unusedSimpArgs false
namespace Go.S1N
open Go Go.Am Go.Proofs Go.S1
set_option maxRecDepth 100000
set_option linter.unusedSimpArgs false
theorem compact_mem (x : Int) : ∀ {L : List Int}, x ∈ compact L ↔ x ∈ L
  | [] => by simp [compact]
  | [a] => by simp [compact]
  | a :: b :: r => by
    have ih := compact_mem x (L := b :: r)
    rw [compact]
    split
    · rename_i h
      rw [ih, List.mem_cons (a := x) (b := a)]
      constructor
      · exact .inr
      · rintro (rfl | q)
        · rw [h]; exact List.mem_cons_self ..
        · exact q
    · rw [List.mem_cons, ih, List.mem_cons (a := x) (b := a)]
theorem compact_lt : ∀ {L : List Int}, L.Pairwise (fun x y => x ≤ y) → (compact L).Pairwise fun x y => x < y
  | [], _ => .nil
  | [a], _ => by simp [compact]
  | a :: b :: r, h => by
    obtain ⟨h1, h2⟩ := List.pairwise_cons.1 h
    have ih := compact_lt h2
    rw [compact]
    split
    · exact ih
    · rename_i hne
      refine List.pairwise_cons.2 ⟨fun y hy => ?_, ih⟩
      have hy := (compact_mem y).1 hy
      have hb := h1 b (List.mem_cons_self ..)
      rcases List.mem_cons.1 hy with rfl | hy
      · omega
      · have := (List.pairwise_cons.1 h2).1 y hy
        omega
theorem places_lt (n : Int) (a b : List Ed) : (placesL n a b).Pairwise fun x y => x < y := by
  refine compact_lt ?_
  have := List.pairwise_mergeSort (le := fun x y : Int => decide (x ≤ y)) (by intro x y z h1 h2; simp at *; omega) (by intro x y; simp; omega) (0 :: n :: ends (a ++ b))
  exact this.imp fun h => by simpa using h
theorem places_mem (n : Int) (a b : List Ed) (x : Int) : x ∈ placesL n a b ↔ x = 0 ∨ x = n ∨ x ∈ ends (a ++ b) := by
  rw [placesL, compact_mem, List.mem_mergeSort, List.mem_cons, List.mem_cons]
theorem ends_mem {l : List Ed} {x : Int} : x ∈ ends l ↔ ∃ e ∈ l, x = e.at_ ∨ x = e.at_ + e.cut := by
  unfold ends
  rw [List.mem_flatMap]
  simp only [List.mem_cons, List.not_mem_nil, or_false]
abbrev LT := Int × UInt8
def runI (x : Int) (k : Nat) : List LT := (List.range k).map fun (i : Nat) => (x + (i : Int), (0 : UInt8))
theorem runI_len (x : Int) (k : Nat) : (runI x k).length = k := by simp [runI]
theorem runI_succ (x : Int) (k : Nat) : runI x (k + 1) = (x, 0) :: runI (x + 1) k := by
  unfold runI
  rw [List.range_succ_eq_map, List.map_cons, List.map_map]
  simp only [Int.natCast_zero, Int.add_zero, List.cons.injEq, true_and]
  refine List.map_congr_left fun i _ => ?_
  simp only [Function.comp_apply, Nat.succ_eq_add_one, Prod.mk.injEq, and_true]
  omega
theorem runI_zero (x : Int) : runI x 0 = [] := rfl
theorem rfl1_run (x : Int) (k : Nat) : rfl1 ⟨x, k, []⟩ = runI x k := by
  simp only [rfl1, ne_eq, not_true_eq_false, if_false, runI, Int.toNat_natCast]
section
variable (a b : List Ed)
def keepAB (p : Int) : Bool := !goneB a p && !goneB b p
def stepA (p : Int) : Int := ((insAt a p).length : Int) + if goneB a p then 0 else 1
def gB : Nat → Int → List LT
  | 0, _ => []
  | k + 1, p => negL (insAt a p) ++ (negL (insAt b p) ++ ((if keepAB a b p then [(p, 0)] else []) ++ gB k (p + 1)))
def xA : Nat → Int → Int → Int
  | 0, _, x => x
  | k + 1, p, x => xA k (p + 1) (x + stepA a p)
def g1 : Nat → Int → Int → List LT
  | 0, _, _ => []
  | k + 1, p, x => runI x (insAt a p).length ++ (negL (insAt b p) ++ ((if keepAB a b p then [(x + (insAt a p).length, 0)] else []) ++ g1 k (p + 1) (x + stepA a p)))
def g2 : Nat → Int → Int → List LT
  | 0, _, _ => []
  | k + 1, p, y => negL (insAt a p) ++ (runI y (insAt b p).length ++ ((if keepAB a b p then [(y + (insAt b p).length, 0)] else []) ++ g2 k (p + 1) (y + stepA b p)))
end
section
variable {a b : List Ed}
theorem gB_add (j k : Nat) : ∀ (p : Int), gB a b (j + k) p = gB a b j p ++ gB a b k (p + j) := by
  induction j with
  | zero => intro p; simp [gB]
  | succ j ih =>
    intro p
    rw [show j + 1 + k = (j + k) + 1 by omega, gB, gB, ih, show p + 1 + (j : Int) = p + ((j + 1 : Nat) : Int) by omega]
    simp only [List.append_assoc]
theorem xA_add (j k : Nat) : ∀ (p x : Int), xA a (j + k) p x = xA a k (p + j) (xA a j p x) := by
  induction j with
  | zero => intro p x; simp [xA]
  | succ j ih =>
    intro p x
    rw [show j + 1 + k = (j + k) + 1 by omega, xA, xA, ih, show p + 1 + (j : Int) = p + ((j + 1 : Nat) : Int) by omega]
theorem g1_add (j k : Nat) : ∀ (p x : Int), g1 a b (j + k) p x = g1 a b j p x ++ g1 a b k (p + j) (xA a j p x) := by
  induction j with
  | zero => intro p x; simp [g1, xA]
  | succ j ih =>
    intro p x
    rw [show j + 1 + k = (j + k) + 1 by omega, g1, g1, xA, ih, show p + 1 + (j : Int) = p + ((j + 1 : Nat) : Int) by omega]
    simp only [List.append_assoc]
theorem g2_add (j k : Nat) : ∀ (p y : Int), g2 a b (j + k) p y = g2 a b j p y ++ g2 a b k (p + j) (xA b j p y) := by
  induction j with
  | zero => intro p y; simp [g2, xA]
  | succ j ih =>
    intro p y
    rw [show j + 1 + k = (j + k) + 1 by omega, g2, g2, xA, ih, show p + 1 + (j : Int) = p + ((j + 1 : Nat) : Int) by omega]
    simp only [List.append_assoc]
structure Calm (a b : List Ed) (p : Int) (k : Nat) (ga gb : Bool) : Prop where
  ins : ∀ r, p ≤ r → r < p + k → insAt a r = [] ∧ insAt b r = [] ∧ goneB a r = ga ∧ goneB b r = gb
theorem Calm.tail {p : Int} {k : Nat} {ga gb : Bool} (h : Calm a b p (k + 1) ga gb) : Calm a b (p + 1) k ga gb := ⟨fun r h1 h2 => h.ins r (by omega) (by omega)⟩
theorem gB_calm : ∀ {k : Nat} {p : Int} {ga gb : Bool}, Calm a b p k ga gb → gB a b k p = if !ga && !gb then runI p k else []
  | 0, p, ga, gb, _ => by simp [gB, runI]
  | k + 1, p, ga, gb, h => by
    obtain ⟨h1, h2, h3, h4⟩ := h.ins p (by omega) (by omega)
    rw [gB, h1, h2, keepAB, h3, h4, gB_calm h.tail]
    cases ga <;> cases gb <;> simp [negL, runI_succ]
theorem xA_calm : ∀ {k : Nat} {p x : Int} {ga gb : Bool}, Calm a b p k ga gb → xA a k p x = x + (if ga then 0 else (k : Int)) ∧ ∀ y, xA b k p y = y + (if gb then 0 else (k : Int))
  | 0, p, x, ga, gb, _ => by simp [xA]
  | k + 1, p, x, ga, gb, h => by
    obtain ⟨h1, h2, h3, h4⟩ := h.ins p (by omega) (by omega)
    have ih := fun x => xA_calm (x := x) h.tail
    refine ⟨?_, fun y => ?_⟩
    · rw [xA, (ih _).1, stepA, h1, h3]
      cases ga <;> simp <;> omega
    · rw [xA, (ih 0).2, stepA, h2, h4]
      cases gb <;> simp <;> omega
theorem g1_calm : ∀ {k : Nat} {p x : Int} {ga gb : Bool}, Calm a b p k ga gb → g1 a b k p x = if !ga && !gb then runI x k else []
  | 0, p, x, ga, gb, _ => by simp [g1, runI]
  | k + 1, p, x, ga, gb, h => by
    obtain ⟨h1, h2, h3, h4⟩ := h.ins p (by omega) (by omega)
    rw [g1, h1, h2, keepAB, stepA, h3, h4, h1, g1_calm h.tail]
    cases ga <;> cases gb <;> simp [negL, runI_succ, runI_zero]
theorem g2_calm : ∀ {k : Nat} {p x : Int} {ga gb : Bool}, Calm a b p k ga gb → g2 a b k p x = if !ga && !gb then runI x k else []
  | 0, p, x, ga, gb, _ => by simp [g2, runI]
  | k + 1, p, x, ga, gb, h => by
    obtain ⟨h1, h2, h3, h4⟩ := h.ins p (by omega) (by omega)
    rw [g2, h1, h2, keepAB, stepA, h3, h4, h2, g2_calm h.tail]
    cases ga <;> cases gb <;> simp [negL, runI_succ, runI_zero]
end
end Go.S1N
end
section
set_option linter.unusedVariables false
set_option linter.unusedSimpArgs false
namespace Go.S1
open Go Go.Am Go.Proofs
set_option maxRecDepth 100000
noncomputable def L127 : LCode := LCode.seq (LCode.ops [⟨Op.assign (Operand.const (Value.int IntKind.u64 0)), some 4, none⟩, ⟨Op.assign (Operand.const (Value.int IntKind.u64 0)), some 5, none⟩]) (LCode.seq (LCode.cond (Operand.const (Value.bool false)) (LCode.seq (LCode.ops [⟨Op.move (Operand.tmp 0), some 11, none⟩, ⟨Op.convert 184 212 (Operand.tmp 11), some 12, none⟩, ⟨Op.move (Operand.tmp 1), some 13, none⟩, ⟨Op.convert 184 212 (Operand.tmp 13), some 14, none⟩, ⟨Op.call { callee := Callee.value (Operand.func 153), args := { toList := [Operand.tmp 12, Operand.tmp 14] }, argTypes := { toList := [212, 212] } }, some 15, none⟩, ⟨Op.move (Operand.tmp 15), some 10, none⟩, ⟨Op.extract (Operand.tmp 10) 0, some 16, none⟩, ⟨Op.extract (Operand.tmp 10) 1, some 17, none⟩, ⟨Op.assign (Operand.tmp 16), some 6, none⟩, ⟨Op.assign (Operand.tmp 17), some 7, none⟩]) (LCode.seq (LCode.ops [⟨Op.move (Operand.tmp 6), some 18, none⟩, ⟨Op.convert 212 184 (Operand.tmp 18), some 19, none⟩, ⟨Op.move (Operand.tmp 7), some 20, none⟩, ⟨Op.convert 212 184 (Operand.tmp 20), some 21, none⟩, ⟨Op.assign (Operand.tmp 19), some 4, none⟩, ⟨Op.assign (Operand.tmp 21), some 5, none⟩]) LCode.ret)) LCode.skip) (LCode.seq (LCode.ops [⟨Op.move (Operand.tmp 0), some 23, none⟩, ⟨Op.move (Operand.tmp 1), some 24, none⟩, ⟨Op.call { callee := Callee.value (Operand.func 154), args := { toList := [Operand.tmp 23, Operand.tmp 24] }, argTypes := { toList := [215, 215] } }, some 25, none⟩, ⟨Op.move (Operand.tmp 25), some 22, none⟩, ⟨Op.extract (Operand.tmp 22) 0, some 26, none⟩, ⟨Op.extract (Operand.tmp 22) 1, some 27, none⟩, ⟨Op.assign (Operand.tmp 26), some 8, none⟩, ⟨Op.assign (Operand.tmp 27), some 9, none⟩]) (LCode.seq (LCode.ops [⟨Op.move (Operand.tmp 8), some 28, none⟩, ⟨Op.move (Operand.tmp 9), some 29, none⟩, ⟨Op.assign (Operand.tmp 28), some 4, none⟩, ⟨Op.assign (Operand.tmp 29), some 5, none⟩]) LCode.ret)))
theorem l127 : Try.f127.body.map lighten = some L127 := by kernel_rfl
theorem rs127 : Try.f127.results.toList = [ResultVar.tmp 4, ResultVar.tmp 5] := by kernel_rfl
theorem nt127 : Try.f127.ntmps = 30 := by kernel_rfl
theorem gob127 {args : List AV} {s : AHeap} {R : AV → AHeap → Prop} (hl : args.length ≤ 30) (h : ∀ tm, tm.length = 30 → (∀ i, aev tm (.tmp i) = args.getD i aundef) → lvb Try.prog tab s L127 (lpostB tab s [ResultVar.tmp 4, ResultVar.tmp 5] R) tm (loc s 0 [])) : ACall Try.prog 127 args s R := ACall.goB tab_ok mixed Try.func127 l127 nm127 rs127 nt127 hl h
noncomputable def L154 : LCode := LCode.seq (LCode.ops [⟨Op.assign (Operand.const (Value.int IntKind.u64 0)), some 4, none⟩, ⟨Op.assign (Operand.const (Value.int IntKind.u64 0)), some 5, none⟩]) (LCode.seq (LCode.ops [⟨Op.move (Operand.tmp 0), some 14, none⟩, ⟨Op.binOp BinOp.and 215 (Operand.tmp 14) (Operand.const (Value.int IntKind.u64 4294967295)) 215, some 15, none⟩, ⟨Op.assign (Operand.tmp 15), some 6, none⟩]) (LCode.seq (LCode.ops [⟨Op.move (Operand.tmp 0), some 16, none⟩, ⟨Op.binOp BinOp.shr 215 (Operand.tmp 16) (Operand.const (Value.int IntKind.u64 32)) 184, some 17, none⟩, ⟨Op.assign (Operand.tmp 17), some 7, none⟩]) (LCode.seq (LCode.ops [⟨Op.move (Operand.tmp 1), some 18, none⟩, ⟨Op.binOp BinOp.and 215 (Operand.tmp 18) (Operand.const (Value.int IntKind.u64 4294967295)) 215, some 19, none⟩, ⟨Op.assign (Operand.tmp 19), some 8, none⟩]) (LCode.seq (LCode.ops [⟨Op.move (Operand.tmp 1), some 20, none⟩, ⟨Op.binOp BinOp.shr 215 (Operand.tmp 20) (Operand.const (Value.int IntKind.u64 32)) 184, some 21, none⟩, ⟨Op.assign (Operand.tmp 21), some 9, none⟩]) (LCode.seq (LCode.ops [⟨Op.move (Operand.tmp 6), some 22, none⟩, ⟨Op.move (Operand.tmp 8), some 23, none⟩, ⟨Op.binOp BinOp.mul 215 (Operand.tmp 22) (Operand.tmp 23) 215, some 24, none⟩, ⟨Op.assign (Operand.tmp 24), some 10, none⟩]) (LCode.seq (LCode.ops [⟨Op.move (Operand.tmp 7), some 25, none⟩, ⟨Op.move (Operand.tmp 8), some 26, none⟩, ⟨Op.binOp BinOp.mul 215 (Operand.tmp 25) (Operand.tmp 26) 215, some 27, none⟩, ⟨Op.move (Operand.tmp 10), some 28, none⟩, ⟨Op.binOp BinOp.shr 215 (Operand.tmp 28) (Operand.const (Value.int IntKind.u64 32)) 184, some 29, none⟩, ⟨Op.binOp BinOp.add 215 (Operand.tmp 27) (Operand.tmp 29) 215, some 30, none⟩, ⟨Op.assign (Operand.tmp 30), some 11, none⟩]) (LCode.seq (LCode.ops [⟨Op.move (Operand.tmp 11), some 31, none⟩, ⟨Op.binOp BinOp.and 215 (Operand.tmp 31) (Operand.const (Value.int IntKind.u64 4294967295)) 215, some 32, none⟩, ⟨Op.assign (Operand.tmp 32), some 12, none⟩]) (LCode.seq (LCode.ops [⟨Op.move (Operand.tmp 11), some 33, none⟩, ⟨Op.binOp BinOp.shr 215 (Operand.tmp 33) (Operand.const (Value.int IntKind.u64 32)) 184, some 34, none⟩, ⟨Op.assign (Operand.tmp 34), some 13, none⟩]) (LCode.seq (LCode.ops [⟨Op.move (Operand.tmp 12), some 35, none⟩, ⟨Op.move (Operand.tmp 6), some 36, none⟩, ⟨Op.move (Operand.tmp 9), some 37, none⟩, ⟨Op.binOp BinOp.mul 215 (Operand.tmp 36) (Operand.tmp 37) 215, some 38, none⟩, ⟨Op.binOp BinOp.add 215 (Operand.tmp 35) (Operand.tmp 38) 215, some 39, none⟩, ⟨Op.assign (Operand.tmp 39), some 12, none⟩]) (LCode.seq (LCode.ops [⟨Op.move (Operand.tmp 7), some 40, none⟩, ⟨Op.move (Operand.tmp 9), some 41, none⟩, ⟨Op.binOp BinOp.mul 215 (Operand.tmp 40) (Operand.tmp 41) 215, some 42, none⟩, ⟨Op.move (Operand.tmp 13), some 43, none⟩, ⟨Op.binOp BinOp.add 215 (Operand.tmp 42) (Operand.tmp 43) 215, some 44, none⟩, ⟨Op.move (Operand.tmp 12), some 45, none⟩, ⟨Op.binOp BinOp.shr 215 (Operand.tmp 45) (Operand.const (Value.int IntKind.u64 32)) 184, some 46, none⟩, ⟨Op.binOp BinOp.add 215 (Operand.tmp 44) (Operand.tmp 46) 215, some 47, none⟩, ⟨Op.assign (Operand.tmp 47), some 4, none⟩]) (LCode.seq (LCode.ops [⟨Op.move (Operand.tmp 0), some 48, none⟩, ⟨Op.move (Operand.tmp 1), some 49, none⟩, ⟨Op.binOp BinOp.mul 215 (Operand.tmp 48) (Operand.tmp 49) 215, some 50, none⟩, ⟨Op.assign (Operand.tmp 50), some 5, none⟩]) LCode.ret)))))))))))
theorem l154 : Try.f154.body.map lighten = some L154 := by kernel_rfl
theorem rs154 : Try.f154.results.toList = [ResultVar.tmp 4, ResultVar.tmp 5] := by kernel_rfl
theorem nt154 : Try.f154.ntmps = 51 := by kernel_rfl
theorem gob154 {args : List AV} {s : AHeap} {R : AV → AHeap → Prop} (hl : args.length ≤ 51) (h : ∀ tm, tm.length = 51 → (∀ i, aev tm (.tmp i) = args.getD i aundef) → lvb Try.prog tab s L154 (lpostB tab s [ResultVar.tmp 4, ResultVar.tmp 5] R) tm (loc s 0 [])) : ACall Try.prog 154 args s R := ACall.goB tab_ok mixed Try.func154 l154 nm154 rs154 nt154 hl h
end Go.S1
end
section
set_option linter.unusedVariables false
set_option linter.unusedSimpArgs false
namespace Go.S1N
open Go Go.Am Go.Proofs Go.S1
set_option maxRecDepth 100000
set_option linter.unusedSimpArgs false
def lcopy (T : Tab) (t : TypeId) (x y : AV) (s : AHeap) : Option (AV × AHeap) := match T.ty t with
  | some i => match i.td with
    | .slice e => acopy T e s x y
    | _ => none
  | none => none
theorem lstepB_copy {P : Program} {T : Tab} {s0 s : AHeap} {N : List AV → AHeap → Prop} {d : Option Nat} {tm : List AV} {t u : TypeId} {x y : Operand} : lstepB P T s0 N (.call { callee := .builtin .copy, args := ⟨[x, y]⟩, argTypes := ⟨[t, u]⟩ }) d tm s = lmem N (lcopy T t (aev tm x) (aev tm y) s) d tm := rfl
theorem ldstepB_copy {P : Program} {T : Tab} {s : AHeap} {eal : Nat → Bool} {nx0 i : Nat} {g : Bool} {N : DSt → AHeap → Prop} {d : Option Nat} {tm : List AV} {co : List AHeap} {re : List AV} {ki : List DKind} {t u : TypeId} {x y : Operand} : ldstepB P T eal nx0 i g N (.call { callee := .builtin .copy, args := ⟨[x, y]⟩, argTypes := ⟨[t, u]⟩ }) d ⟨tm, co, re, ki⟩ s =
    ldmem N (lcopy T t (aev tm x) (aev tm y) s) d ⟨tm, co, re, ki⟩ := by
  unfold ldstepB ldmem
  simp only [aquiet, apure, ldop, lop, aop, amem]
  rfl
attribute [local irreducible] lopsB lvb lstepB lfunG lcondB lguardB ldrawB ldrunB ldstepB ldguardB lmem lval ldmem ldval ldfun lexit ldloadB ldlenB lpostB athen ablock
theorem and32 {n : Nat} {t : TypeId} (h : n ≤ 1000000) : abin tab .and t (.int .u64 n) (.int .u64 4294967295) = some (.int .u64 n) := by
  have h1 : (BitVec.ofInt 64 (n : Int) &&& BitVec.ofInt 64 4294967295).toNat = n := by
    rw [BitVec.toNat_and]
    have e1 : (BitVec.ofInt 64 (n : Int)).toNat = n := by simp; omega
    have e2 : (BitVec.ofInt 64 4294967295).toNat = 2 ^ 32 - 1 := by decide
    rw [e1, e2, Nat.and_two_pow_sub_one_eq_mod]; omega
  have h2 : IntKind.u64.wrap (n : Int) = n := by unfold IntKind.wrap; simp [IntKind.bits, IntKind.signed]; omega
  show some (AV.int IntKind.u64 (IntKind.u64.wrap (((BitVec.ofInt 64 (n : Int) &&& BitVec.ofInt 64 4294967295).toNat : Nat) : Int))) = _
  rw [h1, h2]
theorem shr32 {n : Nat} {t : TypeId} (h : n ≤ 1000000) : abin tab .shr t (.int .u64 n) (.int .u64 32) = some (.int .u64 ((0 : Nat) : Int)) := by
  simp [abin, ashift, IntKind.bits]
  rw [Int.fdiv_eq_ediv_of_nonneg _ (by omega)]; omega
theorem wru {n : Nat} (h : n ≤ 1000000) : IntKind.u64.wrap (n : Int) = n := by unfold IntKind.wrap; simp [IntKind.bits, IntKind.signed]; omega
theorem mul64_ok (n : Nat) (hn : n ≤ 1000000) (s : AHeap) : ACall Try.prog 154 [.int .u64 (1 : Nat), .int .u64 n] s fun r t => r = .tuple [.int .u64 (0 : Nat), .int .u64 n] ∧ t = s := by
  refine gob154 (by simp) ?_
  intro tm hlen harg
  have a1 := and32 (n := n) (t := 215) hn
  have a2 := and32 (n := 1) (t := 215) (by omega)
  have a3 := and32 (n := 0) (t := 215) (by omega)
  have b1 := shr32 (n := n) (t := 215) hn
  have b2 := shr32 (n := 1) (t := 215) (by omega)
  have b3 := shr32 (n := 0) (t := 215) (by omega)
  have w1 : IntKind.u64.wrap (((1 : Nat) : Int) * ((n : Nat) : Int)) = ((n : Nat) : Int) := by rw [show ((1 : Nat) : Int) * ((n : Nat) : Int) = ((n : Nat) : Int) by simp]; exact wru hn
  have w2 : IntKind.u64.wrap (((0 : Nat) : Int) * ((n : Nat) : Int)) = ((0 : Nat) : Int) := by rw [show ((0 : Nat) : Int) * ((n : Nat) : Int) = ((0 : Nat) : Int) by simp]; exact wru (by omega)
  have w3 : IntKind.u64.wrap (((0 : Nat) : Int) + ((0 : Nat) : Int)) = ((0 : Nat) : Int) := by decide
  have w4 : IntKind.u64.wrap (((0 : Nat) : Int) * ((0 : Nat) : Int)) = ((0 : Nat) : Int) := by decide
  have w5 : IntKind.u64.wrap (((1 : Nat) : Int) * ((0 : Nat) : Int)) = ((0 : Nat) : Int) := by decide
  generalize hz : ((0 : Nat) : Int) = z at *
  generalize ho : ((1 : Nat) : Int) = o at *
  simp +contextual only [go_sem, L154, hlen, harg, a1, a2, a3, b1, b2, b3, w1, w2, w3, w4, w5, lcondB_decide, lcondB_not, lguardB_decide_true, lguardB_decide_false, ldguardB_decide, Nat.reduceLT, Nat.reduceEqDiff, Nat.reduceAdd, Nat.reduceLeDiff, reduceIte, reduceCtorEq]
  exact lexit_pure (.refl s) (by simp only [low, lowL, and_self]) ⟨rfl, rfl⟩
theorem mul_ok (n : Nat) (hn : n ≤ 1000000) (s : AHeap) : ACall Try.prog 127 [.int .u64 (1 : Nat), .int .u64 n] s fun r t => r = .tuple [.int .u64 (0 : Nat), .int .u64 n] ∧ t = s := by
  refine gob127 (by simp) ?_
  intro tm hlen harg
  simp +contextual only [go_sem, L127, hlen, harg, lcondB_decide, lcondB_not, lguardB_decide_true, lguardB_decide_false, ldguardB_decide, Nat.reduceLT, Nat.reduceEqDiff, Nat.reduceAdd, Nat.reduceLeDiff, reduceIte, reduceCtorEq]
  refine lfunG_eq (mul64_ok n hn _) ?_
  simp +contextual only [go_sem, hlen, harg, lcondB_decide, lcondB_not, lguardB_decide_true, lguardB_decide_false, ldguardB_decide, Nat.reduceLT, Nat.reduceEqDiff, Nat.reduceAdd, Nat.reduceLeDiff, reduceIte, reduceCtorEq]
  exact lexit_pure (.refl s) (by simp only [low, lowL, and_self]) ⟨rfl, rfl⟩
def repC (k n : Nat) : List AV := List.replicate k (.int .i64 (-1)) ++ List.replicate (n - k) (.int .i64 0)
theorem repC_length {k n : Nat} (h : k ≤ n) : (repC k n).length = n := by simp [repC]; omega
theorem splice_rep {x y : AV} : ∀ (m a b : Nat), m ≤ b → splice (List.replicate a x ++ List.replicate b y) a (List.replicate m x) = List.replicate (a + m) x ++ List.replicate (b - m) y
  | 0, a, b, _ => rfl
  | m + 1, a, b, h => by
    obtain ⟨c, rfl⟩ : ∃ c, b = c + 1 := ⟨b - 1, by omega⟩
    have e : (List.replicate a x ++ List.replicate (c + 1) y).set a x = List.replicate (a + 1) x ++ List.replicate c y := by
      rw [List.set_append_right _ _ (by simp), List.length_replicate, Nat.sub_self, List.replicate_succ, List.set_cons_zero, List.replicate_succ' (n := a), List.append_assoc]; rfl
    rw [List.replicate_succ]
    show splice ((List.replicate a x ++ List.replicate (c + 1) y).set a x) (a + 1) (List.replicate m x) = _
    rw [e, splice_rep m (a + 1) c (by omega)]
    congr 2 <;> omega
theorem mk22 {n m : Nat} {s : AHeap} {l : List (Nat × Option AObj)} (hn : n ≤ 1000000) : amakeSlice tab 22 (.int .i64 n) (.int .i64 n) (loc s m l) = some (.rs 1 (nm s.nx m) 0 n, loc s (m + 1) (lput l m (.cells (repC 0 n) (some 3)))) := by
  have e : (List.replicate n [AV.int .i64 0]).flatten = repC 0 n := by
    simp only [repC, List.replicate_zero, List.nil_append, Nat.sub_zero]
    induction n with
    | zero => rfl
    | succ k ih => rw [List.replicate_succ, List.flatten_cons, ih (by omega)]; rfl
  have hb : (0 : Int) ≤ n ∧ (n : Int) ≤ n ∧ 0 < 8 ∧ 8 * (n : Int) ≤ 281474976710656 := by omega
  simp only [amakeSlice, ty22, ty3]
  rw [if_pos (by refine ⟨by omega, by omega, by decide, by omega, rfl⟩), nx_loc, Int.toNat_natCast, show (AV.ofV (Value.int IntKind.i64 0)).cells = [AV.int .i64 0] from rfl, e, new_loc]
theorem repC_pul (k n : Nat) : PuL (repC k n) := by
  unfold PuL; rw [lowL_iff]; intro x hx
  rcases List.mem_append.1 hx with h | h <;> rw [(List.mem_replicate.1 h).2] <;> simp only [low]
theorem one_rep {x : AV} (h : x.one = true) (k : Nat) : (List.replicate k x).all AV.one = true := by
  rw [List.all_eq_true]; intro y hy; rw [(List.mem_replicate.1 hy).2]; exact h
theorem splC {k n m : Nat} (hk : k ≤ n) (hm : m ≤ n - k) : splice (repC k n) k (List.replicate m (.int .i64 (-1))) = repC (k + m) n := by
  rw [repC, splice_rep m k (n - k) hm, repC]; congr 2; omega
theorem copy0 {n m : Nat} {s : AHeap} {l : List (Nat × Option AObj)} {j : Nat} (hj : lget l j = some (.cells (repC 0 n) (some 3))) : lcopy tab 22 (.rs 1 (nm s.nx j) 0 n) (intv [-1]) (loc s m l) = some (.int .i64 (min 1 n : Nat), loc s m (lput l j (.cells (repC (min 1 n) n) (some 3)))) := by
  simp only [lcopy, ty22, acopy, ty3]
  rw [show acellsOf (loc s m l) 1 (intv [-1]) = some ([.int .i64 (-1)], 1) from rfl]
  simp only [get_loc_nm, hj, AObj.cells?]
  rw [if_pos ⟨trivial, by rw [repC_length (Nat.zero_le _)]; omega, rfl⟩, upd_loc_nm]
  rw [show [AV.int .i64 (-1)].take (min 1 n * 1) = List.replicate (min 1 n) (.int .i64 (-1)) from by cases n with | zero => rfl | succ k => (rw [show min 1 (k + 1) = 1 by omega]; rfl), splC (Nat.zero_le _) (by omega), Nat.zero_add]
theorem copyk {n k m : Nat} {s : AHeap} {l : List (Nat × Option AObj)} {j : Nat} (hk : k ≤ n) (hj : lget l j = some (.cells (repC k n) (some 3))) : lcopy tab 22 (.rs 1 (nm s.nx j) k (n - k)) (.rs 1 (nm s.nx j) 0 k) (loc s m l) = some (.int .i64 (min k (n - k) : Nat), loc s m (lput l j (.cells (repC (k + min k (n - k)) n) (some 3)))) := by
  have hl := repC_length hk
  have e : (repC k n).take k = List.replicate k (.int .i64 (-1)) := by rw [repC, List.take_left' (by simp)]
  simp only [lcopy, ty22, acopy, ty3]
  rw [show acellsOf (loc s m l) 1 (.rs 1 (nm s.nx j) 0 k) = some (List.replicate k (.int .i64 (-1)), k) from by
    simp only [acellsOf, if_true, get_loc_nm, hj, AObj.cells?]
    rw [if_pos (by omega), List.drop_zero, Nat.mul_one, e]]
  simp only [get_loc_nm, hj, AObj.cells?]
  rw [if_pos ⟨trivial, by omega, one_rep rfl k⟩, upd_loc_nm, List.take_replicate, show min (min k (n - k) * 1) k = min k (n - k) by omega, splC hk (by omega)]
theorem sl22a {b k n : Nat} (h : k ≤ n) : aslice tab 22 (.rs 1 b 0 n) (some (.int .i64 k)) none none = some (.rs 1 b k (n - k)) := by
  simp [aslice, ty22, Tab.size, ty3, abounds, aidx, h]
theorem sl22b {b k n : Nat} (h : k ≤ n) : aslice tab 22 (.rs 1 b 0 n) none (some (.int .i64 k)) none = some (.rs 1 b 0 k) := by
  simp [aslice, ty22, Tab.size, ty3, abounds, aidx, h]
theorem rep_ok (n : Nat) (hn : n ≤ 1000000) (s : AHeap) : ACall Try.prog 149 [intv [-1], .int .i64 n] s fun r t => r = .rs 1 (nm s.nx 0) 0 n ∧ t = loc s 1 [(0, some (.cells (List.replicate n (.int .i64 (-1))) (some 3)))] := by
  refine gob149 (by simp) ?_
  intro tm hlen harg
  have hx := intv_ints [-1]
  have hl1 : alen tab 22 (intv [-1]) = some (.int .i64 (1 : Nat)) := hx.len
  have hng : ¬ ((n : Nat) : Int) < 0 := by omega
  have hgt : ¬ (9223372036854775807 : Int) < n := by omega
  have hz0 : ¬ (0 : Int) < ((0 : Nat) : Int) := by omega
  simp +contextual only [go_sem, L149, hlen, harg, hl1, hng, lcondB_decide, lcondB_not, lguardB_decide_true, lguardB_decide_false, ldguardB_decide, Nat.reduceLT, Nat.reduceEqDiff, Nat.reduceAdd, Nat.reduceLeDiff, reduceIte, reduceCtorEq]
  rw [lstepB_convert]
  refine lmem_eq (cv_up (n := 1) (by simp only [go_sem, hlen, lcondB_decide, lcondB_not, lguardB_decide_true, lguardB_decide_false, ldguardB_decide, Nat.reduceLT, Nat.reduceEqDiff, Nat.reduceAdd, Nat.reduceLeDiff, reduceIte, reduceCtorEq]) (by omega)) ?_
  simp +contextual only [go_sem, hlen, harg, lcondB_decide, lcondB_not, lguardB_decide_true, lguardB_decide_false, ldguardB_decide, Nat.reduceLT, Nat.reduceEqDiff, Nat.reduceAdd, Nat.reduceLeDiff, reduceIte, reduceCtorEq]
  rw [lstepB_convert]
  refine lmem_eq (cv_up (n := n) (by simp only [go_sem, hlen, lcondB_decide, lcondB_not, lguardB_decide_true, lguardB_decide_false, ldguardB_decide, Nat.reduceLT, Nat.reduceEqDiff, Nat.reduceAdd, Nat.reduceLeDiff, reduceIte, reduceCtorEq]) (by omega)) ?_
  simp +contextual only [go_sem, hlen, harg, lcondB_decide, lcondB_not, lguardB_decide_true, lguardB_decide_false, ldguardB_decide, Nat.reduceLT, Nat.reduceEqDiff, Nat.reduceAdd, Nat.reduceLeDiff, reduceIte, reduceCtorEq]
  refine lfunG_eq (mul_ok n hn _) ?_
  simp +contextual only [go_sem, hlen, harg, hgt, hz0, lcondB_decide, lcondB_not, lguardB_decide_true, lguardB_decide_false, ldguardB_decide, Nat.reduceLT, Nat.reduceEqDiff, Nat.reduceAdd, Nat.reduceLeDiff, reduceIte, reduceCtorEq]
  rw [lstepB_convert]
  refine lmem_eq (cv_dn (n := n) (by simp only [go_sem, hlen, lcondB_decide, lcondB_not, lguardB_decide_true, lguardB_decide_false, ldguardB_decide, Nat.reduceLT, Nat.reduceEqDiff, Nat.reduceAdd, Nat.reduceLeDiff, reduceIte, reduceCtorEq]) (by omega)) ?_
  simp +contextual only [go_sem, hlen, harg, lcondB_decide, lcondB_not, lguardB_decide_true, lguardB_decide_false, ldguardB_decide, Nat.reduceLT, Nat.reduceEqDiff, Nat.reduceAdd, Nat.reduceLeDiff, reduceIte, reduceCtorEq]
  refine lmem_eq (mk22 hn) ?_
  simp +contextual only [go_sem, hlen, harg, lstepB_copy, lcondB_decide, lcondB_not, lguardB_decide_true, lguardB_decide_false, ldguardB_decide, Nat.reduceLT, Nat.reduceEqDiff, Nat.reduceAdd, Nat.reduceLeDiff, reduceIte, reduceCtorEq]
  refine lmem_eq (copy0 (by simp only [go_sem, lcondB_decide, lcondB_not, lguardB_decide_true, lguardB_decide_false, ldguardB_decide, Nat.reduceLT, Nat.reduceEqDiff, Nat.reduceAdd, Nat.reduceLeDiff, reduceIte, reduceCtorEq])) ?_
  simp +contextual only [go_sem, hlen, harg, lcondB_decide, lcondB_not, lguardB_decide_true, lguardB_decide_false, ldguardB_decide, Nat.reduceLT, Nat.reduceEqDiff, Nat.reduceAdd, Nat.reduceLeDiff, reduceIte, reduceCtorEq]
  refine ⟨Nat, fun k => [(7, .rs 1 (nm s.nx 0) 0 n), (8, .int .i64 k)], fun k => loc s 1 [(0, some (.cells (repC k n) (some 3)))], fun k => k ≤ n ∧ (n = 0 ∨ 1 ≤ k), fun k => n - k, min 1 n, by omega, ?_, ?_⟩
  · refine To.go [0] _ rfl (.refl s) (by decide) (by simp) ?_ ?_
    · simp +contextual only [go_sem, hlen, harg, lcondB_decide, lcondB_not, lguardB_decide_true, lguardB_decide_false, ldguardB_decide, Nat.reduceLT, Nat.reduceEqDiff, Nat.reduceAdd, Nat.reduceLeDiff, reduceIte, reduceCtorEq]
    · simp only [go_sem, pul_ren (repC_pul _ _), lcondB_decide, lcondB_not, lguardB_decide_true, lguardB_decide_false, ldguardB_decide, Nat.reduceLT, Nat.reduceEqDiff, Nat.reduceAdd, Nat.reduceLeDiff, reduceIte, reduceCtorEq]
  · rintro k tm1 ⟨hk, hk1⟩ hlen1 hlv
    simp only [go_sem, hlen, lcondB_decide, lcondB_not, lguardB_decide_true, lguardB_decide_false, ldguardB_decide, Nat.reduceLT, Nat.reduceEqDiff, Nat.reduceAdd, Nat.reduceLeDiff, reduceIte, reduceCtorEq] at hlen1 hlv
    simp +contextual only [go_sem, hlen, hlen1, hlv, lcondB_decide, lcondB_not, lguardB_decide_true, lguardB_decide_false, ldguardB_decide, Nat.reduceLT, Nat.reduceEqDiff, Nat.reduceAdd, Nat.reduceLeDiff, reduceIte, reduceCtorEq]
    refine ⟨fun hlt => ?_, fun hge => ?_⟩
    · have hw : IntKind.i64.wrap ((k : Int) + ((min k (n - k) : Nat) : Int)) = ((k + min k (n - k) : Nat) : Int) := by rw [wrap_id (by omega)]; omega
      refine ldrawB_go [] [] 8 (by decide) ?_
      simp +contextual only [go_sem, hlen1, hlv, ldstepB_copy, sl22a hk, sl22b hk, lcondB_decide, lcondB_not, lguardB_decide_true, lguardB_decide_false, ldguardB_decide, Nat.reduceLT, Nat.reduceEqDiff, Nat.reduceAdd, Nat.reduceLeDiff, reduceIte, reduceCtorEq]
      refine ldmem_eq (copyk hk (by simp only [go_sem, lcondB_decide, lcondB_not, lguardB_decide_true, lguardB_decide_false, ldguardB_decide, Nat.reduceLT, Nat.reduceEqDiff, Nat.reduceAdd, Nat.reduceLeDiff, reduceIte, reduceCtorEq])) ?_
      simp +contextual only [go_sem, hlen, hlen1, hlv, hw, lcondB_decide, lcondB_not, lguardB_decide_true, lguardB_decide_false, ldguardB_decide, Nat.reduceLT, Nat.reduceEqDiff, Nat.reduceAdd, Nat.reduceLeDiff, reduceIte, reduceCtorEq]
      refine ⟨by kernel_rfl, k + min k (n - k), by omega, by omega, ?_⟩
      refine To.go [0] _ rfl (.refl s) (by decide) (by simp) ?_ ?_
      · simp +contextual only [go_sem, hlen1, hlv, lcondB_decide, lcondB_not, lguardB_decide_true, lguardB_decide_false, ldguardB_decide, Nat.reduceLT, Nat.reduceEqDiff, Nat.reduceAdd, Nat.reduceLeDiff, reduceIte, reduceCtorEq]
      · simp only [go_sem, pul_ren (repC_pul _ _), lcondB_decide, lcondB_not, lguardB_decide_true, lguardB_decide_false, ldguardB_decide, Nat.reduceLT, Nat.reduceEqDiff, Nat.reduceAdd, Nat.reduceLeDiff, reduceIte, reduceCtorEq]
    · have hk2 : k = n := by omega
      subst hk2
      exact lexit_now ⟨rfl, by rw [repC, Nat.sub_self]; simp⟩
end Go.S1N
end
section
set_option linter.unusedVariables false
set_option linter.unusedSimpArgs false
namespace Go.S1N
open Go Go.Am Go.Proofs Go.S1
set_option maxRecDepth 100000
set_option linter.unusedSimpArgs false
theorem loc_loc1 {s : AHeap} {n : Nat} {l : List (Nat × Option AObj)} {o : AObj} (h : ∀ j, n ≤ j → lget l j = none) : loc (loc s n l) 1 [(0, some o)] = loc s (n + 1) (lput l n o) := by
  have e : (loc (loc s n l) 0 []).new o = loc (loc s n l) 1 [(0, some o)] := new_loc
  rw [← e, loc_loc h, new_loc]
attribute [local irreducible] lopsB lvb lstepB lfunG lcondB lguardB ldrawB ldrunB ldstepB ldguardB lmem lval ldmem ldval ldfun lexit ldloadB ldlenB lpostB athen ablock
def ownOf : Nat → List (Int × UInt8) → List Int
  | _, [] => []
  | i, p :: r => if p.1 < 0 then (i : Int) :: ownOf (i + 1) r else ownOf (i + 1) r
def oldOf : Nat → List (Int × UInt8) → List Int → List Int
  | _, [], o => o
  | i, p :: r, o => if p.1 < 0 then oldOf (i + 1) r o else oldOf (i + 1) r (o.set p.1.toNat i)
def need : List (Int × UInt8) → List Bool → Nat
  | p :: F, b :: bs => (if p.1 < 0 ∧ b = true then 1 else 0) + need F bs
  | _, _ => 0
def pastGo (old : List Int) : List Int → List (Int × UInt8) → List Bool → List (Int × UInt8)
  | own, p :: F, b :: bs => if 0 ≤ p.1 then (old.getD p.1.toNat 0, p.2) :: pastGo old own F bs else if b then (own.headD 0, p.2) :: pastGo old own.tail F bs else p :: pastGo old own F bs
  | _, _, _ => []
def pastF (n : Nat) (G F : List (Int × UInt8)) (bs : List Bool) : List (Int × UInt8) := pastGo (oldOf 0 G (List.replicate n (-1))) (ownOf 0 G) F bs
theorem ownOf_bound : ∀ (G : List (Int × UInt8)) (i : Nat), ∀ x ∈ ownOf i G, (i : Int) ≤ x ∧ x < i + G.length
  | [], _ => by simp [ownOf]
  | p :: r, i => by
    intro x hx
    have ih := ownOf_bound r (i + 1)
    simp only [List.length_cons]
    rw [ownOf] at hx
    split at hx
    · rcases List.mem_cons.1 hx with rfl | h
      · omega
      · have := ih x h; omega
    · have := ih x hx; omega
theorem oldOf_bound : ∀ (G : List (Int × UInt8)) (i : Nat) (o : List Int) (N : Nat), i + G.length ≤ N → (∀ x ∈ o, -1 ≤ x ∧ x < N) → ∀ x ∈ oldOf i G o, -1 ≤ x ∧ x < N
  | [], _, _, _, _, h => h
  | p :: r, i, o, N, hN, h => by
    simp only [List.length_cons] at hN
    rw [oldOf]
    split
    · exact oldOf_bound r (i + 1) o N (by omega) h
    · refine oldOf_bound r (i + 1) _ N (by omega) ?_
      intro x hx
      rcases List.mem_or_eq_of_mem_set hx with h1 | rfl
      · exact h x h1
      · omega
theorem pastGo_bound {N : Nat} {old : List Int} (ho : ∀ x ∈ old, -1 ≤ x ∧ x < N) (hN : 0 < N) : ∀ (F : List (Int × UInt8)) (bs : List Bool) (own : List Int), (∀ x ∈ own, -1 ≤ x ∧ x < N) → (∀ p ∈ F, -1 ≤ p.1) → ∀ p ∈ pastGo old own F bs, -1 ≤ p.1 ∧ p.1 < N
  | [], _, _, _, _ => by simp [pastGo]
  | _ :: _, [], _, _, _ => by simp [pastGo]
  | p :: F, b :: bs, own, hw, hF => by
    intro x hx
    have ht : ∀ x ∈ own.tail, -1 ≤ x ∧ x < N := fun x hx => hw x (List.mem_of_mem_tail hx)
    have hF2 : ∀ p ∈ F, -1 ≤ p.1 := fun p hp => hF p (List.mem_cons_of_mem _ hp)
    rw [pastGo] at hx
    split at hx
    · rcases List.mem_cons.1 hx with rfl | h
      · simp only [List.getD_eq_getElem?_getD]
        cases hg : old[p.1.toNat]? with
        | none => simp; omega
        | some y => exact ho y (List.mem_of_getElem? hg)
      · exact pastGo_bound ho hN F bs own hw hF2 x h
    · split at hx
      · rcases List.mem_cons.1 hx with rfl | h
        · cases own with
          | nil => simp; omega
          | cons y r => exact hw y (List.mem_cons_self ..)
        · exact pastGo_bound ho hN F bs _ ht hF2 x h
      · rcases List.mem_cons.1 hx with rfl | h
        · have := hF x (List.mem_cons_self ..); omega
        · exact pastGo_bound ho hN F bs own hw hF2 x h
theorem ints_tail {w : AV} {x : Int} {r : List Int} (h : IsInts w (x :: r)) : ∃ w', aslice tab 22 w (some (.int .i64 1)) none none = some w' ∧ IsInts w' r := by
  rcases h with ⟨f, rfl⟩ | ⟨_, h⟩
  · refine ⟨.vs 1 f (r.map (AV.int .i64)), ?_, .inl ⟨f, rfl⟩⟩
    simp [aslice, ty22, Tab.size, ty3, abounds, aidx, show (1 : Int) ≤ (r.length : Int) + 1 by omega]
    rw [List.take_of_length_le (by simp)]
  · cases h
theorem past115_ok (n : Nat) (v : AV) (c : List Ed) (hv : SlE v c) (hl : c.length ≤ 2000) (hn : n ≤ 20000) (hnew : ∀ e ∈ c, e.new.length ≤ 100000) (hsc : scan n (-1) c = 0) (F : List (Int × UInt8)) (bs : List Bool) (hbs : bs.length = F.length) (hFl : F.length ≤ 1000000000)
    (hG : ∀ p ∈ flowFrom n 0 c, p.1 < n) (hF : ∀ p ∈ F, -1 ≤ p.1 ∧ p.1 < n) (hnd : need F bs ≤ (ownOf 0 (flowFrom n 0 c)).length) (s : AHeap) :
    ACall Try.prog 115 [.int .i64 n, v, flv n F, fsv 1 (bs.map .bool)] s fun r t => r = edv (edGo (flowFrom n 0 c).length 0 [] (pastF n (flowFrom n 0 c) F bs)) ∧ t = s := by
  refine gob115 (by simp) ?_
  intro tm hlen harg
  have hGl : (flowFrom n 0 c).length ≤ 300000000 := by
    have h1 := flow_len n c 0 hnew (fun e he => (scan_range c _ hsc e he).2.2.1)
    have h2 : c.length * (n + 100000) ≤ 2000 * (20000 + 100000) := Nat.mul_le_mul hl (by omega)
    omega
  simp +contextual only [go_sem, L115, hlen, harg, flv, lcondB_decide, lcondB_not, lguardB_decide_true, lguardB_decide_false, ldguardB_decide, Nat.reduceLT, Nat.reduceEqDiff, Nat.reduceAdd, Nat.reduceLeDiff, reduceIte, reduceCtorEq]
  refine lfunG_eq (flowOfE n v c hv hl hn hnew hsc _) ?_
  generalize hGe : flowFrom n 0 c = G at *
  simp +contextual only [go_sem, hlen, harg, flv, lcondB_decide, lcondB_not, lguardB_decide_true, lguardB_decide_false, ldguardB_decide, Nat.reduceLT, Nat.reduceEqDiff, Nat.reduceAdd, Nat.reduceLeDiff, reduceIte, reduceCtorEq]
  have hpF : Pu (fsv 2 (ltv F)) := pu_fsv (ltv_pu F)
  have hpG : Pu (fsv 2 (ltv G)) := pu_fsv (ltv_pu G)
  refine lfunG_freeze 2 1 [.int .i64 (-1)] (TT := some 3) (by simp only [go_sem, lcondB_decide, lcondB_not, lguardB_decide_true, lguardB_decide_false, ldguardB_decide, Nat.reduceLT, Nat.reduceEqDiff, Nat.reduceAdd, Nat.reduceLeDiff, reduceIte, reduceCtorEq]) (by intro x hx; rw [List.mem_singleton.1 hx]; rfl) ?_
  simp only [go_sem, pu_fz hpF, pu_fz hpG, lcondB_decide, lcondB_not, lguardB_decide_true, lguardB_decide_false, ldguardB_decide, Nat.reduceLT, Nat.reduceEqDiff, Nat.reduceAdd, Nat.reduceLeDiff, reduceIte, reduceCtorEq]
  refine lfunG_of (rep_ok n (by omega) _) ?_
  rintro _ _ ⟨rfl, rfl⟩
  rw [loc_loc1 (by intro j hj; simp only [lget]; rw [if_neg (by omega), if_neg (by omega)])]
  simp +contextual only [go_sem, hlen, harg, flow_len', pu_fz hpF, pu_fz hpG, lcondB_decide, lcondB_not, lguardB_decide_true, lguardB_decide_false, ldguardB_decide, Nat.reduceLT, Nat.reduceEqDiff, Nat.reduceAdd, Nat.reduceLeDiff, reduceIte, reduceCtorEq]
  have hpB : Pu (fsv 1 (bs.map .bool)) := pu_fsv (by unfold PuL; rw [lowL_iff]; intro x hx; obtain ⟨y, _, rfl⟩ := List.mem_map.1 hx; simp only [low])
  have hown := ownOf_bound G 0
  refine ⟨Nat × List Int × List Int, fun a => [(3, fsv 1 (bs.map .bool)), (6, .ptr (nm s.nx 0) 0), (9, .ptr (nm s.nx 1) 0), (10, gsv 1 (nm s.nx 3) a.2.1.length), (11, .rs 1 (nm s.nx 2) 0 n), (24, fsv 2 (ltv G)), (25, .int .i64 G.length), (26, .int .i64 a.1)],
    fun a => loc s 4 [(0, some (.cells [.int .i64 n, fsv 2 (ltv F)] (some 118))), (1, some (.cells [.int .i64 n, fsv 2 (ltv G)] (some 118))), (2, some (.cells (inl_ a.2.2) (some 3))), (3, gso 3 (inl_ a.2.1))],
    fun a => a.1 ≤ G.length ∧ a.2.2.length = n ∧ a.2.1.length ≤ a.1 ∧ a.2.1 ++ ownOf a.1 (G.drop a.1) = ownOf 0 G ∧ oldOf a.1 (G.drop a.1) a.2.2 = oldOf 0 G (List.replicate n (-1)), fun a => G.length - a.1, (0, [], List.replicate n (-1)), ⟨Nat.zero_le _, by simp, by simp, rfl, rfl⟩, ?_, ?_⟩
  · refine To.go [0, 1, 3, 4] [(0, some (.cells [.int .i64 n, fsv 2 (ltv F)] (some 118))), (1, some (.cells [.int .i64 n, fsv 2 (ltv G)] (some 118))), (2, some (.cells (inl_ (List.replicate n (-1))) (some 3))), (3, none)] rfl (.refl s) (by decide) (by simp) ?_ ?_
    · simp +contextual only [go_sem, hlen, harg, show nm (nm s.nx 3) 0 = nm s.nx 3 from rfl, pu_fz hpB, pu_fz hpG, pu_ren hpB, pu_ren hpG, gsv_zero, lcondB_decide, lcondB_not, lguardB_decide_true, lguardB_decide_false, ldguardB_decide, Nat.reduceLT, Nat.reduceEqDiff, Nat.reduceAdd, Nat.reduceLeDiff, reduceIte, reduceCtorEq]
      rfl
    · simp only [go_sem, pu_ren hpF, pu_ren hpG, pul_ren (inl_pul _), lcondB_decide, lcondB_not, lguardB_decide_true, lguardB_decide_false, ldguardB_decide, Nat.reduceLT, Nat.reduceEqDiff, Nat.reduceAdd, Nat.reduceLeDiff, reduceIte, reduceCtorEq]
      simp [inl_]
  · rintro ⟨j, O, D⟩ tm1 ⟨hj, hDl, hOl, hO, hD⟩ hlen1 hlv
    simp only [go_sem, hlen, lcondB_decide, lcondB_not, lguardB_decide_true, lguardB_decide_false, ldguardB_decide, Nat.reduceLT, Nat.reduceEqDiff, Nat.reduceAdd, Nat.reduceLeDiff, reduceIte, reduceCtorEq] at hlen1 hlv hj hDl hOl hO hD
    simp +contextual only [go_sem, hlen, hlen1, hlv, lcondB_decide, lcondB_not, lguardB_decide_true, lguardB_decide_false, ldguardB_decide, Nat.reduceLT, Nat.reduceEqDiff, Nat.reduceAdd, Nat.reduceLeDiff, reduceIte, reduceCtorEq]
    refine ⟨fun hlt => ?_, fun hge => ?_⟩
    · have hj2 : j < G.length := by omega
      have he := List.getElem?_eq_getElem hj2
      have hmem : G[j] ∈ G := List.getElem_mem hj2
      have hdrop := List.drop_eq_getElem_cons hj2
      generalize G[j] = p at he hmem hdrop
      have hp := hG p hmem
      rw [hdrop, ownOf] at hO
      rw [hdrop, oldOf] at hD
      have hw3 : IntKind.i64.wrap ((j : Int) + 1) = ((j + 1 : Nat) : Int) := by rw [wrap_id (by omega)]; rfl
      simp +contextual only [go_sem, hlen1, hlv, flow_at G he, lcondB_decide, lcondB_not, lguardB_decide_true, lguardB_decide_false, ldguardB_decide, Nat.reduceLT, Nat.reduceEqDiff, Nat.reduceAdd, Nat.reduceLeDiff, reduceIte, reduceCtorEq]
      refine ⟨fun hneg => ?_, fun hpos => ?_⟩
      · rw [if_pos hneg] at hO hD
        refine lmem_eq (app_int (by simp only [go_sem, lcondB_decide, lcondB_not, lguardB_decide_true, lguardB_decide_false, ldguardB_decide, Nat.reduceLT, Nat.reduceEqDiff, Nat.reduceAdd, Nat.reduceLeDiff, reduceIte, reduceCtorEq]; rfl) (by simp only [go_sem, lcondB_decide, lcondB_not, lguardB_decide_true, lguardB_decide_false, ldguardB_decide, Nat.reduceLT, Nat.reduceEqDiff, Nat.reduceAdd, Nat.reduceLeDiff, reduceIte, reduceCtorEq]) (by omega)) ?_
        simp +contextual only [go_sem, hlen1, hlv, hw3, lcondB_decide, lcondB_not, lguardB_decide_true, lguardB_decide_false, ldguardB_decide, Nat.reduceLT, Nat.reduceEqDiff, Nat.reduceAdd, Nat.reduceLeDiff, reduceIte, reduceCtorEq]
        refine ⟨(j + 1, O ++ [(j : Int)], D), ⟨by simp only; omega, hDl, by simp only [List.length_append, List.length_singleton]; omega, by simp only [List.append_assoc]; exact hO, hD⟩, by simp only; omega, ?_⟩
        refine To.go [0, 1, 2, 6] [(0, some (.cells [.int .i64 n, fsv 2 (ltv F)] (some 118))), (1, some (.cells [.int .i64 n, fsv 2 (ltv G)] (some 118))), (2, some (.cells (inl_ D) (some 3))), (3, gso 3 (inl_ (O ++ [(j : Int)])))] rfl (.refl s) (by decide) (by simp) ?_ ?_
        · simp +contextual only [go_sem, hlen1, hlv, pu_ren hpB, pu_ren hpG, List.length_append, gsv_pos (Nat.succ_ne_zero _), lcondB_decide, lcondB_not, lguardB_decide_true, lguardB_decide_false, ldguardB_decide, Nat.reduceLT, Nat.reduceEqDiff, Nat.reduceAdd, Nat.reduceLeDiff, reduceIte, reduceCtorEq]
        · simp only [go_sem, pu_ren hpF, pu_ren hpG, pul_ren (inl_pul _), gso_int, lcondB_decide, lcondB_not, lguardB_decide_true, lguardB_decide_false, ldguardB_decide, Nat.reduceLT, Nat.reduceEqDiff, Nat.reduceAdd, Nat.reduceLeDiff, reduceIte, reduceCtorEq]
      · rw [if_neg hpos] at hO hD
        have hpb : p.1.toNat < D.length := by omega
        simp +contextual only [go_sem, hlen1, hlv, ix22r (show 0 ≤ p.1 by omega) hp, lcondB_decide, lcondB_not, lguardB_decide_true, lguardB_decide_false, ldguardB_decide, Nat.reduceLT, Nat.reduceEqDiff, Nat.reduceAdd, Nat.reduceLeDiff, reduceIte, reduceCtorEq]
        rw [if_pos (show p.1.toNat * 1 + 1 ≤ (inl_ D).length by rw [inl_length]; omega)]
        refine lmem_eq rfl ?_
        simp +contextual only [go_sem, hlen1, hlv, hw3, lcondB_decide, lcondB_not, lguardB_decide_true, lguardB_decide_false, ldguardB_decide, Nat.reduceLT, Nat.reduceEqDiff, Nat.reduceAdd, Nat.reduceLeDiff, reduceIte, reduceCtorEq]
        refine ⟨(j + 1, O, D.set p.1.toNat j), ⟨by simp only; omega, by simp only [List.length_set]; exact hDl, by simp only; omega, hO, hD⟩, by simp only; omega, ?_⟩
        refine To.go [0, 1, 2, 3] [(0, some (.cells [.int .i64 n, fsv 2 (ltv F)] (some 118))), (1, some (.cells [.int .i64 n, fsv 2 (ltv G)] (some 118))), (2, some (.cells (inl_ (D.set p.1.toNat j)) (some 3))), (3, gso 3 (inl_ O))] rfl (.refl s) (by decide) (by simp) ?_ ?_
        · simp +contextual only [go_sem, hlen1, hlv, pu_ren hpB, pu_ren hpG, ren_gsv, lcondB_decide, lcondB_not, lguardB_decide_true, lguardB_decide_false, ldguardB_decide, Nat.reduceLT, Nat.reduceEqDiff, Nat.reduceAdd, Nat.reduceLeDiff, reduceIte, reduceCtorEq]
        · rw [show (inl_ D).set (p.1.toNat * 1) (.int .i64 j) = inl_ (D.set p.1.toNat j) by rw [Nat.mul_one, inl_, inl_, List.map_set]]
          simp only [go_sem, pu_ren hpF, pu_ren hpG, pul_ren (inl_pul _), map_gso_pu (inl_pul _), lcondB_decide, lcondB_not, lguardB_decide_true, lguardB_decide_false, ldguardB_decide, Nat.reduceLT, Nat.reduceEqDiff, Nat.reduceAdd, Nat.reduceLeDiff, reduceIte, reduceCtorEq]
    · have hj2 : j = G.length := by omega
      subst hj2
      rw [List.drop_length] at hO hD
      simp only [ownOf, oldOf, List.append_nil] at hO hD
      have hGl2 : (ltv G).length = G.length := List.length_map ..
      have hFl2 : (ltv F).length = F.length := List.length_map ..
      have hOb : ∀ x ∈ O, -1 ≤ x ∧ x < (G.length : Int) := by
        intro x hx; rw [hO] at hx; have := hown x hx; omega
      have hDb : ∀ x ∈ D, -1 ≤ x ∧ x < ((G.length + 1 : Nat) : Int) := by
        intro x hx; rw [hD] at hx
        refine oldOf_bound G 0 _ (G.length + 1) (by omega) ?_ x hx
        intro y hy; rw [(List.mem_replicate.1 hy).2]; omega
      have hPF : pastF n G F bs = pastGo D O F bs := by rw [pastF, ← hO, ← hD]
      rw [← hO] at hnd
      rw [hPF]
      simp only [hGl2, hFl2]
      clear hO hD hPF
      refine ⟨Nat × AV × List Int × List (Int × UInt8), fun a => [(3, fsv 1 (bs.map .bool)), (6, .ptr (nm s.nx 0) 0), (10, a.2.1), (11, .rs 1 (nm s.nx 2) 0 n), (14, .ptr (nm s.nx 3) 0), (49, fsv 2 (ltv F)), (50, .int .i64 F.length), (51, .int .i64 a.1)],
        fun a => loc s 5 [(0, some (.cells [.int .i64 n, fsv 2 (ltv F)] (some 118))), (1, some (.cells [.int .i64 n, fsv 2 (ltv G)] (some 118))), (2, some (.cells (inl_ D) (some 3))), (3, some (.cells [.int .i64 G.length, gsv 2 (nm s.nx 4) a.2.2.2.length] (some 118))), (4, gso 121 (letters a.2.2.2))],
        fun a => a.1 ≤ F.length ∧ IsInts a.2.1 a.2.2.1 ∧ need (F.drop a.1) (bs.drop a.1) ≤ a.2.2.1.length ∧ a.2.2.2.length ≤ a.1 ∧ a.2.2.2 ++ pastGo D a.2.2.1 (F.drop a.1) (bs.drop a.1) = pastGo D O F bs, fun a => F.length - a.1, (0, intv O, O, []), ⟨Nat.zero_le _, intv_ints O, hnd, Nat.le_refl _, rfl⟩, ?_, ?_⟩
      · refine To.freezeG 3 1 (inl_ O) (by rw [inl_flat]; simp only [go_sem, lcondB_decide, lcondB_not, lguardB_decide_true, lguardB_decide_false, ldguardB_decide, Nat.reduceLT, Nat.reduceEqDiff, Nat.reduceAdd, Nat.reduceLeDiff, reduceIte, reduceCtorEq]; rfl) (inl_cl _) (by decide) ?_
        simp only [go_sem, len_infz, pu_fz hpF, pu_fz hpG, pul_fz (inl_pul _), lcondB_decide, lcondB_not, lguardB_decide_true, lguardB_decide_false, ldguardB_decide, Nat.reduceLT, Nat.reduceEqDiff, Nat.reduceAdd, Nat.reduceLeDiff, reduceIte, reduceCtorEq]
        refine To.go [0, 1, 2, 4, 5] [(0, some (.cells [.int .i64 n, fsv 2 (ltv F)] (some 118))), (1, some (.cells [.int .i64 n, fsv 2 (ltv G)] (some 118))), (2, some (.cells (inl_ D) (some 3))), (3, some (.cells [.int .i64 G.length, .nils] (some 118))), (4, none)] rfl (.refl s) (by decide) (by simp) ?_ ?_
        · simp +contextual only [go_sem, hlen1, hlv, len_infz, pu_fz hpB, pu_fz hpF, pu_ren hpB, pu_ren hpF, pu_ren (intv_pu _), lcondB_decide, lcondB_not, lguardB_decide_true, lguardB_decide_false, ldguardB_decide, Nat.reduceLT, Nat.reduceEqDiff, Nat.reduceAdd, Nat.reduceLeDiff, reduceIte, reduceCtorEq]
          simp only [false_and, if_false]
          exact ⟨trivial, rfl⟩
        · simp only [go_sem, pu_ren hpF, pu_ren hpG, pul_ren (inl_pul _), lcondB_decide, lcondB_not, lguardB_decide_true, lguardB_decide_false, ldguardB_decide, Nat.reduceLT, Nat.reduceEqDiff, Nat.reduceAdd, Nat.reduceLeDiff, reduceIte, reduceCtorEq]
      · rintro ⟨i, w, O2, R⟩ tm2 ⟨hi, hw, hn2, hRl, hR⟩ hlen2 hlv2
        simp only [go_sem, hlen1, hlen, lcondB_decide, lcondB_not, lguardB_decide_true, lguardB_decide_false, ldguardB_decide, Nat.reduceLT, Nat.reduceEqDiff, Nat.reduceAdd, Nat.reduceLeDiff, reduceIte, reduceCtorEq] at hlen2 hlv2 hi hw hn2 hRl hR
        simp +contextual only [go_sem, hlen, hlen2, hlv2, lcondB_decide, lcondB_not, lguardB_decide_true, lguardB_decide_false, ldguardB_decide, Nat.reduceLT, Nat.reduceEqDiff, Nat.reduceAdd, Nat.reduceLeDiff, reduceIte, reduceCtorEq]
        refine ⟨fun hlt => ?_, fun hge => ?_⟩
        · have hi2 : i < F.length := by omega
          have hi3 : i < bs.length := by omega
          have he := List.getElem?_eq_getElem hi2
          have heb := List.getElem?_eq_getElem hi3
          have hmem : F[i] ∈ F := List.getElem_mem hi2
          have hdrop := List.drop_eq_getElem_cons hi2
          have hdropb := List.drop_eq_getElem_cons hi3
          generalize F[i] = p at he hmem hdrop
          generalize bs[i] = bb at heb hdropb
          have hp := hF p hmem
          have hix : aindexAddr tab 167 (fsv 1 (bs.map .bool)) (.int .i64 i) = some (.rptr [.bool bb]) := ix167f (v := .bool bb) (by omega) (by rw [List.getElem?_map, Int.toNat_natCast, heb]; rfl) rfl
          rw [hdrop, hdropb, pastGo] at hR
          rw [hdrop, hdropb, need] at hn2
          have hw3 : IntKind.i64.wrap ((i : Int) + 1) = ((i + 1 : Nat) : Int) := by rw [wrap_id (by omega)]; rfl
          have hRl2 : R.length ≤ 1000000000 := by omega
          simp +contextual only [go_sem, hlen2, hlv2, flow_at F he, lcondB_decide, lcondB_not, lguardB_decide_true, lguardB_decide_false, ldguardB_decide, Nat.reduceLT, Nat.reduceEqDiff, Nat.reduceAdd, Nat.reduceLeDiff, reduceIte, reduceCtorEq]
          refine ⟨fun hpos => ?_, fun hneg => ?_⟩
          · rw [if_pos hpos] at hR
            rw [if_neg (by omega)] at hn2
            have hpb : p.1.toNat < D.length := by omega
            have hld : (List.drop (p.1.toNat * 1) (inl_ D))[0]? = some (.int .i64 (D.getD p.1.toNat 0)) := by
              rw [List.getElem?_drop, Nat.mul_one, Nat.add_zero, inl_, List.getElem?_map, List.getD_eq_getElem?_getD, List.getElem?_eq_getElem hpb]; rfl
            simp +contextual only [go_sem, hlen2, hlv2, ix22r hpos hp.2, hld, lcondB_decide, lcondB_not, lguardB_decide_true, lguardB_decide_false, ldguardB_decide, Nat.reduceLT, Nat.reduceEqDiff, Nat.reduceAdd, Nat.reduceLeDiff, reduceIte, reduceCtorEq]
            refine lmem_eq (app116 (acellsOf_rs (by simp only [go_sem, lcondB_decide, lcondB_not, lguardB_decide_true, lguardB_decide_false, ldguardB_decide, Nat.reduceLT, Nat.reduceEqDiff, Nat.reduceAdd, Nat.reduceLeDiff, reduceIte, reduceCtorEq]; rfl) (by rfl) rfl) (by decide) (by simp only [go_sem, lcondB_decide, lcondB_not, lguardB_decide_true, lguardB_decide_false, ldguardB_decide, Nat.reduceLT, Nat.reduceEqDiff, Nat.reduceAdd, Nat.reduceLeDiff, reduceIte, reduceCtorEq]) (by simp only [go_sem, lcondB_decide, lcondB_not, lguardB_decide_true, lguardB_decide_false, ldguardB_decide, Nat.reduceLT, Nat.reduceEqDiff, Nat.reduceAdd, Nat.reduceLeDiff, reduceIte, reduceCtorEq]) (letters_length _) (by omega) rfl) ?_
            simp +contextual only [go_sem, hlen2, hlen1, hlen, hlv2, hw3, lcondB_decide, lcondB_not, lguardB_decide_true, lguardB_decide_false, ldguardB_decide, Nat.reduceLT, Nat.reduceEqDiff, Nat.reduceAdd, Nat.reduceLeDiff, reduceIte, reduceCtorEq]
            refine ⟨(i + 1, w, O2, R ++ [(D.getD p.1.toNat 0, p.2)]), ⟨by simp only; omega, hw, by simp only; omega, by simp only [List.length_append, List.length_singleton]; omega, by simp only [List.append_assoc]; exact hR⟩, by simp only; omega, ?_⟩
            refine To.go [0, 1, 2, 3, 7] [(0, some (.cells [.int .i64 n, fsv 2 (ltv F)] (some 118))), (1, some (.cells [.int .i64 n, fsv 2 (ltv G)] (some 118))), (2, some (.cells (inl_ D) (some 3))), (3, some (.cells [.int .i64 G.length, gsv 2 (nm s.nx 4) (R ++ [(D.getD p.1.toNat 0, p.2)]).length] (some 118))), (4, gso 121 (letters (R ++ [(D.getD p.1.toNat 0, p.2)])))] rfl (.refl s) (by decide) (by simp) ?_ ?_
            · simp +contextual only [go_sem, hlen2, hlv2, pu_ren hpB, pu_ren hpF, pu_ren hw.pu, lcondB_decide, lcondB_not, lguardB_decide_true, lguardB_decide_false, ldguardB_decide, Nat.reduceLT, Nat.reduceEqDiff, Nat.reduceAdd, Nat.reduceLeDiff, reduceIte, reduceCtorEq]
            · simp only [go_sem, gso_let, pu_ren hpF, pu_ren hpG, pul_ren (inl_pul _), pul_ren (letters_pul _), List.length_append, gsv_pos (Nat.succ_ne_zero _), lcondB_decide, lcondB_not, lguardB_decide_true, lguardB_decide_false, ldguardB_decide, Nat.reduceLT, Nat.reduceEqDiff, Nat.reduceAdd, Nat.reduceLeDiff, reduceIte, reduceCtorEq]
              rw [letters_snoc]
          · rw [if_neg hneg] at hR
            cases bb
            · simp only [Bool.false_eq_true, and_false, if_false, Nat.zero_add] at hR hn2
              simp +contextual only [go_sem, hlen2, hlv2, hix, lcondB_decide, lcondB_not, lguardB_decide_true, lguardB_decide_false, ldguardB_decide, Nat.reduceLT, Nat.reduceEqDiff, Nat.reduceAdd, Nat.reduceLeDiff, reduceIte, reduceCtorEq]
              refine lmem_eq (app116 (acellsOf_rs (by simp only [go_sem, lcondB_decide, lcondB_not, lguardB_decide_true, lguardB_decide_false, ldguardB_decide, Nat.reduceLT, Nat.reduceEqDiff, Nat.reduceAdd, Nat.reduceLeDiff, reduceIte, reduceCtorEq]; rfl) (by rfl) rfl) (by decide) (by simp only [go_sem, lcondB_decide, lcondB_not, lguardB_decide_true, lguardB_decide_false, ldguardB_decide, Nat.reduceLT, Nat.reduceEqDiff, Nat.reduceAdd, Nat.reduceLeDiff, reduceIte, reduceCtorEq]) (by simp only [go_sem, lcondB_decide, lcondB_not, lguardB_decide_true, lguardB_decide_false, ldguardB_decide, Nat.reduceLT, Nat.reduceEqDiff, Nat.reduceAdd, Nat.reduceLeDiff, reduceIte, reduceCtorEq]) (letters_length _) (by omega) rfl) ?_
              simp +contextual only [go_sem, hlen2, hlen1, hlen, hlv2, hw3, lcondB_decide, lcondB_not, lguardB_decide_true, lguardB_decide_false, ldguardB_decide, Nat.reduceLT, Nat.reduceEqDiff, Nat.reduceAdd, Nat.reduceLeDiff, reduceIte, reduceCtorEq]
              refine ⟨(i + 1, w, O2, R ++ [p]), ⟨by simp only; omega, hw, by simp only; exact hn2, by simp only [List.length_append, List.length_singleton]; omega, by simp only [List.append_assoc]; exact hR⟩, by simp only; omega, ?_⟩
              refine To.go [0, 1, 2, 3, 7] [(0, some (.cells [.int .i64 n, fsv 2 (ltv F)] (some 118))), (1, some (.cells [.int .i64 n, fsv 2 (ltv G)] (some 118))), (2, some (.cells (inl_ D) (some 3))), (3, some (.cells [.int .i64 G.length, gsv 2 (nm s.nx 4) (R ++ [p]).length] (some 118))), (4, gso 121 (letters (R ++ [p])))] rfl (.refl s) (by decide) (by simp) ?_ ?_
              · simp +contextual only [go_sem, hlen2, hlv2, pu_ren hpB, pu_ren hpF, pu_ren hw.pu, lcondB_decide, lcondB_not, lguardB_decide_true, lguardB_decide_false, ldguardB_decide, Nat.reduceLT, Nat.reduceEqDiff, Nat.reduceAdd, Nat.reduceLeDiff, reduceIte, reduceCtorEq]
              · simp only [go_sem, gso_let, pu_ren hpF, pu_ren hpG, pul_ren (inl_pul _), pul_ren (letters_pul _), List.length_append, gsv_pos (Nat.succ_ne_zero _), lcondB_decide, lcondB_not, lguardB_decide_true, lguardB_decide_false, ldguardB_decide, Nat.reduceLT, Nat.reduceEqDiff, Nat.reduceAdd, Nat.reduceLeDiff, reduceIte, reduceCtorEq]
                rw [letters_snoc]
            · simp only [and_true, if_true, show p.1 < 0 by omega] at hR hn2
              cases hO2 : O2 with
              | nil => rw [hO2] at hn2; simp only [List.length_nil] at hn2; omega
              | cons x r =>
                rw [hO2] at hw hn2 hR
                simp only [List.headD_cons, List.tail_cons] at hR
                simp only [List.length_cons] at hn2
                obtain ⟨w', hsl, hw'⟩ := ints_tail hw
                simp +contextual only [go_sem, hlen2, hlv2, hix, hw.at (n := 0) (by omega) (x := x) rfl, hsl, lcondB_decide, lcondB_not, lguardB_decide_true, lguardB_decide_false, ldguardB_decide, Nat.reduceLT, Nat.reduceEqDiff, Nat.reduceAdd, Nat.reduceLeDiff, reduceIte, reduceCtorEq]
                refine lmem_eq (app116 (acellsOf_rs (by simp only [go_sem, lcondB_decide, lcondB_not, lguardB_decide_true, lguardB_decide_false, ldguardB_decide, Nat.reduceLT, Nat.reduceEqDiff, Nat.reduceAdd, Nat.reduceLeDiff, reduceIte, reduceCtorEq]; rfl) (by rfl) rfl) (by decide) (by simp only [go_sem, lcondB_decide, lcondB_not, lguardB_decide_true, lguardB_decide_false, ldguardB_decide, Nat.reduceLT, Nat.reduceEqDiff, Nat.reduceAdd, Nat.reduceLeDiff, reduceIte, reduceCtorEq]) (by simp only [go_sem, lcondB_decide, lcondB_not, lguardB_decide_true, lguardB_decide_false, ldguardB_decide, Nat.reduceLT, Nat.reduceEqDiff, Nat.reduceAdd, Nat.reduceLeDiff, reduceIte, reduceCtorEq]) (letters_length _) (by omega) rfl) ?_
                simp +contextual only [go_sem, hlen2, hlen1, hlen, hlv2, hw3, lcondB_decide, lcondB_not, lguardB_decide_true, lguardB_decide_false, ldguardB_decide, Nat.reduceLT, Nat.reduceEqDiff, Nat.reduceAdd, Nat.reduceLeDiff, reduceIte, reduceCtorEq]
                refine ⟨(i + 1, w', r, R ++ [(x, p.2)]), ⟨by simp only; omega, hw', by simp only; omega, by simp only [List.length_append, List.length_singleton]; omega, by simp only [List.append_assoc]; exact hR⟩, by simp only; omega, ?_⟩
                refine To.go [0, 1, 2, 3, 7] [(0, some (.cells [.int .i64 n, fsv 2 (ltv F)] (some 118))), (1, some (.cells [.int .i64 n, fsv 2 (ltv G)] (some 118))), (2, some (.cells (inl_ D) (some 3))), (3, some (.cells [.int .i64 G.length, gsv 2 (nm s.nx 4) (R ++ [(x, p.2)]).length] (some 118))), (4, gso 121 (letters (R ++ [(x, p.2)])))] rfl (.refl s) (by decide) (by simp) ?_ ?_
                · simp +contextual only [go_sem, hlen2, hlv2, pu_ren hpB, pu_ren hpF, pu_ren hw'.pu, lcondB_decide, lcondB_not, lguardB_decide_true, lguardB_decide_false, ldguardB_decide, Nat.reduceLT, Nat.reduceEqDiff, Nat.reduceAdd, Nat.reduceLeDiff, reduceIte, reduceCtorEq]
                · simp only [go_sem, gso_let, pu_ren hpF, pu_ren hpG, pul_ren (inl_pul _), pul_ren (letters_pul _), List.length_append, gsv_pos (Nat.succ_ne_zero _), lcondB_decide, lcondB_not, lguardB_decide_true, lguardB_decide_false, ldguardB_decide, Nat.reduceLT, Nat.reduceEqDiff, Nat.reduceAdd, Nat.reduceLeDiff, reduceIte, reduceCtorEq]
                  rw [letters_snoc]
        · have hi2 : i = F.length := by omega
          subst hi2
          rw [List.drop_length] at hR
          simp only [pastGo, List.append_nil] at hR
          refine lfunG_freezeG 4 2 (ltv R) (by rw [ltv_letters]; simp only [go_sem, lcondB_decide, lcondB_not, lguardB_decide_true, lguardB_decide_false, ldguardB_decide, Nat.reduceLT, Nat.reduceEqDiff, Nat.reduceAdd, Nat.reduceLeDiff, reduceIte, reduceCtorEq]; rfl) (ltv_len _) (by decide) ?_
          have hfz : fz (nm s.nx 4) 2 (ltv R) (gsv 2 (nm s.nx 4) R.length) = fsv 2 (ltv R) := by
            rw [show R.length = (ltv R).length from (List.length_map ..).symm, fz_gsv]
          simp only [go_sem, hfz, lcondB_decide, lcondB_not, lguardB_decide_true, lguardB_decide_false, ldguardB_decide, Nat.reduceLT, Nat.reduceEqDiff, Nat.reduceAdd, Nat.reduceLeDiff, reduceIte, reduceCtorEq]
          refine lfunG_eq (edits_ok G.length R (by omega) (by
            intro x hx
            rw [hR] at hx
            have := pastGo_bound (N := G.length + 1) hDb (by omega) F bs O (fun y hy => by have := hOb y hy; omega) (fun y hy => (hF y hy).1) x hx
            omega) (by omega) _) ?_
          simp +contextual only [go_sem, hlen2, hlv2, lcondB_decide, lcondB_not, lguardB_decide_true, lguardB_decide_false, ldguardB_decide, Nat.reduceLT, Nat.reduceEqDiff, Nat.reduceAdd, Nat.reduceLeDiff, reduceIte, reduceCtorEq]
          rw [hR]
          exact lexit_pure (.refl s) (low.mono (Nat.zero_le _) (edv_pu _)) ⟨rfl, rfl⟩
end Go.S1N
end
section
set_option linter.unusedVariables false
set_option linter.unusedSimpArgs false
namespace Go.S1N
open Go Go.Am Go.Proofs Go.S1
set_option maxRecDepth 100000
set_option linter.unusedSimpArgs false
theorem ldmem_eq {N : DSt → AHeap → Prop} {o : Option (AV × AHeap)} {d : Option Nat} {tm : List AV} {co : List AHeap} {re : List AV} {ki : List DKind} {v : AV} {t : AHeap} (h : o = some (v, t)) (k : N ⟨aput tm d v, co ++ [t], re ++ [v], ki ++ [.eff]⟩ t) : ldmem N o d ⟨tm, co, re, ki⟩ := by
  rw [h]; exact k
attribute [local irreducible] lopsB lvb lstepB lfunG lcondB lguardB ldrawB ldrunB ldstepB ldguardB lmem lval ldmem ldval ldfun lexit ldloadB ldlenB lpostB athen ablock
abbrev ML := (Int × UInt8) × Bool × Bool
def blsA (T : List ML) : List AV := T.map fun x => .bool x.2.1
def blsB (T : List ML) : List AV := T.map fun x => .bool x.2.2
def ltsM (T : List ML) : List AV := letters (T.map (·.1))
theorem blsA_len (T : List ML) : (blsA T).length = T.length * 1 := by simp [blsA]
theorem blsB_len (T : List ML) : (blsB T).length = T.length * 1 := by simp [blsB]
theorem ltsM_len (T : List ML) : (ltsM T).length = T.length * 2 := by rw [ltsM, letters_length, List.length_map]
theorem blsA_pul (T : List ML) : PuL (blsA T) := by
  unfold PuL; rw [lowL_iff]; intro x hx; obtain ⟨y, _, rfl⟩ := List.mem_map.1 hx; simp only [low]
theorem blsB_pul (T : List ML) : PuL (blsB T) := by
  unfold PuL; rw [lowL_iff]; intro x hx; obtain ⟨y, _, rfl⟩ := List.mem_map.1 hx; simp only [low]
theorem ltsM_pul (T : List ML) : PuL (ltsM T) := letters_pul _
theorem blsA_snoc (T : List ML) (x : ML) : blsA (T ++ [x]) = blsA T ++ [.bool x.2.1] := by simp [blsA]
theorem blsB_snoc (T : List ML) (x : ML) : blsB (T ++ [x]) = blsB T ++ [.bool x.2.2] := by simp [blsB]
theorem ltsM_snoc (T : List ML) (x : ML) : ltsM (T ++ [x]) = ltsM T ++ [.int .i64 x.1.1, .int .u8 x.1.2.toNat] := by simp [ltsM, letters]
theorem bsv116 {a c : Int} {s : AHeap} : abuildSlice tab true 116 1 [(0, .agg [.int .i64 a, .int .u8 c])] s = some (.vs 2 true [.agg [.int .i64 a, .int .u8 c]], s) := by
  simp [abuildSlice, ty116, ty121, AV.israw, AV.ofV, AV.ofOne, AV.cells]
theorem bsv167 {b : Bool} {s : AHeap} : abuildSlice tab true 167 1 [(0, .bool b)] s = some (.vs 1 true [.bool b], s) := by
  simp [abuildSlice, ty167, ty4, AV.israw, AV.ofV, AV.ofOne, AV.cells]
theorem ltsM_sn (T : List ML) (x : ML) : ltsM (T ++ [x]) ≠ [] := by rw [ltsM_snoc]; simp
theorem blsA_sn (T : List ML) (x : ML) : blsA (T ++ [x]) ≠ [] := by rw [blsA_snoc]; simp
theorem blsB_sn (T : List ML) (x : ML) : blsB (T ++ [x]) ≠ [] := by rw [blsB_snoc]; simp
theorem acv {sz : Nat} {f : Bool} {v : AV} {s : AHeap} : acellsOf s sz (.vs sz f [v]) = some (v.cells, 1) := by simp [acellsOf]
def mixH (s : AHeap) (n : Int) (T : List ML) (N : Nat) (r : List (Nat × Option AObj)) : AHeap := loc s N ((0, some (.cells [.int .i64 n, gsv 2 (nm s.nx 3) T.length] (some 118))) :: (1, some (.cells [gsv 1 (nm s.nx 4) T.length] (some 167))) :: (2, some (.cells [gsv 1 (nm s.nx 5) T.length] (some 167))) ::
  (3, gso 121 (ltsM T)) :: (4, gso 4 (blsA T)) :: (5, gso 4 (blsB T)) :: r)
theorem add7_ok {s : AHeap} (n : Int) (T : List ML) (e : Ed) (x : ML) (hT : T.length ≤ 1000000000) :
    ACall Try.prog 145 [.agg [.int .i64 x.1.1, .int .u8 x.1.2.toNat], .bool x.2.1, .bool x.2.2, .ptr (nm s.nx 0) 0, .ptr (nm s.nx 1) 0, .ptr (nm s.nx 2) 0] (mixH s n T 7 [(6, some (.cells [.int .i64 e.at_, .int .i64 e.cut, .str e.new] (some 35)))])
      fun v t => v = .tuple [] ∧ t = loc s 10 [(0, some (.cells [.int .i64 n, gsv 2 (nm s.nx 7) (T ++ [x]).length] (some 118))), (1, some (.cells [gsv 1 (nm s.nx 8) (T ++ [x]).length] (some 167))), (2, some (.cells [gsv 1 (nm s.nx 9) (T ++ [x]).length] (some 167))), (6, some (.cells [.int .i64 e.at_, .int .i64 e.cut, .str e.new] (some 35))), (7, gso 121 (ltsM (T ++ [x]))), (8, gso 4 (blsA (T ++ [x]))), (9, gso 4 (blsB (T ++ [x])))] := by
  refine gob145 (by simp) ?_
  intro tm hlen harg
  unfold mixH
  rw [loc_flat (by intro j hj; simp only [lget]; rw [if_neg (by omega), if_neg (by omega), if_neg (by omega), if_neg (by omega), if_neg (by omega), if_neg (by omega), if_neg (by omega)])]
  simp (config := { contextual := true, maxSteps := 2000000 }) only [go_sem, L145, hlen, harg, lcondB_decide, lcondB_not, lguardB_decide_true, lguardB_decide_false, ldguardB_decide, Nat.reduceLT, Nat.reduceEqDiff, Nat.reduceAdd, Nat.reduceLeDiff, reduceIte, reduceCtorEq]
  refine ldrawB_go [3, 7, 11] [(1, 0), (1, 1), (2, 0), (5, 0), (5, 1), (5, 2), (9, 0), (9, 1), (9, 2), (9, 3)] 14 (by decide) ?_
  simp (config := { contextual := true, maxSteps := 2000000 }) only [go_sem, hlen, harg, bsv116, bsv167, lcondB_decide, lcondB_not, lguardB_decide_true, lguardB_decide_false, ldguardB_decide, Nat.reduceLT, Nat.reduceEqDiff, Nat.reduceAdd, Nat.reduceLeDiff, reduceIte, reduceCtorEq]
  refine ldmem_eq (app116 acv (by decide) (by simp only [go_sem, lcondB_decide, lcondB_not, lguardB_decide_true, lguardB_decide_false, ldguardB_decide, Nat.reduceLT, Nat.reduceEqDiff, Nat.reduceAdd, Nat.reduceLeDiff, reduceIte, reduceCtorEq]) (by simp only [go_sem, lcondB_decide, lcondB_not, lguardB_decide_true, lguardB_decide_false, ldguardB_decide, Nat.reduceLT, Nat.reduceEqDiff, Nat.reduceAdd, Nat.reduceLeDiff, reduceIte, reduceCtorEq]) (ltsM_len T) (by omega) rfl) ?_
  simp (config := { contextual := true, maxSteps := 2000000 }) only [go_sem, hlen, harg, bsv116, bsv167, lcondB_decide, lcondB_not, lguardB_decide_true, lguardB_decide_false, ldguardB_decide, Nat.reduceLT, Nat.reduceEqDiff, Nat.reduceAdd, Nat.reduceLeDiff, reduceIte, reduceCtorEq]
  refine ldmem_eq (app167 acv (by decide) (by simp only [go_sem, lcondB_decide, lcondB_not, lguardB_decide_true, lguardB_decide_false, ldguardB_decide, Nat.reduceLT, Nat.reduceEqDiff, Nat.reduceAdd, Nat.reduceLeDiff, reduceIte, reduceCtorEq]) (by simp only [go_sem, lcondB_decide, lcondB_not, lguardB_decide_true, lguardB_decide_false, ldguardB_decide, Nat.reduceLT, Nat.reduceEqDiff, Nat.reduceAdd, Nat.reduceLeDiff, reduceIte, reduceCtorEq]) (blsA_len T) (by omega) rfl) ?_
  simp (config := { contextual := true, maxSteps := 2000000 }) only [go_sem, hlen, harg, bsv116, bsv167, lcondB_decide, lcondB_not, lguardB_decide_true, lguardB_decide_false, ldguardB_decide, Nat.reduceLT, Nat.reduceEqDiff, Nat.reduceAdd, Nat.reduceLeDiff, reduceIte, reduceCtorEq]
  refine ldmem_eq (app167 acv (by decide) (by simp only [go_sem, lcondB_decide, lcondB_not, lguardB_decide_true, lguardB_decide_false, ldguardB_decide, Nat.reduceLT, Nat.reduceEqDiff, Nat.reduceAdd, Nat.reduceLeDiff, reduceIte, reduceCtorEq]) (by simp only [go_sem, lcondB_decide, lcondB_not, lguardB_decide_true, lguardB_decide_false, ldguardB_decide, Nat.reduceLT, Nat.reduceEqDiff, Nat.reduceAdd, Nat.reduceLeDiff, reduceIte, reduceCtorEq]) (blsB_len T) (by omega) rfl) ?_
  simp (config := { contextual := true, maxSteps := 2000000 }) only [go_sem, hlen, harg, bsv116, bsv167, lcondB_decide, lcondB_not, lguardB_decide_true, lguardB_decide_false, ldguardB_decide, Nat.reduceLT, Nat.reduceEqDiff, Nat.reduceAdd, Nat.reduceLeDiff, reduceIte, reduceCtorEq]
  refine ⟨by kernel_rfl, ?_⟩
  refine lexit_renK [0, 1, 2, 3, 4, 5, 6, 22, 23, 24] rfl (.refl s) (by decide) (by decide) (v' := .tuple []) (l' := [(0, some (.cells [.int .i64 n, gsv 2 (nm s.nx 7) (T ++ [x]).length] (some 118))), (1, some (.cells [gsv 1 (nm s.nx 8) (T ++ [x]).length] (some 167))), (2, some (.cells [gsv 1 (nm s.nx 9) (T ++ [x]).length] (some 167))), (6, some (.cells [.int .i64 e.at_, .int .i64 e.cut, .str e.new] (some 35))), (7, gso 121 (ltsM (T ++ [x]))), (8, gso 4 (blsA (T ++ [x]))), (9, gso 4 (blsB (T ++ [x])))]) ?_ ?_ ⟨rfl, rfl⟩
  · simp only [go_sem, lcondB_decide, lcondB_not, lguardB_decide_true, lguardB_decide_false, ldguardB_decide, Nat.reduceLT, Nat.reduceEqDiff, Nat.reduceAdd, Nat.reduceLeDiff, reduceIte, reduceCtorEq]
  · simp only [go_sem, gso_pos (ltsM_sn T x), gso_pos (blsA_sn T x), gso_pos (blsB_sn T x), pul_ren (ltsM_pul _), pul_ren (blsA_pul _), pul_ren (blsB_pul _), List.length_append, gsv_pos (Nat.succ_ne_zero _), lcondB_decide, lcondB_not, lguardB_decide_true, lguardB_decide_false, ldguardB_decide, Nat.reduceLT, Nat.reduceEqDiff, Nat.reduceAdd, Nat.reduceLeDiff, reduceIte, reduceCtorEq]
    refine ⟨?_, ?_, ?_⟩
    · rw [← ltsM_snoc]
    · rw [← blsA_snoc]
    · rw [← blsB_snoc]
theorem add6_ok {s : AHeap} (n : Int) (T : List ML) (x : ML) (hT : T.length ≤ 1000000000) :
    ACall Try.prog 145 [.agg [.int .i64 x.1.1, .int .u8 x.1.2.toNat], .bool x.2.1, .bool x.2.2, .ptr (nm s.nx 0) 0, .ptr (nm s.nx 1) 0, .ptr (nm s.nx 2) 0] (mixH s n T 6 [])
      fun v t => v = .tuple [] ∧ t = loc s 9 [(0, some (.cells [.int .i64 n, gsv 2 (nm s.nx 6) (T ++ [x]).length] (some 118))), (1, some (.cells [gsv 1 (nm s.nx 7) (T ++ [x]).length] (some 167))), (2, some (.cells [gsv 1 (nm s.nx 8) (T ++ [x]).length] (some 167))), (6, gso 121 (ltsM (T ++ [x]))), (7, gso 4 (blsA (T ++ [x]))), (8, gso 4 (blsB (T ++ [x])))] := by
  refine gob145 (by simp) ?_
  intro tm hlen harg
  unfold mixH
  rw [loc_flat (by intro j hj; simp only [lget]; rw [if_neg (by omega), if_neg (by omega), if_neg (by omega), if_neg (by omega), if_neg (by omega), if_neg (by omega)])]
  simp (config := { contextual := true, maxSteps := 2000000 }) only [go_sem, L145, hlen, harg, lcondB_decide, lcondB_not, lguardB_decide_true, lguardB_decide_false, ldguardB_decide, Nat.reduceLT, Nat.reduceEqDiff, Nat.reduceAdd, Nat.reduceLeDiff, reduceIte, reduceCtorEq]
  refine ldrawB_go [3, 7, 11] [(1, 0), (1, 1), (2, 0), (5, 0), (5, 1), (5, 2), (9, 0), (9, 1), (9, 2), (9, 3)] 14 (by decide) ?_
  simp (config := { contextual := true, maxSteps := 2000000 }) only [go_sem, hlen, harg, bsv116, bsv167, lcondB_decide, lcondB_not, lguardB_decide_true, lguardB_decide_false, ldguardB_decide, Nat.reduceLT, Nat.reduceEqDiff, Nat.reduceAdd, Nat.reduceLeDiff, reduceIte, reduceCtorEq]
  refine ldmem_eq (app116 acv (by decide) (by simp only [go_sem, lcondB_decide, lcondB_not, lguardB_decide_true, lguardB_decide_false, ldguardB_decide, Nat.reduceLT, Nat.reduceEqDiff, Nat.reduceAdd, Nat.reduceLeDiff, reduceIte, reduceCtorEq]) (by simp only [go_sem, lcondB_decide, lcondB_not, lguardB_decide_true, lguardB_decide_false, ldguardB_decide, Nat.reduceLT, Nat.reduceEqDiff, Nat.reduceAdd, Nat.reduceLeDiff, reduceIte, reduceCtorEq]) (ltsM_len T) (by omega) rfl) ?_
  simp (config := { contextual := true, maxSteps := 2000000 }) only [go_sem, hlen, harg, bsv116, bsv167, lcondB_decide, lcondB_not, lguardB_decide_true, lguardB_decide_false, ldguardB_decide, Nat.reduceLT, Nat.reduceEqDiff, Nat.reduceAdd, Nat.reduceLeDiff, reduceIte, reduceCtorEq]
  refine ldmem_eq (app167 acv (by decide) (by simp only [go_sem, lcondB_decide, lcondB_not, lguardB_decide_true, lguardB_decide_false, ldguardB_decide, Nat.reduceLT, Nat.reduceEqDiff, Nat.reduceAdd, Nat.reduceLeDiff, reduceIte, reduceCtorEq]) (by simp only [go_sem, lcondB_decide, lcondB_not, lguardB_decide_true, lguardB_decide_false, ldguardB_decide, Nat.reduceLT, Nat.reduceEqDiff, Nat.reduceAdd, Nat.reduceLeDiff, reduceIte, reduceCtorEq]) (blsA_len T) (by omega) rfl) ?_
  simp (config := { contextual := true, maxSteps := 2000000 }) only [go_sem, hlen, harg, bsv116, bsv167, lcondB_decide, lcondB_not, lguardB_decide_true, lguardB_decide_false, ldguardB_decide, Nat.reduceLT, Nat.reduceEqDiff, Nat.reduceAdd, Nat.reduceLeDiff, reduceIte, reduceCtorEq]
  refine ldmem_eq (app167 acv (by decide) (by simp only [go_sem, lcondB_decide, lcondB_not, lguardB_decide_true, lguardB_decide_false, ldguardB_decide, Nat.reduceLT, Nat.reduceEqDiff, Nat.reduceAdd, Nat.reduceLeDiff, reduceIte, reduceCtorEq]) (by simp only [go_sem, lcondB_decide, lcondB_not, lguardB_decide_true, lguardB_decide_false, ldguardB_decide, Nat.reduceLT, Nat.reduceEqDiff, Nat.reduceAdd, Nat.reduceLeDiff, reduceIte, reduceCtorEq]) (blsB_len T) (by omega) rfl) ?_
  simp (config := { contextual := true, maxSteps := 2000000 }) only [go_sem, hlen, harg, bsv116, bsv167, lcondB_decide, lcondB_not, lguardB_decide_true, lguardB_decide_false, ldguardB_decide, Nat.reduceLT, Nat.reduceEqDiff, Nat.reduceAdd, Nat.reduceLeDiff, reduceIte, reduceCtorEq]
  refine ⟨by kernel_rfl, ?_⟩
  refine lexit_renK [0, 1, 2, 3, 4, 5, 21, 22, 23] rfl (.refl s) (by decide) (by decide) (v' := .tuple []) (l' := [(0, some (.cells [.int .i64 n, gsv 2 (nm s.nx 6) (T ++ [x]).length] (some 118))), (1, some (.cells [gsv 1 (nm s.nx 7) (T ++ [x]).length] (some 167))), (2, some (.cells [gsv 1 (nm s.nx 8) (T ++ [x]).length] (some 167))), (6, gso 121 (ltsM (T ++ [x]))), (7, gso 4 (blsA (T ++ [x]))), (8, gso 4 (blsB (T ++ [x])))]) ?_ ?_ ⟨rfl, rfl⟩
  · simp only [go_sem, lcondB_decide, lcondB_not, lguardB_decide_true, lguardB_decide_false, ldguardB_decide, Nat.reduceLT, Nat.reduceEqDiff, Nat.reduceAdd, Nat.reduceLeDiff, reduceIte, reduceCtorEq]
  · simp only [go_sem, gso_pos (ltsM_sn T x), gso_pos (blsA_sn T x), gso_pos (blsB_sn T x), pul_ren (ltsM_pul _), pul_ren (blsA_pul _), pul_ren (blsB_pul _), List.length_append, gsv_pos (Nat.succ_ne_zero _), lcondB_decide, lcondB_not, lguardB_decide_true, lguardB_decide_false, ldguardB_decide, Nat.reduceLT, Nat.reduceEqDiff, Nat.reduceAdd, Nat.reduceLeDiff, reduceIte, reduceCtorEq]
    refine ⟨?_, ?_, ?_⟩
    · rw [← ltsM_snoc]
    · rw [← blsA_snoc]
    · rw [← blsB_snoc]
end Go.S1N
end
section
set_option linter.unusedVariables false
set_option linter.unusedSimpArgs false
namespace Go.S1N
open Go Go.Am Go.Proofs Go.S1
set_option maxRecDepth 100000
set_option linter.unusedSimpArgs false
theorem lpostB_cells {T : Tab} {s0 s : AHeap} {R : AV → AHeap → Prop} {tm : List AV} {a u x : Nat} {t t2 t3 : TypeId} : lpostB T s0 [.cell a t, .cell u t2, .cell x t3] R .ret tm s = lexit s0 R ((aload T t (aev tm (.tmp a)) s).bind fun v1 => (aload T t2 (aev tm (.tmp u)) s).bind fun v2 => (aload T t3 (aev tm (.tmp x)) s).bind fun v3 => some (.tuple [v1, v2, v3])) s := by
  simp only [lpostB, aresultOf, aresults, aresult, aev]
  cases aload T t (tm.getD a aundef) s <;> cases aload T t2 (tm.getD u aundef) s <;> cases aload T t3 (tm.getD x aundef) s <;> rfl
attribute [local irreducible] lopsB lvb lstepB lfunG lcondB lguardB ldrawB ldrunB ldstepB ldguardB lmem lval ldmem ldval ldfun lexit ldloadB ldlenB lpostB athen ablock
def newM (e : Ed) (f : Bool × Bool) (i : Nat) : List ML := (e.new.take i).map fun c => ((-1, c), f)
def insM (l : List Ed) (p : Int) (f : Bool × Bool) : List ML := l.flatMap fun e => if e.at_ = p then newM e f e.new.length else []
def keptM (a b : List Ed) (n p : Int) : List ML := if p < n ∧ goneB a p = false ∧ goneB b p = false then [((p, 0), false, false)] else []
def mixAt (a b : List Ed) (n p : Int) : List ML := insM a p (true, false) ++ insM b p (false, true) ++ keptM a b n p
def mixL (a b : List Ed) (n : Int) (k : Nat) : List ML := (List.range k).flatMap fun p : Nat => mixAt a b n (p : Int)
def totN (l : List Ed) : Nat := (l.flatMap Ed.new).length
theorem newM_len (e : Ed) (f : Bool × Bool) (i : Nat) : (newM e f i).length ≤ e.new.length := by simp [newM]; omega
theorem newM_succ {e : Ed} {f : Bool × Bool} {i : Nat} {c : UInt8} (h : e.new[i]? = some c) : newM e f (i + 1) = newM e f i ++ [((-1, c), f)] := by
  obtain ⟨hi, rfl⟩ := List.getElem?_eq_some_iff.1 h
  simp only [newM, List.take_succ_eq_append_getElem hi, List.map_append, List.map_cons, List.map_nil]
theorem insM_len : ∀ (l : List Ed) (p : Int) (f : Bool × Bool), (insM l p f).length ≤ totN l
  | [], _, _ => by simp [insM, totN]
  | e :: l, p, f => by
    have ih := insM_len l p f
    simp only [insM, totN, List.flatMap_cons, List.length_append] at ih ⊢
    split
    · have := newM_len e f e.new.length; omega
    · simp only [List.length_nil]; omega
theorem insM_snoc (l : List Ed) (e : Ed) (p : Int) (f : Bool × Bool) : insM (l ++ [e]) p f = insM l p f ++ (if e.at_ = p then newM e f e.new.length else []) := by simp [insM]
theorem totN_take (l : List Ed) (j : Nat) : totN (l.take j) ≤ totN l := by
  have := congrArg totN (List.take_append_drop j l)
  simp only [totN, List.flatMap_append, List.length_append] at this ⊢; omega
theorem mixAt_len (a b : List Ed) (n p : Int) : (mixAt a b n p).length ≤ totN a + totN b + 1 := by
  have h1 := insM_len a p (true, false)
  have h2 := insM_len b p (false, true)
  simp only [mixAt, List.length_append, keptM]
  split <;> simp <;> omega
theorem mixL_succ (a b : List Ed) (n : Int) (k : Nat) : mixL a b n (k + 1) = mixL a b n k ++ mixAt a b n k := by simp [mixL, List.range_succ]
theorem mixL_len (a b : List Ed) (n : Int) : ∀ k, (mixL a b n k).length ≤ k * (totN a + totN b + 1)
  | 0 => by simp [mixL]
  | k + 1 => by
    rw [mixL_succ, List.length_append, Nat.succ_mul]
    have := mixL_len a b n k
    have := mixAt_len a b n k
    omega
theorem totN_mem {l : List Ed} {e : Ed} (h : e ∈ l) : e.new.length ≤ totN l := by
  obtain ⟨x, y, rfl⟩ := List.append_of_mem h
  simp only [totN, List.flatMap_append, List.flatMap_cons, List.length_append]; omega
theorem blsA_flat (T : List ML) : (blsA T).flatMap AV.cells = blsA T := by
  induction T with
  | nil => rfl
  | cons a L ih => rw [blsA, List.map_cons, List.flatMap_cons, ← blsA, ih]; rfl
theorem blsB_flat (T : List ML) : (blsB T).flatMap AV.cells = blsB T := by
  induction T with
  | nil => rfl
  | cons a L ih => rw [blsB, List.map_cons, List.flatMap_cons, ← blsB, ih]; rfl
theorem blsA_cl (T : List ML) : ∀ x ∈ blsA T, x.cells.length = 1 := by
  intro x hx; obtain ⟨a, _, rfl⟩ := List.mem_map.1 hx; rfl
theorem blsB_cl (T : List ML) : ∀ x ∈ blsB T, x.cells.length = 1 := by
  intro x hx; obtain ⟨a, _, rfl⟩ := List.mem_map.1 hx; rfl
theorem ltv_fz {b : Nat} (T : List ML) : fz b 2 (ltv (T.map (·.1))) (gsv 2 b T.length) = fsv 2 (ltv (T.map (·.1))) := by
  rw [show T.length = (ltv (T.map (·.1))).length by simp [ltv], fz_gsv]
theorem blsA_fz {b : Nat} (T : List ML) : fz b 1 (blsA T) (gsv 1 b T.length) = fsv 1 (blsA T) := by
  rw [show T.length = (blsA T).length by simp [blsA], fz_gsv]
theorem blsB_fz {b : Nat} (T : List ML) : fz b 1 (blsB T) (gsv 1 b T.length) = fsv 1 (blsB T) := by
  rw [show T.length = (blsB T).length by simp [blsB], fz_gsv]
theorem blsA_fpu (T : List ML) : Pu (fsv 1 (blsA T)) := pu_fsv (blsA_pul T)
theorem blsB_fpu (T : List ML) : Pu (fsv 1 (blsB T)) := pu_fsv (blsB_pul T)
theorem mix_end {s : AHeap} {R : AV → AHeap → Prop} {n : Int} {m : Nat} {o0 o1 o2 : Option AObj} (T : List ML) (h : R (.tuple [flv n (T.map (·.1)), fsv 1 (blsA T), fsv 1 (blsB T)]) s) : lexit s R (some (.tuple [.agg [.int .i64 n, gsv 2 (nm s.nx 3) T.length], gsv 1 (nm s.nx 4) T.length, gsv 1 (nm s.nx 5) T.length]))
    (loc s m [(0, o0), (1, o1), (2, o2), (3, gso 121 (ltsM T)), (4, gso 4 (blsA T)), (5, gso 4 (blsB T))]) := by
  have hpl : Pu (fsv 2 (ltv (T.map (·.1)))) := pu_fsv (ltv_pu _)
  refine lexit_freezeG 3 2 (ltv (T.map (·.1))) (by rw [ltv_letters]; simp only [go_sem, lcondB_decide, lcondB_not, lguardB_decide_true, lguardB_decide_false, ldguardB_decide, Nat.reduceLT, Nat.reduceEqDiff, Nat.reduceAdd, Nat.reduceLeDiff, reduceIte, reduceCtorEq]; rfl) (ltv_len _) (by decide) ?_
  simp only [go_sem, ltv_fz, map_gso_fz (blsA_pul _), map_gso_fz (blsB_pul _), fz_gsv_ne (show nm s.nx 4 ≠ nm s.nx 3 by simp only [ne_eq, nm_inj]; decide), fz_gsv_ne (show nm s.nx 5 ≠ nm s.nx 3 by simp only [ne_eq, nm_inj]; decide), lcondB_decide, lcondB_not, lguardB_decide_true, lguardB_decide_false, ldguardB_decide, Nat.reduceLT, Nat.reduceEqDiff, Nat.reduceAdd, Nat.reduceLeDiff, reduceIte, reduceCtorEq]
  refine lexit_freezeG 4 1 (blsA T) (by rw [blsA_flat]; simp only [go_sem, lcondB_decide, lcondB_not, lguardB_decide_true, lguardB_decide_false, ldguardB_decide, Nat.reduceLT, Nat.reduceEqDiff, Nat.reduceAdd, Nat.reduceLeDiff, reduceIte, reduceCtorEq]; rfl) (blsA_cl T) (by decide) ?_
  simp only [go_sem, blsA_fz, pu_fz hpl, map_gso_fz (blsB_pul _), fz_gsv_ne (show nm s.nx 5 ≠ nm s.nx 4 by simp only [ne_eq, nm_inj]; decide), lcondB_decide, lcondB_not, lguardB_decide_true, lguardB_decide_false, ldguardB_decide, Nat.reduceLT, Nat.reduceEqDiff, Nat.reduceAdd, Nat.reduceLeDiff, reduceIte, reduceCtorEq]
  refine lexit_freezeG 5 1 (blsB T) (by rw [blsB_flat]; simp only [go_sem, lcondB_decide, lcondB_not, lguardB_decide_true, lguardB_decide_false, ldguardB_decide, Nat.reduceLT, Nat.reduceEqDiff, Nat.reduceAdd, Nat.reduceLeDiff, reduceIte, reduceCtorEq]; rfl) (blsB_cl T) (by decide) ?_
  simp only [go_sem, blsB_fz, pu_fz hpl, pu_fz (blsA_fpu T), lcondB_decide, lcondB_not, lguardB_decide_true, lguardB_decide_false, ldguardB_decide, Nat.reduceLT, Nat.reduceEqDiff, Nat.reduceAdd, Nat.reduceLeDiff, reduceIte, reduceCtorEq]
  refine lexit_pure (.refl s) ?_ h
  simp only [low, lowL, and_true, true_and]
  exact ⟨low.mono (Nat.zero_le _) hpl, low.mono (Nat.zero_le _) (blsA_fpu T), low.mono (Nat.zero_le _) (blsB_fpu T)⟩
theorem mixed_ok (n : Nat) (hn : n ≤ 1000) (a b : List Ed) (va vb : AV) (hva : SlE va a) (hvb : SlE vb b) (ha : a.length ≤ 2000) (hb : b.length ≤ 2000) (hta : totN a ≤ 1000) (htb : totN b ≤ 1000)
    (hea : ∀ e ∈ a, -1000000000000 ≤ e.at_ + e.cut ∧ e.at_ + e.cut ≤ 1000000000000) (heb : ∀ e ∈ b, -1000000000000 ≤ e.at_ + e.cut ∧ e.at_ + e.cut ≤ 1000000000000) (s : AHeap) :
    ACall Try.prog 114 [.int .i64 n, va, vb] s fun r t => r = .tuple [flv n ((mixL a b n (n + 1)).map (·.1)), fsv 1 (blsA (mixL a b n (n + 1))), fsv 1 (blsB (mixL a b n (n + 1)))] ∧ t = s := by
  refine gob114 (by simp) ?_
  intro tm hlen harg
  simp +contextual only [go_sem, L114, hlen, harg, lpostB_cells, lcondB_decide, lcondB_not, lguardB_decide_true, lguardB_decide_false, ldguardB_decide, Nat.reduceLT, Nat.reduceEqDiff, Nat.reduceAdd, Nat.reduceLeDiff, reduceIte, reduceCtorEq]
  have hbig : ∀ k, k ≤ n + 1 → (mixL a b n k).length ≤ 1001 * 2001 := fun k hk => Nat.le_trans (mixL_len a b n k) (Nat.mul_le_mul (by omega) (by omega))
  refine ⟨Nat, fun k => [(0, .int .i64 n), (1, va), (2, vb), (6, .ptr (nm s.nx 0) 0), (7, .ptr (nm s.nx 1) 0), (8, .ptr (nm s.nx 2) 0), (9, .func (.func 145) [] [.ptr (nm s.nx 0) 0, .ptr (nm s.nx 1) 0, .ptr (nm s.nx 2) 0]), (10, .func (.func 146) [] []), (11, .int .i64 k)],
    fun k => mixH s n (mixL a b n k) 6 [], fun k => k ≤ n + 1, fun k => n + 1 - k, 0, by omega, ?_, ?_⟩
  · refine To.go [0, 1, 2, 3, 4, 5] [(0, some (.cells [.int .i64 n, .nils] (some 118))), (1, some (.cells [.nils] (some 167))), (2, some (.cells [.nils] (some 167))), (3, none), (4, none), (5, none)] ?_ (.refl s) (by decide) (by simp) ?_ ?_
    · rfl
    · simp +contextual only [go_sem, hlen, harg, pu_ren hva.pu, pu_ren hvb.pu, lcondB_decide, lcondB_not, lguardB_decide_true, lguardB_decide_false, ldguardB_decide, Nat.reduceLT, Nat.reduceEqDiff, Nat.reduceAdd, Nat.reduceLeDiff, reduceIte, reduceCtorEq]
      simp
    · simp only [go_sem, lcondB_decide, lcondB_not, lguardB_decide_true, lguardB_decide_false, ldguardB_decide, Nat.reduceLT, Nat.reduceEqDiff, Nat.reduceAdd, Nat.reduceLeDiff, reduceIte, reduceCtorEq]
  · intro k tm1 hk hlen1 hlv
    simp only [go_sem, hlen, lcondB_decide, lcondB_not, lguardB_decide_true, lguardB_decide_false, ldguardB_decide, Nat.reduceLT, Nat.reduceEqDiff, Nat.reduceAdd, Nat.reduceLeDiff, reduceIte, reduceCtorEq] at hlen1 hlv
    simp +contextual only [go_sem, mixH, hlen, hlen1, hlv, hva.len, lcondB_decide, lcondB_not, lguardB_decide_true, lguardB_decide_false, ldguardB_decide, Nat.reduceLT, Nat.reduceEqDiff, Nat.reduceAdd, Nat.reduceLeDiff, reduceIte, reduceCtorEq]
    refine ⟨fun hle => ?_, fun hgt => ?_⟩
    · have hT0 := hbig k hk
      refine ⟨Nat, fun j => [(0, .int .i64 n), (1, va), (2, vb), (6, .ptr (nm s.nx 0) 0), (7, .ptr (nm s.nx 1) 0), (8, .ptr (nm s.nx 2) 0), (9, .func (.func 145) [] [.ptr (nm s.nx 0) 0, .ptr (nm s.nx 1) 0, .ptr (nm s.nx 2) 0]), (10, .func (.func 146) [] []), (11, .int .i64 k), (26, va), (27, .int .i64 a.length), (28, .int .i64 j)], fun j => mixH s n ((mixL a b n k) ++ insM (a.take j) k (true, false)) 6 [], fun j => j ≤ a.length, fun j => a.length - j, 0, by simp, ?_, ?_⟩
      · refine To.go [0, 1, 2, 3, 4, 5] [(0, some (.cells [.int .i64 n, gsv 2 (nm s.nx 3) (mixL a b n k).length] (some 118))), (1, some (.cells [gsv 1 (nm s.nx 4) (mixL a b n k).length] (some 167))), (2, some (.cells [gsv 1 (nm s.nx 5) (mixL a b n k).length] (some 167))), (3, gso 121 (ltsM (mixL a b n k))), (4, gso 4 (blsA (mixL a b n k))), (5, gso 4 (blsB (mixL a b n k)))] ?_ (.refl s) (by decide) (by simp) ?_ ?_
        · simp only [mixH, List.take_zero, insM, List.flatMap_nil, List.append_nil]; rfl
        · simp +contextual only [go_sem, hlen1, hlv, pu_ren hva.pu, pu_ren hvb.pu, lcondB_decide, lcondB_not, lguardB_decide_true, lguardB_decide_false, ldguardB_decide, Nat.reduceLT, Nat.reduceEqDiff, Nat.reduceAdd, Nat.reduceLeDiff, reduceIte, reduceCtorEq]
          simp
        · simp only [go_sem, pul_ren (ltsM_pul _), pul_ren (blsA_pul _), pul_ren (blsB_pul _), map_gso_pu (ltsM_pul _), map_gso_pu (blsA_pul _), map_gso_pu (blsB_pul _), ren_gsv, lcondB_decide, lcondB_not, lguardB_decide_true, lguardB_decide_false, ldguardB_decide, Nat.reduceLT, Nat.reduceEqDiff, Nat.reduceAdd, Nat.reduceLeDiff, reduceIte, reduceCtorEq]
      · intro j tm2 hj hlen2 hlv2
        simp only [go_sem, hlen1, hlen, lcondB_decide, lcondB_not, lguardB_decide_true, lguardB_decide_false, ldguardB_decide, Nat.reduceLT, Nat.reduceEqDiff, Nat.reduceAdd, Nat.reduceLeDiff, reduceIte, reduceCtorEq] at hlen2 hlv2
        simp +contextual only [go_sem, mixH, hlen2, hlv2, lcondB_decide, lcondB_not, lguardB_decide_true, lguardB_decide_false, ldguardB_decide, Nat.reduceLT, Nat.reduceEqDiff, Nat.reduceAdd, Nat.reduceLeDiff, reduceIte, reduceCtorEq]
        refine ⟨fun hlt => ?_, fun hge => ?_⟩
        · have hj2 : j < a.length := by omega
          have hg := List.getElem?_eq_getElem hj2
          have hmem : a[j] ∈ a := List.getElem_mem hj2
          have htk := List.take_succ_eq_append_getElem hj2
          have htl := totN_take a j
          generalize a[j] = e at hg hmem htk
          have hT1 : ((mixL a b n k) ++ insM (a.take j) k (true, false)).length ≤ 1001 * 2001 + 2001 := by
            have h1 := insM_len (a.take j) k (true, false)
            simp only [List.length_append] at hT0 ⊢; omega
          have hsn : (mixL a b n k) ++ insM (a.take (j + 1)) k (true, false) = ((mixL a b n k) ++ insM (a.take j) k (true, false)) ++ (if e.at_ = (k : Int) then newM e (true, false) e.new.length else []) := by rw [htk, insM_snoc, List.append_assoc]
          generalize ((mixL a b n k) ++ insM (a.take j) k (true, false)) = T1 at hT1 hsn ⊢
          have hnl := totN_mem hmem
          have hw3 : IntKind.i64.wrap ((j : Int) + 1) = ((j + 1 : Nat) : Int) := by rw [wrap_id (by omega)]; rfl
          simp +contextual only [go_sem, hlen2, hlv2, hva.at hg, lcondB_decide, lcondB_not, lguardB_decide_true, lguardB_decide_false, ldguardB_decide, Nat.reduceLT, Nat.reduceEqDiff, Nat.reduceAdd, Nat.reduceLeDiff, reduceIte, reduceCtorEq]
          refine ⟨Nat, fun i => [(0, .int .i64 n), (1, va), (2, vb), (6, .ptr (nm s.nx 0) 0), (7, .ptr (nm s.nx 1) 0), (8, .ptr (nm s.nx 2) 0), (9, .func (.func 145) [] [.ptr (nm s.nx 0) 0, .ptr (nm s.nx 1) 0, .ptr (nm s.nx 2) 0]), (10, .func (.func 146) [] []), (11, .int .i64 k), (26, va), (27, .int .i64 a.length), (28, .int .i64 j), (13, .ptr (nm s.nx 6) 0), (14, .int .i64 i)], fun i => mixH s n (T1 ++ newM e (true, false) i) 7 [(6, some (.cells [.int .i64 e.at_, .int .i64 e.cut, .str e.new] (some 35)))], fun i => i ≤ e.new.length ∧ (e.at_ ≠ k → i = 0), fun i => e.new.length - i, 0, by simp, ?_, ?_⟩
          · refine To.go [0, 1, 2, 3, 4, 5, 6] [(0, some (.cells [.int .i64 n, gsv 2 (nm s.nx 3) T1.length] (some 118))), (1, some (.cells [gsv 1 (nm s.nx 4) T1.length] (some 167))), (2, some (.cells [gsv 1 (nm s.nx 5) T1.length] (some 167))), (3, gso 121 (ltsM T1)), (4, gso 4 (blsA T1)), (5, gso 4 (blsB T1)), (6, some (.cells [.int .i64 e.at_, .int .i64 e.cut, .str e.new] (some 35)))] ?_ (.refl s) (by decide) (by simp) ?_ ?_
            · simp only [mixH, newM, List.take_zero, List.map_nil, List.append_nil]; rfl
            · simp +contextual only [go_sem, hlen2, hlv2, pu_ren hva.pu, pu_ren hvb.pu, lcondB_decide, lcondB_not, lguardB_decide_true, lguardB_decide_false, ldguardB_decide, Nat.reduceLT, Nat.reduceEqDiff, Nat.reduceAdd, Nat.reduceLeDiff, reduceIte, reduceCtorEq]
              simp
            · simp only [go_sem, pul_ren (ltsM_pul _), pul_ren (blsA_pul _), pul_ren (blsB_pul _), map_gso_pu (ltsM_pul _), map_gso_pu (blsA_pul _), map_gso_pu (blsB_pul _), ren_gsv, lcondB_decide, lcondB_not, lguardB_decide_true, lguardB_decide_false, ldguardB_decide, Nat.reduceLT, Nat.reduceEqDiff, Nat.reduceAdd, Nat.reduceLeDiff, reduceIte, reduceCtorEq]
          · rintro i tm3 ⟨hi, hne⟩ hlen3 hlv3
            simp only [go_sem, hlen2, hlen1, hlen, lcondB_decide, lcondB_not, lguardB_decide_true, lguardB_decide_false, ldguardB_decide, Nat.reduceLT, Nat.reduceEqDiff, Nat.reduceAdd, Nat.reduceLeDiff, reduceIte, reduceCtorEq] at hlen3 hlv3
            have hTi : (T1 ++ newM e (true, false) i).length ≤ 1000000000 := by
              have := newM_len e (true, false) i
              rw [List.length_append]; omega
            by_cases heq : e.at_ = (k : Int)
            · simp +contextual only [go_sem, mixH, hlen3, hlv3, heq, lcondB_decide, lcondB_not, lguardB_decide_true, lguardB_decide_false, ldguardB_decide, Nat.reduceLT, Nat.reduceEqDiff, Nat.reduceAdd, Nat.reduceLeDiff, reduceIte, reduceCtorEq]
              refine ⟨fun hilt => ?_, fun hige => ?_⟩
              · have hi2 : i < e.new.length := by omega
                have hc := List.getElem?_eq_getElem hi2
                generalize e.new[i] = c at hc
                have hix : aindex tab 9 (.str e.new) (.int .i64 i) = some (.int .u8 c.toNat) := by simp [aindex, ty9, hc]
                have hwi : IntKind.i64.wrap ((i : Int) + 1) = ((i + 1 : Nat) : Int) := by rw [wrap_id (by omega)]; rfl
                have hns : T1 ++ newM e (true, false) (i + 1) = T1 ++ newM e (true, false) i ++ [((-1, c), (true, false))] := by rw [newM_succ hc, List.append_assoc]
                generalize hTg : T1 ++ newM e (true, false) i = T at hTi hns
                simp +contextual only [go_sem, hlen3, hlv3, hix, build121_2, lcondB_decide, lcondB_not, lguardB_decide_true, lguardB_decide_false, ldguardB_decide, Nat.reduceLT, Nat.reduceEqDiff, Nat.reduceAdd, Nat.reduceLeDiff, reduceIte, reduceCtorEq]
                refine lfunG_eqc rfl (add7_ok n T ⟨k, e.cut, e.new⟩ ((-1, c), (true, false)) hTi) ?_
                simp +contextual only [go_sem, hlen3, hlen2, hlv3, hwi, lcondB_decide, lcondB_not, lguardB_decide_true, lguardB_decide_false, ldguardB_decide, Nat.reduceLT, Nat.reduceEqDiff, Nat.reduceAdd, Nat.reduceLeDiff, reduceIte, reduceCtorEq]
                refine ⟨i + 1, ⟨by omega, fun h => h.elim⟩, by omega, ?_⟩
                rw [hns]
                generalize T ++ [((-1, c), (true, false))] = T'
                refine To.go [0, 1, 2, 7, 8, 9, 6] [(0, some (.cells [.int .i64 n, gsv 2 (nm s.nx 3) T'.length] (some 118))), (1, some (.cells [gsv 1 (nm s.nx 4) T'.length] (some 167))), (2, some (.cells [gsv 1 (nm s.nx 5) T'.length] (some 167))), (3, gso 121 (ltsM T')), (4, gso 4 (blsA T')), (5, gso 4 (blsB T')), (6, some (.cells [.int .i64 k, .int .i64 e.cut, .str e.new] (some 35)))] rfl (.refl s) (by decide) (by simp) ?_ ?_
                · simp +contextual only [go_sem, hlen3, hlv3, pu_ren hva.pu, pu_ren hvb.pu, lcondB_decide, lcondB_not, lguardB_decide_true, lguardB_decide_false, ldguardB_decide, Nat.reduceLT, Nat.reduceEqDiff, Nat.reduceAdd, Nat.reduceLeDiff, reduceIte, reduceCtorEq]
                · simp only [go_sem, pul_ren (ltsM_pul _), pul_ren (blsA_pul _), pul_ren (blsB_pul _), map_gso_pu (ltsM_pul _), map_gso_pu (blsA_pul _), map_gso_pu (blsB_pul _), ren_gsv, lcondB_decide, lcondB_not, lguardB_decide_true, lguardB_decide_false, ldguardB_decide, Nat.reduceLT, Nat.reduceEqDiff, Nat.reduceAdd, Nat.reduceLeDiff, reduceIte, reduceCtorEq]
              · have hie : i = e.new.length := by omega
                subst hie
                simp +contextual only [go_sem, hlen3, hlen2, hlen1, hlv3, hw3, lcondB_decide, lcondB_not, lguardB_decide_true, lguardB_decide_false, ldguardB_decide, Nat.reduceLT, Nat.reduceEqDiff, Nat.reduceAdd, Nat.reduceLeDiff, reduceIte, reduceCtorEq]
                refine ⟨j + 1, by omega, by omega, ?_⟩
                rw [hsn, if_pos heq]
                generalize T1 ++ newM e (true, false) e.new.length = T'
                refine To.go [0, 1, 2, 3, 4, 5] [(0, some (.cells [.int .i64 n, gsv 2 (nm s.nx 3) T'.length] (some 118))), (1, some (.cells [gsv 1 (nm s.nx 4) T'.length] (some 167))), (2, some (.cells [gsv 1 (nm s.nx 5) T'.length] (some 167))), (3, gso 121 (ltsM T')), (4, gso 4 (blsA T')), (5, gso 4 (blsB T'))] rfl (.refl s) (by decide) (by simp) ?_ ?_
                · simp +contextual only [go_sem, hlen3, hlv3, pu_ren hva.pu, pu_ren hvb.pu, lcondB_decide, lcondB_not, lguardB_decide_true, lguardB_decide_false, ldguardB_decide, Nat.reduceLT, Nat.reduceEqDiff, Nat.reduceAdd, Nat.reduceLeDiff, reduceIte, reduceCtorEq]
                · simp only [go_sem, pul_ren (ltsM_pul _), pul_ren (blsA_pul _), pul_ren (blsB_pul _), map_gso_pu (ltsM_pul _), map_gso_pu (blsA_pul _), map_gso_pu (blsB_pul _), ren_gsv, lcondB_decide, lcondB_not, lguardB_decide_true, lguardB_decide_false, ldguardB_decide, Nat.reduceLT, Nat.reduceEqDiff, Nat.reduceAdd, Nat.reduceLeDiff, reduceIte, reduceCtorEq]
            · have hi0 := hne heq
              subst hi0
              simp +contextual only [go_sem, mixH, hlen3, hlen2, hlen1, hlv3, heq, hw3, lcondB_decide, lcondB_not, lguardB_decide_true, lguardB_decide_false, ldguardB_decide, Nat.reduceLT, Nat.reduceEqDiff, Nat.reduceAdd, Nat.reduceLeDiff, reduceIte, reduceCtorEq]
              refine ⟨j + 1, by omega, by omega, ?_⟩
              rw [hsn, if_neg heq, List.append_nil, show newM e (true, false) 0 = [] from rfl, List.append_nil]
              generalize T1 = T'
              refine To.go [0, 1, 2, 3, 4, 5] [(0, some (.cells [.int .i64 n, gsv 2 (nm s.nx 3) T'.length] (some 118))), (1, some (.cells [gsv 1 (nm s.nx 4) T'.length] (some 167))), (2, some (.cells [gsv 1 (nm s.nx 5) T'.length] (some 167))), (3, gso 121 (ltsM T')), (4, gso 4 (blsA T')), (5, gso 4 (blsB T'))] rfl (.refl s) (by decide) (by simp) ?_ ?_
              · simp +contextual only [go_sem, hlen3, hlv3, pu_ren hva.pu, pu_ren hvb.pu, lcondB_decide, lcondB_not, lguardB_decide_true, lguardB_decide_false, ldguardB_decide, Nat.reduceLT, Nat.reduceEqDiff, Nat.reduceAdd, Nat.reduceLeDiff, reduceIte, reduceCtorEq]
              · simp only [go_sem, pul_ren (ltsM_pul _), pul_ren (blsA_pul _), pul_ren (blsB_pul _), map_gso_pu (ltsM_pul _), map_gso_pu (blsA_pul _), map_gso_pu (blsB_pul _), ren_gsv, lcondB_decide, lcondB_not, lguardB_decide_true, lguardB_decide_false, ldguardB_decide, Nat.reduceLT, Nat.reduceEqDiff, Nat.reduceAdd, Nat.reduceLeDiff, reduceIte, reduceCtorEq]
        · have hj2 : j = a.length := by omega
          subst hj2
          rw [List.take_length]
          simp +contextual only [go_sem, hlen2, hlv2, hvb.len, lcondB_decide, lcondB_not, lguardB_decide_true, lguardB_decide_false, ldguardB_decide, Nat.reduceLT, Nat.reduceEqDiff, Nat.reduceAdd, Nat.reduceLeDiff, reduceIte, reduceCtorEq]
          have hT0 : (mixL a b n k ++ insM a k (true, false)).length ≤ 1001 * 2001 + 1001 := by
            have h1 := insM_len a k (true, false)
            simp only [List.length_append] at hT0 ⊢; omega
          generalize hTa : mixL a b n k ++ insM a k (true, false) = Ta at hT0 ⊢

          refine ⟨Nat, fun j => [(0, .int .i64 n), (1, va), (2, vb), (6, .ptr (nm s.nx 0) 0), (7, .ptr (nm s.nx 1) 0), (8, .ptr (nm s.nx 2) 0), (9, .func (.func 145) [] [.ptr (nm s.nx 0) 0, .ptr (nm s.nx 1) 0, .ptr (nm s.nx 2) 0]), (10, .func (.func 146) [] []), (11, .int .i64 k), (53, vb), (54, .int .i64 b.length), (55, .int .i64 j)], fun j => mixH s n (Ta ++ insM (b.take j) k (false, true)) 6 [], fun j => j ≤ b.length, fun j => b.length - j, 0, by simp, ?_, ?_⟩
          · refine To.go [0, 1, 2, 3, 4, 5] [(0, some (.cells [.int .i64 n, gsv 2 (nm s.nx 3) Ta.length] (some 118))), (1, some (.cells [gsv 1 (nm s.nx 4) Ta.length] (some 167))), (2, some (.cells [gsv 1 (nm s.nx 5) Ta.length] (some 167))), (3, gso 121 (ltsM Ta)), (4, gso 4 (blsA Ta)), (5, gso 4 (blsB Ta))] ?_ (.refl s) (by decide) (by simp) ?_ ?_
            · simp only [mixH, List.take_zero, insM, List.flatMap_nil, List.append_nil]; rfl
            · simp +contextual only [go_sem, hlen2, hlen1, hlv2, pu_ren hva.pu, pu_ren hvb.pu, lcondB_decide, lcondB_not, lguardB_decide_true, lguardB_decide_false, ldguardB_decide, Nat.reduceLT, Nat.reduceEqDiff, Nat.reduceAdd, Nat.reduceLeDiff, reduceIte, reduceCtorEq]
              simp
            · simp only [go_sem, pul_ren (ltsM_pul _), pul_ren (blsA_pul _), pul_ren (blsB_pul _), map_gso_pu (ltsM_pul _), map_gso_pu (blsA_pul _), map_gso_pu (blsB_pul _), ren_gsv, lcondB_decide, lcondB_not, lguardB_decide_true, lguardB_decide_false, ldguardB_decide, Nat.reduceLT, Nat.reduceEqDiff, Nat.reduceAdd, Nat.reduceLeDiff, reduceIte, reduceCtorEq]
          · intro j tm3 hj hlen3 hlv3
            simp only [go_sem, hlen2, hlen1, hlen, lcondB_decide, lcondB_not, lguardB_decide_true, lguardB_decide_false, ldguardB_decide, Nat.reduceLT, Nat.reduceEqDiff, Nat.reduceAdd, Nat.reduceLeDiff, reduceIte, reduceCtorEq] at hlen3 hlv3
            simp +contextual only [go_sem, mixH, hlen3, hlv3, lcondB_decide, lcondB_not, lguardB_decide_true, lguardB_decide_false, ldguardB_decide, Nat.reduceLT, Nat.reduceEqDiff, Nat.reduceAdd, Nat.reduceLeDiff, reduceIte, reduceCtorEq]
            refine ⟨fun hlt => ?_, fun hge => ?_⟩
            · have hj2 : j < b.length := by omega
              have hg := List.getElem?_eq_getElem hj2
              have hmem : b[j] ∈ b := List.getElem_mem hj2
              have htk := List.take_succ_eq_append_getElem hj2
              have htl := totN_take b j
              generalize b[j] = e at hg hmem htk
              have hT1 : (Ta ++ insM (b.take j) k (false, true)).length ≤ 1001 * 2001 + 2001 := by
                have h1 := insM_len (b.take j) k (false, true)
                simp only [List.length_append] at hT0 ⊢; omega
              have hsn : Ta ++ insM (b.take (j + 1)) k (false, true) = (Ta ++ insM (b.take j) k (false, true)) ++ (if e.at_ = (k : Int) then newM e (false, true) e.new.length else []) := by rw [htk, insM_snoc, List.append_assoc]
              generalize (Ta ++ insM (b.take j) k (false, true)) = T1 at hT1 hsn ⊢
              have hnl := totN_mem hmem
              have hw3 : IntKind.i64.wrap ((j : Int) + 1) = ((j + 1 : Nat) : Int) := by rw [wrap_id (by omega)]; rfl
              simp +contextual only [go_sem, hlen3, hlv3, hvb.at hg, lcondB_decide, lcondB_not, lguardB_decide_true, lguardB_decide_false, ldguardB_decide, Nat.reduceLT, Nat.reduceEqDiff, Nat.reduceAdd, Nat.reduceLeDiff, reduceIte, reduceCtorEq]
              refine ⟨Nat, fun i => [(0, .int .i64 n), (1, va), (2, vb), (6, .ptr (nm s.nx 0) 0), (7, .ptr (nm s.nx 1) 0), (8, .ptr (nm s.nx 2) 0), (9, .func (.func 145) [] [.ptr (nm s.nx 0) 0, .ptr (nm s.nx 1) 0, .ptr (nm s.nx 2) 0]), (10, .func (.func 146) [] []), (11, .int .i64 k), (53, vb), (54, .int .i64 b.length), (55, .int .i64 j), (16, .ptr (nm s.nx 6) 0), (17, .int .i64 i)], fun i => mixH s n (T1 ++ newM e (false, true) i) 7 [(6, some (.cells [.int .i64 e.at_, .int .i64 e.cut, .str e.new] (some 35)))], fun i => i ≤ e.new.length ∧ (e.at_ ≠ k → i = 0), fun i => e.new.length - i, 0, by simp, ?_, ?_⟩
              · refine To.go [0, 1, 2, 3, 4, 5, 6] [(0, some (.cells [.int .i64 n, gsv 2 (nm s.nx 3) T1.length] (some 118))), (1, some (.cells [gsv 1 (nm s.nx 4) T1.length] (some 167))), (2, some (.cells [gsv 1 (nm s.nx 5) T1.length] (some 167))), (3, gso 121 (ltsM T1)), (4, gso 4 (blsA T1)), (5, gso 4 (blsB T1)), (6, some (.cells [.int .i64 e.at_, .int .i64 e.cut, .str e.new] (some 35)))] ?_ (.refl s) (by decide) (by simp) ?_ ?_
                · simp only [mixH, newM, List.take_zero, List.map_nil, List.append_nil]; rfl
                · simp +contextual only [go_sem, hlen3, hlv3, pu_ren hva.pu, pu_ren hvb.pu, lcondB_decide, lcondB_not, lguardB_decide_true, lguardB_decide_false, ldguardB_decide, Nat.reduceLT, Nat.reduceEqDiff, Nat.reduceAdd, Nat.reduceLeDiff, reduceIte, reduceCtorEq]
                  simp
                · simp only [go_sem, pul_ren (ltsM_pul _), pul_ren (blsA_pul _), pul_ren (blsB_pul _), map_gso_pu (ltsM_pul _), map_gso_pu (blsA_pul _), map_gso_pu (blsB_pul _), ren_gsv, lcondB_decide, lcondB_not, lguardB_decide_true, lguardB_decide_false, ldguardB_decide, Nat.reduceLT, Nat.reduceEqDiff, Nat.reduceAdd, Nat.reduceLeDiff, reduceIte, reduceCtorEq]
              · rintro i tm4 ⟨hi, hne⟩ hlen4 hlv4
                simp only [go_sem, hlen3, hlen2, hlen1, hlen, lcondB_decide, lcondB_not, lguardB_decide_true, lguardB_decide_false, ldguardB_decide, Nat.reduceLT, Nat.reduceEqDiff, Nat.reduceAdd, Nat.reduceLeDiff, reduceIte, reduceCtorEq] at hlen4 hlv4
                have hTi : (T1 ++ newM e (false, true) i).length ≤ 1000000000 := by
                  have := newM_len e (false, true) i
                  rw [List.length_append]; omega
                by_cases heq : e.at_ = (k : Int)
                · simp +contextual only [go_sem, mixH, hlen4, hlv4, heq, lcondB_decide, lcondB_not, lguardB_decide_true, lguardB_decide_false, ldguardB_decide, Nat.reduceLT, Nat.reduceEqDiff, Nat.reduceAdd, Nat.reduceLeDiff, reduceIte, reduceCtorEq]
                  refine ⟨fun hilt => ?_, fun hige => ?_⟩
                  · have hi2 : i < e.new.length := by omega
                    have hc := List.getElem?_eq_getElem hi2
                    generalize e.new[i] = c at hc
                    have hix : aindex tab 9 (.str e.new) (.int .i64 i) = some (.int .u8 c.toNat) := by simp [aindex, ty9, hc]
                    have hwi : IntKind.i64.wrap ((i : Int) + 1) = ((i + 1 : Nat) : Int) := by rw [wrap_id (by omega)]; rfl
                    have hns : T1 ++ newM e (false, true) (i + 1) = T1 ++ newM e (false, true) i ++ [((-1, c), (false, true))] := by rw [newM_succ hc, List.append_assoc]
                    generalize hTg : T1 ++ newM e (false, true) i = T at hTi hns
                    simp +contextual only [go_sem, hlen4, hlv4, hix, build121_2, lcondB_decide, lcondB_not, lguardB_decide_true, lguardB_decide_false, ldguardB_decide, Nat.reduceLT, Nat.reduceEqDiff, Nat.reduceAdd, Nat.reduceLeDiff, reduceIte, reduceCtorEq]
                    refine lfunG_eqc rfl (add7_ok n T ⟨k, e.cut, e.new⟩ ((-1, c), (false, true)) hTi) ?_
                    simp +contextual only [go_sem, hlen4, hlen3, hlv4, hwi, lcondB_decide, lcondB_not, lguardB_decide_true, lguardB_decide_false, ldguardB_decide, Nat.reduceLT, Nat.reduceEqDiff, Nat.reduceAdd, Nat.reduceLeDiff, reduceIte, reduceCtorEq]
                    refine ⟨i + 1, ⟨by omega, fun h => h.elim⟩, by omega, ?_⟩
                    rw [hns]
                    generalize T ++ [((-1, c), (false, true))] = T'
                    refine To.go [0, 1, 2, 7, 8, 9, 6] [(0, some (.cells [.int .i64 n, gsv 2 (nm s.nx 3) T'.length] (some 118))), (1, some (.cells [gsv 1 (nm s.nx 4) T'.length] (some 167))), (2, some (.cells [gsv 1 (nm s.nx 5) T'.length] (some 167))), (3, gso 121 (ltsM T')), (4, gso 4 (blsA T')), (5, gso 4 (blsB T')), (6, some (.cells [.int .i64 k, .int .i64 e.cut, .str e.new] (some 35)))] rfl (.refl s) (by decide) (by simp) ?_ ?_
                    · simp +contextual only [go_sem, hlen4, hlv4, pu_ren hva.pu, pu_ren hvb.pu, lcondB_decide, lcondB_not, lguardB_decide_true, lguardB_decide_false, ldguardB_decide, Nat.reduceLT, Nat.reduceEqDiff, Nat.reduceAdd, Nat.reduceLeDiff, reduceIte, reduceCtorEq]
                    · simp only [go_sem, pul_ren (ltsM_pul _), pul_ren (blsA_pul _), pul_ren (blsB_pul _), map_gso_pu (ltsM_pul _), map_gso_pu (blsA_pul _), map_gso_pu (blsB_pul _), ren_gsv, lcondB_decide, lcondB_not, lguardB_decide_true, lguardB_decide_false, ldguardB_decide, Nat.reduceLT, Nat.reduceEqDiff, Nat.reduceAdd, Nat.reduceLeDiff, reduceIte, reduceCtorEq]
                  · have hie : i = e.new.length := by omega
                    subst hie
                    simp +contextual only [go_sem, hlen4, hlen3, hlen2, hlen1, hlv4, hw3, lcondB_decide, lcondB_not, lguardB_decide_true, lguardB_decide_false, ldguardB_decide, Nat.reduceLT, Nat.reduceEqDiff, Nat.reduceAdd, Nat.reduceLeDiff, reduceIte, reduceCtorEq]
                    refine ⟨j + 1, by omega, by omega, ?_⟩
                    rw [hsn, if_pos heq]
                    generalize T1 ++ newM e (false, true) e.new.length = T'
                    refine To.go [0, 1, 2, 3, 4, 5] [(0, some (.cells [.int .i64 n, gsv 2 (nm s.nx 3) T'.length] (some 118))), (1, some (.cells [gsv 1 (nm s.nx 4) T'.length] (some 167))), (2, some (.cells [gsv 1 (nm s.nx 5) T'.length] (some 167))), (3, gso 121 (ltsM T')), (4, gso 4 (blsA T')), (5, gso 4 (blsB T'))] rfl (.refl s) (by decide) (by simp) ?_ ?_
                    · simp +contextual only [go_sem, hlen4, hlv4, pu_ren hva.pu, pu_ren hvb.pu, lcondB_decide, lcondB_not, lguardB_decide_true, lguardB_decide_false, ldguardB_decide, Nat.reduceLT, Nat.reduceEqDiff, Nat.reduceAdd, Nat.reduceLeDiff, reduceIte, reduceCtorEq]
                    · simp only [go_sem, pul_ren (ltsM_pul _), pul_ren (blsA_pul _), pul_ren (blsB_pul _), map_gso_pu (ltsM_pul _), map_gso_pu (blsA_pul _), map_gso_pu (blsB_pul _), ren_gsv, lcondB_decide, lcondB_not, lguardB_decide_true, lguardB_decide_false, ldguardB_decide, Nat.reduceLT, Nat.reduceEqDiff, Nat.reduceAdd, Nat.reduceLeDiff, reduceIte, reduceCtorEq]
                · have hi0 := hne heq
                  subst hi0
                  simp +contextual only [go_sem, mixH, hlen4, hlen3, hlen2, hlen1, hlv4, heq, hw3, lcondB_decide, lcondB_not, lguardB_decide_true, lguardB_decide_false, ldguardB_decide, Nat.reduceLT, Nat.reduceEqDiff, Nat.reduceAdd, Nat.reduceLeDiff, reduceIte, reduceCtorEq]
                  refine ⟨j + 1, by omega, by omega, ?_⟩
                  rw [hsn, if_neg heq, List.append_nil, show newM e (false, true) 0 = [] from rfl, List.append_nil]
                  generalize T1 = T'
                  refine To.go [0, 1, 2, 3, 4, 5] [(0, some (.cells [.int .i64 n, gsv 2 (nm s.nx 3) T'.length] (some 118))), (1, some (.cells [gsv 1 (nm s.nx 4) T'.length] (some 167))), (2, some (.cells [gsv 1 (nm s.nx 5) T'.length] (some 167))), (3, gso 121 (ltsM T')), (4, gso 4 (blsA T')), (5, gso 4 (blsB T'))] rfl (.refl s) (by decide) (by simp) ?_ ?_
                  · simp +contextual only [go_sem, hlen4, hlv4, pu_ren hva.pu, pu_ren hvb.pu, lcondB_decide, lcondB_not, lguardB_decide_true, lguardB_decide_false, ldguardB_decide, Nat.reduceLT, Nat.reduceEqDiff, Nat.reduceAdd, Nat.reduceLeDiff, reduceIte, reduceCtorEq]
                  · simp only [go_sem, pul_ren (ltsM_pul _), pul_ren (blsA_pul _), pul_ren (blsB_pul _), map_gso_pu (ltsM_pul _), map_gso_pu (blsA_pul _), map_gso_pu (blsB_pul _), ren_gsv, lcondB_decide, lcondB_not, lguardB_decide_true, lguardB_decide_false, ldguardB_decide, Nat.reduceLT, Nat.reduceEqDiff, Nat.reduceAdd, Nat.reduceLeDiff, reduceIte, reduceCtorEq]
            · have hj2 : j = b.length := by omega
              subst hj2
              rw [List.take_length]
              have hTb0 : (Ta ++ insM b k (false, true)).length ≤ 1000000000 := by
                have h1 := insM_len b k (false, true)
                rw [List.length_append]; omega
              have hmL : mixL a b n (k + 1) = (Ta ++ insM b k (false, true)) ++ keptM a b n k := by rw [mixL_succ, mixAt, ← hTa]; simp only [List.append_assoc]
              have hwk : IntKind.i64.wrap ((k : Int) + 1) = ((k + 1 : Nat) : Int) := by rw [wrap_id (by omega)]; rfl
              generalize Ta ++ insM b k (false, true) = Tb at hTb0 hmL ⊢
              simp only [hwk]
              refine ⟨fun hkn => ?_, fun hkn => ?_⟩
              · refine lfunG_eq (gone_ok va a k hva ha hea _) ?_
                cases hga : goneB a k
                · simp +contextual only [go_sem, hlen3, hlv3, lcondB_decide, lcondB_not, lguardB_decide_true, lguardB_decide_false, ldguardB_decide, Nat.reduceLT, Nat.reduceEqDiff, Nat.reduceAdd, Nat.reduceLeDiff, reduceIte, reduceCtorEq]
                  refine lfunG_eq (gone_ok vb b k hvb hb heb _) ?_
                  cases hgb : goneB b k
                  · rw [keptM, if_pos ⟨hkn, hga, hgb⟩] at hmL
                    simp +contextual only [go_sem, hlen3, hlv3, build121_1, lcondB_decide, lcondB_not, lguardB_decide_true, lguardB_decide_false, ldguardB_decide, Nat.reduceLT, Nat.reduceEqDiff, Nat.reduceAdd, Nat.reduceLeDiff, reduceIte, reduceCtorEq]
                    refine lfunG_eqc rfl (add6_ok n Tb ((k, 0), (false, false)) hTb0) ?_
                    simp +contextual only [go_sem, hlen3, hlen2, hlen1, hlen, hlv3, hwk, lcondB_decide, lcondB_not, lguardB_decide_true, lguardB_decide_false, ldguardB_decide, Nat.reduceLT, Nat.reduceEqDiff, Nat.reduceAdd, Nat.reduceLeDiff, reduceIte, reduceCtorEq]
                    generalize Tb ++ [(((k : Int), (0 : UInt8)), false, false)] = Tb at hmL ⊢
                    refine ⟨k + 1, by omega, by omega, ?_⟩
                    rw [hmL]
                    generalize Tb = T'
                    refine To.go [0, 1, 2, 6, 7, 8] [(0, some (.cells [.int .i64 n, gsv 2 (nm s.nx 3) T'.length] (some 118))), (1, some (.cells [gsv 1 (nm s.nx 4) T'.length] (some 167))), (2, some (.cells [gsv 1 (nm s.nx 5) T'.length] (some 167))), (3, gso 121 (ltsM T')), (4, gso 4 (blsA T')), (5, gso 4 (blsB T'))] rfl (.refl s) (by decide) (by simp) ?_ ?_
                    · simp +contextual only [go_sem, hlen3, hlv3, pu_ren hva.pu, pu_ren hvb.pu, lcondB_decide, lcondB_not, lguardB_decide_true, lguardB_decide_false, ldguardB_decide, Nat.reduceLT, Nat.reduceEqDiff, Nat.reduceAdd, Nat.reduceLeDiff, reduceIte, reduceCtorEq]
                    · simp only [go_sem, pul_ren (ltsM_pul _), pul_ren (blsA_pul _), pul_ren (blsB_pul _), map_gso_pu (ltsM_pul _), map_gso_pu (blsA_pul _), map_gso_pu (blsB_pul _), ren_gsv, lcondB_decide, lcondB_not, lguardB_decide_true, lguardB_decide_false, ldguardB_decide, Nat.reduceLT, Nat.reduceEqDiff, Nat.reduceAdd, Nat.reduceLeDiff, reduceIte, reduceCtorEq]
                  · rw [keptM, if_neg (by rw [hgb]; simp), List.append_nil] at hmL
                    simp +contextual only [go_sem, hlen3, hlen2, hlen1, hlen, hlv3, hwk, lcondB_decide, lcondB_not, lguardB_decide_true, lguardB_decide_false, ldguardB_decide, Nat.reduceLT, Nat.reduceEqDiff, Nat.reduceAdd, Nat.reduceLeDiff, reduceIte, reduceCtorEq]
                    refine ⟨k + 1, by omega, by omega, ?_⟩
                    rw [hmL]
                    generalize Tb = T'
                    refine To.go [0, 1, 2, 3, 4, 5] [(0, some (.cells [.int .i64 n, gsv 2 (nm s.nx 3) T'.length] (some 118))), (1, some (.cells [gsv 1 (nm s.nx 4) T'.length] (some 167))), (2, some (.cells [gsv 1 (nm s.nx 5) T'.length] (some 167))), (3, gso 121 (ltsM T')), (4, gso 4 (blsA T')), (5, gso 4 (blsB T'))] rfl (.refl s) (by decide) (by simp) ?_ ?_
                    · simp +contextual only [go_sem, hlen3, hlv3, pu_ren hva.pu, pu_ren hvb.pu, lcondB_decide, lcondB_not, lguardB_decide_true, lguardB_decide_false, ldguardB_decide, Nat.reduceLT, Nat.reduceEqDiff, Nat.reduceAdd, Nat.reduceLeDiff, reduceIte, reduceCtorEq]
                    · simp only [go_sem, pul_ren (ltsM_pul _), pul_ren (blsA_pul _), pul_ren (blsB_pul _), map_gso_pu (ltsM_pul _), map_gso_pu (blsA_pul _), map_gso_pu (blsB_pul _), ren_gsv, lcondB_decide, lcondB_not, lguardB_decide_true, lguardB_decide_false, ldguardB_decide, Nat.reduceLT, Nat.reduceEqDiff, Nat.reduceAdd, Nat.reduceLeDiff, reduceIte, reduceCtorEq]
                · rw [keptM, if_neg (by rw [hga]; simp), List.append_nil] at hmL
                  simp +contextual only [go_sem, hlen3, hlen2, hlen1, hlen, hlv3, hwk, lcondB_decide, lcondB_not, lguardB_decide_true, lguardB_decide_false, ldguardB_decide, Nat.reduceLT, Nat.reduceEqDiff, Nat.reduceAdd, Nat.reduceLeDiff, reduceIte, reduceCtorEq]
                  refine ⟨k + 1, by omega, by omega, ?_⟩
                  rw [hmL]
                  generalize Tb = T'
                  refine To.go [0, 1, 2, 3, 4, 5] [(0, some (.cells [.int .i64 n, gsv 2 (nm s.nx 3) T'.length] (some 118))), (1, some (.cells [gsv 1 (nm s.nx 4) T'.length] (some 167))), (2, some (.cells [gsv 1 (nm s.nx 5) T'.length] (some 167))), (3, gso 121 (ltsM T')), (4, gso 4 (blsA T')), (5, gso 4 (blsB T'))] rfl (.refl s) (by decide) (by simp) ?_ ?_
                  · simp +contextual only [go_sem, hlen3, hlv3, pu_ren hva.pu, pu_ren hvb.pu, lcondB_decide, lcondB_not, lguardB_decide_true, lguardB_decide_false, ldguardB_decide, Nat.reduceLT, Nat.reduceEqDiff, Nat.reduceAdd, Nat.reduceLeDiff, reduceIte, reduceCtorEq]
                  · simp only [go_sem, pul_ren (ltsM_pul _), pul_ren (blsA_pul _), pul_ren (blsB_pul _), map_gso_pu (ltsM_pul _), map_gso_pu (blsA_pul _), map_gso_pu (blsB_pul _), ren_gsv, lcondB_decide, lcondB_not, lguardB_decide_true, lguardB_decide_false, ldguardB_decide, Nat.reduceLT, Nat.reduceEqDiff, Nat.reduceAdd, Nat.reduceLeDiff, reduceIte, reduceCtorEq]
              · rw [keptM, if_neg (by intro h; exact hkn h.1), List.append_nil] at hmL
                refine ⟨k + 1, by omega, by omega, ?_⟩
                rw [hmL]
                generalize Tb = T'
                refine To.go [0, 1, 2, 3, 4, 5] [(0, some (.cells [.int .i64 n, gsv 2 (nm s.nx 3) T'.length] (some 118))), (1, some (.cells [gsv 1 (nm s.nx 4) T'.length] (some 167))), (2, some (.cells [gsv 1 (nm s.nx 5) T'.length] (some 167))), (3, gso 121 (ltsM T')), (4, gso 4 (blsA T')), (5, gso 4 (blsB T'))] rfl (.refl s) (by decide) (by simp) ?_ ?_
                · simp +contextual only [go_sem, hlen3, hlv3, pu_ren hva.pu, pu_ren hvb.pu, lcondB_decide, lcondB_not, lguardB_decide_true, lguardB_decide_false, ldguardB_decide, Nat.reduceLT, Nat.reduceEqDiff, Nat.reduceAdd, Nat.reduceLeDiff, reduceIte, reduceCtorEq]
                · simp only [go_sem, pul_ren (ltsM_pul _), pul_ren (blsA_pul _), pul_ren (blsB_pul _), map_gso_pu (ltsM_pul _), map_gso_pu (blsA_pul _), map_gso_pu (blsB_pul _), ren_gsv, lcondB_decide, lcondB_not, lguardB_decide_true, lguardB_decide_false, ldguardB_decide, Nat.reduceLT, Nat.reduceEqDiff, Nat.reduceAdd, Nat.reduceLeDiff, reduceIte, reduceCtorEq]
    · have hk2 : k = n + 1 := by omega
      subst hk2
      have hT0 := hbig (n + 1) (Nat.le_refl _)
      generalize mixL a b n (n + 1) = T at hT0 ⊢
      refine ldrawB_go [] [(1, 1), (2, 1), (2, 2)] 5 (by decide) ?_
      simp +contextual only [go_sem, hlen1, hlv, lcondB_decide, lcondB_not, lguardB_decide_true, lguardB_decide_false, ldguardB_decide, Nat.reduceLT, Nat.reduceEqDiff, Nat.reduceAdd, Nat.reduceLeDiff, reduceIte, reduceCtorEq]
      refine ⟨by kernel_rfl, ?_⟩
      rw [lpostB_cells]
      simp +contextual only [go_sem, hlen1, hlv, lcondB_decide, lcondB_not, lguardB_decide_true, lguardB_decide_false, ldguardB_decide, Nat.reduceLT, Nat.reduceEqDiff, Nat.reduceAdd, Nat.reduceLeDiff, reduceIte, reduceCtorEq]
      exact mix_end T ⟨rfl, rfl⟩
end Go.S1N
end
section
set_option linter.unusedVariables false
set_option linter.unusedSimpArgs false
namespace Go.S1N
open Go Go.Am Go.Proofs Go.S1
set_option maxRecDepth 100000
set_option linter.unusedSimpArgs false
attribute [local irreducible] lopsB lvb lstepB lfunG lcondB lguardB ldrawB ldrunB ldstepB ldguardB lmem lval ldmem ldval ldfun lexit ldloadB ldlenB lpostB athen ablock
structure POk (n : Nat) (a b : List Ed) : Prop where
  hn : n ≤ 1000
  ha : a.length ≤ 2000
  hb : b.length ≤ 2000
  hta : totN a ≤ 1000
  htb : totN b ≤ 1000
  hea : ∀ e ∈ a, -1000000000000 ≤ e.at_ + e.cut ∧ e.at_ + e.cut ≤ 1000000000000
  heb : ∀ e ∈ b, -1000000000000 ≤ e.at_ + e.cut ∧ e.at_ + e.cut ≤ 1000000000000
  hsa : scan n (-1) a = 0
  hsb : scan n (-1) b = 0
  hga : ∀ p ∈ flowFrom n 0 a, p.1 < n
  hgb : ∀ p ∈ flowFrom n 0 b, p.1 < n
  hm : ∀ x ∈ mixL a b n (n + 1), -1 ≤ x.1.1 ∧ x.1.1 < n
  hda : need ((mixL a b n (n + 1)).map (·.1)) ((mixL a b n (n + 1)).map (·.2.1)) ≤ (ownOf 0 (flowFrom n 0 a)).length
  hdb : need ((mixL a b n (n + 1)).map (·.1)) ((mixL a b n (n + 1)).map (·.2.2)) ≤ (ownOf 0 (flowFrom n 0 b)).length
def mixF (n : Nat) (a b : List Ed) : List (Int × UInt8) := (mixL a b n (n + 1)).map (·.1)
def pastA (n : Nat) (a b : List Ed) : List Ed := edGo (flowFrom n 0 a).length 0 [] (pastF n (flowFrom n 0 a) (mixF n a b) ((mixL a b n (n + 1)).map (·.2.1)))
def pastB (n : Nat) (a b : List Ed) : List Ed := edGo (flowFrom n 0 b).length 0 [] (pastF n (flowFrom n 0 b) (mixF n a b) ((mixL a b n (n + 1)).map (·.2.2)))
def pastR (n : Nat) (a b : List Ed) : List Ed × List Ed × Int :=
  if bothErr n a b ≠ 0 then ([], [], bothErr n a b) else if 20000 < (mixF n a b).length ∨ 2000 < (pastA n a b).length ∨ 2000 < (pastB n a b).length then ([], [], 2) else (pastA n a b, pastB n a b, 0)
def bothR (n : Nat) (a b : List Ed) : List Ed × Int :=
  if bothErr n a b ≠ 0 then ([], bothErr n a b) else if 20000 < (mixF n a b).length ∨ 2000 < (edGo n 0 [] (mixF n a b)).length then ([], 2) else (edGo n 0 [] (mixF n a b), 0)
theorem bothOf_ok (n : Nat) (a b : List Ed) (ha : a.length < 4611686018427387904) (hb : b.length < 4611686018427387904) (hm : bothErr n a b = 0 → POk n a b) (s : AHeap) :
    ACall Try.prog 64 [.int .i64 n, edv a, edv b] s fun r t => r = .tuple [edv (bothR n a b).1, .int .i64 (bothR n a b).2] ∧ t = s := by
  refine gob64 (by simp) ?_
  intro tm hlen harg
  simp +contextual only [go_sem, L64, hlen, harg, lcondB_decide, lcondB_not, lguardB_decide_true, lguardB_decide_false, ldguardB_decide, Nat.reduceLT, Nat.reduceEqDiff, Nat.reduceAdd, Nat.reduceLeDiff, reduceIte, reduceCtorEq]
  refine lfunG_eq (bothFault_ok n a b ha hb _) ?_
  simp +contextual only [go_sem, hlen, harg, lcondB_decide, lcondB_not, lguardB_decide_true, lguardB_decide_false, ldguardB_decide, Nat.reduceLT, Nat.reduceEqDiff, Nat.reduceAdd, Nat.reduceLeDiff, reduceIte, reduceCtorEq]
  refine ⟨fun c => ?_, fun c => ?_⟩
  · refine lexit_pure (.refl s) (by simp only [low, lowL, and_self]) ⟨by rw [bothR, if_pos c]; rfl, rfl⟩
  have c : bothErr n a b = 0 := by simpa using c
  have h := hm c
  have hval : bothR n a b = if 20000 < (mixF n a b).length ∨ 2000 < (edGo n 0 [] (mixF n a b)).length then ([], 2) else (edGo n 0 [] (mixF n a b), 0) := by rw [bothR, if_neg (by simpa using c)]
  rw [hval]
  have hml : (mixL a b n (n + 1)).length ≤ 1001 * 2001 := Nat.le_trans (mixL_len a b n (n + 1)) (Nat.mul_le_mul (by have := h.hn; omega) (by have := h.hta; have := h.htb; omega))
  have hmm := h.hm
  have hn := h.hn
  refine lfunG_eq (mixed_ok n h.hn a b _ _ (edv_sl a) (edv_sl b) h.ha h.hb h.hta h.htb h.hea h.heb _) ?_
  unfold mixF
  generalize mixL a b n (n + 1) = T at *
  have hFl : (T.map (·.1)).length = T.length := List.length_map ..
  have hFm : ∀ p ∈ T.map (·.1), -1 ≤ p.1 ∧ p.1 < (n : Int) := by
    intro p hp; obtain ⟨x, hx, rfl⟩ := List.mem_map.1 hp; exact hmm x hx
  generalize T.map (·.1) = F at *
  simp +contextual only [go_sem, hlen, harg, flv, lcondB_decide, lcondB_not, lguardB_decide_true, lguardB_decide_false, ldguardB_decide, Nat.reduceLT, Nat.reduceEqDiff, Nat.reduceAdd, Nat.reduceLeDiff, reduceIte, reduceCtorEq]
  refine lfunG_eq (edits_ok n F (by omega) (fun p hp => by have := hFm p hp; omega) (by omega) _) ?_
  generalize edGo n 0 [] F = X
  generalize hV : (if 20000 < F.length ∨ 2000 < X.length then (([], 2) : List Ed × Int) else (X, 0)) = V
  by_cases c1 : 20000 < (F.length : Int)
  · simp +contextual only [go_sem, hlen, harg, flow_len', c1, lcondB_decide, lcondB_not, lguardB_decide_true, lguardB_decide_false, ldguardB_decide, Nat.reduceLT, Nat.reduceEqDiff, Nat.reduceAdd, Nat.reduceLeDiff, reduceIte, reduceCtorEq]
    exact lexit_pure (.refl s) (by simp only [low, lowL, and_self]) ⟨by rw [← hV, if_pos (.inl (by omega))]; rfl, rfl⟩
  simp +contextual only [go_sem, hlen, harg, flow_len', c1, lcondB_decide, lcondB_not, lguardB_decide_true, lguardB_decide_false, ldguardB_decide, Nat.reduceLT, Nat.reduceEqDiff, Nat.reduceAdd, Nat.reduceLeDiff, reduceIte, reduceCtorEq]
  refine lfunG_eq (many_ok _ X (edv_sl X) _) ?_
  by_cases c2 : 2000 < X.length
  · simp +contextual only [go_sem, hlen, harg, c2, lcondB_decide, lcondB_not, lguardB_decide_true, lguardB_decide_false, ldguardB_decide, Nat.reduceLT, Nat.reduceEqDiff, Nat.reduceAdd, Nat.reduceLeDiff, reduceIte, reduceCtorEq]
    exact ⟨fun _ => lexit_pure (.refl s) (by simp only [low, lowL, and_self]) ⟨by rw [← hV, if_pos (.inr c2)]; rfl, rfl⟩, fun h => absurd h (by decide)⟩
  · simp +contextual only [go_sem, hlen, harg, c2, lcondB_decide, lcondB_not, lguardB_decide_true, lguardB_decide_false, ldguardB_decide, Nat.reduceLT, Nat.reduceEqDiff, Nat.reduceAdd, Nat.reduceLeDiff, reduceIte, reduceCtorEq]
    exact lexit_pure (.refl s) (by simp only [low, lowL, and_true]; exact low.mono (Nat.zero_le _) (edv_pu _)) ⟨by rw [← hV, if_neg (by omega)], rfl⟩
theorem pastOf_ok (n : Nat) (a b : List Ed) (ha : a.length < 4611686018427387904) (hb : b.length < 4611686018427387904) (hm : bothErr n a b = 0 → POk n a b) (s : AHeap) :
    ACall Try.prog 63 [.int .i64 n, edv a, edv b] s fun r t => r = .tuple [edv (pastR n a b).1, edv (pastR n a b).2.1, .int .i64 (pastR n a b).2.2] ∧ t = s := by
  refine gob63 (by simp) ?_
  intro tm hlen harg
  simp +contextual only [go_sem, L63, hlen, harg, lcondB_decide, lcondB_not, lguardB_decide_true, lguardB_decide_false, ldguardB_decide, Nat.reduceLT, Nat.reduceEqDiff, Nat.reduceAdd, Nat.reduceLeDiff, reduceIte, reduceCtorEq]
  refine lfunG_eq (bothFault_ok n a b ha hb _) ?_
  simp +contextual only [go_sem, hlen, harg, lcondB_decide, lcondB_not, lguardB_decide_true, lguardB_decide_false, ldguardB_decide, Nat.reduceLT, Nat.reduceEqDiff, Nat.reduceAdd, Nat.reduceLeDiff, reduceIte, reduceCtorEq]
  refine ⟨fun c => ?_, fun c => ?_⟩
  · refine lexit_pure (.refl s) (by simp only [low, lowL, and_self]) ⟨by rw [pastR, if_pos c]; rfl, rfl⟩
  have c : bothErr n a b = 0 := by simpa using c
  have h := hm c
  have hval : pastR n a b = if 20000 < (mixF n a b).length ∨ 2000 < (pastA n a b).length ∨ 2000 < (pastB n a b).length then ([], [], 2) else (pastA n a b, pastB n a b, 0) := by rw [pastR, if_neg (by simpa using c)]
  rw [hval]
  unfold pastA pastB
  have hml : (mixL a b n (n + 1)).length ≤ 1001 * 2001 := Nat.le_trans (mixL_len a b n (n + 1)) (Nat.mul_le_mul (by have := h.hn; omega) (by have := h.hta; have := h.htb; omega))
  have hmm := h.hm
  have hn := h.hn
  have hda := h.hda
  have hdb := h.hdb
  refine lfunG_eq (mixed_ok n h.hn a b _ _ (edv_sl a) (edv_sl b) h.ha h.hb h.hta h.htb h.hea h.heb _) ?_
  unfold mixF
  generalize mixL a b n (n + 1) = T at *
  have hFl : (T.map (·.1)).length = T.length := List.length_map ..
  have hFm : ∀ p ∈ T.map (·.1), -1 ≤ p.1 ∧ p.1 < (n : Int) := by
    intro p hp; obtain ⟨x, hx, rfl⟩ := List.mem_map.1 hp; exact hmm x hx
  have eA : blsA T = (T.map (·.2.1)).map .bool := by simp [blsA]
  have eB : blsB T = (T.map (·.2.2)).map .bool := by simp [blsB]
  have lA : (T.map (·.2.1)).length = T.length := List.length_map ..
  have lB : (T.map (·.2.2)).length = T.length := List.length_map ..
  rw [eA, eB]
  generalize T.map (·.1) = F at *
  generalize T.map (·.2.1) = A at *
  generalize T.map (·.2.2) = B at *
  have hpF : Pu (fsv 2 (ltv F)) := pu_fsv (ltv_pu F)
  simp +contextual only [go_sem, hlen, harg, flv, flow_len', lcondB_decide, lcondB_not, lguardB_decide_true, lguardB_decide_false, ldguardB_decide, Nat.reduceLT, Nat.reduceEqDiff, Nat.reduceAdd, Nat.reduceLeDiff, reduceIte, reduceCtorEq]
  have ca := fun s => past115_ok n _ a (edv_sl a) h.ha (by omega) (fun e he => Nat.le_trans (totN_mem he) (by have := h.hta; omega)) h.hsa F A (by omega) (by omega) h.hga hFm hda s
  have cb := fun s => past115_ok n _ b (edv_sl b) h.hb (by omega) (fun e he => Nat.le_trans (totN_mem he) (by have := h.htb; omega)) h.hsb F B (by omega) (by omega) h.hgb hFm hdb s
  unfold flv at ca cb
  generalize edGo (flowFrom n 0 a).length 0 [] (pastF n (flowFrom n 0 a) F A) = X at *
  generalize edGo (flowFrom n 0 b).length 0 [] (pastF n (flowFrom n 0 b) F B) = Y at *
  generalize hV : (if 20000 < F.length ∨ 2000 < X.length ∨ 2000 < Y.length then (([], [], 2) : List Ed × List Ed × Int) else (X, Y, 0)) = V
  refine ⟨fun c1 => ?_, fun c1 => ?_⟩
  · exact lexit_pure (.refl s) (by simp only [low, lowL, and_self]) ⟨by rw [← hV, if_pos (.inl (by omega))]; rfl, rfl⟩
  refine ldrawB_go [] [] 9 (by decide) ?_
  simp +contextual only [go_sem, hlen, harg, lcondB_decide, lcondB_not, lguardB_decide_true, lguardB_decide_false, ldguardB_decide, Nat.reduceLT, Nat.reduceEqDiff, Nat.reduceAdd, Nat.reduceLeDiff, reduceIte, reduceCtorEq]
  refine ldfun_pure _ ca ?_
  simp +contextual only [go_sem, hlen, harg, lcondB_decide, lcondB_not, lguardB_decide_true, lguardB_decide_false, ldguardB_decide, Nat.reduceLT, Nat.reduceEqDiff, Nat.reduceAdd, Nat.reduceLeDiff, reduceIte, reduceCtorEq]
  refine ⟨by kernel_rfl, ?_⟩
  refine lfunG_eq (cb _) ?_
  have hcX : (edv X).cells = [edv X] := fsv_cells
  have hcY : (edv Y).cells = [edv Y] := fsv_cells
  have hrX : (edv X).israw = false := fsv_israw
  have hrY : (edv Y).israw = false := fsv_israw
  simp +contextual only [go_sem, hlen, harg, hcX, hcY, hrX, hrY, lcondB_decide, lcondB_not, lguardB_decide_true, lguardB_decide_false, ldguardB_decide, Nat.reduceLT, Nat.reduceEqDiff, Nat.reduceAdd, Nat.reduceLeDiff, reduceIte, reduceCtorEq]
  refine ⟨Nat, fun j => [(13, edv X), (14, edv Y), (49, .rs 1 (nm s.nx 0) 0 2), (50, .int .i64 (2 : Nat)), (51, .int .i64 j)], fun _ => loc s 1 [(0, some (.cells [edv X, edv Y] (some 27)))], fun j => j ≤ 2 ∧ (1 ≤ j → X.length ≤ 2000) ∧ (2 ≤ j → Y.length ≤ 2000), fun j => 2 - j, 0, by omega, ?_, ?_⟩
  · refine To.go [10] _ rfl (.refl s) (by decide) (by simp) ?_ ?_
    · simp +contextual only [go_sem, hlen, harg, pu_ren (edv_pu _), lcondB_decide, lcondB_not, lguardB_decide_true, lguardB_decide_false, ldguardB_decide, Nat.reduceLT, Nat.reduceEqDiff, Nat.reduceAdd, Nat.reduceLeDiff, reduceIte, reduceCtorEq]
      rfl
    · simp only [go_sem, pu_ren (edv_pu _), lcondB_decide, lcondB_not, lguardB_decide_true, lguardB_decide_false, ldguardB_decide, Nat.reduceLT, Nat.reduceEqDiff, Nat.reduceAdd, Nat.reduceLeDiff, reduceIte, reduceCtorEq]
  · rintro j tm1 ⟨hj, hjX, hjY⟩ hlen1 hlv
    simp only [go_sem, hlen, lcondB_decide, lcondB_not, lguardB_decide_true, lguardB_decide_false, ldguardB_decide, Nat.reduceLT, Nat.reduceEqDiff, Nat.reduceAdd, Nat.reduceLeDiff, reduceIte, reduceCtorEq] at hlen1 hlv
    by_cases hlt : j < 2
    · have hc2 : (j : Int) < ((2 : Nat) : Int) := by omega
      simp +contextual only [go_sem, hlen1, hlv, hc2, lcondB_decide, lcondB_not, lguardB_decide_true, lguardB_decide_false, ldguardB_decide, Nat.reduceLT, Nat.reduceEqDiff, Nat.reduceAdd, Nat.reduceLeDiff, reduceIte, reduceCtorEq]
      rcases (show j = 0 ∨ j = 1 by omega) with hj0 | hj0
      · subst hj0
        have hix : aindexAddr tab 60 (.rs 1 (nm s.nx 0) 0 2) (.int .i64 ((0 : Nat) : Int)) = some (.ptr (nm s.nx 0) 0) := ix60r (by omega) (by omega)
        simp +contextual only [go_sem, hlen1, hlv, hix, hcX, hcY, lcondB_decide, lcondB_not, lguardB_decide_true, lguardB_decide_false, ldguardB_decide, Nat.reduceLT, Nat.reduceEqDiff, Nat.reduceAdd, Nat.reduceLeDiff, reduceIte, reduceCtorEq]
        refine lfunG_eq (many_ok _ X (edv_sl X) _) ?_
        by_cases c2 : 2000 < X.length
        · simp +contextual only [go_sem, hlen1, hlv, c2, lcondB_decide, lcondB_not, lguardB_decide_true, lguardB_decide_false, ldguardB_decide, Nat.reduceLT, Nat.reduceEqDiff, Nat.reduceAdd, Nat.reduceLeDiff, reduceIte, reduceCtorEq]
          exact ⟨fun _ => lexit_pure (.refl s) (by simp only [low, lowL, and_self]) ⟨by rw [← hV, if_pos (.inr (.inl c2))]; rfl, rfl⟩, fun h => absurd h (by decide)⟩
        · simp +contextual only [go_sem, hlen, hlen1, hlv, c2, lcondB_decide, lcondB_not, lguardB_decide_true, lguardB_decide_false, ldguardB_decide, Nat.reduceLT, Nat.reduceEqDiff, Nat.reduceAdd, Nat.reduceLeDiff, reduceIte, reduceCtorEq]
          refine ⟨1, ⟨by omega, by omega, by omega⟩, by omega, ?_⟩
          refine To.go [0] _ rfl (.refl s) (by decide) (by simp) ?_ ?_
          · simp +contextual only [go_sem, hlen1, hlv, pu_ren (edv_pu _), lcondB_decide, lcondB_not, lguardB_decide_true, lguardB_decide_false, ldguardB_decide, Nat.reduceLT, Nat.reduceEqDiff, Nat.reduceAdd, Nat.reduceLeDiff, reduceIte, reduceCtorEq]
            rfl
          · simp only [go_sem, pu_ren (edv_pu _), lcondB_decide, lcondB_not, lguardB_decide_true, lguardB_decide_false, ldguardB_decide, Nat.reduceLT, Nat.reduceEqDiff, Nat.reduceAdd, Nat.reduceLeDiff, reduceIte, reduceCtorEq]
      · subst hj0
        have hix : aindexAddr tab 60 (.rs 1 (nm s.nx 0) 0 2) (.int .i64 ((1 : Nat) : Int)) = some (.ptr (nm s.nx 0) 1) := ix60r (by omega) (by omega)
        simp +contextual only [go_sem, hlen1, hlv, hix, hcX, hcY, lcondB_decide, lcondB_not, lguardB_decide_true, lguardB_decide_false, ldguardB_decide, Nat.reduceLT, Nat.reduceEqDiff, Nat.reduceAdd, Nat.reduceLeDiff, reduceIte, reduceCtorEq]
        refine lfunG_eq (many_ok _ Y (edv_sl Y) _) ?_
        by_cases c2 : 2000 < Y.length
        · simp +contextual only [go_sem, hlen1, hlv, c2, lcondB_decide, lcondB_not, lguardB_decide_true, lguardB_decide_false, ldguardB_decide, Nat.reduceLT, Nat.reduceEqDiff, Nat.reduceAdd, Nat.reduceLeDiff, reduceIte, reduceCtorEq]
          exact ⟨fun _ => lexit_pure (.refl s) (by simp only [low, lowL, and_self]) ⟨by rw [← hV, if_pos (.inr (.inr c2))]; rfl, rfl⟩, fun h => absurd h (by decide)⟩
        · simp +contextual only [go_sem, hlen, hlen1, hlv, c2, lcondB_decide, lcondB_not, lguardB_decide_true, lguardB_decide_false, ldguardB_decide, Nat.reduceLT, Nat.reduceEqDiff, Nat.reduceAdd, Nat.reduceLeDiff, reduceIte, reduceCtorEq]
          refine ⟨2, ⟨by omega, by omega, by omega⟩, by omega, ?_⟩
          refine To.go [0] _ rfl (.refl s) (by decide) (by simp) ?_ ?_
          · simp +contextual only [go_sem, hlen1, hlv, pu_ren (edv_pu _), lcondB_decide, lcondB_not, lguardB_decide_true, lguardB_decide_false, ldguardB_decide, Nat.reduceLT, Nat.reduceEqDiff, Nat.reduceAdd, Nat.reduceLeDiff, reduceIte, reduceCtorEq]
            rfl
          · simp only [go_sem, pu_ren (edv_pu _), lcondB_decide, lcondB_not, lguardB_decide_true, lguardB_decide_false, ldguardB_decide, Nat.reduceLT, Nat.reduceEqDiff, Nat.reduceAdd, Nat.reduceLeDiff, reduceIte, reduceCtorEq]
    · have hj2 : j = 2 := by omega
      subst hj2
      have hc2 : ¬ ((2 : Nat) : Int) < ((2 : Nat) : Int) := by omega
      simp +contextual only [go_sem, hlen1, hlv, hc2, lcondB_decide, lcondB_not, lguardB_decide_true, lguardB_decide_false, ldguardB_decide, Nat.reduceLT, Nat.reduceEqDiff, Nat.reduceAdd, Nat.reduceLeDiff, reduceIte, reduceCtorEq]
      have hX := hjX (by omega)
      have hY := hjY (by omega)
      exact lexit_pure (.refl s) (by simp only [low, lowL, and_true]; exact ⟨low.mono (Nat.zero_le _) (edv_pu _), low.mono (Nat.zero_le _) (edv_pu _)⟩) ⟨by rw [← hV, if_neg (by omega)], rfl⟩
end Go.S1N
end
section
set_option linter.unusedVariables false
set_option linter.unusedSimpArgs false
namespace Go.S1N
open Go Go.Am Go.Proofs Go.S1
set_option maxRecDepth 100000
set_option linter.unusedSimpArgs false
theorem insAt_nil (p : Int) : insAt [] p = [] := rfl
theorem goneB_nil (p : Int) : goneB [] p = false := rfl
theorem insAt_cons (e : Ed) (r : List Ed) (p : Int) : insAt (e :: r) p = if e.at_ = p then e.new else insAt r p := by
  unfold insAt
  rw [List.find?_cons]
  by_cases h : e.at_ = p <;> simp [h]
theorem goneB_cons (e : Ed) (r : List Ed) (p : Int) : goneB (e :: r) p = (decide (Ed.covers e p) || goneB r p) := by simp [goneB]
theorem insAt_none {l : List Ed} {p : Int} (h : ∀ e ∈ l, e.at_ ≠ p) : insAt l p = [] := by
  induction l with
  | nil => rfl
  | cons e l ih => rw [insAt_cons, if_neg (h e (List.mem_cons_self ..)), ih fun x hx => h x (List.mem_cons_of_mem _ hx)]
theorem goneB_none {l : List Ed} {p : Int} (h : ∀ e ∈ l, ¬ Ed.covers e p) : goneB l p = false := by
  unfold goneB
  rw [List.any_eq_false]
  intro e he; simpa using h e he
theorem cov_no {e : Ed} {q : Int} (h : q < e.at_ ∨ e.at_ + e.cut ≤ q) : decide (Ed.covers e q) = false := by
  rw [decide_eq_false_iff_not]; unfold Ed.covers; omega
theorem cov_yes {e : Ed} {q : Int} (h1 : e.at_ ≤ q) (h2 : q < e.at_ + e.cut) : decide (Ed.covers e q) = true := by
  rw [decide_eq_true_eq]; exact ⟨h1, h2⟩
theorem gB1_congr {a a' : List Ed} : ∀ {k : Nat} {p : Int}, (∀ q, p ≤ q → q < p + k → insAt a q = insAt a' q ∧ goneB a q = goneB a' q) → gB a [] k p = gB a' [] k p
  | 0, _, _ => rfl
  | k + 1, p, h => by
    obtain ⟨h1, h2⟩ := h p (by omega) (by omega)
    rw [gB, gB, h1, keepAB, keepAB, h2, gB1_congr fun q q1 q2 => h q (by omega) (by omega)]
theorem runI_of (a k : Nat) : runI a k = runOf a k := by rw [← rfl1_run, rfl1_kept]
theorem flow_pos (n : Nat) : ∀ (l : List Ed) (a : Nat), RS n l → (∀ e ∈ l, (a : Int) ≤ e.at_) → a ≤ n → flowFrom n a l = gB l [] (n - a) a ++ negL (insAt l n)
  | [], a, _, _, ha => by
    rw [flowFrom, gB_calm (ga := false) (gb := false) ⟨fun r _ _ => ⟨rfl, rfl, rfl, rfl⟩⟩, insAt_nil]
    simp [negL, runI_of]
  | e :: r, a, h, hle, ha => by
    obtain ⟨e1, e2, e3⟩ := h.each e (List.mem_cons_self ..)
    have hp := (List.pairwise_cons.1 h.pair).1
    have hea := hle e (List.mem_cons_self ..)
    obtain ⟨m, hm⟩ : ∃ m : Nat, e.at_ = m := ⟨e.at_.toNat, by omega⟩
    obtain ⟨c, hc⟩ : ∃ c : Nat, e.cut = c := ⟨e.cut.toNat, by omega⟩
    have hr0 : ∀ q : Int, q ≤ m + c → insAt r q = [] ∧ goneB r q = false := by
      intro q hq
      refine ⟨insAt_none fun x hx => ?_, goneB_none fun x hx => ?_⟩
      · have := hp x hx; omega
      · have := hp x hx; unfold Ed.covers; omega
    have ih := flow_pos n r (m + c) h.tail (fun x hx => by have := hp x hx; omega) (by omega)
    have s1 : gB (e :: r) [] (m - a) a = runOf a (m - a) := by
      rw [gB_calm (ga := false) (gb := false) ⟨fun q q1 q2 => ⟨?_, rfl, ?_, rfl⟩⟩]
      · simp [runI_of]
      · rw [insAt_cons, if_neg (by omega), (hr0 q (by omega)).1]
      · rw [goneB_cons, (hr0 q (by omega)).2, cov_no (by omega)]; rfl
    have s2 : gB (e :: r) [] (n - m) m ++ negL (insAt (e :: r) n) = negL e.new ++ (gB r [] (n - (m + c)) ((m + c : Nat) : Int) ++ negL (insAt r n)) := by
      by_cases hmn : m = n
      · have hc0 : c = 0 := by omega
        subst hc0 hmn
        rw [insAt_cons, if_pos hm, (hr0 m (by omega)).1]
        simp [gB, negL]
      · have hin : insAt (e :: r) n = insAt r n := by rw [insAt_cons, if_neg (by omega)]
        rw [hin]
        rw [← List.append_assoc]
        congr 1
        by_cases hc0 : c = 0
        · subst hc0
          obtain ⟨k, hk⟩ : ∃ k, n - m = k + 1 := ⟨n - m - 1, by omega⟩
          rw [Nat.add_zero, hk, gB, gB, insAt_cons, if_pos hm, (hr0 m (by omega)).1, keepAB, keepAB, goneB_cons, (hr0 m (by omega)).2, insAt_nil]
          rw [cov_no (by omega)]
          rw [gB1_congr (a := e :: r) (a' := r) fun q q1 q2 => ⟨by rw [insAt_cons, if_neg (by omega)], by rw [goneB_cons, cov_no (by omega)]; simp⟩]
          simp [negL]
        · obtain ⟨k, hk⟩ : ∃ k, c = k + 1 := ⟨c - 1, by omega⟩
          rw [show n - m = (k + (n - (m + c))) + 1 by omega, gB, insAt_cons, if_pos hm, gB_add, insAt_nil]
          rw [gB_calm (p := (m : Int) + 1) (k := k) (ga := true) (gb := false) ⟨fun q q1 q2 => ⟨by rw [insAt_cons, if_neg (by omega), (hr0 q (by omega)).1], rfl, by rw [goneB_cons, cov_yes (by omega) (by omega)]; simp, rfl⟩⟩]
          rw [keepAB, goneB_cons, cov_yes (by omega) (by omega)]
          rw [gB1_congr (a := e :: r) (a' := r) fun q q1 q2 => ⟨by rw [insAt_cons, if_neg (by omega)], by rw [goneB_cons, cov_no (by omega)]; simp⟩]
          rw [show (m : Int) + 1 + (k : Int) = ((m + c : Nat) : Int) by omega]
          simp [negL]
    rw [flowFrom, show (e.at_ + e.cut).toNat = m + c by omega, ih, show e.at_.toNat = m by omega]
    rw [show n - a = (m - a) + (n - m) by omega, gB_add, s1, show (a : Int) + ((m - a : Nat) : Int) = m by omega, List.append_assoc (runOf a (m - a)), List.append_assoc (runOf a (m - a)), s2]
    rw [show (e.new.map fun c => ((-1 : Int), c)) = negL e.new from rfl]
def insF (s : List UInt8) (f : Bool × Bool) : List ML := s.map fun c => ((-1, c), f)
theorem insM_at {n : Int} (p : Int) (f : Bool × Bool) : ∀ {l : List Ed}, RS n l → insM l p f = insF (insAt l p) f
  | [], _ => rfl
  | e :: r, h => by
    have ih := insM_at p f h.tail
    have e0 : insM (e :: r) p f = (if e.at_ = p then newM e f e.new.length else []) ++ insM r p f := by simp [insM]
    rw [e0, ih, insAt_cons]
    by_cases hp : e.at_ = p
    · rw [if_pos hp, if_pos hp, insAt_none fun x hx => by have := (List.pairwise_cons.1 h.pair).1 x hx; have := h.each e (List.mem_cons_self ..); omega]
      simp [newM, insF]
    · rw [if_neg hp, if_neg hp]; rfl
section
variable (a b : List Ed)
def gM : Nat → Int → List ML
  | 0, _ => []
  | k + 1, p => insF (insAt a p) (true, false) ++ (insF (insAt b p) (false, true) ++ ((if keepAB a b p then [((p, 0), false, false)] else []) ++ gM k (p + 1)))
end
section
variable {a b : List Ed}
theorem insF_neg (s : List UInt8) (f : Bool × Bool) : (insF s f).map (·.1) = negL s := by simp [insF, negL]
theorem gM_fst : ∀ (k : Nat) (p : Int), (gM a b k p).map (·.1) = gB a b k p
  | 0, _ => rfl
  | k + 1, p => by
    rw [gM, gB, List.map_append, List.map_append, List.map_append, insF_neg, insF_neg, gM_fst k]
    split <;> rfl
theorem gM_add (j k : Nat) : ∀ (p : Int), gM a b (j + k) p = gM a b j p ++ gM a b k (p + j) := by
  induction j with
  | zero => intro p; simp [gM]
  | succ j ih =>
    intro p
    rw [show j + 1 + k = (j + k) + 1 by omega, gM, gM, ih, show p + 1 + (j : Int) = p + ((j + 1 : Nat) : Int) by omega]
    simp only [List.append_assoc]
theorem mixAt_pos {n : Int} (ha : RS n a) (hb : RS n b) {p : Int} (hp : p < n) : mixAt a b n p = gM a b 1 p := by
  rw [mixAt, insM_at p _ ha, insM_at p _ hb, gM, gM, keptM, keepAB]
  by_cases h1 : goneB a p = true <;> by_cases h2 : goneB b p = true <;> simp [h1, h2, hp]
theorem mixL_pos {n : Nat} (ha : RS n a) (hb : RS n b) : ∀ k, k ≤ n → mixL a b n k = gM a b k 0
  | 0, _ => rfl
  | k + 1, h => by
    rw [mixL_succ, mixL_pos ha hb k (by omega), mixAt_pos ha hb (by omega), gM_add, Int.zero_add]
theorem mixL_all {n : Nat} (ha : RS n a) (hb : RS n b) : mixL a b n (n + 1) = gM a b n 0 ++ (insF (insAt a n) (true, false) ++ insF (insAt b n) (false, true)) := by
  rw [mixL_succ, mixL_pos ha hb n (Nat.le_refl _), mixAt, insM_at _ _ ha, insM_at _ _ hb, keptM, if_neg (by omega), List.append_nil]
theorem mixF_all {n : Nat} (ha : RS n a) (hb : RS n b) : mixF n a b = gB a b n 0 ++ (negL (insAt a n) ++ negL (insAt b n)) := by
  rw [mixF, mixL_all ha hb, List.map_append, List.map_append, insF_neg, insF_neg, gM_fst]
end
end Go.S1N
end
section
set_option linter.unusedVariables false
set_option linter.unusedSimpArgs false
namespace Go.S1N
open Go Go.Am Go.Proofs Go.S1
set_option maxRecDepth 100000
set_option linter.unusedSimpArgs false
def nrm (p : LT) : LT := if p.1 < 0 then p else (p.1, 0)
def nrmL (F : List LT) : List LT := F.map nrm
theorem nrm_app (F G : List LT) : nrmL (F ++ G) = nrmL F ++ nrmL G := List.map_append
theorem nrm_neg (s : List UInt8) : nrmL (negL s) = negL s := by
  unfold nrmL negL; rw [List.map_map]
  refine List.map_congr_left fun c _ => ?_
  simp [nrm]
theorem edGo_nrm (n : Int) : ∀ (F : List LT) (a : Int) (w : List UInt8), edGo n a w (nrmL F) = edGo n a w F
  | [], _, _ => rfl
  | p :: r, a, w => by
    have ih := fun a w => edGo_nrm n r a w
    show edGo n a w (nrm p :: nrmL r) = _
    by_cases h : p.1 < 0
    · rw [show nrm p = p from if_pos h, edGo, edGo, if_pos h, if_pos h, ih]
    · rw [show nrm p = (p.1, 0) from if_neg h, edGo, edGo, if_neg h, if_neg h, ih]
def idxI (x : Nat) (m : Nat) : List Int := (List.range m).map fun i : Nat => ((x + i : Nat) : Int)
theorem idxI_succ (x m : Nat) : idxI x (m + 1) = (x : Int) :: idxI (x + 1) m := by
  unfold idxI
  rw [List.range_succ_eq_map, List.map_cons, List.map_map]
  simp only [Nat.add_zero, List.cons.injEq, true_and]
  refine List.map_congr_left fun i _ => ?_
  simp only [Function.comp_apply, Nat.succ_eq_add_one]; omega
theorem idxI_len (x m : Nat) : (idxI x m).length = m := by simp [idxI]
theorem own_neg (r : List LT) : ∀ (s : List UInt8) (i : Nat), ownOf i (negL s ++ r) = idxI i s.length ++ ownOf (i + s.length) r
  | [], i => rfl
  | c :: s, i => by
    show ownOf i ((-1, c) :: (negL s ++ r)) = _
    rw [ownOf, if_pos (by simp), own_neg r s (i + 1), List.length_cons, idxI_succ, List.cons_append]
    congr 2; congr 1; omega
theorem own_kept (r : List LT) (i : Nat) {p : Int} (hp : 0 ≤ p) (c : UInt8) : ownOf i ((p, c) :: r) = ownOf (i + 1) r := by rw [ownOf, if_neg (by simp only; omega)]
theorem old_neg (r : List LT) (o : List Int) : ∀ (s : List UInt8) (i : Nat), oldOf i (negL s ++ r) o = oldOf (i + s.length) r o
  | [], i => rfl
  | c :: s, i => by
    show oldOf i ((-1, c) :: (negL s ++ r)) o = _
    rw [oldOf, if_pos (by simp), old_neg r o s (i + 1), List.length_cons]
    congr 1; omega
theorem old_kept (r : List LT) (o : List Int) (i : Nat) {p : Int} (hp : 0 ≤ p) (c : UInt8) : oldOf i ((p, c) :: r) o = oldOf (i + 1) r (o.set p.toNat i) := by rw [oldOf, if_neg (by simp only; omega)]
theorem old_skip {q : Nat} : ∀ (G : List LT) (i : Nat) (o : List Int), (∀ p ∈ G, p.1 < 0 ∨ p.1 ≠ q) → (oldOf i G o)[q]? = o[q]?
  | [], _, _, _ => rfl
  | p :: r, i, o, h => by
    have hr : ∀ p ∈ r, p.1 < 0 ∨ p.1 ≠ q := fun x hx => h x (List.mem_cons_of_mem _ hx)
    rw [oldOf]
    split
    · exact old_skip r (i + 1) o hr
    · rw [old_skip r (i + 1) _ hr, List.getElem?_set_ne]
      rcases h p (List.mem_cons_self ..) with h | h <;> omega
def stepN (a : List Ed) (p : Int) : Nat := (insAt a p).length + if goneB a p then 0 else 1
theorem stepN_A (a : List Ed) (p : Int) : ((stepN a p : Nat) : Int) = stepA a p := by
  unfold stepN stepA; split <;> simp
section
variable (a : List Ed)
def xN : Nat → Int → Nat → Nat
  | 0, _, x => x
  | k + 1, p, x => xN k (p + 1) (x + stepN a p)
end
theorem gB1_step (a : List Ed) (k : Nat) (p : Int) : gB a [] (k + 1) p = negL (insAt a p) ++ ((if goneB a p then [] else [(p, 0)]) ++ gB a [] k (p + 1)) := by
  rw [gB, keepAB, insAt_nil]
  cases goneB a p <;> simp [negL, goneB]
theorem gB1_ge (a : List Ed) : ∀ (k : Nat) (p : Int), ∀ q ∈ gB a [] k p, q.1 < 0 ∨ p ≤ q.1
  | 0, _ => by simp [gB]
  | k + 1, p => by
    intro q hq
    rw [gB1_step] at hq
    rcases List.mem_append.1 hq with h | h
    · obtain ⟨c, _, rfl⟩ := List.mem_map.1 h; left; simp
    · rcases List.mem_append.1 h with h | h
      · split at h
        · simp at h
        · rw [List.mem_singleton.1 h]; right; exact Int.le_refl _
      · rcases gB1_ge a k (p + 1) q h with h | h
        · exact .inl h
        · right; omega
theorem own_step (a : List Ed) (k : Nat) {p : Int} (hp : 0 ≤ p) (Z : List LT) (x : Nat) : ownOf x (gB a [] (k + 1) p ++ Z) = idxI x (insAt a p).length ++ ownOf (x + stepN a p) (gB a [] k (p + 1) ++ Z) := by
  rw [gB1_step, List.append_assoc, own_neg, List.append_assoc, stepN]
  cases goneB a p
  · simp only [Bool.false_eq_true, if_false, List.cons_append, List.nil_append]
    rw [own_kept _ _ hp]; congr 2
  · simp only [if_true, List.nil_append, Nat.add_zero]
theorem old_step (a : List Ed) (k : Nat) {p : Int} (hp : 0 ≤ p) (Z : List LT) (x : Nat) (o : List Int) : oldOf x (gB a [] (k + 1) p ++ Z) o = oldOf (x + stepN a p) (gB a [] k (p + 1) ++ Z) (if goneB a p then o else o.set p.toNat ((x + (insAt a p).length : Nat) : Int)) := by
  rw [gB1_step, List.append_assoc, old_neg, List.append_assoc, stepN]
  cases goneB a p
  · simp only [Bool.false_eq_true, if_false, List.cons_append, List.nil_append]
    rw [old_kept _ _ _ hp]; rfl
  · simp only [if_true, List.nil_append, Nat.add_zero]
def OldAt (a : List Ed) (old : List Int) : Nat → Int → Nat → Prop
  | 0, _, _ => True
  | k + 1, p, x => (goneB a p = false → old.getD p.toNat 0 = ((x + (insAt a p).length : Nat) : Int)) ∧ OldAt a old k (p + 1) (x + stepN a p)
theorem old_at (a : List Ed) (s : List UInt8) : ∀ (k : Nat) (p : Int) (x : Nat) (o : List Int), 0 ≤ p → (p + k).toNat ≤ o.length → OldAt a (oldOf x (gB a [] k p ++ negL s) o) k p x
  | 0, _, _, _, _, _ => trivial
  | k + 1, p, x, o, hp, hl => by
    rw [OldAt, old_step a k hp]
    refine ⟨fun hg => ?_, ?_⟩
    · rw [hg, List.getD_eq_getElem?_getD, old_skip]
      · simp only [Bool.false_eq_true, if_false]
        rw [List.getElem?_set_self (by omega)]; rfl
      · intro q hq
        rcases List.mem_append.1 hq with h | h
        · rcases gB1_ge a k (p + 1) q h with h | h
          · exact .inl h
          · right; omega
        · obtain ⟨c, _, rfl⟩ := List.mem_map.1 h; left; simp
    · refine old_at a s k (p + 1) _ _ (by omega) ?_
      split
      · omega
      · rw [List.length_set]; omega
def pastM (old own : List Int) (T : List ML) (sel : Bool × Bool → Bool) : List LT := pastGo old own (T.map (·.1)) (T.map fun x => sel x.2)
theorem past_ins (old own : List Int) (T : List ML) (sel : Bool × Bool → Bool) {f : Bool × Bool} (hf : sel f = true) : ∀ (s : List UInt8) (x : Nat), nrmL (pastM old (idxI x s.length ++ own) (insF s f ++ T) sel) = runI x s.length ++ nrmL (pastM old own T sel)
  | [], x => rfl
  | c :: s, x => by
    have ih := past_ins old own T sel hf s (x + 1)
    rw [List.length_cons, idxI_succ, runI_succ]
    show nrmL (pastGo old ((x : Int) :: (idxI (x + 1) s.length ++ own)) ((-1, c) :: (insF s f ++ T).map (·.1)) (sel f :: (insF s f ++ T).map fun x => sel x.2)) = _
    rw [pastGo, if_neg (by simp), if_pos hf]
    show nrm ((x : Int), c) :: nrmL (pastM old (idxI (x + 1) s.length ++ own) (insF s f ++ T) sel) = _
    rw [ih, show nrm ((x : Int), c) = ((x : Int), 0) from if_neg (by simp only; omega)]
    rfl
theorem past_other (old own : List Int) (T : List ML) (sel : Bool × Bool → Bool) {f : Bool × Bool} (hf : sel f = false) : ∀ (s : List UInt8), pastM old own (insF s f ++ T) sel = negL s ++ pastM old own T sel
  | [] => rfl
  | c :: s => by
    have ih := past_other old own T sel hf s
    show pastGo old own ((-1, c) :: (insF s f ++ T).map (·.1)) (sel f :: (insF s f ++ T).map fun x => sel x.2) = _
    rw [pastGo, if_neg (by simp), if_neg (by rw [hf]; decide)]
    show (-1, c) :: pastM old own (insF s f ++ T) sel = _
    rw [ih]; rfl
theorem past_kept (old own : List Int) (T : List ML) (sel : Bool × Bool → Bool) (f : Bool × Bool) {p : Int} (hp : 0 ≤ p) : pastM old own (((p, 0), f) :: T) sel = (old.getD p.toNat 0, 0) :: pastM old own T sel := by
  show pastGo old own ((p, 0) :: T.map (·.1)) (sel f :: T.map fun x => sel x.2) = _
  rw [pastGo, if_pos hp]; rfl
theorem pastM_nil (old own : List Int) (sel : Bool × Bool → Bool) : pastM old own [] sel = [] := rfl
theorem past_first (a b : List Ed) (old : List Int) (s t : List UInt8) : ∀ (k : Nat) (p : Int) (x : Nat), 0 ≤ p → OldAt a old k p x →
    nrmL (pastM old (ownOf x (gB a [] k p ++ negL s)) (gM a b k p ++ (insF s (true, false) ++ insF t (false, true))) (·.1)) = g1 a b k p x ++ (runI (xA a k p x) s.length ++ negL t)
  | 0, p, x, _, _ => by
    show nrmL (pastM old (ownOf x (negL s)) (insF s (true, false) ++ insF t (false, true)) (·.1)) = _
    rw [show negL s = negL s ++ [] by simp, own_neg, past_ins _ _ _ _ rfl]
    rw [show insF t (false, true) = insF t (false, true) ++ [] by simp, past_other _ _ _ _ rfl, pastM_nil, List.append_nil, nrm_neg]
    rfl
  | k + 1, p, x, hp, ho => by
    rw [OldAt] at ho
    have ih := past_first a b old s t k (p + 1) (x + stepN a p) (by omega) ho.2
    rw [own_step a k hp, gM, g1, xA, ← stepN_A, ← Int.natCast_add]
    simp only [List.append_assoc]
    rw [past_ins _ _ _ _ rfl, past_other _ _ _ _ rfl, nrm_app, nrm_neg]
    congr 2
    rw [keepAB]
    by_cases h1 : goneB a p = true
    · simp only [h1, Bool.not_true, Bool.false_and, Bool.false_eq_true, if_false, List.nil_append]; exact ih
    · have h1 : goneB a p = false := by simpa using h1
      by_cases h2 : goneB b p = true
      · simp only [h1, h2, Bool.not_true, Bool.and_false, Bool.false_eq_true, if_false, List.nil_append]; exact ih
      · have h2 : goneB b p = false := by simpa using h2
        simp only [h1, h2, Bool.not_false, Bool.and_true, if_true, List.cons_append, List.nil_append]
        rw [past_kept _ _ _ _ _ hp, ho.1 h1]
        show nrm _ :: nrmL _ = _
        rw [ih, show nrm (((x + (insAt a p).length : Nat) : Int), 0) = (((x + (insAt a p).length : Nat) : Int), 0) from if_neg (by simp only; omega)]
        rfl
theorem past_second (a b : List Ed) (old : List Int) (s t : List UInt8) : ∀ (k : Nat) (p : Int) (x : Nat), 0 ≤ p → OldAt b old k p x →
    nrmL (pastM old (ownOf x (gB b [] k p ++ negL t)) (gM a b k p ++ (insF s (true, false) ++ insF t (false, true))) (·.2)) = g2 a b k p x ++ (negL s ++ runI (xA b k p x) t.length)
  | 0, p, x, _, _ => by
    show nrmL (pastM old (ownOf x (negL t)) (insF s (true, false) ++ insF t (false, true)) (·.2)) = _
    rw [past_other _ _ _ _ rfl, nrm_app, nrm_neg, show negL t = negL t ++ [] by simp, own_neg, show insF t (false, true) = insF t (false, true) ++ [] by simp, past_ins _ _ _ _ rfl, pastM_nil]
    simp [nrmL, g2, xA]
  | k + 1, p, x, hp, ho => by
    rw [OldAt] at ho
    have ih := past_second a b old s t k (p + 1) (x + stepN b p) (by omega) ho.2
    rw [own_step b k hp, gM, g2, xA, ← stepN_A, ← Int.natCast_add]
    simp only [List.append_assoc]
    rw [past_other _ _ _ _ rfl, nrm_app, nrm_neg, past_ins _ _ _ _ rfl]
    congr 2
    rw [keepAB]
    by_cases h1 : goneB a p = true
    · simp only [h1, Bool.not_true, Bool.false_and, Bool.false_eq_true, if_false, List.nil_append]; exact ih
    · have h1 : goneB a p = false := by simpa using h1
      by_cases h2 : goneB b p = true
      · simp only [h1, h2, Bool.not_true, Bool.and_false, Bool.false_eq_true, if_false, List.nil_append]; exact ih
      · have h2 : goneB b p = false := by simpa using h2
        simp only [h1, h2, Bool.not_false, Bool.and_true, if_true, List.cons_append, List.nil_append]
        rw [past_kept _ _ _ _ _ hp, ho.1 h2]
        show nrm _ :: nrmL _ = _
        rw [ih, show nrm (((x + (insAt b p).length : Nat) : Int), 0) = (((x + (insAt b p).length : Nat) : Int), 0) from if_neg (by simp only; omega)]
        rfl
def needM (T : List ML) (sel : Bool × Bool → Bool) : Nat := need (T.map (·.1)) (T.map fun x => sel x.2)
theorem need_ins (T : List ML) (sel : Bool × Bool → Bool) (f : Bool × Bool) : ∀ s : List UInt8, needM (insF s f ++ T) sel = (if sel f then s.length else 0) + needM T sel
  | [] => by simp [insF]
  | c :: s => by
    have ih := need_ins T sel f s
    show need ((-1, c) :: (insF s f ++ T).map (·.1)) (sel f :: (insF s f ++ T).map fun x => sel x.2) = _
    rw [need]
    show _ + needM (insF s f ++ T) sel = _
    rw [ih, List.length_cons]
    cases sel f <;> simp <;> omega
theorem need_kept (T : List ML) (sel : Bool × Bool → Bool) (f : Bool × Bool) {p : Int} (hp : 0 ≤ p) : needM (((p, 0), f) :: T) sel = needM T sel := by
  show need ((p, 0) :: T.map (·.1)) (sel f :: T.map fun x => sel x.2) = _
  rw [need, if_neg (by simp only; omega), Nat.zero_add]; rfl
theorem need_first (a b : List Ed) (s t : List UInt8) : ∀ (k : Nat) (p : Int) (x : Nat), 0 ≤ p → needM (gM a b k p ++ (insF s (true, false) ++ insF t (false, true))) (·.1) = (ownOf x (gB a [] k p ++ negL s)).length
  | 0, p, x, _ => by
    show needM (insF s (true, false) ++ insF t (false, true)) (·.1) = (ownOf x (negL s)).length
    rw [show negL s = negL s ++ [] by simp, own_neg, need_ins, show insF t (false, true) = insF t (false, true) ++ [] by simp, need_ins]
    simp [needM, need, ownOf, idxI_len]
  | k + 1, p, x, hp => by
    have ih := need_first a b s t k (p + 1) (x + stepN a p) (by omega)
    rw [own_step a k hp, gM]
    simp only [List.append_assoc]
    rw [need_ins, need_ins, List.length_append, idxI_len, ← ih]
    simp only [Bool.false_eq_true, if_true, if_false, Nat.zero_add]
    cases keepAB a b p
    · simp only [Bool.false_eq_true, if_false, List.nil_append]
    · simp only [if_true, List.cons_append, List.nil_append]
      rw [need_kept _ _ _ hp]
theorem need_second (a b : List Ed) (s t : List UInt8) : ∀ (k : Nat) (p : Int) (x : Nat), 0 ≤ p → needM (gM a b k p ++ (insF s (true, false) ++ insF t (false, true))) (·.2) = (ownOf x (gB b [] k p ++ negL t)).length
  | 0, p, x, _ => by
    show needM (insF s (true, false) ++ insF t (false, true)) (·.2) = (ownOf x (negL t)).length
    rw [show negL t = negL t ++ [] by simp, own_neg, need_ins, show insF t (false, true) = insF t (false, true) ++ [] by simp, need_ins]
    simp [needM, need, ownOf, idxI_len]
  | k + 1, p, x, hp => by
    have ih := need_second a b s t k (p + 1) (x + stepN b p) (by omega)
    rw [own_step b k hp, gM]
    simp only [List.append_assoc]
    rw [need_ins, need_ins, List.length_append, idxI_len, ← ih]
    simp only [Bool.false_eq_true, if_true, if_false, Nat.zero_add]
    cases keepAB a b p
    · simp only [Bool.false_eq_true, if_false, List.nil_append]
    · simp only [if_true, List.cons_append, List.nil_append]
      rw [need_kept _ _ _ hp]
end Go.S1N
end
section
set_option linter.unusedVariables false
set_option linter.unusedSimpArgs false
namespace Go.S1N
open Go Go.Am Go.Proofs Go.S1
set_option maxRecDepth 100000
set_option linter.unusedSimpArgs false
theorem hasAt_none {l : List Ed} {p : Int} (h : hasAt l p = false) : insAt l p = [] := by
  refine insAt_none fun e he => ?_
  unfold hasAt at h
  rw [List.any_eq_false] at h
  simpa using h e he
theorem rflow_one (r : Rn) : rflow [r] = rfl1 r := by simp [rflow]
theorem rfl1_runI (p z : Int) : rfl1 ⟨p, z, []⟩ = runI p z.toNat := by simp only [rfl1, ne_eq, not_true_eq_false, if_false, runI]
section
variable (a b : List Ed) (p : Int)
theorem mtA_both (x : Int) : rflow (mtA a p x).both = negL (insAt a p) ∧ rflow (mtA a p x).first = runI x (insAt a p).length ∧ rflow (mtA a p x).second = negL (insAt a p) ∧ (mtA a p x).long = (insAt a p).length := by
  unfold mtA
  by_cases h : hasAt a p = true
  · rw [if_pos h]; simp only [rflow_one, rfl1_fresh, rfl1_run, and_self]
  · rw [if_neg h, hasAt_none (by simpa using h)]; simp [Mt.nil, rflow, negL, runI_zero]
theorem mtB_both (y : Int) : rflow (mtB b p y).both = negL (insAt b p) ∧ rflow (mtB b p y).first = negL (insAt b p) ∧ rflow (mtB b p y).second = runI y (insAt b p).length ∧ (mtB b p y).long = (insAt b p).length := by
  unfold mtB
  by_cases h : hasAt b p = true
  · rw [if_pos h]; simp only [rflow_one, rfl1_fresh, rfl1_run, and_self]
  · rw [if_neg h, hasAt_none (by simpa using h)]; simp [Mt.nil, rflow, negL, runI_zero]
theorem mtK_both (k : Bool) (x y z : Int) : rflow (mtK k p x y z).both = (if k then runI p z.toNat else []) ∧ rflow (mtK k p x y z).first = (if k then runI x z.toNat else []) ∧ rflow (mtK k p x y z).second = (if k then runI y z.toNat else []) ∧ (mtK k p x y z).long = if k then z else 0 := by
  unfold mtK
  cases k <;> simp [Mt.nil, rflow, rfl1_runI]
end
def Neigh (a b : List Ed) (n : Int) : List Int → Prop
  | [] => False
  | [p] => p = n
  | p :: q :: r => p < q ∧ Calm a b (p + 1) (q - p - 1).toNat (goneB a p) (goneB b p) ∧ Neigh a b n (q :: r)
theorem neigh_le {a b : List Ed} {n : Int} : ∀ {P : List Int} {p : Int}, Neigh a b n (p :: P) → p ≤ n
  | [], p, h => by rw [Neigh] at h; omega
  | q :: r, p, h => by
    have := neigh_le h.2.2
    have := h.1
    omega
section
variable {a b : List Ed} {p q : Int}
theorem seg_B (h : p < q) (hc : Calm a b (p + 1) (q - p - 1).toNat (goneB a p) (goneB b p)) : gB a b (q - p).toNat p = negL (insAt a p) ++ (negL (insAt b p) ++ if (!goneB a p && !goneB b p) then runI p (q - p).toNat else []) := by
  rw [show (q - p).toNat = (q - p - 1).toNat + 1 by omega, gB, gB_calm hc, keepAB]
  cases goneB a p <;> cases goneB b p <;> simp [runI_succ]
theorem seg_1 (h : p < q) (hc : Calm a b (p + 1) (q - p - 1).toNat (goneB a p) (goneB b p)) (x : Int) : g1 a b (q - p).toNat p x = runI x (insAt a p).length ++ (negL (insAt b p) ++ if (!goneB a p && !goneB b p) then runI (x + (insAt a p).length) (q - p).toNat else []) := by
  rw [show (q - p).toNat = (q - p - 1).toNat + 1 by omega, g1, g1_calm hc, keepAB, stepA]
  cases goneB a p <;> cases goneB b p <;> simp [runI_succ, Int.add_assoc]
theorem seg_2 (h : p < q) (hc : Calm a b (p + 1) (q - p - 1).toNat (goneB a p) (goneB b p)) (y : Int) : g2 a b (q - p).toNat p y = negL (insAt a p) ++ (runI y (insAt b p).length ++ if (!goneB a p && !goneB b p) then runI (y + (insAt b p).length) (q - p).toNat else []) := by
  rw [show (q - p).toNat = (q - p - 1).toNat + 1 by omega, g2, g2_calm hc, keepAB, stepA]
  cases goneB a p <;> cases goneB b p <;> simp [runI_succ, Int.add_assoc]
theorem seg_x (h : p < q) (hc : Calm a b (p + 1) (q - p - 1).toNat (goneB a p) (goneB b p)) (x : Int) : xA a (q - p).toNat p x = x + (insAt a p).length + (if goneB a p then 0 else q - p) ∧ xA b (q - p).toNat p x = x + (insAt b p).length + (if goneB b p then 0 else q - p) := by
  have h1 := fun x => (xA_calm (x := x) hc).1
  have h2 := fun x => (xA_calm (x := 0) hc).2 x
  rw [show (q - p).toNat = (q - p - 1).toNat + 1 by omega, xA, xA, h1, h2, stepA, stepA]
  constructor
  · cases goneB a p <;> simp; omega
  · cases goneB b p <;> simp; omega
end
theorem rapp (m k : Mt) : rflow (m.app k).both = rflow m.both ++ rflow k.both ∧ rflow (m.app k).first = rflow m.first ++ rflow k.first ∧ rflow (m.app k).second = rflow m.second ++ rflow k.second ∧ (m.app k).long = m.long + k.long := ⟨rflow_app _ _, rflow_app _ _, rflow_app _ _, rfl⟩
theorem meet_flow (a b : List Ed) (n : Int) : ∀ (P : List Int) (p x y : Int), Neigh a b n (p :: P) →
    rflow (meetGo a b (p :: P) x y).both = gB a b (n - p).toNat p ++ (negL (insAt a n) ++ negL (insAt b n)) ∧
    rflow (meetGo a b (p :: P) x y).first = g1 a b (n - p).toNat p x ++ (runI (xA a (n - p).toNat p x) (insAt a n).length ++ negL (insAt b n)) ∧
    rflow (meetGo a b (p :: P) x y).second = g2 a b (n - p).toNat p y ++ (negL (insAt a n) ++ runI (xA b (n - p).toNat p y) (insAt b n).length) ∧
    (meetGo a b (p :: P) x y).long = ((gB a b (n - p).toNat p ++ (negL (insAt a n) ++ negL (insAt b n))).length : Nat)
  | [], p, x, y, h => by
    rw [Neigh] at h
    subst h
    obtain ⟨a1, a2, a3, a4⟩ := mtA_both a p x
    obtain ⟨b1, b2, b3, b4⟩ := mtB_both b p y
    obtain ⟨r1, r2, r3, r4⟩ := rapp (mtA a p x) (mtB b p y)
    rw [meetGo, r1, r2, r3, r4, a1, a2, a3, a4, b1, b2, b3, b4]
    simp [gB, g1, g2, xA, negL]
  | q :: r, p, x, y, h => by
    obtain ⟨h1, h2, h3⟩ := h
    have hqn := neigh_le h3
    have e1 : (n - p).toNat = (q - p).toNat + (n - q).toNat := by omega
    have e2 : p + ((q - p).toNat : Int) = q := by omega
    obtain ⟨i1, i2, i3, i4⟩ := meet_flow a b n r q (x + (insAt a p).length + if goneB a p then 0 else q - p) (y + (insAt b p).length + if goneB b p then 0 else q - p) h3
    obtain ⟨a1, a2, a3, a4⟩ := mtA_both a p x
    obtain ⟨b1, b2, b3, b4⟩ := mtB_both b p y
    obtain ⟨k1, k2, k3, k4⟩ := mtK_both p (!goneB a p && !goneB b p) (x + (insAt a p).length) (y + (insAt b p).length) (q - p)
    rw [meetGo, (rapp _ _).1, (rapp _ _).2.1, (rapp _ _).2.2.1, (rapp _ _).2.2.2, (rapp (mtA _ _ _) _).1, (rapp (mtA _ _ _) _).2.1, (rapp (mtA _ _ _) _).2.2.1, (rapp (mtA _ _ _) _).2.2.2, (rapp (mtK _ _ _ _ _) _).1, (rapp (mtK _ _ _ _ _) _).2.1, (rapp (mtK _ _ _ _ _) _).2.2.1, (rapp (mtK _ _ _ _ _) _).2.2.2]
    rw [a1, a2, a3, a4, b1, b2, b3, b4, k1, k2, k3, k4, i1, i2, i3, i4, e1, gB_add, g1_add, g2_add, xA_add, xA_add, e2, seg_B h1 h2, seg_1 h1 h2, seg_2 h1 h2, (seg_x h1 h2 x).1, (seg_x h1 h2 y).2]
    refine ⟨by simp only [List.append_assoc], by simp only [List.append_assoc], by simp only [List.append_assoc], ?_⟩
    simp only [List.length_append, show ∀ s, (negL s).length = s.length from fun s => by simp [negL]]
    cases (!goneB a p && !goneB b p)
    · simp only [Bool.false_eq_true, if_false, List.length_nil]; omega
    · simp only [if_true, runI_len]; omega
theorem calm_of {a b : List Ed} {p q : Int} (h : ∀ z ∈ ends (a ++ b), z ≤ p ∨ q ≤ z) : Calm a b (p + 1) (q - p - 1).toNat (goneB a p) (goneB b p) := by
  have key : ∀ (l : List Ed), (∀ e ∈ l, e ∈ a ++ b) → ∀ r, p + 1 ≤ r → r < q → insAt l r = [] ∧ goneB l r = goneB l p := by
    intro l hl r r1 r2
    have he : ∀ e ∈ l, (e.at_ ≤ p ∨ q ≤ e.at_) ∧ (e.at_ + e.cut ≤ p ∨ q ≤ e.at_ + e.cut) := fun e h1 =>
      ⟨h _ (ends_mem.2 ⟨e, hl e h1, .inl rfl⟩), h _ (ends_mem.2 ⟨e, hl e h1, .inr rfl⟩)⟩
    refine ⟨insAt_none fun e h1 => by have := (he e h1).1; omega, ?_⟩
    unfold goneB
    rw [Bool.eq_iff_iff, List.any_eq_true, List.any_eq_true]
    constructor
    · rintro ⟨e, h1, h2⟩
      refine ⟨e, h1, ?_⟩
      have := he e h1
      simp only [decide_eq_true_eq] at h2 ⊢
      unfold Ed.covers at h2 ⊢
      omega
    · rintro ⟨e, h1, h2⟩
      refine ⟨e, h1, ?_⟩
      have := he e h1
      simp only [decide_eq_true_eq] at h2 ⊢
      unfold Ed.covers at h2 ⊢
      omega
  refine ⟨fun r r1 r2 => ?_⟩
  obtain ⟨a1, a2⟩ := key a (fun e h => List.mem_append_left _ h) r r1 (by omega)
  obtain ⟨b1, b2⟩ := key b (fun e h => List.mem_append_right _ h) r r1 (by omega)
  exact ⟨a1, b1, a2, b2⟩
theorem neigh_of {a b : List Ed} {n : Int} : ∀ (L : List Int) (p : Int), (p :: L).Pairwise (fun x y => x < y) → (∀ x ∈ p :: L, x ≤ n) → n ∈ p :: L → (∀ z ∈ ends (a ++ b), z ∈ p :: L ∨ z < p) → Neigh a b n (p :: L)
  | [], p, _, _, hn, _ => by rw [Neigh]; exact (List.mem_singleton.1 hn).symm
  | q :: r, p, hp, hle, hn, he => by
    obtain ⟨h1, h2⟩ := List.pairwise_cons.1 hp
    have hpq := h1 q (List.mem_cons_self ..)
    have hqn := hle q (by simp)
    refine ⟨hpq, calm_of fun z hz => ?_, neigh_of r q h2 (fun x hx => hle x (List.mem_cons_of_mem _ hx)) ?_ fun z hz => ?_⟩
    · rcases he z hz with h | h
      · rcases List.mem_cons.1 h with rfl | h
        · exact .inl (Int.le_refl _)
        · right
          rcases List.mem_cons.1 h with rfl | h
          · exact Int.le_refl _
          · exact Int.le_of_lt ((List.pairwise_cons.1 h2).1 z h)
      · left; omega
    · rcases List.mem_cons.1 hn with h | h
      · omega
      · exact h
    · rcases he z hz with h | h
      · rcases List.mem_cons.1 h with rfl | h
        · exact .inr hpq
        · exact .inl h
      · right; omega
theorem ends_in {n : Int} {l : List Ed} (h : RS n l) : ∀ z ∈ ends l, 0 ≤ z ∧ z ≤ n := by
  intro z hz
  obtain ⟨e, he, h2⟩ := ends_mem.1 hz
  have := h.each e he
  omega
theorem ends_app (a b : List Ed) : ends (a ++ b) = ends a ++ ends b := by simp [ends]
theorem places_in {n : Int} {a b : List Ed} (hn : 0 ≤ n) (ha : RS n a) (hb : RS n b) : ∀ x ∈ placesL n a b, 0 ≤ x ∧ x ≤ n := by
  intro x hx
  rcases (places_mem n a b x).1 hx with rfl | rfl | h
  · omega
  · omega
  · rw [ends_app] at h
    rcases List.mem_append.1 h with h | h
    · exact ends_in ha x h
    · exact ends_in hb x h
theorem places_head {n : Int} {a b : List Ed} (hn : 0 ≤ n) (ha : RS n a) (hb : RS n b) : ∃ L, placesL n a b = 0 :: L ∧ Neigh a b n (0 :: L) := by
  have h0 : (0 : Int) ∈ placesL n a b := (places_mem n a b 0).2 (.inl rfl)
  have hnn : n ∈ placesL n a b := (places_mem n a b n).2 (.inr (.inl rfl))
  have hin := places_in hn ha hb
  have hlt := places_lt n a b
  have hends : ∀ z ∈ ends (a ++ b), z ∈ placesL n a b := fun z hz => (places_mem n a b z).2 (.inr (.inr hz))
  generalize placesL n a b = Q at *
  cases Q with
  | nil => simp at h0
  | cons p L =>
    have hp : p = 0 := by
      rcases List.mem_cons.1 h0 with h | h
      · exact h.symm
      · have := (List.pairwise_cons.1 hlt).1 0 h
        have := hin p (List.mem_cons_self ..)
        omega
    subst hp
    exact ⟨L, rfl, neigh_of L 0 hlt (fun x hx => (hin x hx).2) hnn fun z hz => .inl (hends z hz)⟩
end Go.S1N
end
section
set_option linter.unusedVariables false
set_option linter.unusedSimpArgs false
namespace Go.S1N
open Go Go.Am Go.Proofs Go.S1
set_option maxRecDepth 100000
set_option linter.unusedSimpArgs false
theorem clash_drop {n : Int} (x : Ed) : ∀ {b : List Ed}, RS n b → ∃ u, b = u ++ b.dropWhile (fun y => decide (y.at_ + y.cut < x.at_)) ∧ ∀ y ∈ u, y.at_ + y.cut < x.at_
  | [], _ => ⟨[], rfl, by simp⟩
  | y :: b, h => by
    by_cases hy : y.at_ + y.cut < x.at_
    · obtain ⟨u, h1, h2⟩ := clash_drop x h.tail
      refine ⟨y :: u, ?_, ?_⟩
      · rw [List.dropWhile_cons, if_pos (by simpa using hy), List.cons_append, ← h1]
      · intro z hz
        rcases List.mem_cons.1 hz with rfl | hz
        · exact hy
        · exact h2 z hz
    · exact ⟨[], by rw [List.dropWhile_cons, if_neg (by simpa using hy)]; rfl, by simp⟩
theorem drop_head (x : Ed) : ∀ (b : List Ed) (y : Ed) (r : List Ed), b.dropWhile (fun y => decide (y.at_ + y.cut < x.at_)) = y :: r → ¬ y.at_ + y.cut < x.at_
  | [], _, _, h => by simp at h
  | z :: b, y, r, h => by
    by_cases hz : z.at_ + z.cut < x.at_
    · rw [List.dropWhile_cons, if_pos (by simpa using hz)] at h
      exact drop_head x b y r h
    · rw [List.dropWhile_cons, if_neg (by simpa using hz)] at h
      cases h; exact hz
theorem RS.app {n : Int} {u v : List Ed} (h : RS n (u ++ v)) : RS n v := ⟨fun e he => h.each e (List.mem_append_right _ he), (List.pairwise_append.1 h.pair).2.1⟩
theorem clashR_nil (a : List Ed) : clashR a [] = false := by
  unfold clashR; rw [List.any_eq_false]; intro x _; simp
theorem clashR_skip {n : Int} {a u v : List Ed} (ha : RS n a) (h : ∀ x ∈ a, ∀ y ∈ u, y.at_ + y.cut < x.at_) : clashR a (u ++ v) = clashR a v := by
  unfold clashR
  rw [Bool.eq_iff_iff, List.any_eq_true, List.any_eq_true]
  constructor
  · rintro ⟨x, hx, h2⟩
    refine ⟨x, hx, ?_⟩
    rw [List.any_append, Bool.or_eq_true] at h2
    rcases h2 with h2 | h2
    · obtain ⟨y, hy, h3⟩ := List.any_eq_true.1 h2
      have := h x hx y hy
      simp only [decide_eq_true_eq] at h3
      unfold touch at h3; omega
    · exact h2
  · rintro ⟨x, hx, h2⟩
    exact ⟨x, hx, by rw [List.any_append, h2, Bool.or_true]⟩
theorem clash_law {n : Int} : ∀ (a b : List Ed), RS n a → RS n b → clashGo a b = clashR a b
  | [], b, _, _ => rfl
  | x :: a, b, ha, hb => by
    obtain ⟨hxa, _⟩ := List.pairwise_cons.1 ha.pair
    have hx := ha.each x (List.mem_cons_self ..)
    obtain ⟨u, h1, h2⟩ := clash_drop x hb
    have hd := drop_head x b
    rw [clashGo]
    generalize b.dropWhile (fun y => decide (y.at_ + y.cut < x.at_)) = v at h1 hd
    subst h1
    have hv := RS.app hb
    have hskip : clashR (x :: a) (u ++ v) = clashR (x :: a) v := clashR_skip ha fun z hz y hy => by
      have := h2 y hy
      rcases List.mem_cons.1 hz with rfl | hz
      · exact this
      · have := hxa z hz; omega
    rw [hskip]
    cases v with
    | nil => simp only; rw [clash_law a [] ha.tail ⟨by simp, .nil⟩, clashR_nil, clashR_nil]
    | cons y r =>
      simp only
      by_cases hc : y.at_ ≤ x.at_ + x.cut
      · rw [if_pos hc]
        have h3 := hd y r rfl
        have ht : touch x y := ⟨by omega, hc⟩
        rw [clashR, List.any_cons, List.any_cons, decide_eq_true ht]; rfl
      · rw [if_neg hc, clash_law a (y :: r) ha.tail hv]
        have : (y :: r).any (fun z => decide (touch x z)) = false := by
          rw [List.any_eq_false]
          intro z hz
          simp only [decide_eq_true_eq]
          have hzz : y.at_ ≤ z.at_ := by
            rcases List.mem_cons.1 hz with rfl | hz
            · omega
            · have := (List.pairwise_cons.1 hv.pair).1 z hz
              have := hv.each y (List.mem_cons_self ..)
              omega
          unfold touch; omega
        rw [clashR, clashR, List.any_cons, this, Bool.false_or]
end Go.S1N
end
section
set_option linter.unusedVariables false
set_option linter.unusedSimpArgs false
namespace Go.S1N
open Go Go.Am Go.Proofs Go.S1
set_option maxRecDepth 100000
set_option linter.unusedSimpArgs false
def rB (M K n : Nat) (r : Rn) : Prop := 0 ≤ r.at_ ∧ r.at_ ≤ M ∧ 0 ≤ r.long ∧ r.long ≤ ((K + n : Nat) : Int) ∧ r.text.length ≤ K
theorem mt_bnd {a b : List Ed} {M K n : Nat} (hnM : n ≤ M) (ka : ∀ p, (insAt a p).length ≤ K) (kb : ∀ p, (insAt b p).length ≤ K) : ∀ (P : List Int) (x y : Int), P.Pairwise (fun u v => u < v) → (∀ p ∈ P, 0 ≤ p ∧ p ≤ n) → 0 ≤ x → 0 ≤ y →
    x + ((P.length * (K + n) : Nat) : Int) ≤ M → y + ((P.length * (K + n) : Nat) : Int) ≤ M →
    ((∀ r ∈ (meetGo a b P x y).both, rB M K n r) ∧ (∀ r ∈ (meetGo a b P x y).first, rB M K n r) ∧ ∀ r ∈ (meetGo a b P x y).second, rB M K n r) ∧
    (meetGo a b P x y).both.length ≤ 3 * P.length ∧ (meetGo a b P x y).first.length ≤ 3 * P.length ∧ (meetGo a b P x y).second.length ≤ 3 * P.length
  | [], x, y, _, _, _, _, _, _ => by simp [meetGo, Mt.nil]
  | p :: P, x, y, hp, hin, hx, hy, hxM, hyM => by
    obtain ⟨h1, h2⟩ := List.pairwise_cons.1 hp
    have hp0 := hin p (List.mem_cons_self ..)
    have hka := ka p
    have hkb := kb p
    rw [List.length_cons, Nat.succ_mul] at hxM hyM
    have bA : (∀ r ∈ (mtA a p x).both, rB M K n r) ∧ (∀ r ∈ (mtA a p x).first, rB M K n r) ∧ ∀ r ∈ (mtA a p x).second, rB M K n r := by
      unfold mtA
      split
      · refine ⟨?_, ?_, ?_⟩ <;> (intro r hr; rw [List.mem_singleton.1 hr]; unfold rB; simp only [List.length_nil]; omega)
      · simp [Mt.nil]
    have bB : (∀ r ∈ (mtB b p y).both, rB M K n r) ∧ (∀ r ∈ (mtB b p y).first, rB M K n r) ∧ ∀ r ∈ (mtB b p y).second, rB M K n r := by
      unfold mtB
      split
      · refine ⟨?_, ?_, ?_⟩ <;> (intro r hr; rw [List.mem_singleton.1 hr]; unfold rB; simp only [List.length_nil]; omega)
      · simp [Mt.nil]
    have lA := mtA_len .nil a p x
    have lB := mtB_len .nil b p y
    simp only [Mt.nil_app] at lA lB
    simp only [Mt.nil, List.length_nil] at lA lB
    cases P with
    | nil =>
      rw [meetGo]
      refine ⟨⟨?_, ?_, ?_⟩, ?_⟩
      · intro r hr; rcases List.mem_append.1 hr with h | h; exact bA.1 r h; exact bB.1 r h
      · intro r hr; rcases List.mem_append.1 hr with h | h; exact bA.2.1 r h; exact bB.2.1 r h
      · intro r hr; rcases List.mem_append.1 hr with h | h; exact bA.2.2 r h; exact bB.2.2 r h
      · simp only [Mt.app, List.length_append, List.length_cons, List.length_nil]; omega
    | cons q P =>
      have hpq := h1 q (List.mem_cons_self ..)
      have hq := hin q (by simp)
      have hxx : ∀ (g : Bool) (z : Int) (u : List UInt8), 0 ≤ z → u.length ≤ K → z + ((((q :: P).length * (K + n) + (K + n) : Nat)) : Int) ≤ M → 0 ≤ z + (u.length : Int) + (if g then 0 else q - p) ∧ z + (u.length : Int) + (if g then 0 else q - p) + (((q :: P).length * (K + n) : Nat) : Int) ≤ M := by
        intro g z u h1 h2 h3
        cases g <;> simp only [Bool.false_eq_true, if_false, if_true] <;> omega
      have ex := hxx (goneB a p) x (insAt a p) hx hka hxM
      have ey := hxx (goneB b p) y (insAt b p) hy hkb hyM
      obtain ⟨⟨i1, i2, i3⟩, i4, i5, i6⟩ := mt_bnd hnM ka kb (q :: P) _ _ h2 (fun z hz => hin z (List.mem_cons_of_mem _ hz)) ex.1 ey.1 ex.2 ey.2
      have bK : ∀ k : Bool, ((∀ r ∈ (mtK k p (x + (insAt a p).length) (y + (insAt b p).length) (q - p)).both, rB M K n r) ∧ (∀ r ∈ (mtK k p (x + (insAt a p).length) (y + (insAt b p).length) (q - p)).first, rB M K n r) ∧ ∀ r ∈ (mtK k p (x + (insAt a p).length) (y + (insAt b p).length) (q - p)).second, rB M K n r) ∧
          (mtK k p (x + (insAt a p).length) (y + (insAt b p).length) (q - p)).both.length ≤ 1 ∧ (mtK k p (x + (insAt a p).length) (y + (insAt b p).length) (q - p)).first.length ≤ 1 ∧ (mtK k p (x + (insAt a p).length) (y + (insAt b p).length) (q - p)).second.length ≤ 1 := by
        intro k
        unfold mtK
        cases k
        · simp [Mt.nil]
        · refine ⟨⟨?_, ?_, ?_⟩, by simp⟩ <;> (intro r hr; simp only [if_true] at hr; rw [List.mem_singleton.1 hr]; unfold rB; simp only [List.length_nil]; omega)
      rw [meetGo]
      obtain ⟨⟨k1, k2, k3⟩, k4, k5, k6⟩ := bK (!goneB a p && !goneB b p)
      refine ⟨⟨?_, ?_, ?_⟩, ?_⟩
      · intro r hr
        rcases List.mem_append.1 hr with h | h
        · rcases List.mem_append.1 h with h | h; exact bA.1 r h; exact bB.1 r h
        · rcases List.mem_append.1 h with h | h; exact k1 r h; exact i1 r h
      · intro r hr
        rcases List.mem_append.1 hr with h | h
        · rcases List.mem_append.1 h with h | h; exact bA.2.1 r h; exact bB.2.1 r h
        · rcases List.mem_append.1 h with h | h; exact k2 r h; exact i2 r h
      · intro r hr
        rcases List.mem_append.1 hr with h | h
        · rcases List.mem_append.1 h with h | h; exact bA.2.2 r h; exact bB.2.2 r h
        · rcases List.mem_append.1 h with h | h; exact k3 r h; exact i3 r h
      · simp only [Mt.app, List.length_append, List.length_cons] at i4 i5 i6 ⊢; omega
theorem insAt_tot (l : List Ed) (p : Int) : (insAt l p).length ≤ totN l := by
  induction l with
  | nil => simp [insAt]
  | cons e l ih =>
    rw [insAt_cons, totN, List.flatMap_cons, List.length_append]
    unfold totN at ih
    split <;> omega
theorem bothErr_zero {n : Int} {a b : List Ed} (h : bothErr n a b = 0) : faultOf n a = 0 ∧ faultOf n b = 0 := by
  unfold bothErr at h
  split at h
  · rename_i h1; exact absurd h h1
  · rename_i h1; exact ⟨by simpa using h1, h⟩
theorem gB_mem {a b : List Ed} : ∀ (k : Nat) (p : Int), ∀ q ∈ gB a b k p, q.1 = -1 ∨ (p ≤ q.1 ∧ q.1 < p + k)
  | 0, _ => by simp [gB]
  | k + 1, p => by
    intro q hq
    rw [gB] at hq
    have hneg : ∀ s, q ∈ negL s → q.1 = -1 := by
      intro s h
      obtain ⟨c, _, rfl⟩ := List.mem_map.1 h
      rfl
    rcases List.mem_append.1 hq with h | h
    · exact .inl (hneg _ h)
    rcases List.mem_append.1 h with h | h
    · exact .inl (hneg _ h)
    rcases List.mem_append.1 h with h | h
    · split at h
      · rw [List.mem_singleton.1 h]; right; simp only; omega
      · simp at h
    · rcases gB_mem k (p + 1) q h with h | h
      · exact .inl h
      · right; omega
theorem neg_mem {s : List UInt8} {q : LT} (h : q ∈ negL s) : q.1 = -1 := by
  obtain ⟨c, _, rfl⟩ := List.mem_map.1 h
  rfl
structure Pre (n : Nat) (a b : List Ed) : Prop where
  hn : n ≤ 1000
  ta : totN a ≤ 1000
  tb : totN b ≤ 1000
section
variable {n : Nat} {a b : List Ed}
theorem Pre.ra (h : bothErr n a b = 0) : RS n a ∧ RS n b := by
  obtain ⟨h1, h2⟩ := bothErr_zero h
  obtain ⟨_, _, _, s1⟩ := faultOf_zero h1
  obtain ⟨_, _, _, s2⟩ := faultOf_zero h2
  exact ⟨(scan_rs s1).1, (scan_rs s2).1⟩
theorem Pre.flowA (h : bothErr n a b = 0) : flowFrom n 0 a = gB a [] n 0 ++ negL (insAt a n) := by
  have hr := (Pre.ra h).1
  have := flow_pos n a 0 hr (fun e he => by have := hr.each e he; omega) (by omega)
  simpa using this
theorem Pre.flowB (h : bothErr n a b = 0) : flowFrom n 0 b = gB b [] n 0 ++ negL (insAt b n) := by
  have hr := (Pre.ra h).2
  have := flow_pos n b 0 hr (fun e he => by have := hr.each e he; omega) (by omega)
  simpa using this
theorem Pre.pok (hp : Pre n a b) (h : bothErr n a b = 0) : POk n a b := by
  obtain ⟨h1, h2⟩ := bothErr_zero h
  obtain ⟨_, _, la, s1⟩ := faultOf_zero h1
  obtain ⟨_, _, lb, s2⟩ := faultOf_zero h2
  obtain ⟨ra, rb⟩ := Pre.ra h
  have hn := hp.hn
  refine ⟨hp.hn, by omega, by omega, hp.ta, hp.tb, fun e he => by have := ra.each e he; omega, fun e he => by have := rb.each e he; omega, s1, s2, ?_, ?_, ?_, ?_, ?_⟩
  · intro q hq
    rw [Pre.flowA h] at hq
    rcases List.mem_append.1 hq with h | h
    · have := gB_mem n 0 q h; omega
    · have := neg_mem h; omega
  · intro q hq
    rw [Pre.flowB h] at hq
    rcases List.mem_append.1 hq with h | h
    · have := gB_mem n 0 q h; omega
    · have := neg_mem h; omega
  · intro x hx
    have hx2 : x.1 ∈ mixF n a b := List.mem_map.2 ⟨x, hx, rfl⟩
    rw [mixF_all ra rb] at hx2
    rcases List.mem_append.1 hx2 with h | h
    · have := gB_mem n 0 _ h; omega
    · rcases List.mem_append.1 h with h | h <;> (have := neg_mem h; omega)
  · rw [mixL_all ra rb, Pre.flowA h]
    exact Nat.le_of_eq (need_first a b (insAt a n) (insAt b n) n 0 0 (by omega))
  · rw [mixL_all ra rb, Pre.flowB h]
    exact Nat.le_of_eq (need_second a b (insAt a n) (insAt b n) n 0 0 (by omega))
theorem Pre.newA (hp : Pre n a b) : ∀ e ∈ a, e.new.length ≤ 100000 := fun e he => Nat.le_trans (totN_mem he) (by have := hp.ta; omega)
theorem Pre.newB (hp : Pre n a b) : ∀ e ∈ b, e.new.length ≤ 100000 := fun e he => Nat.le_trans (totN_mem he) (by have := hp.tb; omega)
theorem Pre.mok (hp : Pre n a b) (h : bothErr n a b = 0) : MOk n a b := by
  obtain ⟨h1, h2⟩ := bothErr_zero h
  obtain ⟨_, _, la, s1⟩ := faultOf_zero h1
  obtain ⟨_, _, lb, s2⟩ := faultOf_zero h2
  obtain ⟨ra, rb⟩ := Pre.ra h
  have hn := hp.hn
  have fa := flow_short h1 hp.newA
  have fb := flow_short h2 hp.newB
  have hin := places_in (by omega) ra rb
  have hlt := places_lt n a b
  have hpl : (placesL n a b).length ≤ 10000 := by
    have hc := compact_len ((0 :: (n : Int) :: ends (a ++ b)).mergeSort fun x y => decide (x ≤ y))
    rw [List.length_mergeSort, List.length_cons, List.length_cons, ends_len, List.length_append] at hc
    unfold placesL
    omega
  have ka : ∀ p, (insAt a p).length ≤ 1000 := fun p => Nat.le_trans (insAt_tot a p) hp.ta
  have kb : ∀ p, (insAt b p).length ≤ 1000 := fun p => Nat.le_trans (insAt_tot b p) hp.tb
  have hmul : (placesL n a b).length * (1000 + n) ≤ 10000 * 2000 := Nat.mul_le_mul hpl (by omega)
  have hrn : ∀ r, rB 900000000 1000 n r → 0 ≤ r.at_ ∧ r.at_ ≤ 1000000000 ∧ r.at_ + r.long ≤ 1000000000 ∧ 0 ≤ r.long ∧ r.text.length ≤ 1000000 := by
    intro r hr; unfold rB at hr; omega
  obtain ⟨⟨b1, b2, b3⟩, l1, l2, l3⟩ := mt_bnd (M := 900000000) (by omega) ka kb (placesL n a b) 0 0 hlt hin (by omega) (by omega) (by omega) (by omega)
  refine ⟨by omega, by omega, by omega, ra, rb, fun p => by have := ka p; omega, fun p => by have := kb p; omega, fun p hp => by have := hin p hp; omega, hpl, ?_, by omega, by omega, ⟨fun r hr => hrn r (b1 r hr), by omega⟩, ⟨fun r hr => hrn r (b2 r hr), by omega⟩, ⟨fun r hr => hrn r (b3 r hr), by omega⟩⟩
  intro i p q hp1 hq1
  obtain ⟨i1, e1⟩ := List.getElem?_eq_some_iff.1 hp1
  obtain ⟨i2, e2⟩ := List.getElem?_eq_some_iff.1 hq1
  have := List.pairwise_iff_getElem.1 hlt i (i + 1) i1 i2 (by omega)
  omega
theorem meet_eq (hp : Pre n a b) (h : bothErr n a b = 0) :
    rGo n 0 [] (meetGo a b (placesL n a b) 0 0).both = edGo n 0 [] (mixF n a b) ∧ rGo (longOf n a) 0 [] (meetGo a b (placesL n a b) 0 0).first = pastA n a b ∧
    rGo (longOf n b) 0 [] (meetGo a b (placesL n a b) 0 0).second = pastB n a b ∧ (meetGo a b (placesL n a b) 0 0).long = ((mixF n a b).length : Nat) := by
  obtain ⟨h1, h2⟩ := bothErr_zero h
  obtain ⟨ra, rb⟩ := Pre.ra h
  have m := hp.mok h
  have fa := flow_short h1 hp.newA
  have fb := flow_short h2 hp.newB
  obtain ⟨L, eL, hN⟩ := places_head (by omega) ra rb
  have g1' := m.b1.1
  have g2' := m.b2.1
  have g3' := m.b3.1
  rw [rGo_flow _ _ _ _ fun r hr => (g1' r hr).1, rGo_flow _ _ _ _ fun r hr => (g2' r hr).1, rGo_flow _ _ _ _ fun r hr => (g3' r hr).1, eL]
  obtain ⟨f1, f2, f3, f4⟩ := meet_flow a b n L 0 0 0 hN
  rw [f1, f2, f3, f4, mixF_all ra rb]
  rw [show ((n : Int) - 0).toNat = n by omega]
  refine ⟨rfl, ?_, ?_, rfl⟩
  · rw [pastA]
    refine Eq.trans ?_ (edGo_nrm _ _ _ _)
    rw [fa.2, pastF, Pre.flowA h, mixF, mixL_all ra rb]
    have := past_first a b (oldOf 0 (gB a [] n 0 ++ negL (insAt a n)) (List.replicate n (-1))) (insAt a n) (insAt b n) n 0 0 (by omega) (old_at a (insAt a n) n 0 0 _ (by omega) (by simp))
    exact congrArg _ this.symm
  · rw [pastB]
    refine Eq.trans ?_ (edGo_nrm _ _ _ _)
    rw [fb.2, pastF, Pre.flowB h, mixF, mixL_all ra rb]
    have := past_second a b (oldOf 0 (gB b [] n 0 ++ negL (insAt b n)) (List.replicate n (-1))) (insAt a n) (insAt b n) n 0 0 (by omega) (old_at b (insAt b n) n 0 0 _ (by omega) (by simp))
    exact congrArg _ this.symm
theorem past_eq (hp : Pre n a b) : pastE n a b = pastR n a b := by
  unfold pastE pastR
  by_cases h : bothErr n a b = 0
  · obtain ⟨_, e2, e3, e4⟩ := meet_eq hp h
    simp only [h, ne_eq, not_true_eq_false, if_false, e2, e3, e4]
    by_cases c : 20000 < (mixF n a b).length ∨ 2000 < (pastA n a b).length ∨ 2000 < (pastB n a b).length
    · rw [if_pos c, if_pos (by omega)]
    · rw [if_neg c, if_neg (by omega)]
  · rw [if_pos h, if_pos h]
theorem both_eq (hp : Pre n a b) : bothE n a b = bothR n a b := by
  unfold bothE bothR
  by_cases h : bothErr n a b = 0
  · obtain ⟨e1, _, _, e4⟩ := meet_eq hp h
    simp only [h, ne_eq, not_true_eq_false, if_false, e1, e4]
    by_cases c : 20000 < (mixF n a b).length ∨ 2000 < (edGo n 0 [] (mixF n a b)).length
    · rw [if_pos c, if_pos (by omega)]
    · rw [if_neg c, if_neg (by omega)]
  · rw [if_pos h, if_pos h]
theorem clash_eq : clashE n a b = (decide (bothErr n a b = 0) && clashR a b, bothErr n a b) := by
  unfold clashE
  by_cases h : bothErr n a b = 0
  · obtain ⟨ra, rb⟩ := Pre.ra h
    rw [if_neg (by simpa using h), clash_law a b ra rb, h]; rfl
  · rw [if_pos h]; simp [h]
end
end Go.S1N
end
section
set_option linter.unusedVariables false
set_option linter.unusedSimpArgs false
namespace Go.S1N
open Go Go.Am Go.Proofs Go.S1
set_option maxRecDepth 100000
set_option linter.unusedSimpArgs false
attribute [local irreducible] lopsB lvb lstepB lfunG lcondB lguardB ldrawB ldrunB ldstepB ldguardB lmem lval ldmem ldval ldfun lexit ldloadB ldlenB lpostB athen ablock
end Go.S1N
end
section
set_option linter.unusedVariables false
set_option linter.unusedSimpArgs false
namespace Go.S1N
open Go Go.Am Go.Proofs Go.S1
set_option maxRecDepth 100000
set_option linter.unusedSimpArgs false
theorem abin_bb {x : Bool} : abin tab .eql 4 (.bool x) (.bool x) = some (.bool true) := by simp [abin, abin1, aeq, ty4]
attribute [local irreducible] lopsB lvb lstepB lfunG lcondB lguardB ldrawB ldrunB ldstepB ldguardB lmem lval ldmem ldval ldfun lexit ldloadB ldlenB lpostB athen ablock
theorem totN_le {l : List Ed} (hl : l.length ≤ 4) (h : ∀ e ∈ l, e.new.length ≤ 4) : totN l ≤ 1000 := by
  have : ∀ l : List Ed, (∀ e ∈ l, e.new.length ≤ 4) → totN l ≤ 4 * l.length := by
    intro l
    induction l with
    | nil => intro _; simp [totN]
    | cons e l ih =>
      intro h
      have h1 := h e (List.mem_cons_self ..)
      have h2 := ih fun x hx => h x (List.mem_cons_of_mem _ hx)
      unfold totN at h2 ⊢
      rw [List.flatMap_cons, List.length_append, List.length_cons]; omega
  have := this l h
  omega
theorem pastR_short (n : Nat) (a b : List Ed) : (pastR n a b).1.length ≤ 2000 ∧ (pastR n a b).2.1.length ≤ 2000 := by
  unfold pastR
  split
  · simp
  · split
    · simp
    · simp only; omega
theorem bothR_short (n : Nat) (a b : List Ed) : (bothR n a b).1.length ≤ 2000 := by
  unfold bothR
  split
  · simp
  · split
    · simp
    · simp only; omega
set_option maxHeartbeats 1000000 in
theorem changesPass_ok (v : AV) (L : List Int) (hv : IsInts v L) (hL : L.length < 4611686018427387904) (s : AHeap) :
    ACall Try.prog 7 [v] s fun r t => r = .bool true ∧ t = s := by
  refine gob7 (by simp) ?_
  intro tm hlen harg
  simp +contextual only [go_sem, L7, hlen, harg, ints_cells hv, ints_israw hv, lcondB_decide, lcondB_not, lguardB_decide_true, lguardB_decide_false, ldguardB_decide, Nat.reduceLT, Nat.reduceEqDiff, Nat.reduceAdd, Nat.reduceLeDiff, reduceIte, reduceCtorEq]
  have hS : ∀ (a : Int) (n : Nat) (l : List (Nat × Option AObj)), 0 ≤ a → a < 4000000000000000000 → Sm (loc s (n + 1) ((0, some (strm v a)) :: l)) (nm s.nx 0) v L a := fun a n l h1 h2 =>
    ⟨hv, hL, h1, h2, by rw [nx_loc, nm_lt]; omega, by simp only [go_sem, lcondB_decide, lcondB_not, lguardB_decide_true, lguardB_decide_false, ldguardB_decide, Nat.reduceLT, Nat.reduceEqDiff, Nat.reduceAdd, Nat.reduceLeDiff, reduceIte, reduceCtorEq]⟩
  refine lfunG_eq (rangeS (hS 0 0 [] (by omega) (by omega)) 0 10 (by omega) (by omega) (by omega)) ?_
  have hr := nextOf_lt L 0 (n := 10 - 0 + 1) (by omega) (by omega)
  obtain ⟨n, hn⟩ : ∃ n : Nat, 0 + nextOf L 0 (10 - 0 + 1) = n := ⟨(nextOf L 0 (10 - 0 + 1)).toNat, by omega⟩
  have hn10 : n ≤ 10 := by omega
  simp +contextual only [go_sem, hlen, harg, ints_cells hv, ints_israw hv, hn, lcondB_decide, lcondB_not, lguardB_decide_true, lguardB_decide_false, ldguardB_decide, Nat.reduceLT, Nat.reduceEqDiff, Nat.reduceAdd, Nat.reduceLeDiff, reduceIte, reduceCtorEq]
  refine lfunG_of (changeS (hS _ _ _ (by omega) (by omega)) (by omega) _) ?_
  rintro _ _ ⟨a, k1, rfl, ha, hna, hk1, rfl⟩
  simp +contextual only [go_sem, hlen, harg, lcondB_decide, lcondB_not, lguardB_decide_true, lguardB_decide_false, ldguardB_decide, Nat.reduceLT, Nat.reduceEqDiff, Nat.reduceAdd, Nat.reduceLeDiff, reduceIte, reduceCtorEq]
  refine lfunG_of (changeS (hS _ _ _ (by omega) (by omega)) (by omega) _) ?_
  rintro _ _ ⟨b, k2, rfl, hb, hnb, hk2, rfl⟩
  have hp : Pre n a b := ⟨by omega, totN_le ha hna, totN_le hb hnb⟩
  simp +contextual only [go_sem, hlen, harg, lcondB_decide, lcondB_not, lguardB_decide_true, lguardB_decide_false, ldguardB_decide, Nat.reduceLT, Nat.reduceEqDiff, Nat.reduceAdd, Nat.reduceLeDiff, reduceIte, reduceCtorEq]
  have cP := fun s => past_ok n a b (by omega) (by omega) hp.mok s
  have cB := fun s => both_ok n a b (by omega) (by omega) hp.mok s
  have hE : bothErr n a b = 0 → ∀ e ∈ a ++ b, -1000000000000 ≤ e.at_ + e.cut ∧ e.at_ + e.cut ≤ 1000000000000 := by
    intro h e he
    have q := hp.pok h
    rcases List.mem_append.1 he with h | h
    · exact q.hea e h
    · exact q.heb e h
  have cC := fun s => clash_ok n a b (by omega) (by omega) hE s
  have cR := fun s => pastOf_ok n a b (by omega) (by omega) hp.pok s
  have cS := fun s => bothOf_ok n a b (by omega) (by omega) hp.pok s
  have hz : errsOf [faultOf n a, faultOf n b] = bothErr n a b := by
    simp only [errsOf, bothErr]
    by_cases h : faultOf n b = 0 <;> simp [h]
  have sP := pastR_short n a b
  have sB := bothR_short n a b
  simp only [past_eq hp, both_eq hp, clash_eq] at cP cB cC
  refine lfunG_eq (cP _) ?_
  simp +contextual only [go_sem, hlen, harg, lcondB_decide, lcondB_not, lguardB_decide_true, lguardB_decide_false, ldguardB_decide, Nat.reduceLT, Nat.reduceEqDiff, Nat.reduceAdd, Nat.reduceLeDiff, reduceIte, reduceCtorEq]
  refine lfunG_eq (cB _) ?_
  simp +contextual only [go_sem, hlen, harg, lcondB_decide, lcondB_not, lguardB_decide_true, lguardB_decide_false, ldguardB_decide, Nat.reduceLT, Nat.reduceEqDiff, Nat.reduceAdd, Nat.reduceLeDiff, reduceIte, reduceCtorEq]
  refine lfunG_eq (cC _) ?_
  simp +contextual only [go_sem, hlen, harg, lcondB_decide, lcondB_not, lguardB_decide_true, lguardB_decide_false, ldguardB_decide, Nat.reduceLT, Nat.reduceEqDiff, Nat.reduceAdd, Nat.reduceLeDiff, reduceIte, reduceCtorEq]
  refine lfunG_eq (exact_of (by simp only [Pu, low, lowL, and_self]) (fault_ok _ _ a (edv_sl a) (by omega) _)) ?_
  simp +contextual only [go_sem, hlen, harg, lcondB_decide, lcondB_not, lguardB_decide_true, lguardB_decide_false, ldguardB_decide, Nat.reduceLT, Nat.reduceEqDiff, Nat.reduceAdd, Nat.reduceLeDiff, reduceIte, reduceCtorEq]
  refine lfunG_eq (exact_of (by simp only [Pu, low, lowL, and_self]) (fault_ok _ _ b (edv_sl b) (by omega) _)) ?_
  simp +contextual only [go_sem, hlen, harg, lcondB_decide, lcondB_not, lguardB_decide_true, lguardB_decide_false, ldguardB_decide, Nat.reduceLT, Nat.reduceEqDiff, Nat.reduceAdd, Nat.reduceLeDiff, reduceIte, reduceCtorEq]
  refine lfunG_eq (errs_ok _ [faultOf n a, faultOf n b] (some 31) (by simp) _ (by simp only [go_sem, List.map_cons, lcondB_decide, lcondB_not, lguardB_decide_true, lguardB_decide_false, ldguardB_decide, Nat.reduceLT, Nat.reduceEqDiff, Nat.reduceAdd, Nat.reduceLeDiff, reduceIte, reduceCtorEq])) ?_
  rw [hz]
  simp +contextual only [go_sem, hlen, harg, lcondB_decide, lcondB_not, lguardB_decide_true, lguardB_decide_false, ldguardB_decide, Nat.reduceLT, Nat.reduceEqDiff, Nat.reduceAdd, Nat.reduceLeDiff, reduceIte, reduceCtorEq]
  refine lfunG_eq (cR _) ?_
  simp +contextual only [go_sem, hlen, harg, lcondB_decide, lcondB_not, lguardB_decide_true, lguardB_decide_false, ldguardB_decide, Nat.reduceLT, Nat.reduceEqDiff, Nat.reduceAdd, Nat.reduceLeDiff, reduceIte, reduceCtorEq]
  refine lfunG_eq (cS _) ?_
  generalize pastR n a b = X at *
  generalize bothR n a b = Y at *
  by_cases h0 : bothErr n a b = 0
  · simp +contextual only [go_sem, hlen, harg, h0, lcondB_decide, lcondB_not, lguardB_decide_true, lguardB_decide_false, ldguardB_decide, Nat.reduceLT, Nat.reduceEqDiff, Nat.reduceAdd, Nat.reduceLeDiff, reduceIte, reduceCtorEq]
    refine lfunG_eq (clashOf_ok a b (by omega) (by omega) (hE h0) _) ?_
    simp +contextual only [go_sem, hlen, harg, h0, lcondB_decide, lcondB_not, lguardB_decide_true, lguardB_decide_false, ldguardB_decide, Nat.reduceLT, Nat.reduceEqDiff, Nat.reduceAdd, Nat.reduceLeDiff, reduceIte, reduceCtorEq]
    refine lfunG_eq (same33 _ (by omega) _) ?_
    simp +contextual only [go_sem, hlen, harg, abin_bb, Bool.false_and, lcondB_decide, lcondB_not, lguardB_decide_true, lguardB_decide_false, ldguardB_decide, Nat.reduceLT, Nat.reduceEqDiff, Nat.reduceAdd, Nat.reduceLeDiff, reduceIte, reduceCtorEq]
    refine lfunG_eq (same33 _ (by omega) _) ?_
    simp +contextual only [go_sem, hlen, harg, abin_bb, Bool.false_and, lcondB_decide, lcondB_not, lguardB_decide_true, lguardB_decide_false, ldguardB_decide, Nat.reduceLT, Nat.reduceEqDiff, Nat.reduceAdd, Nat.reduceLeDiff, reduceIte, reduceCtorEq]
    refine lfunG_eq (same33 _ (by omega) _) ?_
    simp +contextual only [go_sem, hlen, harg, abin_bb, Bool.false_and, lcondB_decide, lcondB_not, lguardB_decide_true, lguardB_decide_false, ldguardB_decide, Nat.reduceLT, Nat.reduceEqDiff, Nat.reduceAdd, Nat.reduceLeDiff, reduceIte, reduceCtorEq]
    refine lfunG_eq (edited_ok _) ?_
    simp only [go_sem, hlen, harg, lcondB_decide, lcondB_not, lguardB_decide_true, lguardB_decide_false, ldguardB_decide, Nat.reduceLT, Nat.reduceEqDiff, Nat.reduceAdd, Nat.reduceLeDiff, reduceIte, reduceCtorEq]
    exact lexit_pure (.refl s) (by simp only [low]) ⟨rfl, rfl⟩
  · simp +contextual only [go_sem, hlen, harg, h0, lcondB_decide, lcondB_not, lguardB_decide_true, lguardB_decide_false, ldguardB_decide, Nat.reduceLT, Nat.reduceEqDiff, Nat.reduceAdd, Nat.reduceLeDiff, reduceIte, reduceCtorEq]
    refine lfunG_eq (same33 _ (by omega) _) ?_
    simp +contextual only [go_sem, hlen, harg, abin_bb, Bool.false_and, lcondB_decide, lcondB_not, lguardB_decide_true, lguardB_decide_false, ldguardB_decide, Nat.reduceLT, Nat.reduceEqDiff, Nat.reduceAdd, Nat.reduceLeDiff, reduceIte, reduceCtorEq]
    refine lfunG_eq (same33 _ (by omega) _) ?_
    simp +contextual only [go_sem, hlen, harg, abin_bb, Bool.false_and, lcondB_decide, lcondB_not, lguardB_decide_true, lguardB_decide_false, ldguardB_decide, Nat.reduceLT, Nat.reduceEqDiff, Nat.reduceAdd, Nat.reduceLeDiff, reduceIte, reduceCtorEq]
    refine lfunG_eq (same33 _ (by omega) _) ?_
    simp +contextual only [go_sem, hlen, harg, abin_bb, Bool.false_and, lcondB_decide, lcondB_not, lguardB_decide_true, lguardB_decide_false, ldguardB_decide, Nat.reduceLT, Nat.reduceEqDiff, Nat.reduceAdd, Nat.reduceLeDiff, reduceIte, reduceCtorEq]
    refine lfunG_eq (edited_ok _) ?_
    simp only [go_sem, hlen, harg, lcondB_decide, lcondB_not, lguardB_decide_true, lguardB_decide_false, ldguardB_decide, Nat.reduceLT, Nat.reduceEqDiff, Nat.reduceAdd, Nat.reduceLeDiff, reduceIte, reduceCtorEq]
    exact lexit_pure (.refl s) (by simp only [low]) ⟨rfl, rfl⟩
end Go.S1N
end
