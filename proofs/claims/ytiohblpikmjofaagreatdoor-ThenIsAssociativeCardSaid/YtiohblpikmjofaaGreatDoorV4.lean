/- Part 4 of a proof: texts of this work, put together. -/
import Derived.Test.YtiohblpikmjofaaGreatDoorV3
import Derived.KernelRfl
import Derived.Test.YtiohblpikmjofaaGreatDoorRows
section
set_option linter.unusedVariables false
set_option linter.unusedSimpArgs false
namespace Go.S1N
open Go Go.Am Go.Proofs Go.S1
set_option maxRecDepth 100000
set_option linter.unusedSimpArgs false
attribute [local irreducible] lopsB lvb lstepB lfunG lcondB lguardB ldrawB ldrunB ldstepB ldguardB lmem lval ldmem ldval ldfun lexit ldloadB ldlenB lpostB athen ablock
theorem thenX_ok (n : Nat) (v w : AV) (a b : List Ed) (hv : SlE v a) (hw : SlE w b) (hal : a.length < 4611686018427387904) (hbl : b.length < 4611686018427387904) (hna : ∀ e ∈ a, e.new.length ≤ 100000) (hnb : ∀ e ∈ b, e.new.length ≤ 100000) (hn : n ≤ 20000) (s : AHeap) :
    ACall Tryz.prog 17 [.int .i64 n, v, w] s fun r t => r = .tuple [edv (thenVal n a b).1, .int .i64 (thenVal n a b).2] ∧ t = s := by
  refine gob17 (by simp) ?_
  intro tm hlen harg
  simp +contextual only [go_sem, L17, hlen, harg, lcondB_decide, lcondB_not, lguardB_decide_true, lguardB_decide_false, ldguardB_decide, Nat.reduceLT, Nat.reduceEqDiff, Nat.reduceAdd, Nat.reduceLeDiff, reduceIte, reduceCtorEq]
  refine lfunG_eq (checkE _ _ a hv hal _) ?_
  simp +contextual only [go_sem, hlen, harg, lcondB_decide, lcondB_not, lguardB_decide_true, lguardB_decide_false, ldguardB_decide, Nat.reduceLT, Nat.reduceEqDiff, Nat.reduceAdd, Nat.reduceLeDiff, reduceIte, reduceCtorEq]
  refine ⟨fun c => ?_, fun c => ?_⟩
  · refine lexit_pure (.refl s) (by simp only [low, lowL, and_self]) ⟨?_, rfl⟩
    rw [thenVal, if_pos c]; rfl
  have c : faultOf n a = 0 := by simpa using c
  have hsh := (flow_short c hna).2
  refine lfunG_eq (longE _ _ a hv hal _) ?_
  simp +contextual only [go_sem, hlen, harg, hsh, lcondB_decide, lcondB_not, lguardB_decide_true, lguardB_decide_false, ldguardB_decide, Nat.reduceLT, Nat.reduceEqDiff, Nat.reduceAdd, Nat.reduceLeDiff, reduceIte, reduceCtorEq]
  refine lfunG_eq (checkE _ _ b hw hbl _) ?_
  simp +contextual only [go_sem, hlen, harg, lcondB_decide, lcondB_not, lguardB_decide_true, lguardB_decide_false, ldguardB_decide, Nat.reduceLT, Nat.reduceEqDiff, Nat.reduceAdd, Nat.reduceLeDiff, reduceIte, reduceCtorEq]
  refine ⟨fun d => ?_, fun d => ?_⟩
  · refine lexit_pure (.refl s) (by simp only [low, lowL, and_self]) ⟨?_, rfl⟩
    rw [thenVal, if_neg (by simpa using c), if_pos d]; rfl
  have d : faultOf (flowFrom n 0 a).length b = 0 := by simpa using d
  refine lfunG_eq (thenE_ok n _ _ a b hv hw hn c d hna hnb _) ?_
  have hV : thenVal n a b = if 2000 < (edGo n 0 [] (overF (flowFrom n 0 a) (flowFrom (flowFrom n 0 a).length 0 b))).length then ([], 2) else (edGo n 0 [] (overF (flowFrom n 0 a) (flowFrom (flowFrom n 0 a).length 0 b)), 0) := by
    rw [thenVal, if_neg (by simpa using c), if_neg (by simpa using d)]
  rw [hV]
  generalize edGo n 0 [] (overF (flowFrom n 0 a) (flowFrom (flowFrom n 0 a).length 0 b)) = E
  simp +contextual only [go_sem, hlen, harg, (edv_sl E).len, lcondB_decide, lcondB_not, lguardB_decide_true, lguardB_decide_false, ldguardB_decide, Nat.reduceLT, Nat.reduceEqDiff, Nat.reduceAdd, Nat.reduceLeDiff, reduceIte, reduceCtorEq]
  refine ⟨fun h => ?_, fun h => ?_⟩
  · rw [if_pos (by omega)]
    exact lexit_pure (.refl s) (by simp only [low, lowL, and_self]) ⟨rfl, rfl⟩
  · rw [if_neg (by omega)]
    exact lexit_pure (.refl s) (by simp only [low, lowL, and_self, and_true]; exact low.mono (Nat.zero_le _) (edv_pu _)) ⟨rfl, rfl⟩
theorem long_flow {n : Nat} {l : List Ed} (hn : n ≤ 20000) (hl : l.length ≤ 2000) (hs : scan n (-1) l = 0) (hnew : ∀ e ∈ l, e.new.length ≤ 100000) : longOf n l = (flowFrom n 0 l).length := by
  have q1 := flow_dl n l 0 (-1) (.inr ⟨rfl, rfl⟩) (by omega) hs
  have q2 := long_dl l n (fun e he => ⟨hnew e he, by have := scan_range l _ hs e he; omega⟩) (by omega) (by omega)
  omega
theorem then_zero {n : Nat} {a b : List Ed} (hnb : ∀ e ∈ b, e.new.length ≤ 100000) (h : (thenVal n a b).2 = 0) :
    faultOf n (thenVal n a b).1 = 0 ∧ (flowFrom n 0 (thenVal n a b).1).length = (flowFrom (flowFrom n 0 a).length 0 b).length := by
  obtain ⟨c, d, h1, h2, h3⟩ := then_right hnb h
  obtain ⟨g1, g2, g3, g4⟩ := faultOf_zero c
  obtain ⟨k1, k2, k3, k4⟩ := faultOf_zero d
  obtain ⟨r1, r2⟩ := over_right n a b g4 k4
  rw [← h1] at r1 r2
  have hlen : (flowFrom n 0 (thenVal n a b).1).length = (flowFrom (flowFrom n 0 a).length 0 b).length := by rw [r2, overF, List.length_map]
  refine ⟨?_, hlen⟩
  have hl := long_flow (by omega) h2 r1 (fun e he => by have := h3 e he; omega)
  have hs := (flow_short d hnb).1
  rw [faultOf_end ⟨g1, g2⟩ (by omega) r1, if_neg (by omega)]
theorem then_val {n : Nat} {a b : List Ed} (c : faultOf n a = 0) (d : faultOf (flowFrom n 0 a).length b = 0) :
    thenVal n a b = if 2000 < (edGo n 0 [] (overF (flowFrom n 0 a) (flowFrom (flowFrom n 0 a).length 0 b))).length then ([], 2) else (edGo n 0 [] (overF (flowFrom n 0 a) (flowFrom (flowFrom n 0 a).length 0 b)), 0) := by
  rw [thenVal, if_neg (by simpa using c), if_neg (by simpa using d)]
theorem fault_nil {n : Nat} (hn : n ≤ 20000) : faultOf n [] = 0 := by
  rw [faultOf_end ⟨by omega, by omega⟩ (by simp) rfl, if_neg (by simp [longOf]; omega)]
theorem foldX_ok (n : Nat) (hn : n ≤ 20000) (v : AV) (l : List (List Ed)) (hv : IsEds v l) (hl : l.length ≤ 1000) (hnew : ∀ c ∈ l, c.length ≤ 2000 ∧ ∀ e ∈ c, e.new.length ≤ 100000) (s : AHeap) :
    ACall Tryz.prog 18 [.int .i64 n, v] s fun r t => r = .tuple [edv (foldVal n l).1, .int .i64 (foldVal n l).2] ∧ t = s := by
  refine gob18 (by simp) ?_
  intro tm hlen harg
  have hpu := hv.pu
  simp +contextual only [go_sem, L18, hlen, harg, lcondB_decide, lcondB_not, lguardB_decide_true, lguardB_decide_false, ldguardB_decide, Nat.reduceLT, Nat.reduceEqDiff, Nat.reduceAdd, Nat.reduceLeDiff, reduceIte, reduceCtorEq]
  refine lfunG_eq (in_ok n 0 20000 _) ?_
  simp +contextual only [go_sem, hlen, harg, hv.len, lcondB_decide, lcondB_not, lguardB_decide_true, lguardB_decide_false, ldguardB_decide, Nat.reduceLT, Nat.reduceEqDiff, Nat.reduceAdd, Nat.reduceLeDiff, reduceIte, reduceCtorEq]
  refine ⟨fun hc => by omega, fun hc => ?_⟩
  refine ⟨Nat × Nat, fun a => [(0, .int .i64 n), (1, v), (6, .int .i64 a.2), (17, v), (18, .int .i64 l.length), (19, .int .i64 a.1)], fun a => loc s 0 [], fun a => a.1 ≤ l.length ∧ a.2 ≤ 20000 ∧ chkF a.2 (l.drop a.1) = chkF n l, fun a => l.length - a.1, (0, n), ⟨by simp, by simp only; omega, by simp⟩, ?_, ?_⟩
  · refine To.go [] [] rfl (.refl s) (by decide) (by simp) ?_ trivial
    simp +contextual only [go_sem, hlen, harg, pu_ren hpu, lcondB_decide, lcondB_not, lguardB_decide_true, lguardB_decide_false, ldguardB_decide, Nat.reduceLT, Nat.reduceEqDiff, Nat.reduceAdd, Nat.reduceLeDiff, reduceIte, reduceCtorEq]
    simp
  · rintro ⟨j, m⟩ tm1 ⟨hj, hm, hE⟩ hlen1 hlv
    simp only [go_sem, hlen, lcondB_decide, lcondB_not, lguardB_decide_true, lguardB_decide_false, ldguardB_decide, Nat.reduceLT, Nat.reduceEqDiff, Nat.reduceAdd, Nat.reduceLeDiff, reduceIte, reduceCtorEq] at hlen1 hlv hj hm hE
    simp +contextual only [go_sem, hlen, hlen1, hlv, hv.len, lcondB_decide, lcondB_not, lguardB_decide_true, lguardB_decide_false, ldguardB_decide, Nat.reduceLT, Nat.reduceEqDiff, Nat.reduceAdd, Nat.reduceLeDiff, reduceIte, reduceCtorEq]
    refine ⟨fun hlt => ?_, fun hge => ?_⟩
    · have hj2 : j < l.length := by omega
      have he := List.getElem?_eq_getElem hj2
      have hmem : l[j] ∈ l := List.getElem_mem hj2
      have hdrop := List.drop_eq_getElem_cons hj2
      generalize l[j] = c at he hmem hdrop
      obtain ⟨hcl, hcn⟩ := hnew c hmem
      rw [hdrop, chkF] at hE
      have hw3 : IntKind.i64.wrap ((j : Int) + 1) = ((j + 1 : Nat) : Int) := by rw [wrap_id (by omega)]; rfl
      simp +contextual only [go_sem, hlen1, hlv, hv.at_ he, ld27r, lcondB_decide, lcondB_not, lguardB_decide_true, lguardB_decide_false, ldguardB_decide, Nat.reduceLT, Nat.reduceEqDiff, Nat.reduceAdd, Nat.reduceLeDiff, reduceIte, reduceCtorEq]
      refine lfunG_eq (checkE m _ c (edv_sl c) (by omega) _) ?_
      simp +contextual only [go_sem, hlen1, hlv, lcondB_decide, lcondB_not, lguardB_decide_true, lguardB_decide_false, ldguardB_decide, Nat.reduceLT, Nat.reduceEqDiff, Nat.reduceAdd, Nat.reduceLeDiff, reduceIte, reduceCtorEq]
      refine ⟨fun hf => ?_, fun hf => ?_⟩
      · rw [if_pos hf] at hE
        refine lexit_pure (.refl s) (by simp only [low, lowL, and_self]) ⟨?_, rfl⟩
        rw [foldVal, if_neg (by omega), if_pos (by rw [← hE]; exact hf), ← hE]; rfl
      · have hf : faultOf m c = 0 := by simpa using hf
        rw [if_neg (by simpa using hf)] at hE
        have hsh := flow_short hf hcn
        refine lfunG_eq (longE m _ c (edv_sl c) (by omega) _) ?_
        simp +contextual only [go_sem, hlen1, hlv, hw3, hsh.2, lcondB_decide, lcondB_not, lguardB_decide_true, lguardB_decide_false, ldguardB_decide, Nat.reduceLT, Nat.reduceEqDiff, Nat.reduceAdd, Nat.reduceLeDiff, reduceIte, reduceCtorEq]
        refine ⟨(j + 1, (flowFrom m 0 c).length), ⟨by simp only; omega, hsh.1, hE⟩, by simp only; omega, ?_⟩
        refine To.go [] [] rfl (.refl s) (by decide) (by simp) ?_ trivial
        simp +contextual only [go_sem, hlen1, hlv, pu_ren hpu, lcondB_decide, lcondB_not, lguardB_decide_true, lguardB_decide_false, ldguardB_decide, Nat.reduceLT, Nat.reduceEqDiff, Nat.reduceAdd, Nat.reduceLeDiff, reduceIte, reduceCtorEq]
    · have hj2 : j = l.length := by omega
      rw [hj2, List.drop_length, chkF] at hE
      have hval : foldVal n l = foldR n [] l := by rw [foldVal, if_neg (by omega), if_neg (by rw [← hE]; simp)]
      rw [hval]
      refine ⟨Nat × List Ed, fun a => [(0, .int .i64 n), (10, edv a.2), (33, v), (34, .int .i64 l.length), (35, .int .i64 a.1)], fun a => loc s 0 [], fun a => a.1 ≤ l.length ∧ faultOf n a.2 = 0 ∧ (∀ e ∈ a.2, e.new.length ≤ 100000) ∧ chkF (flowFrom n 0 a.2).length (l.drop a.1) = 0 ∧ foldR n a.2 (l.drop a.1) = foldR n [] l, fun a => l.length - a.1, (0, []),
        ⟨by simp, fault_nil hn, by simp, by simp only [flowFrom, runOf, List.length_map, List.length_range', Nat.sub_zero, List.drop_zero]; exact hE.symm, by simp⟩, ?_, ?_⟩
      · refine To.go [] [] rfl (.refl s) (by decide) (by simp) ?_ trivial
        simp +contextual only [go_sem, hlen1, hlv, pu_ren hpu, lcondB_decide, lcondB_not, lguardB_decide_true, lguardB_decide_false, ldguardB_decide, Nat.reduceLT, Nat.reduceEqDiff, Nat.reduceAdd, Nat.reduceLeDiff, reduceIte, reduceCtorEq]
        exact ⟨rfl, rfl⟩
      · rintro ⟨i, out⟩ tm2 ⟨hi, ho, hon, hK, hR⟩ hlen2 hlv2
        simp only [go_sem, hlen1, lcondB_decide, lcondB_not, lguardB_decide_true, lguardB_decide_false, ldguardB_decide, Nat.reduceLT, Nat.reduceEqDiff, Nat.reduceAdd, Nat.reduceLeDiff, reduceIte, reduceCtorEq] at hlen2 hlv2 hi ho hon hK hR
        simp +contextual only [go_sem, hlen2, hlv2, lcondB_decide, lcondB_not, lguardB_decide_true, lguardB_decide_false, ldguardB_decide, Nat.reduceLT, Nat.reduceEqDiff, Nat.reduceAdd, Nat.reduceLeDiff, reduceIte, reduceCtorEq]
        refine ⟨fun hlt => ?_, fun hge => ?_⟩
        · have hi2 : i < l.length := by omega
          have he := List.getElem?_eq_getElem hi2
          have hmem : l[i] ∈ l := List.getElem_mem hi2
          have hdrop := List.drop_eq_getElem_cons hi2
          generalize l[i] = c at he hmem hdrop
          obtain ⟨hcl, hcn⟩ := hnew c hmem
          rw [hdrop, foldR] at hR
          rw [hdrop, chkF] at hK
          have hfc : faultOf (flowFrom n 0 out).length c = 0 := by
            split at hK
            · rename_i q; exact absurd hK q
            · rename_i q; simpa using q
          rw [if_neg (by simpa using hfc)] at hK
          have hV := then_val ho hfc
          have hw3 : IntKind.i64.wrap ((i : Int) + 1) = ((i + 1 : Nat) : Int) := by rw [wrap_id (by omega)]; rfl
          simp +contextual only [go_sem, hlen2, hlv2, hv.at_ he, ld27r, lcondB_decide, lcondB_not, lguardB_decide_true, lguardB_decide_false, ldguardB_decide, Nat.reduceLT, Nat.reduceEqDiff, Nat.reduceAdd, Nat.reduceLeDiff, reduceIte, reduceCtorEq]
          refine lfunG_eq (thenE_ok n _ _ out c (edv_sl out) (edv_sl c) hn ho hfc hon hcn _) ?_
          generalize hEE : edGo n 0 [] (overF (flowFrom n 0 out) (flowFrom (flowFrom n 0 out).length 0 c)) = E at hV
          simp +contextual only [go_sem, hlen2, hlv2, hw3, (edv_sl E).len, lcondB_decide, lcondB_not, lguardB_decide_true, lguardB_decide_false, ldguardB_decide, Nat.reduceLT, Nat.reduceEqDiff, Nat.reduceAdd, Nat.reduceLeDiff, reduceIte, reduceCtorEq]
          refine ⟨fun hf => ?_, fun hf => ?_⟩
          · rw [if_pos (show 2000 < E.length by omega)] at hV
            rw [hV, if_pos (by simp)] at hR
            refine lexit_pure (.refl s) (by simp only [low, lowL, and_self]) ⟨?_, rfl⟩
            rw [← hR]; rfl
          · rw [if_neg (by omega)] at hV
            have h0 : (thenVal n out c).2 = 0 := by rw [hV]
            rw [if_neg (by simpa using h0)] at hR
            obtain ⟨z1, z2⟩ := then_zero hcn h0
            obtain ⟨_, _, _, _, z3⟩ := then_right hcn h0
            rw [hV] at z1 z2 z3 hR
            refine ⟨hlen1.symm, (i + 1, E), ⟨by simp only; omega, z1, fun e he => by have := z3 e he; omega, by simp only at z2 ⊢; rw [z2]; exact hK, hR⟩, by simp only; omega, ?_⟩
            refine To.go [] [] rfl (.refl s) (by decide) (by simp) ?_ trivial
            simp +contextual only [go_sem, hlen2, hlv2, pu_ren hpu, pu_ren (edv_pu _), lcondB_decide, lcondB_not, lguardB_decide_true, lguardB_decide_false, ldguardB_decide, Nat.reduceLT, Nat.reduceEqDiff, Nat.reduceAdd, Nat.reduceLeDiff, reduceIte, reduceCtorEq]
        · have hi2 : i = l.length := by omega
          rw [hi2, List.drop_length, foldR] at hR
          refine lexit_pure (.refl s) (by simp only [low, lowL, and_self, and_true]; exact low.mono (Nat.zero_le _) (edv_pu _)) ⟨?_, rfl⟩
          rw [← hR]
end Go.S1N
end
section
set_option linter.unusedVariables false
set_option linter.unusedSimpArgs false
namespace Go.S1N
open Go Go.Am Go.Proofs Go.S1
set_option maxRecDepth 100000
set_option linter.unusedSimpArgs false
attribute [local irreducible] lopsB lvb lstepB lfunG lcondB lguardB ldrawB ldrunB ldstepB ldguardB lmem lval ldmem ldval ldfun lexit ldloadB ldlenB lpostB athen ablock
def rnB (l : List Rn) : Prop := (∀ r ∈ l, 0 ≤ r.at_ ∧ r.at_ ≤ 1000000000 ∧ r.at_ + r.long ≤ 1000000000 ∧ 0 ≤ r.long ∧ r.text.length ≤ 1000000) ∧ l.length ≤ 1000000000
structure MOk (n : Int) (a b : List Ed) : Prop where
  hn : 0 ≤ n ∧ n ≤ 1000000
  ha : a.length ≤ 2000
  hb : b.length ≤ 2000
  ra : RS n a
  rb : RS n b
  ia : ∀ p, (insAt a p).length ≤ 100000
  ib : ∀ p, (insAt b p).length ≤ 100000
  pl : ∀ p ∈ placesL n a b, 0 ≤ p ∧ p ≤ 1000000
  pl2 : (placesL n a b).length ≤ 10000
  mono : ∀ (i : Nat) (p q : Int), (placesL n a b)[i]? = some p → (placesL n a b)[i + 1]? = some q → p ≤ q
  la : 0 ≤ longOf n a ∧ longOf n a ≤ 1000000
  lb : 0 ≤ longOf n b ∧ longOf n b ≤ 1000000
  b1 : rnB (meetGo a b (placesL n a b) 0 0).both
  b2 : rnB (meetGo a b (placesL n a b) 0 0).first
  b3 : rnB (meetGo a b (placesL n a b) 0 0).second
def touch (x y : Ed) : Prop := x.at_ ≤ y.at_ + y.cut ∧ y.at_ ≤ x.at_ + x.cut
instance (x y : Ed) : Decidable (touch x y) := inferInstanceAs (Decidable (_ ∧ _))
end Go.S1N
end
section
set_option linter.unusedVariables false
set_option linter.unusedSimpArgs false
namespace Go.S1N
open Go Go.Am Go.Proofs Go.S1
set_option maxRecDepth 100000
set_option linter.unusedSimpArgs false
attribute [local irreducible] lopsB lvb lstepB lfunG lcondB lguardB ldrawB ldrunB ldstepB ldguardB lmem lval ldmem ldval ldfun lexit ldloadB ldlenB lpostB athen ablock
end Go.S1N
end
section
set_option linter.unusedVariables false
set_option linter.unusedSimpArgs false
namespace Go.S1N
open Go Go.Am Go.Proofs Go.S1
set_option maxRecDepth 100000
set_option linter.unusedSimpArgs false
abbrev LT := Int × UInt8
def runI (x : Int) (k : Nat) : List LT := (List.range k).map fun (i : Nat) => (x + (i : Int), (0 : UInt8))
theorem runI_zero (x : Int) : runI x 0 = [] := rfl
section
variable (a b : List Ed)
end
section
variable {a b : List Ed}
structure Calm (a b : List Ed) (p : Int) (k : Nat) (ga gb : Bool) : Prop where
  ins : ∀ r, p ≤ r → r < p + k → insAt a r = [] ∧ insAt b r = [] ∧ goneB a r = ga ∧ goneB b r = gb
theorem Calm.tail {p : Int} {k : Nat} {ga gb : Bool} (h : Calm a b p (k + 1) ga gb) : Calm a b (p + 1) k ga gb := ⟨fun r h1 h2 => h.ins r (by omega) (by omega)⟩
end
end Go.S1N
end
section
set_option linter.unusedVariables false
set_option linter.unusedSimpArgs false

end
section
set_option linter.unusedVariables false
set_option linter.unusedSimpArgs false
namespace Go.S1N
open Go Go.Am Go.Proofs Go.S1
set_option maxRecDepth 100000
set_option linter.unusedSimpArgs false
def lcopy (T : Tab) (t : TypeId) (x y : AV) (s : AHeap) : Option (AV × AHeap) := match T.ty t with
  | some i => match i.td with
    | .slice e => acopy T e s x y
    | _ => none
  | none => none
theorem lstepB_copy {P : Program} {T : Tab} {s0 s : AHeap} {N : List AV → AHeap → Prop} {d : Option Nat} {tm : List AV} {t u : TypeId} {x y : Operand} : lstepB P T s0 N (.call { callee := .builtin .copy, args := ⟨[x, y]⟩, argTypes := ⟨[t, u]⟩ }) d tm s = lmem N (lcopy T t (aev tm x) (aev tm y) s) d tm := rfl
attribute [local irreducible] lopsB lvb lstepB lfunG lcondB lguardB ldrawB ldrunB ldstepB ldguardB lmem lval ldmem ldval ldfun lexit ldloadB ldlenB lpostB athen ablock
end Go.S1N
end
section
set_option linter.unusedVariables false
set_option linter.unusedSimpArgs false
namespace Go.S1N
open Go Go.Am Go.Proofs Go.S1
set_option maxRecDepth 100000
set_option linter.unusedSimpArgs false
attribute [local irreducible] lopsB lvb lstepB lfunG lcondB lguardB ldrawB ldrunB ldstepB ldguardB lmem lval ldmem ldval ldfun lexit ldloadB ldlenB lpostB athen ablock
def ownOf : Nat → List (Int × UInt8) → List Int
  | _, [] => []
  | i, p :: r => if p.1 < 0 then (i : Int) :: ownOf (i + 1) r else ownOf (i + 1) r
def need : List (Int × UInt8) → List Bool → Nat
  | p :: F, b :: bs => (if p.1 < 0 ∧ b = true then 1 else 0) + need F bs
  | _, _ => 0
def pastGo (old : List Int) : List Int → List (Int × UInt8) → List Bool → List (Int × UInt8)
  | own, p :: F, b :: bs => if 0 ≤ p.1 then (old.getD p.1.toNat 0, p.2) :: pastGo old own F bs else if b then (own.headD 0, p.2) :: pastGo old own.tail F bs else p :: pastGo old own F bs
  | _, _, _ => []
end Go.S1N
end
section
set_option linter.unusedVariables false
set_option linter.unusedSimpArgs false
namespace Go.S1N
open Go Go.Am Go.Proofs Go.S1
set_option maxRecDepth 100000
set_option linter.unusedSimpArgs false
attribute [local irreducible] lopsB lvb lstepB lfunG lcondB lguardB ldrawB ldrunB ldstepB ldguardB lmem lval ldmem ldval ldfun lexit ldloadB ldlenB lpostB athen ablock
abbrev ML := (Int × UInt8) × Bool × Bool
end Go.S1N
end
section
set_option linter.unusedVariables false
set_option linter.unusedSimpArgs false
namespace Go.S1N
open Go Go.Am Go.Proofs Go.S1
set_option maxRecDepth 100000
set_option linter.unusedSimpArgs false
attribute [local irreducible] lopsB lvb lstepB lfunG lcondB lguardB ldrawB ldrunB ldstepB ldguardB lmem lval ldmem ldval ldfun lexit ldloadB ldlenB lpostB athen ablock
def newM (e : Ed) (f : Bool × Bool) (i : Nat) : List ML := (e.new.take i).map fun c => ((-1, c), f)
def insM (l : List Ed) (p : Int) (f : Bool × Bool) : List ML := l.flatMap fun e => if e.at_ = p then newM e f e.new.length else []
def keptM (a b : List Ed) (n p : Int) : List ML := if p < n ∧ goneB a p = false ∧ goneB b p = false then [((p, 0), false, false)] else []
def mixAt (a b : List Ed) (n p : Int) : List ML := insM a p (true, false) ++ insM b p (false, true) ++ keptM a b n p
def mixL (a b : List Ed) (n : Int) (k : Nat) : List ML := (List.range k).flatMap fun p : Nat => mixAt a b n (p : Int)
def totN (l : List Ed) : Nat := (l.flatMap Ed.new).length
end Go.S1N
end
section
set_option linter.unusedVariables false
set_option linter.unusedSimpArgs false
namespace Go.S1N
open Go Go.Am Go.Proofs Go.S1
set_option maxRecDepth 100000
set_option linter.unusedSimpArgs false
attribute [local irreducible] lopsB lvb lstepB lfunG lcondB lguardB ldrawB ldrunB ldstepB ldguardB lmem lval ldmem ldval ldfun lexit ldloadB ldlenB lpostB athen ablock
structure POk (n : Nat) (a b : List Ed) : Prop where
  hn : n ≤ 1000
  ha : a.length ≤ 2000
  hb : b.length ≤ 2000
  hta : totN a ≤ 1000
  htb : totN b ≤ 1000
  hea : ∀ e ∈ a, -1000000000000 ≤ e.at_ + e.cut ∧ e.at_ + e.cut ≤ 1000000000000
  heb : ∀ e ∈ b, -1000000000000 ≤ e.at_ + e.cut ∧ e.at_ + e.cut ≤ 1000000000000
  hsa : scan n (-1) a = 0
  hsb : scan n (-1) b = 0
  hga : ∀ p ∈ flowFrom n 0 a, p.1 < n
  hgb : ∀ p ∈ flowFrom n 0 b, p.1 < n
  hm : ∀ x ∈ mixL a b n (n + 1), -1 ≤ x.1.1 ∧ x.1.1 < n
  hda : need ((mixL a b n (n + 1)).map (·.1)) ((mixL a b n (n + 1)).map (·.2.1)) ≤ (ownOf 0 (flowFrom n 0 a)).length
  hdb : need ((mixL a b n (n + 1)).map (·.1)) ((mixL a b n (n + 1)).map (·.2.2)) ≤ (ownOf 0 (flowFrom n 0 b)).length
end Go.S1N
end
section
set_option linter.unusedVariables false
set_option linter.unusedSimpArgs false
namespace Go.S1N
open Go Go.Am Go.Proofs Go.S1
set_option maxRecDepth 100000
set_option linter.unusedSimpArgs false
theorem insAt_nil (p : Int) : insAt [] p = [] := rfl
theorem goneB_nil (p : Int) : goneB [] p = false := rfl
section
variable (a b : List Ed)
end
section
variable {a b : List Ed}
end
end Go.S1N
end
section
set_option linter.unusedVariables false
set_option linter.unusedSimpArgs false
namespace Go.S1N
open Go Go.Am Go.Proofs Go.S1
set_option maxRecDepth 100000
set_option linter.unusedSimpArgs false
section
variable (a : List Ed)
end
def pastM (old own : List Int) (T : List ML) (sel : Bool × Bool → Bool) : List LT := pastGo old own (T.map (·.1)) (T.map fun x => sel x.2)
theorem pastM_nil (old own : List Int) (sel : Bool × Bool → Bool) : pastM old own [] sel = [] := rfl
end Go.S1N
end
section
set_option linter.unusedVariables false
set_option linter.unusedSimpArgs false
namespace Go.S1N
open Go Go.Am Go.Proofs Go.S1
set_option maxRecDepth 100000
set_option linter.unusedSimpArgs false
section
variable (a b : List Ed) (p : Int)
end
section
variable {a b : List Ed} {p q : Int}
end
end Go.S1N
end
section
set_option linter.unusedVariables false
set_option linter.unusedSimpArgs false
namespace Go.S1N
open Go Go.Am Go.Proofs Go.S1
set_option maxRecDepth 100000
set_option linter.unusedSimpArgs false
end Go.S1N
end
section
set_option linter.unusedVariables false
set_option linter.unusedSimpArgs false
namespace Go.S1N
open Go Go.Am Go.Proofs Go.S1
set_option maxRecDepth 100000
set_option linter.unusedSimpArgs false
structure Pre (n : Nat) (a b : List Ed) : Prop where
  hn : n ≤ 1000
  ta : totN a ≤ 1000
  tb : totN b ≤ 1000
section
variable {n : Nat} {a b : List Ed}
end
end Go.S1N
end
section
set_option linter.unusedVariables false
set_option linter.unusedSimpArgs false
namespace Go.S1N
open Go Go.Am Go.Proofs Go.S1
set_option maxRecDepth 100000
set_option linter.unusedSimpArgs false
section
variable {a b : List Ed} {F : List LT} {s t : List UInt8}
end
section
variable {n : Nat} {a b : List Ed}
end
end Go.S1N
end
section
set_option linter.unusedVariables false
set_option linter.unusedSimpArgs false
namespace Go.S1N
open Go Go.Am Go.Proofs Go.S1
set_option maxRecDepth 100000
set_option linter.unusedSimpArgs false
theorem apply_len (x : List UInt8) {l : List Ed} (hs : scan x.length (-1) l = 0) : (applyFrom x 0 l).length = (flowFrom x.length 0 l).length := by
  rw [← say_flow x l 0 (-1) (.inr ⟨rfl, rfl⟩) (Nat.zero_le _) hs, List.length_map]
theorem text_fault {x : List UInt8} {l : List Ed} (h : faultOf x.length l = 0) : textFault x l = 0 := by
  obtain ⟨_, h2, _, _⟩ := faultOf_zero h
  rw [textFault, if_neg (by omega), h]
theorem apply_val {x : List UInt8} {l : List Ed} (h : faultOf x.length l = 0) : applyVal x l = (applyFrom x 0 l, 0) := by
  rw [applyVal, if_neg (by rw [text_fault h]; decide)]
end Go.S1N
end
section
set_option linter.unusedVariables false
set_option linter.unusedSimpArgs false
namespace Go.S1
open Go Go.Am Go.Proofs
set_option maxRecDepth 100000
noncomputable def L4 : LCode := LCode.seq (LCode.ops [⟨Op.assign (Operand.const (Value.bool false)), some 2, none⟩]) (LCode.seq (LCode.ops [⟨Op.move (Operand.tmp 0), some 31, none⟩, ⟨Op.build 25 { toList := [(0, Operand.tmp 31)] }, some 32, none⟩, ⟨Op.box 25 (Operand.tmp 32), some 33, none⟩, ⟨Op.assign (Operand.tmp 33), some 3, none⟩]) (LCode.seq (LCode.ops [⟨Op.move (Operand.tmp 3), some 34, none⟩, ⟨Op.call { callee := Callee.value (Operand.func 9), args := { toList := [Operand.tmp 34, Operand.const (Value.int IntKind.i64 9)] }, argTypes := { toList := [23, 3] } }, some 35, none⟩, ⟨Op.assign (Operand.tmp 35), some 4, none⟩]) (LCode.seq (LCode.ops [⟨Op.move (Operand.tmp 4), some 36, none⟩, ⟨Op.call { callee := Callee.builtin Builtin.len, args := { toList := [Operand.tmp 36] }, argTypes := { toList := [9] } }, some 37, none⟩, ⟨Op.assign (Operand.tmp 37), some 5, none⟩]) (LCode.seq (LCode.ops [⟨Op.move (Operand.tmp 3), some 38, none⟩, ⟨Op.move (Operand.tmp 5), some 39, none⟩, ⟨Op.call { callee := Callee.value (Operand.func 10), args := { toList := [Operand.tmp 38, Operand.tmp 39] }, argTypes := { toList := [23, 3] } }, some 40, none⟩, ⟨Op.assign (Operand.tmp 40), some 6, none⟩]) (LCode.seq (LCode.ops [⟨Op.move (Operand.tmp 5), some 42, none⟩, ⟨Op.move (Operand.tmp 6), some 43, none⟩, ⟨Op.call { callee := Callee.value (Operand.func 16), args := { toList := [Operand.tmp 42, Operand.tmp 43] }, argTypes := { toList := [3, 27] } }, some 44, none⟩, ⟨Op.move (Operand.tmp 44), some 41, none⟩, ⟨Op.extract (Operand.tmp 41) 0, some 45, none⟩, ⟨Op.extract (Operand.tmp 41) 1, some 46, none⟩, ⟨Op.assign (Operand.tmp 45), some 7, none⟩, ⟨Op.assign (Operand.tmp 46), some 8, none⟩]) (LCode.seq (LCode.ops [⟨Op.move (Operand.tmp 3), some 47, none⟩, ⟨Op.move (Operand.tmp 7), some 48, none⟩, ⟨Op.call { callee := Callee.value (Operand.func 10), args := { toList := [Operand.tmp 47, Operand.tmp 48] }, argTypes := { toList := [23, 3] } }, some 49, none⟩, ⟨Op.assign (Operand.tmp 49), some 9, none⟩]) (LCode.seq (LCode.ops [⟨Op.move (Operand.tmp 7), some 51, none⟩, ⟨Op.move (Operand.tmp 9), some 52, none⟩, ⟨Op.call { callee := Callee.value (Operand.func 16), args := { toList := [Operand.tmp 51, Operand.tmp 52] }, argTypes := { toList := [3, 27] } }, some 53, none⟩, ⟨Op.move (Operand.tmp 53), some 50, none⟩, ⟨Op.extract (Operand.tmp 50) 0, some 54, none⟩, ⟨Op.extract (Operand.tmp 50) 1, some 55, none⟩, ⟨Op.assign (Operand.tmp 54), some 10, none⟩, ⟨Op.assign (Operand.tmp 55), some 11, none⟩]) (LCode.seq (LCode.ops [⟨Op.move (Operand.tmp 3), some 56, none⟩, ⟨Op.move (Operand.tmp 10), some 57, none⟩, ⟨Op.call { callee := Callee.value (Operand.func 10), args := { toList := [Operand.tmp 56, Operand.tmp 57] }, argTypes := { toList := [23, 3] } }, some 58, none⟩, ⟨Op.assign (Operand.tmp 58), some 12, none⟩]) (LCode.seq (LCode.seq (LCode.ops [⟨Op.move (Operand.tmp 8), some 59, none⟩, ⟨Op.move (Operand.tmp 11), some 60, none⟩, ⟨Op.buildSlice 58 2 { toList := [(0, Operand.tmp 59), (1, Operand.tmp 60)] }, some 61, none⟩, ⟨Op.call { callee := Callee.value (Operand.func 13), args := { toList := [Operand.tmp 61] }, argTypes := { toList := [58] } }, some 62, none⟩, ⟨Op.binOp BinOp.neq 29 (Operand.tmp 62) (Operand.const (Value.int IntKind.i64 0)) 29, some 63, none⟩]) (LCode.cond (Operand.tmp 63) (LCode.seq (LCode.ops [⟨Op.assign (Operand.const (Value.bool false)), some 2, none⟩]) LCode.ret) LCode.skip)) (LCode.seq (LCode.ops [⟨Op.move (Operand.tmp 5), some 65, none⟩, ⟨Op.move (Operand.tmp 6), some 66, none⟩, ⟨Op.move (Operand.tmp 9), some 67, none⟩, ⟨Op.call { callee := Callee.value (Operand.func 17), args := { toList := [Operand.tmp 65, Operand.tmp 66, Operand.tmp 67] }, argTypes := { toList := [3, 27, 27] } }, some 68, none⟩, ⟨Op.move (Operand.tmp 68), some 64, none⟩, ⟨Op.extract (Operand.tmp 64) 0, some 69, none⟩, ⟨Op.extract (Operand.tmp 64) 1, some 70, none⟩, ⟨Op.assign (Operand.tmp 69), some 13, none⟩, ⟨Op.assign (Operand.tmp 70), some 14, none⟩]) (LCode.seq (LCode.ops [⟨Op.move (Operand.tmp 7), some 72, none⟩, ⟨Op.move (Operand.tmp 9), some 73, none⟩, ⟨Op.move (Operand.tmp 12), some 74, none⟩, ⟨Op.call { callee := Callee.value (Operand.func 17), args := { toList := [Operand.tmp 72, Operand.tmp 73, Operand.tmp 74] }, argTypes := { toList := [3, 27, 27] } }, some 75, none⟩, ⟨Op.move (Operand.tmp 75), some 71, none⟩, ⟨Op.extract (Operand.tmp 71) 0, some 76, none⟩, ⟨Op.extract (Operand.tmp 71) 1, some 77, none⟩, ⟨Op.assign (Operand.tmp 76), some 15, none⟩, ⟨Op.assign (Operand.tmp 77), some 16, none⟩]) (LCode.seq (LCode.ops [⟨Op.move (Operand.tmp 5), some 79, none⟩, ⟨Op.move (Operand.tmp 13), some 80, none⟩, ⟨Op.move (Operand.tmp 12), some 81, none⟩, ⟨Op.call { callee := Callee.value (Operand.func 17), args := { toList := [Operand.tmp 79, Operand.tmp 80, Operand.tmp 81] }, argTypes := { toList := [3, 27, 27] } }, some 82, none⟩, ⟨Op.move (Operand.tmp 82), some 78, none⟩, ⟨Op.extract (Operand.tmp 78) 0, some 83, none⟩, ⟨Op.extract (Operand.tmp 78) 1, some 84, none⟩, ⟨Op.assign (Operand.tmp 83), some 17, none⟩, ⟨Op.assign (Operand.tmp 84), some 18, none⟩]) (LCode.seq (LCode.ops [⟨Op.move (Operand.tmp 5), some 86, none⟩, ⟨Op.move (Operand.tmp 6), some 87, none⟩, ⟨Op.move (Operand.tmp 15), some 88, none⟩, ⟨Op.call { callee := Callee.value (Operand.func 17), args := { toList := [Operand.tmp 86, Operand.tmp 87, Operand.tmp 88] }, argTypes := { toList := [3, 27, 27] } }, some 89, none⟩, ⟨Op.move (Operand.tmp 89), some 85, none⟩, ⟨Op.extract (Operand.tmp 85) 0, some 90, none⟩, ⟨Op.extract (Operand.tmp 85) 1, some 91, none⟩, ⟨Op.assign (Operand.tmp 90), some 19, none⟩, ⟨Op.assign (Operand.tmp 91), some 20, none⟩]) (LCode.seq (LCode.ops [⟨Op.move (Operand.tmp 5), some 93, none⟩, ⟨Op.move (Operand.tmp 6), some 94, none⟩, ⟨Op.move (Operand.tmp 9), some 95, none⟩, ⟨Op.move (Operand.tmp 12), some 96, none⟩, ⟨Op.buildSlice 44 3 { toList := [(0, Operand.tmp 94), (1, Operand.tmp 95), (2, Operand.tmp 96)] }, some 97, none⟩, ⟨Op.call { callee := Callee.value (Operand.func 18), args := { toList := [Operand.tmp 93, Operand.tmp 97] }, argTypes := { toList := [3, 44] } }, some 98, none⟩, ⟨Op.move (Operand.tmp 98), some 92, none⟩, ⟨Op.extract (Operand.tmp 92) 0, some 99, none⟩, ⟨Op.extract (Operand.tmp 92) 1, some 100, none⟩, ⟨Op.assign (Operand.tmp 99), some 21, none⟩, ⟨Op.assign (Operand.tmp 100), some 22, none⟩]) (LCode.seq (LCode.ops [⟨Op.move (Operand.tmp 4), some 102, none⟩, ⟨Op.move (Operand.tmp 6), some 103, none⟩, ⟨Op.call { callee := Callee.value (Operand.func 11), args := { toList := [Operand.tmp 102, Operand.tmp 103] }, argTypes := { toList := [9, 27] } }, some 104, none⟩, ⟨Op.move (Operand.tmp 104), some 101, none⟩, ⟨Op.extract (Operand.tmp 101) 0, some 105, none⟩, ⟨Op.extract (Operand.tmp 101) 1, some 106, none⟩, ⟨Op.assign (Operand.tmp 105), some 23, none⟩, ⟨Op.assign (Operand.tmp 106), some 24, none⟩]) (LCode.seq (LCode.ops [⟨Op.move (Operand.tmp 23), some 108, none⟩, ⟨Op.move (Operand.tmp 9), some 109, none⟩, ⟨Op.call { callee := Callee.value (Operand.func 11), args := { toList := [Operand.tmp 108, Operand.tmp 109] }, argTypes := { toList := [9, 27] } }, some 110, none⟩, ⟨Op.move (Operand.tmp 110), some 107, none⟩, ⟨Op.extract (Operand.tmp 107) 0, some 111, none⟩, ⟨Op.extract (Operand.tmp 107) 1, some 112, none⟩, ⟨Op.assign (Operand.tmp 111), some 25, none⟩, ⟨Op.assign (Operand.tmp 112), some 26, none⟩]) (LCode.seq (LCode.ops [⟨Op.move (Operand.tmp 25), some 114, none⟩, ⟨Op.move (Operand.tmp 12), some 115, none⟩, ⟨Op.call { callee := Callee.value (Operand.func 11), args := { toList := [Operand.tmp 114, Operand.tmp 115] }, argTypes := { toList := [9, 27] } }, some 116, none⟩, ⟨Op.move (Operand.tmp 116), some 113, none⟩, ⟨Op.extract (Operand.tmp 113) 0, some 117, none⟩, ⟨Op.extract (Operand.tmp 113) 1, some 118, none⟩, ⟨Op.assign (Operand.tmp 117), some 27, none⟩, ⟨Op.assign (Operand.tmp 118), some 28, none⟩]) (LCode.seq (LCode.ops [⟨Op.move (Operand.tmp 4), some 120, none⟩, ⟨Op.move (Operand.tmp 17), some 121, none⟩, ⟨Op.call { callee := Callee.value (Operand.func 11), args := { toList := [Operand.tmp 120, Operand.tmp 121] }, argTypes := { toList := [9, 27] } }, some 122, none⟩, ⟨Op.move (Operand.tmp 122), some 119, none⟩, ⟨Op.extract (Operand.tmp 119) 0, some 123, none⟩, ⟨Op.extract (Operand.tmp 119) 1, some 124, none⟩, ⟨Op.assign (Operand.tmp 123), some 29, none⟩, ⟨Op.assign (Operand.tmp 124), some 30, none⟩]) (LCode.seq (LCode.ops [⟨Op.move (Operand.tmp 14), some 125, none⟩, ⟨Op.move (Operand.tmp 16), some 126, none⟩, ⟨Op.move (Operand.tmp 18), some 127, none⟩, ⟨Op.move (Operand.tmp 20), some 128, none⟩, ⟨Op.move (Operand.tmp 22), some 129, none⟩, ⟨Op.move (Operand.tmp 24), some 130, none⟩, ⟨Op.move (Operand.tmp 26), some 131, none⟩, ⟨Op.move (Operand.tmp 28), some 132, none⟩, ⟨Op.move (Operand.tmp 30), some 133, none⟩, ⟨Op.buildSlice 58 9 { toList := [(0, Operand.tmp 125), (1, Operand.tmp 126), (2, Operand.tmp 127), (3, Operand.tmp 128), (4, Operand.tmp 129), (5, Operand.tmp 130), (6, Operand.tmp 131), (7, Operand.tmp 132), (8, Operand.tmp 133)] }, some 134, none⟩, ⟨Op.call { callee := Callee.value (Operand.func 13), args := { toList := [Operand.tmp 134] }, argTypes := { toList := [58] } }, some 135, none⟩, ⟨Op.binOp BinOp.eql 29 (Operand.tmp 135) (Operand.const (Value.int IntKind.i64 0)) 29, some 136, none⟩, ⟨Op.move (Operand.tmp 136), some 137, none⟩, ⟨Op.move (Operand.tmp 17), some 138, some (137, true)⟩, ⟨Op.move (Operand.tmp 19), some 139, some (137, true)⟩, ⟨Op.call { callee := Callee.value (Operand.func 14), args := { toList := [Operand.tmp 138, Operand.tmp 139] }, argTypes := { toList := [27, 27] } }, some 140, some (137, true)⟩, ⟨Op.pick (Operand.tmp 137) (Operand.tmp 140) (Operand.const (Value.bool false)), some 141, none⟩, ⟨Op.move (Operand.tmp 141), some 142, none⟩, ⟨Op.move (Operand.tmp 17), some 143, some (142, true)⟩, ⟨Op.move (Operand.tmp 21), some 144, some (142, true)⟩, ⟨Op.call { callee := Callee.value (Operand.func 14), args := { toList := [Operand.tmp 143, Operand.tmp 144] }, argTypes := { toList := [27, 27] } }, some 145, some (142, true)⟩, ⟨Op.pick (Operand.tmp 142) (Operand.tmp 145) (Operand.const (Value.bool false)), some 146, none⟩, ⟨Op.move (Operand.tmp 146), some 147, none⟩, ⟨Op.move (Operand.tmp 27), some 148, some (147, true)⟩, ⟨Op.move (Operand.tmp 29), some 149, some (147, true)⟩, ⟨Op.binOp BinOp.eql 9 (Operand.tmp 148) (Operand.tmp 149) 9, some 150, some (147, true)⟩, ⟨Op.pick (Operand.tmp 147) (Operand.tmp 150) (Operand.const (Value.bool false)), some 151, none⟩, ⟨Op.move (Operand.tmp 151), some 152, none⟩, ⟨Op.call { callee := Callee.value (Operand.func 15), args := { toList := [] }, argTypes := { toList := [] } }, some 153, some (152, true)⟩, ⟨Op.pick (Operand.tmp 152) (Operand.tmp 153) (Operand.const (Value.bool false)), some 154, none⟩, ⟨Op.assign (Operand.tmp 154), some 2, none⟩]) LCode.ret)))))))))))))))))))
theorem l4 : Tryz.f4.body.map lighten = some L4 := by kernel_rfl
theorem rs4 : Tryz.f4.results.toList = [ResultVar.tmp 2] := by kernel_rfl
theorem nt4 : Tryz.f4.ntmps = 155 := by kernel_rfl
theorem gob4 {args : List AV} {s : AHeap} {R : AV → AHeap → Prop} (hl : args.length ≤ 155) (h : ∀ tm, tm.length = 155 → (∀ i, aev tm (.tmp i) = args.getD i aundef) → lvb Tryz.prog tab s L4 (lpostB tab s [ResultVar.tmp 2] R) tm (loc s 0 [])) : ACall Tryz.prog 4 args s R := ACall.goB tab_ok mixed Tryz.func4 l4 nm4 rs4 nt4 hl h
noncomputable def L10 : LCode := LCode.seq (LCode.ops [⟨Op.assign (Operand.const (Value.slice none 0 0)), some 4, none⟩]) (LCode.seq (LCode.seq (LCode.ops [⟨Op.move (Operand.const (Value.int IntKind.i64 0)), some 6, none⟩]) (LCode.block 0 (LCode.loop (LCode.seq (LCode.ops [⟨Op.binOp BinOp.lss 3 (Operand.tmp 6) (Operand.const (Value.int IntKind.i64 5)) 3, some 7, none⟩]) (LCode.seq (LCode.cond (Operand.tmp 7) LCode.skip (LCode.exit 0)) (LCode.seq (LCode.block 1 (LCode.seq (LCode.ops [⟨Op.move (Operand.tmp 0), some 8, none⟩, ⟨Op.move (Operand.tmp 1), some 9, none⟩, ⟨Op.call { callee := Callee.value (Operand.func 29), args := { toList := [Operand.tmp 8, Operand.tmp 9] }, argTypes := { toList := [23, 3] } }, some 10, none⟩, ⟨Op.assign (Operand.tmp 10), some 5, none⟩]) (LCode.seq (LCode.ops [⟨Op.move (Operand.tmp 1), some 11, none⟩, ⟨Op.move (Operand.tmp 5), some 12, none⟩, ⟨Op.call { callee := Callee.value (Operand.func 30), args := { toList := [Operand.tmp 11, Operand.tmp 12] }, argTypes := { toList := [3, 27] } }, some 13, none⟩, ⟨Op.binOp BinOp.eql 29 (Operand.tmp 13) (Operand.const (Value.int IntKind.i64 0)) 29, some 14, none⟩]) (LCode.cond (Operand.tmp 14) (LCode.seq (LCode.ops [⟨Op.move (Operand.tmp 5), some 15, none⟩, ⟨Op.assign (Operand.tmp 15), some 4, none⟩]) LCode.ret) LCode.skip)))) (LCode.ops [⟨Op.binOp BinOp.add 3 (Operand.tmp 6) (Operand.const (Value.int IntKind.i64 1)) 3, some 16, none⟩, ⟨Op.move (Operand.tmp 16), some 6, none⟩]))))))) (LCode.seq (LCode.ops [⟨Op.assign (Operand.const (Value.slice none 0 0)), some 4, none⟩]) LCode.ret))
theorem l10 : Tryz.f10.body.map lighten = some L10 := by kernel_rfl
theorem rs10 : Tryz.f10.results.toList = [ResultVar.tmp 4] := by kernel_rfl
theorem nt10 : Tryz.f10.ntmps = 17 := by kernel_rfl
theorem gob10 {args : List AV} {s : AHeap} {R : AV → AHeap → Prop} (hl : args.length ≤ 17) (h : ∀ tm, tm.length = 17 → (∀ i, aev tm (.tmp i) = args.getD i aundef) → lvb Tryz.prog tab s L10 (lpostB tab s [ResultVar.tmp 4] R) tm (loc s 0 [])) : ACall Tryz.prog 10 args s R := ACall.goB tab_ok mixed Tryz.func10 l10 nm10 rs10 nt10 hl h
end Go.S1
end
section
set_option linter.unusedVariables false
set_option linter.unusedSimpArgs false
namespace Go.S1N
open Go Go.Am Go.Proofs Go.S1
set_option maxRecDepth 100000
set_option linter.unusedSimpArgs false
attribute [local irreducible] lopsB lvb lstepB lfunG lcondB lguardB ldrawB ldrunB ldstepB ldguardB lmem lval ldmem ldval ldfun lexit ldloadB ldlenB lpostB athen ablock
theorem rfault_nil {n : Nat} (hn : n ≤ 20000) : faultOf n [] = 0 := by
  have e : longOf (n : Int) [] = n := rfl
  have e2 : scan (n : Int) (-1) [] = 0 := rfl
  rw [faultOf, e, e2, if_neg (by omega), if_neg (by simp), if_neg (by simp), if_neg (by omega)]
theorem rightS {s : AHeap} {b : Nat} {Lv : AV} {L : List Int} {at_ : Int} (h : Sm s b Lv L at_) (h1 : at_ < 3700000000000000000) (n : Nat) (hn : n ≤ 20000) :
    ACall Tryz.prog 10 [.ptr b 0, .int .i64 n] s fun v t => ∃ (l : List Ed) (k : Nat), v = edv l ∧ l.length ≤ 4 ∧ (∀ e ∈ l, e.new.length ≤ 4) ∧ faultOf n l = 0 ∧ k ≤ 100 ∧ t = s.upd b (strm Lv (at_ + k)) := by
  refine gob10 (by simp) ?_
  intro tm hlen harg
  have hb := h.lt
  have h0 := h.at0
  simp +contextual only [go_sem, L10, hlen, harg, hb, lcondB_decide, lcondB_not, lguardB_decide_true, lguardB_decide_false, ldguardB_decide, Nat.reduceLT, Nat.reduceEqDiff, Nat.reduceAdd, Nat.reduceLeDiff, reduceIte, reduceCtorEq]
  refine ⟨Nat × Nat × AHeap, fun a => [(0, .ptr b 0), (1, .int .i64 n), (6, .int .i64 a.1)], fun a => loc a.2.2 0 [],
    fun a => a.1 ≤ 5 ∧ a.2.1 ≤ 20 * a.1 ∧ ((a.1 = 0 ∧ a.2.2 = s) ∨ a.2.2 = s.upd b (strm Lv (at_ + a.2.1))) ∧ (∀ o, a.2.2.upd b o = s.upd b o) ∧ Sm a.2.2 b Lv L (at_ + a.2.1) ∧ a.2.2.nx = s.nx, fun a => 5 - a.1, (0, 0, s),
    ⟨by simp, by simp, .inl ⟨rfl, rfl⟩, fun _ => rfl, by simpa using h, rfl⟩, ?_, ?_⟩
  · refine To.go [] [] rfl (OKo.refl s) (by decide) (by simp) ?_ trivial
    simp +contextual only [go_sem, hlen, harg, rnm_low hb, lcondB_decide, lcondB_not, lguardB_decide_true, lguardB_decide_false, ldguardB_decide, Nat.reduceLT, Nat.reduceEqDiff, Nat.reduceAdd, Nat.reduceLeDiff, reduceIte, reduceCtorEq]
    simp
  · rintro ⟨i, k, S⟩ tm1 ⟨hi, hk, hS, hup, hSm, hnx⟩ hlen1 hlv
    simp only [go_sem, hlen, lcondB_decide, lcondB_not, lguardB_decide_true, lguardB_decide_false, ldguardB_decide, Nat.reduceLT, Nat.reduceEqDiff, Nat.reduceAdd, Nat.reduceLeDiff, reduceIte, reduceCtorEq] at hlen1 hlv hi hk hS hup hSm hnx
    have hbS : b < S.nx := hSm.lt
    simp +contextual only [go_sem, hlen, hlen1, hlv, lcondB_decide, lcondB_not, lguardB_decide_true, lguardB_decide_false, ldguardB_decide, Nat.reduceLT, Nat.reduceEqDiff, Nat.reduceAdd, Nat.reduceLeDiff, reduceIte, reduceCtorEq]
    refine ⟨fun hlt => ?_, fun hge => ?_⟩
    · refine lfunG_of (changeS hSm.loc (by omega) n) ?_
      rintro _ _ ⟨l, k1, rfl, hl, hnl, hk1, rfl⟩
      simp +contextual only [go_sem, hlen, hlen1, hlv, hb, hbS, hup, lcondB_decide, lcondB_not, lguardB_decide_true, lguardB_decide_false, ldguardB_decide, Nat.reduceLT, Nat.reduceEqDiff, Nat.reduceAdd, Nat.reduceLeDiff, reduceIte, reduceCtorEq]
      refine lfunG_eq (exact_of (by simp only [Pu, low, lowL, and_self]) (fault_ok _ _ l (edv_sl l) (by omega) _)) ?_
      have hw : IntKind.i64.wrap ((i : Int) + 1) = ((i + 1 : Nat) : Int) := by rw [wrap_id (by omega)]; rfl
      simp +contextual only [go_sem, hlen, hlen1, hlv, hb, hbS, hup, hw, lcondB_decide, lcondB_not, lguardB_decide_true, lguardB_decide_false, ldguardB_decide, Nat.reduceLT, Nat.reduceEqDiff, Nat.reduceAdd, Nat.reduceLeDiff, reduceIte, reduceCtorEq]
      refine ⟨fun hf => ?_, fun hf => ?_⟩
      · exact lexit_pure ((OKo.refl s).upd hb h.lowO) (low.mono (Nat.zero_le _) (edv_pu _)) ⟨l, k + k1, rfl, hl, hnl, hf, by omega, by congr 2; omega⟩
      · refine ⟨(i + 1, k + k1, s.upd b (strm Lv (at_ + ((k + k1 : Nat) : Int)))), ⟨by simp only; omega, by simp only; omega, .inr rfl, ?_, ?_, AHeap.nx_upd _ _ _⟩, by simp only; omega, ?_⟩
        · intro o; simp only [go_sem]
        · exact h.upd (by omega) (by omega)
        · refine To.go [] [] (by simp only; congr 3; omega) ((OKo.refl s).upd hb h.lowO) (by decide) (by simp) ?_ trivial
          simp +contextual only [go_sem, hlen1, hlv, rnm_low hb, lcondB_decide, lcondB_not, lguardB_decide_true, lguardB_decide_false, ldguardB_decide, Nat.reduceLT, Nat.reduceEqDiff, Nat.reduceAdd, Nat.reduceLeDiff, reduceIte, reduceCtorEq]
    · have hS2 : S = s.upd b (strm Lv (at_ + k)) := by
        rcases hS with ⟨q, _⟩ | q
        · omega
        · exact q
      subst hS2
      refine lexit_pure ((OKo.refl s).upd hb h.lowO) (by simp only [low]) ⟨[], k, rfl, by simp, by simp, rfault_nil hn, by omega, rfl⟩
end Go.S1N
end
section
set_option linter.unusedVariables false
set_option linter.unusedSimpArgs false
namespace Go.S1N
open Go Go.Am Go.Proofs Go.S1
set_option maxRecDepth 100000
set_option linter.unusedSimpArgs false
attribute [local irreducible] lopsB lvb lstepB lfunG lcondB lguardB ldrawB ldrunB ldstepB ldguardB lmem lval ldmem ldval ldfun lexit ldloadB ldlenB lpostB athen ablock
theorem edvs_len (l : List (List Ed)) : ∀ x ∈ l.map edv, x.cells.length = 1 := by
  intro x hx
  obtain ⟨c, _, rfl⟩ := List.mem_map.1 hx
  rw [show (edv c).cells = [edv c] from fsv_cells]; rfl
theorem then_short (n : Nat) (a b : List Ed) : (thenVal n a b).1.length ≤ 2000 := by
  unfold thenVal
  split
  · simp
  · split
    · simp
    · split
      · simp
      · simp only; omega
end Go.S1N
end
section
set_option linter.unusedVariables false
set_option linter.unusedSimpArgs false
namespace Go.S1N
open Go Go.Am Go.Proofs Go.S1
set_option maxRecDepth 100000
set_option linter.unusedSimpArgs false
attribute [local irreducible] lopsB lvb lstepB lfunG lcondB lguardB ldrawB ldrunB ldstepB ldguardB lmem lval ldmem ldval ldfun lexit ldloadB ldlenB lpostB athen ablock
theorem dl_le : ∀ {l : List Ed}, (∀ e ∈ l, 0 ≤ e.cut ∧ e.new.length ≤ 4) → dl l ≤ 4 * l.length
  | [], _ => by simp [dl]
  | e :: l, h => by
    have h1 := h e (List.mem_cons_self ..)
    have h2 := dl_le fun x hx => h x (List.mem_cons_of_mem _ hx)
    rw [dl, List.length_cons]
    omega
theorem flow_16 {n : Nat} {l : List Ed} (hf : faultOf n l = 0) (hl : l.length ≤ 4) (hn : ∀ e ∈ l, e.new.length ≤ 4) : (flowFrom n 0 l).length ≤ n + 16 := by
  obtain ⟨_, _, _, hs⟩ := faultOf_zero hf
  have q1 := flow_dl n l 0 (-1) (.inr ⟨rfl, rfl⟩) (by omega) hs
  have q2 := dl_le fun e he => ⟨((scan_rs hs).1.each e he).2.1, hn e he⟩
  omega
theorem length_val {n : Nat} {l : List Ed} (hf : faultOf n l = 0) (hn : ∀ e ∈ l, e.new.length ≤ 100000) : lengthVal n l = (((flowFrom n 0 l).length : Int), 0) := by
  rw [lengthVal, if_neg (by rw [hf]; decide), (flow_short hf hn).2]
theorem then_new {n : Nat} {a b : List Ed} (h : (flowFrom (flowFrom n 0 a).length 0 b).length ≤ 1999) : ∀ e ∈ (thenVal n a b).1, e.new.length ≤ 100000 := by
  intro e he
  unfold thenVal at he
  split at he
  · cases he
  split at he
  · cases he
  split at he
  · cases he
  have := ed_new _ _ _ _ e he
  simp only [List.length_nil, over_len] at this
  omega
set_option maxHeartbeats 4000000 in
theorem thenIsAssociative_gen (hready : ∀ s, ACall Tryz.prog 15 [] s fun v t => v = .bool true ∧ t = s) (v : AV) (L : List Int) (hv : IsInts v L) (hL : L.length < 4611686018427387904) (s : AHeap) :
    ACall Tryz.prog 4 [v] s fun r t => r = .bool true ∧ t = s := by
  refine gob4 (by simp) ?_
  intro tm hlen harg
  simp +contextual only [go_sem, L4, hlen, harg, ints_cells hv, ints_israw hv, lcondB_decide, lcondB_not, lguardB_decide_true, lguardB_decide_false, ldguardB_decide, Nat.reduceLT, Nat.reduceEqDiff, Nat.reduceAdd, Nat.reduceLeDiff, reduceIte, reduceCtorEq]
  have hS : ∀ (a : Int) (n : Nat) (l : List (Nat × Option AObj)), 0 ≤ a → a < 4000000000000000000 → Sm (loc s (n + 1) ((0, some (strm v a)) :: l)) (nm s.nx 0) v L a := fun a n l h1 h2 =>
    ⟨hv, hL, h1, h2, by rw [nx_loc, nm_lt]; omega, by simp only [go_sem, lcondB_decide, lcondB_not, lguardB_decide_true, lguardB_decide_false, ldguardB_decide, Nat.reduceLT, Nat.reduceEqDiff, Nat.reduceAdd, Nat.reduceLeDiff, reduceIte, reduceCtorEq]⟩
  refine lfunG_of (lettersS (hS 0 0 [] (by omega) (by omega)) (by omega) 9 (by omega) (by omega)) ?_
  rintro _ _ ⟨x, k1, rfl, hx, hk1, rfl⟩
  simp +contextual only [go_sem, hlen, harg, lcondB_decide, lcondB_not, lguardB_decide_true, lguardB_decide_false, ldguardB_decide, Nat.reduceLT, Nat.reduceEqDiff, Nat.reduceAdd, Nat.reduceLeDiff, reduceIte, reduceCtorEq]
  refine lfunG_of (rightS (hS _ _ _ (by omega) (by omega)) (by omega) x.length (by omega)) ?_
  rintro _ _ ⟨a, k2, rfl, ha, hna, hfa, hk2, rfl⟩
  have hna' : ∀ e ∈ a, e.new.length ≤ 100000 := fun e he => by have := hna e he; omega
  have fF := flow_16 hfa ha hna
  simp +contextual only [go_sem, hlen, harg, lcondB_decide, lcondB_not, lguardB_decide_true, lguardB_decide_false, ldguardB_decide, Nat.reduceLT, Nat.reduceEqDiff, Nat.reduceAdd, Nat.reduceLeDiff, reduceIte, reduceCtorEq]
  refine lfunG_eq (length_ok _ _ a (edv_sl a) (by omega) _) ?_
  simp +contextual only [go_sem, hlen, harg, length_val hfa hna', lcondB_decide, lcondB_not, lguardB_decide_true, lguardB_decide_false, ldguardB_decide, Nat.reduceLT, Nat.reduceEqDiff, Nat.reduceAdd, Nat.reduceLeDiff, reduceIte, reduceCtorEq]
  generalize hF : (flowFrom x.length 0 a).length = F at fF
  refine lfunG_of (rightS (hS _ _ _ (by omega) (by omega)) (by omega) F (by omega)) ?_
  rintro _ _ ⟨b, k3, rfl, hb, hnb, hfb, hk3, rfl⟩
  have hnb' : ∀ e ∈ b, e.new.length ≤ 100000 := fun e he => by have := hnb e he; omega
  have fG := flow_16 hfb hb hnb
  simp +contextual only [go_sem, hlen, harg, lcondB_decide, lcondB_not, lguardB_decide_true, lguardB_decide_false, ldguardB_decide, Nat.reduceLT, Nat.reduceEqDiff, Nat.reduceAdd, Nat.reduceLeDiff, reduceIte, reduceCtorEq]
  refine lfunG_eq (length_ok _ _ b (edv_sl b) (by omega) _) ?_
  simp +contextual only [go_sem, hlen, harg, length_val hfb hnb', lcondB_decide, lcondB_not, lguardB_decide_true, lguardB_decide_false, ldguardB_decide, Nat.reduceLT, Nat.reduceEqDiff, Nat.reduceAdd, Nat.reduceLeDiff, reduceIte, reduceCtorEq]
  generalize hG : (flowFrom F 0 b).length = G at fG
  refine lfunG_of (rightS (hS _ _ _ (by omega) (by omega)) (by omega) G (by omega)) ?_
  rintro _ _ ⟨c, k4, rfl, hc, hnc, hfc, hk4, rfl⟩
  have hnc' : ∀ e ∈ c, e.new.length ≤ 100000 := fun e he => by have := hnc e he; omega
  have fH := flow_16 hfc hc hnc
  subst hF
  subst hG
  obtain ⟨a1, a2, a3, a4, a5, a6, a7, a8, a9⟩ := assoc_law hfa hfb hfc (by omega) (by omega) (by omega)
  have wab := then_new (n := x.length) (a := a) (b := b) (by omega)
  have wbc := then_new (n := (flowFrom x.length 0 a).length) (a := b) (b := c) (by omega)
  have sab := then_short x.length a b
  have sbc := then_short (flowFrom x.length 0 a).length b c
  have sX := then_short x.length (thenVal x.length a b).1 c
  have he2 : errsOf [0, 0] = 0 := by decide
  simp +contextual only [go_sem, hlen, harg, lcondB_decide, lcondB_not, lguardB_decide_true, lguardB_decide_false, ldguardB_decide, Nat.reduceLT, Nat.reduceEqDiff, Nat.reduceAdd, Nat.reduceLeDiff, reduceIte, reduceCtorEq]
  refine lfunG_eq (errs_ok _ [0, 0] (some 29) (by simp) _ (by simp only [go_sem, List.map_cons, lcondB_decide, lcondB_not, lguardB_decide_true, lguardB_decide_false, ldguardB_decide, Nat.reduceLT, Nat.reduceEqDiff, Nat.reduceAdd, Nat.reduceLeDiff, reduceIte, reduceCtorEq])) ?_
  simp +contextual only [go_sem, hlen, harg, he2, lcondB_decide, lcondB_not, lguardB_decide_true, lguardB_decide_false, ldguardB_decide, Nat.reduceLT, Nat.reduceEqDiff, Nat.reduceAdd, Nat.reduceLeDiff, reduceIte, reduceCtorEq]
  refine lfunG_eq (thenX_ok _ _ _ a b (edv_sl a) (edv_sl b) (by omega) (by omega) hna' hnb' (by omega) _) ?_
  simp +contextual only [go_sem, hlen, harg, a1, lcondB_decide, lcondB_not, lguardB_decide_true, lguardB_decide_false, ldguardB_decide, Nat.reduceLT, Nat.reduceEqDiff, Nat.reduceAdd, Nat.reduceLeDiff, reduceIte, reduceCtorEq]
  refine lfunG_eq (thenX_ok _ _ _ b c (edv_sl b) (edv_sl c) (by omega) (by omega) hnb' hnc' (by omega) _) ?_
  simp +contextual only [go_sem, hlen, harg, a2, lcondB_decide, lcondB_not, lguardB_decide_true, lguardB_decide_false, ldguardB_decide, Nat.reduceLT, Nat.reduceEqDiff, Nat.reduceAdd, Nat.reduceLeDiff, reduceIte, reduceCtorEq]
  refine lfunG_eq (thenX_ok _ _ _ _ c (edv_sl _) (edv_sl c) (by omega) (by omega) wab hnc' (by omega) _) ?_
  simp +contextual only [go_sem, hlen, harg, a3, lcondB_decide, lcondB_not, lguardB_decide_true, lguardB_decide_false, ldguardB_decide, Nat.reduceLT, Nat.reduceEqDiff, Nat.reduceAdd, Nat.reduceLeDiff, reduceIte, reduceCtorEq]
  refine lfunG_eq (thenX_ok _ _ _ a _ (edv_sl a) (edv_sl _) (by omega) (by omega) hna' wbc (by omega) _) ?_
  have hfa1 : (edv a).cells = [edv a] := fsv_cells
  have hfb1 : (edv b).cells = [edv b] := fsv_cells
  have hfc1 : (edv c).cells = [edv c] := fsv_cells
  have hra1 : (edv a).israw = false := fsv_israw
  have hrb1 : (edv b).israw = false := fsv_israw
  have hrc1 : (edv c).israw = false := fsv_israw
  simp +contextual only [go_sem, hlen, harg, a4, a3, hfa1, hfb1, hfc1, hra1, hrb1, hrc1, lcondB_decide, lcondB_not, lguardB_decide_true, lguardB_decide_false, ldguardB_decide, Nat.reduceLT, Nat.reduceEqDiff, Nat.reduceAdd, Nat.reduceLeDiff, reduceIte, reduceCtorEq]
  have hWn : ∀ z ∈ [a, b, c], z.length ≤ 2000 ∧ ∀ e ∈ z, e.new.length ≤ 100000 := by
    intro z hz
    simp only [List.mem_cons, List.not_mem_nil, or_false] at hz
    rcases hz with rfl | rfl | rfl
    · exact ⟨by omega, hna'⟩
    · exact ⟨by omega, hnb'⟩
    · exact ⟨by omega, hnc'⟩
  refine lfunG_freeze 2 1 ([a, b, c].map edv) (TT := some 27) (by simp only [go_sem, List.map_cons, List.map_nil, List.flatMap_cons, List.flatMap_nil, hfa1, hfb1, hfc1, List.cons_append, List.nil_append, lcondB_decide, lcondB_not, lguardB_decide_true, lguardB_decide_false, ldguardB_decide, Nat.reduceLT, Nat.reduceEqDiff, Nat.reduceAdd, Nat.reduceLeDiff, reduceIte, reduceCtorEq]) (edvs_len _) ?_
  simp +contextual only [go_sem, hlen, harg, List.length_map, List.length_cons, List.length_nil, pu_fz (edv_pu _), lcondB_decide, lcondB_not, lguardB_decide_true, lguardB_decide_false, ldguardB_decide, Nat.reduceLT, Nat.reduceEqDiff, Nat.reduceAdd, Nat.reduceLeDiff, reduceIte, reduceCtorEq]
  refine lfunG_eq (foldX_ok _ (by omega) _ [a, b, c] (eds_is _) (by simp) hWn _) ?_
  simp +contextual only [go_sem, hlen, harg, a5, a3, pu_fz (edv_pu _), lcondB_decide, lcondB_not, lguardB_decide_true, lguardB_decide_false, ldguardB_decide, Nat.reduceLT, Nat.reduceEqDiff, Nat.reduceAdd, Nat.reduceLeDiff, reduceIte, reduceCtorEq]
  obtain ⟨_, _, _, sa⟩ := faultOf_zero hfa
  obtain ⟨_, _, _, sb⟩ := faultOf_zero hfb
  obtain ⟨_, _, _, sc⟩ := faultOf_zero hfc
  obtain ⟨_, _, _, sd⟩ := faultOf_zero a7
  have l1 := apply_len x sa
  have hfb2 : faultOf (applyFrom x 0 a).length b = 0 := by rw [l1]; exact hfb
  have l2 := apply_len (applyFrom x 0 a) (l := b) (by rw [l1]; exact sb)
  rw [l1] at l2
  have hfc2 : faultOf (applyFrom (applyFrom x 0 a) 0 b).length c = 0 := by rw [l2]; exact hfc
  have hwX : ∀ e ∈ (thenVal x.length (thenVal x.length a b).1 c).1, e.new.length ≤ 100000 := by
    obtain ⟨r1, r2, r3⟩ := then_small hfa hfb (by omega)
    refine then_new ?_
    rw [r1]
    simp only
    rw [r3, over_len]
    omega
  have htx := assoc_text x sa sb sc sd a6
  refine lfunG_eq (apply21_ok x _ a (edv_sl a) (by omega) hna' _) ?_
  simp +contextual only [go_sem, hlen, harg, apply_val hfa, pu_fz (edv_pu _), lcondB_decide, lcondB_not, lguardB_decide_true, lguardB_decide_false, ldguardB_decide, Nat.reduceLT, Nat.reduceEqDiff, Nat.reduceAdd, Nat.reduceLeDiff, reduceIte, reduceCtorEq]
  refine lfunG_eq (apply21_ok _ _ b (edv_sl b) (by omega) hnb' _) ?_
  simp +contextual only [go_sem, hlen, harg, apply_val hfb2, pu_fz (edv_pu _), lcondB_decide, lcondB_not, lguardB_decide_true, lguardB_decide_false, ldguardB_decide, Nat.reduceLT, Nat.reduceEqDiff, Nat.reduceAdd, Nat.reduceLeDiff, reduceIte, reduceCtorEq]
  refine lfunG_eq (apply21_ok _ _ c (edv_sl c) (by omega) hnc' _) ?_
  simp +contextual only [go_sem, hlen, harg, apply_val hfc2, pu_fz (edv_pu _), lcondB_decide, lcondB_not, lguardB_decide_true, lguardB_decide_false, ldguardB_decide, Nat.reduceLT, Nat.reduceEqDiff, Nat.reduceAdd, Nat.reduceLeDiff, reduceIte, reduceCtorEq]
  refine lfunG_eq (apply21_ok x _ _ (edv_sl _) (by omega) hwX _) ?_
  simp +contextual only [go_sem, hlen, harg, apply_val a7, pu_fz (edv_pu _), lcondB_decide, lcondB_not, lguardB_decide_true, lguardB_decide_false, ldguardB_decide, Nat.reduceLT, Nat.reduceEqDiff, Nat.reduceAdd, Nat.reduceLeDiff, reduceIte, reduceCtorEq]
  have he9 : errsOf [0, 0, 0, 0, 0, 0, 0, 0, 0] = 0 := by decide
  refine lfunG_eq (errs_ok _ [0, 0, 0, 0, 0, 0, 0, 0, 0] (some 29) (by simp) _ (by simp only [go_sem, List.map_cons, lcondB_decide, lcondB_not, lguardB_decide_true, lguardB_decide_false, ldguardB_decide, Nat.reduceLT, Nat.reduceEqDiff, Nat.reduceAdd, Nat.reduceLeDiff, reduceIte, reduceCtorEq])) ?_
  simp +contextual only [go_sem, hlen, harg, he9, pu_fz (edv_pu _), lcondB_decide, lcondB_not, lguardB_decide_true, lguardB_decide_false, ldguardB_decide, Nat.reduceLT, Nat.reduceEqDiff, Nat.reduceAdd, Nat.reduceLeDiff, reduceIte, reduceCtorEq]
  refine lfunG_eq (same33 _ (by omega) _) ?_
  simp +contextual only [go_sem, hlen, harg, pu_fz (edv_pu _), lcondB_decide, lcondB_not, lguardB_decide_true, lguardB_decide_false, ldguardB_decide, Nat.reduceLT, Nat.reduceEqDiff, Nat.reduceAdd, Nat.reduceLeDiff, reduceIte, reduceCtorEq]
  refine lfunG_eq (same33 _ (by omega) _) ?_
  simp +contextual only [go_sem, hlen, harg, htx, pu_fz (edv_pu _), lcondB_decide, lcondB_not, lguardB_decide_true, lguardB_decide_false, ldguardB_decide, Nat.reduceLT, Nat.reduceEqDiff, Nat.reduceAdd, Nat.reduceLeDiff, reduceIte, reduceCtorEq]
  refine lfunG_eq (hready _) ?_
  simp only [go_sem, hlen, harg, lcondB_decide, lcondB_not, lguardB_decide_true, lguardB_decide_false, ldguardB_decide, Nat.reduceLT, Nat.reduceEqDiff, Nat.reduceAdd, Nat.reduceLeDiff, reduceIte, reduceCtorEq]
  exact lexit_pure (.refl s) (by simp only [low]) ⟨rfl, rfl⟩
end Go.S1N
end
section
set_option linter.unusedVariables false
set_option linter.unusedSimpArgs false
namespace Go.S1N
open Go Go.Proofs
set_option maxRecDepth 100000
def fastVia (P : Program) : Nat → List FuncId → List FuncId → Nat → List FuncId
  | 0, _, seen, _ => seen.reverse
  | n + 1, todo, seen, mask => match todo with
    | [] => seen.reverse
    | f :: todo => match Nat.testBit mask f with
      | true => fastVia P n todo seen mask
      | false => fastVia P n ((P.funcs[f]?).elim [] P.leadsTo ++ todo) (f :: seen) (mask ||| 2 ^ f)
theorem fastVia_eq (P : Program) : ∀ (n : Nat) (todo seen : List FuncId) (mask : Nat), (∀ x, Nat.testBit mask x = seen.contains x) → P.closureVia n todo seen = fastVia P n todo seen mask
  | 0, todo, seen, mask, h => by simp [Program.closureVia, fastVia]
  | n + 1, [], seen, mask, h => by simp [Program.closureVia, fastVia]
  | n + 1, f :: todo, seen, mask, h => by
    rw [Program.closureVia, fastVia, h f]
    cases hc : seen.contains f with
    | true => simp only [if_true]; exact fastVia_eq P n todo seen mask h
    | false =>
      simp only [Bool.false_eq_true, if_false]
      refine fastVia_eq P n _ _ _ fun x => ?_
      rw [Nat.testBit_or, h x, Nat.testBit_two_pow, List.contains_cons]
      by_cases e : f = x
      · subst e; simp
      · have e2 : (x == f) = false := by simpa using fun q => e q.symm
        simp [e, e2]
theorem closure_fast (P : Program) (f : FuncId) : P.closure f = fastVia P (1 + (P.funcs.toList.map fun g => (P.leadsTo g).length + 1).sum) [f] [] 0 := by
  unfold Program.closure
  exact fastVia_eq P _ _ _ _ fun x => by simp
end Go.S1N
end
