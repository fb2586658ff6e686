/- Part 4 of a proof: texts of this work, put together. -/
import Derived.Test.YtiohblpikmjofaaGreatDoorV3
import Derived.Shelf.Lay
import Derived.Ground.NamesProg
import Derived.KernelRfl
import Derived.Test.YtiohblpikmjofaaGreatDoorRows
set_option linter.unusedVariables false
set_option linter.unusedSimpArgs false
section
namespace Go.S1N
open Go Go.Am Go.Proofs Go.S1
set_option maxRecDepth 100000
theorem lexit_trim {s0 s1 : AHeap} {n : Nat} {l : List (Nat × Option AObj)} {v : AV} {R : AV → AHeap → Prop} (k : Nat) (c c' : List AV) {T : Option TypeId} (hk : lget l k = some (.cells (c ++ c') T))
    (h : lexit s0 R (some v) (loc s1 n (lput l k (.cells c T)))) : lexit s0 R (some v) (loc s1 n l) := Gh.trim k c c' hk h
attribute [local irreducible] lopsB lvb lstepB lfunG lcondB lguardB ldrawB ldrunB ldstepB ldguardB lmem lval ldmem ldval ldfun lexit ldloadB ldlenB lpostB athen ablock
theorem grow27 {s : AHeap} {n : Nat} {l : List (Nat × Option AObj)} {k : Nat} (hk : 0 < k) (hk2 : k ≤ 100000000) : lappend tab 27 3 .nils (.int .i64 k) (loc s n l) = some (.rs 3 (nm s.nx n) 0 k, loc s (n + 1) (lput l n (.cells (List.replicate k [AV.int .i64 0, .int .i64 0, .str []]).flatten (some 37)))) := by
  have hz : (AV.ofV (Value.agg #[Value.int IntKind.i64 0, Value.int IntKind.i64 0, Value.string { data := #[] }])).cells = [.int .i64 0, .int .i64 0, .str []] := rfl
  have hr : (AV.ofV (Value.agg #[Value.int IntKind.i64 0, Value.int IntKind.i64 0, Value.string { data := #[] }])).israw = false := rfl
  simp only [lappend, ty27, ty3, agrow, ty37, hz, hr]
  rw [if_neg (by simp; omega), if_neg (by omega), nx_loc, new_loc]
  rfl
theorem sl27n : aslice tab 27 .nils none (some (.int .i64 0)) none = some .nils := by
  simp [aslice, ty27, Tab.size, ty37, abounds, aidx]
theorem sl27z {b k : Nat} : aslice tab 27 (.rs 3 b 0 k) none (some (.int .i64 0)) none = some (.rs 3 b 0 0) := by
  simp [aslice, ty27, Tab.size, ty37, abounds, aidx]
theorem grow_ok (k : Nat) (hk2 : k ≤ 100000000) (s : AHeap) : ACall Tryz.prog 134 [.nils, .int .i64 k] (loc s 0 []) fun r t => (k = 0 ∧ r = .nils ∧ t = loc s 0 []) ∨ (0 < k ∧ r = .rs 3 (nm s.nx 0) 0 0 ∧ t = loc s 1 [(0, some (.cells (List.replicate k [AV.int .i64 0, .int .i64 0, .str []]).flatten (some 37)))]) := by
  refine gob134 (by simp) ?_
  intro tm hlen harg
  rw [loc_loc0]
  have hw0 : IntKind.i64.wrap (0 - 0) = 0 := wrap_id (by omega)
  have hw1 : IntKind.i64.wrap ((k : Int) - 0) = (k : Int) := by rw [wrap_id (by omega)]; omega
  have hng : ¬ ((k : Nat) : Int) < 0 := by omega
  have hcap : acap tab 27 .nils = some (.int .i64 0) := by simp [acap, ty27]
  simp +contextual only [go_sem, L134, hlen, harg, hng, hw0, hw1, hcap, cdD, cdN, gdT, gdF, gdD, Nat.reduceLT, Nat.reduceEqDiff, Nat.reduceAdd, Nat.reduceLeDiff, reduceIte, reduceCtorEq]
  refine ⟨fun hp => ?_, fun hp => ?_⟩
  · simp +contextual only [go_sem, hlen, harg, sl27n, cdD, cdN, gdT, gdF, gdD, Nat.reduceLT, Nat.reduceEqDiff, Nat.reduceAdd, Nat.reduceLeDiff, reduceIte, reduceCtorEq]
    refine lmem_eq (grow27 (by omega) hk2) ?_
    simp +contextual only [go_sem, hlen, harg, sl27z, cdD, cdN, gdT, gdF, gdD, Nat.reduceLT, Nat.reduceEqDiff, Nat.reduceAdd, Nat.reduceLeDiff, reduceIte, reduceCtorEq]
    exact lexit_now (.inr ⟨by omega, rfl, rfl⟩)
  · exact lexit_now (.inl ⟨by omega, rfl, rfl⟩)
theorem edv_cells (c : List Ed) {s : AHeap} : acellsOf s 3 (edv c) = some (edc c, c.length) := by
  rcases edv_sl c with ⟨f, h⟩ | ⟨h, hc⟩
  · rw [h]
    simp [acellsOf, edc]
  · rw [h, hc]; rfl
theorem edc_one (c : List Ed) : (edc c).all AV.one = true := by
  unfold edc
  induction c with
  | nil => rfl
  | cons e c ih => rw [List.map_cons, List.flatMap_cons, List.all_append, ih]; rfl
theorem cat27 {s : AHeap} {n k m : Nat} {l : List (Nat × Option AObj)} {c : List Ed} {D : List AV} (hc : c ≠ []) (hl : lget l k = some (.cells D (some 37))) (hD : m * 3 ≤ D.length) (hb : m + c.length ≤ 1000000000) :
    lappend tab 27 27 (.rs 3 (nm s.nx k) 0 m) (edv c) (loc s n l) = some (.rs 3 (nm s.nx n) 0 (m + c.length), loc s (n + 1) (lput (ldel l k) n (.cells (D.take (m * 3) ++ edc c) (some 37)))) := by
  have hn : c.length ≠ 0 := by intro h; exact hc (List.eq_nil_of_length_eq_zero h)
  simp only [lappend, ty27, aappend, ty37, edv_cells]
  rw [if_neg (by omega), if_neg hn, get_loc_nm, hl]
  simp only [AObj.cells?, edc_one, List.drop_zero, and_self, if_true, true_and]
  rw [if_pos ⟨by omega, by omega⟩, nx_loc, del_loc_nm, new_loc]
theorem cat27e {s : AHeap} {y : AV} (hy : y = .nils ∨ ∃ b m, y = .rs 3 b 0 m) : lappend tab 27 27 y (edv []) s = some (y, s) := by
  rcases hy with rfl | ⟨b, m, rfl⟩ <;> simp [lappend, ty27, aappend, ty37, edv_cells]
def totL (l : List (List Ed)) : Nat := (l.map List.length).sum
theorem totL_flat (l : List (List Ed)) : l.flatten.length = totL l := by simp [totL, List.length_flatten]
theorem concat_ok (v : AV) (l : List (List Ed)) (hv : IsEds v l) (hl : l.length ≤ 1000) (hc : ∀ c ∈ l, c.length ≤ 2000) (s : AHeap) :
    ACall Tryz.prog 94 [v] s fun r t => r = edv l.flatten ∧ t = s := by
  refine gob94 (by simp) ?_
  intro tm hlen harg
  have htake : ∀ j, totL (l.take j) ≤ totL l := by
    intro j
    have : totL l = totL (l.take j) + totL (l.drop j) := by
      unfold totL
      rw [← List.sum_append, ← List.map_append, List.take_append_drop]
    omega
  have htot : totL l ≤ 2000000 := by
    have : ∀ (l : List (List Ed)), (∀ c ∈ l, c.length ≤ 2000) → totL l ≤ l.length * 2000 := by
      intro l
      induction l with
      | nil => intro _; simp [totL]
      | cons c l ih =>
        intro h
        have h1 := ih fun x hx => h x (List.mem_cons_of_mem c hx)
        have h2 := h c (List.mem_cons_self ..)
        unfold totL at h1 ⊢
        simp only [List.map_cons, List.sum_cons, List.length_cons]
        omega
    have := this l hc
    omega
  simp +contextual only [go_sem, L94, hlen, harg, hv.len, cdD, cdN, gdT, gdF, gdD, Nat.reduceLT, Nat.reduceEqDiff, Nat.reduceAdd, Nat.reduceLeDiff, reduceIte, reduceCtorEq]
  refine ⟨Nat, fun j => [(0, v), (3, .int .i64 (totL (l.take j))), (9, v), (10, .int .i64 l.length), (11, .int .i64 j)], fun _ => loc s 0 [], fun j => j ≤ l.length, fun j => l.length - j, 0, by simp, ?_, ?_⟩
  · refine To.go [] [] rfl (.refl s) (by decide) (by simp) ?_ trivial
    simp +contextual only [go_sem, hlen, harg, pu_ren hv.pu, cdD, cdN, gdT, gdF, gdD, Nat.reduceLT, Nat.reduceEqDiff, Nat.reduceAdd, Nat.reduceLeDiff, reduceIte, reduceCtorEq]
    simp [totL]
  · intro j tm1 hj hlen1 hlv
    simp only [go_sem, hlen, cdD, cdN, gdT, gdF, gdD, Nat.reduceLT, Nat.reduceEqDiff, Nat.reduceAdd, Nat.reduceLeDiff, reduceIte, reduceCtorEq] at hlen1 hlv
    simp +contextual only [go_sem, hlen, hlen1, hlv, hv.len, cdD, cdN, gdT, gdF, gdD, Nat.reduceLT, Nat.reduceEqDiff, Nat.reduceAdd, Nat.reduceLeDiff, reduceIte, reduceCtorEq]
    refine ⟨fun hlt => ?_, fun hge => ?_⟩
    · have hj2 : j < l.length := by omega
      have hg := List.getElem?_eq_getElem hj2
      have hmem : l[j] ∈ l := List.getElem_mem hj2
      have htk := List.take_succ_eq_append_getElem hj2
      generalize l[j] = c at hg hmem htk
      have hcl := hc c hmem
      have h1 := htake j
      have ht1 : totL (l.take (j + 1)) = totL (l.take j) + c.length := by rw [htk]; simp [totL]
      have hw1 : IntKind.i64.wrap (((totL (l.take j) : Nat) : Int) + (c.length : Int)) = ((totL (l.take (j + 1)) : Nat) : Int) := by rw [wrap_id (by omega), ht1]; omega
      have hw3 : IntKind.i64.wrap ((j : Int) + 1) = ((j + 1 : Nat) : Int) := by rw [wrap_id (by omega)]; rfl
      have hng : ¬ ((totL (l.take (j + 1)) : Nat) : Int) < 0 := by omega
      simp +contextual only [go_sem, hlen1, hlv, hv.at_ hg, ld27r, (edv_sl c).len, hw1, hw3, hng, cdD, cdN, gdT, gdF, gdD, Nat.reduceLT, Nat.reduceEqDiff, Nat.reduceAdd, Nat.reduceLeDiff, reduceIte, reduceCtorEq]
      refine ⟨j + 1, by omega, by omega, ?_⟩
      refine To.go [] [] rfl (.refl s) (by decide) (by simp) ?_ trivial
      simp +contextual only [go_sem, hlen1, hlv, pu_ren hv.pu, cdD, cdN, gdT, gdF, gdD, Nat.reduceLT, Nat.reduceEqDiff, Nat.reduceAdd, Nat.reduceLeDiff, reduceIte, reduceCtorEq]
    · have hj2 : j = l.length := by omega
      subst hj2
      simp only [List.take_length] at hlv ⊢
      refine lfunG_of (grow_ok (totL l) (by omega) s) ?_
      rintro r _ (⟨h0, rfl, rfl⟩ | ⟨h0, rfl, rfl⟩)
      · have hfl : l.flatten = [] := List.eq_nil_of_length_eq_zero (by rw [totL_flat]; exact h0)
        have hall : ∀ c ∈ l, c = [] := List.flatten_eq_nil_iff.1 hfl
        simp +contextual only [go_sem, hlen1, hlv, hv.len, cdD, cdN, gdT, gdF, gdD, Nat.reduceLT, Nat.reduceEqDiff, Nat.reduceAdd, Nat.reduceLeDiff, reduceIte, reduceCtorEq]
        refine ⟨Nat, fun j => [(6, .nils), (25, v), (26, .int .i64 l.length), (27, .int .i64 j)], fun _ => loc s 0 [], fun j => j ≤ l.length, fun j => l.length - j, 0, by simp, ?_, ?_⟩
        · refine To.go [] [] rfl (.refl s) (by decide) (by simp) ?_ trivial
          simp +contextual only [go_sem, hlen1, hlv, pu_ren hv.pu, cdD, cdN, gdT, gdF, gdD, Nat.reduceLT, Nat.reduceEqDiff, Nat.reduceAdd, Nat.reduceLeDiff, reduceIte, reduceCtorEq]
          simp
        · intro j tm2 hj hlen2 hlv2
          simp only [go_sem, hlen1, cdD, cdN, gdT, gdF, gdD, Nat.reduceLT, Nat.reduceEqDiff, Nat.reduceAdd, Nat.reduceLeDiff, reduceIte, reduceCtorEq] at hlen2 hlv2
          simp +contextual only [go_sem, hlen2, hlv2, cdD, cdN, gdT, gdF, gdD, Nat.reduceLT, Nat.reduceEqDiff, Nat.reduceAdd, Nat.reduceLeDiff, reduceIte, reduceCtorEq]
          refine ⟨fun hlt => ?_, fun hge => ?_⟩
          · have hj2 : j < l.length := by omega
            have hg := List.getElem?_eq_getElem hj2
            have hmem : l[j] ∈ l := List.getElem_mem hj2
            generalize l[j] = c at hg hmem
            obtain rfl := hall c hmem
            have hw3 : IntKind.i64.wrap ((j : Int) + 1) = ((j + 1 : Nat) : Int) := by rw [wrap_id (by omega)]; rfl
            simp +contextual only [go_sem, hlen2, hlv2, hv.at_ hg, ld27r, cdD, cdN, gdT, gdF, gdD, Nat.reduceLT, Nat.reduceEqDiff, Nat.reduceAdd, Nat.reduceLeDiff, reduceIte, reduceCtorEq]
            refine lmem_eq (cat27e (.inl rfl)) ?_
            simp +contextual only [go_sem, hlen2, hlv2, hw3, cdD, cdN, gdT, gdF, gdD, Nat.reduceLT, Nat.reduceEqDiff, Nat.reduceAdd, Nat.reduceLeDiff, reduceIte, reduceCtorEq]
            refine ⟨hlen1.symm, j + 1, by omega, by omega, ?_⟩
            refine To.go [] [] rfl (.refl s) (by decide) (by simp) ?_ trivial
            simp +contextual only [go_sem, hlen2, hlv2, pu_ren hv.pu, cdD, cdN, gdT, gdF, gdD, Nat.reduceLT, Nat.reduceEqDiff, Nat.reduceAdd, Nat.reduceLeDiff, reduceIte, reduceCtorEq]
          · refine lexit_pure (.refl s) (by simp only [low]) ⟨by rw [hfl]; rfl, rfl⟩
      · simp +contextual only [go_sem, hlen1, hlv, hv.len, cdD, cdN, gdT, gdF, gdD, Nat.reduceLT, Nat.reduceEqDiff, Nat.reduceAdd, Nat.reduceLeDiff, reduceIte, reduceCtorEq]
        refine ⟨Nat × List AV, fun x => [(6, .rs 3 (nm s.nx 0) 0 (l.take x.1).flatten.length), (25, v), (26, .int .i64 l.length), (27, .int .i64 x.1)], fun x => loc s 1 [(0, some (.cells x.2 (some 37)))],
          fun x => x.1 ≤ l.length ∧ x.2.take ((l.take x.1).flatten.length * 3) = edc (l.take x.1).flatten ∧ (l.take x.1).flatten.length * 3 ≤ x.2.length ∧ PuL x.2, fun x => l.length - x.1, (0, (List.replicate (totL l) [AV.int .i64 0, .int .i64 0, .str []]).flatten), ⟨by simp, by simp [edc], by simp, ?_⟩, ?_, ?_⟩
        · unfold PuL
          rw [lowL_iff]
          intro x hx
          obtain ⟨y, hy, hx⟩ := List.mem_flatten.1 hx
          rw [(List.mem_replicate.1 hy).2] at hx
          simp only [List.mem_cons, List.not_mem_nil, or_false] at hx
          rcases hx with rfl | rfl | rfl <;> simp only [low]
        · refine To.go [0] [(0, some (.cells (List.replicate (totL l) [AV.int .i64 0, .int .i64 0, .str []]).flatten (some 37)))] rfl (.refl s) (by decide) (by simp) ?_ ?_
          · simp +contextual only [go_sem, hlen1, hlv, pu_ren hv.pu, cdD, cdN, gdT, gdF, gdD, Nat.reduceLT, Nat.reduceEqDiff, Nat.reduceAdd, Nat.reduceLeDiff, reduceIte, reduceCtorEq]
            simp
          · have hp : PuL (List.replicate (totL l) [AV.int .i64 0, .int .i64 0, .str []]).flatten := by
              unfold PuL
              rw [lowL_iff]
              intro x hx
              obtain ⟨y, hy, hx⟩ := List.mem_flatten.1 hx
              rw [(List.mem_replicate.1 hy).2] at hx
              simp only [List.mem_cons, List.not_mem_nil, or_false] at hx
              rcases hx with rfl | rfl | rfl <;> simp only [low]
            simp only [go_sem, pul_ren hp, cdD, cdN, gdT, gdF, gdD, Nat.reduceLT, Nat.reduceEqDiff, Nat.reduceAdd, Nat.reduceLeDiff, reduceIte, reduceCtorEq]
        · rintro ⟨j, D⟩ tm2 ⟨hj, hD, hDl, hDp⟩ hlen2 hlv2
          simp only [go_sem, hlen1, cdD, cdN, gdT, gdF, gdD, Nat.reduceLT, Nat.reduceEqDiff, Nat.reduceAdd, Nat.reduceLeDiff, reduceIte, reduceCtorEq] at hlen2 hlv2 hj hD hDl hDp
          simp +contextual only [go_sem, hlen2, hlv2, cdD, cdN, gdT, gdF, gdD, Nat.reduceLT, Nat.reduceEqDiff, Nat.reduceAdd, Nat.reduceLeDiff, reduceIte, reduceCtorEq]
          refine ⟨fun hlt => ?_, fun hge => ?_⟩
          · have hj2 : j < l.length := by omega
            have hg := List.getElem?_eq_getElem hj2
            have hmem : l[j] ∈ l := List.getElem_mem hj2
            have htk := List.take_succ_eq_append_getElem hj2
            generalize l[j] = c at hg hmem htk
            have hcl := hc c hmem
            have h1 := htake j
            have hfl1 : (l.take (j + 1)).flatten = (l.take j).flatten ++ c := by rw [htk]; simp
            have hll : (l.take j).flatten.length ≤ 2000000 := by rw [totL_flat]; omega
            have hw3 : IntKind.i64.wrap ((j : Int) + 1) = ((j + 1 : Nat) : Int) := by rw [wrap_id (by omega)]; rfl
            simp +contextual only [go_sem, hlen2, hlv2, hv.at_ hg, ld27r, cdD, cdN, gdT, gdF, gdD, Nat.reduceLT, Nat.reduceEqDiff, Nat.reduceAdd, Nat.reduceLeDiff, reduceIte, reduceCtorEq]
            by_cases hce : c = []
            · subst hce
              rw [List.append_nil] at hfl1
              refine lmem_eq (cat27e (.inr ⟨_, _, rfl⟩)) ?_
              simp +contextual only [go_sem, hlen2, hlv2, hw3, cdD, cdN, gdT, gdF, gdD, Nat.reduceLT, Nat.reduceEqDiff, Nat.reduceAdd, Nat.reduceLeDiff, reduceIte, reduceCtorEq]
              refine ⟨hlen1.symm, (j + 1, D), ⟨by simp only; omega, by simp only [hfl1]; exact hD, by simp only [hfl1]; exact hDl, hDp⟩, by simp only; omega, ?_⟩
              refine To.go [0] _ rfl (.refl s) (by decide) (by simp) ?_ ?_
              · simp +contextual only [go_sem, hlen2, hlv2, hfl1, pu_ren hv.pu, cdD, cdN, gdT, gdF, gdD, Nat.reduceLT, Nat.reduceEqDiff, Nat.reduceAdd, Nat.reduceLeDiff, reduceIte, reduceCtorEq]
              · simp only [go_sem, pul_ren hDp, cdD, cdN, gdT, gdF, gdD, Nat.reduceLT, Nat.reduceEqDiff, Nat.reduceAdd, Nat.reduceLeDiff, reduceIte, reduceCtorEq]
            · refine lmem_eq (cat27 (D := D) hce (by simp only [go_sem, cdD, cdN, gdT, gdF, gdD, Nat.reduceLT, Nat.reduceEqDiff, Nat.reduceAdd, Nat.reduceLeDiff, reduceIte, reduceCtorEq]) hDl (by omega)) ?_
              simp +contextual only [go_sem, hlen2, hlv2, hw3, cdD, cdN, gdT, gdF, gdD, Nat.reduceLT, Nat.reduceEqDiff, Nat.reduceAdd, Nat.reduceLeDiff, reduceIte, reduceCtorEq]
              have hDn : D.take ((l.take j).flatten.length * 3) ++ edc c = edc (l.take (j + 1)).flatten := by
                rw [hD, hfl1]; simp [edc]
              refine ⟨hlen1.symm, (j + 1, D.take ((l.take j).flatten.length * 3) ++ edc c), ⟨by simp only; omega, ?_, ?_, ?_⟩, by simp only; omega, ?_⟩
              · simp only
                rw [hDn, List.take_of_length_le (by rw [edc_len]; exact Nat.le_refl _)]
              · simp only
                rw [hDn, edc_len]
                exact Nat.le_refl _
              · simp only
                rw [hDn]; exact edc_pul _
              · refine To.go [1] _ rfl (.refl s) (by decide) (by simp) ?_ ?_
                · simp +contextual only [go_sem, hlen2, hlv2, hfl1, List.length_append, pu_ren hv.pu, cdD, cdN, gdT, gdF, gdD, Nat.reduceLT, Nat.reduceEqDiff, Nat.reduceAdd, Nat.reduceLeDiff, reduceIte, reduceCtorEq]
                · simp only [go_sem, hDn, pul_ren (edc_pul _), cdD, cdN, gdT, gdF, gdD, Nat.reduceLT, Nat.reduceEqDiff, Nat.reduceAdd, Nat.reduceLeDiff, reduceIte, reduceCtorEq]
          · have hj2 : j = l.length := by omega
            subst hj2
            simp only [List.take_length] at hD hDl hlv2 ⊢
            have hlt : 0 < l.flatten.length := by rw [totL_flat]; exact h0
            refine lexit_trim 0 (edc l.flatten) (D.drop (l.flatten.length * 3)) (T := some 37) (by rw [← hD, List.take_append_drop]; rfl) ?_
            simp only [go_sem, cdD, cdN, gdT, gdF, gdD, Nat.reduceLT, Nat.reduceEqDiff, Nat.reduceAdd, Nat.reduceLeDiff, reduceIte, reduceCtorEq]
            refine lexit_freeze 0 3 (l.flatten.map Ed.enc) (T := some 37) (by simp only [go_sem, cdD, cdN, gdT, gdF, gdD, Nat.reduceLT, Nat.reduceEqDiff, Nat.reduceAdd, Nat.reduceLeDiff, reduceIte, reduceCtorEq]; rfl) (enc_len _) ?_
            rw [show (AV.rs 3 (nm s.nx 0) 0 l.flatten.length) = gsv 3 (nm s.nx 0) l.flatten.length from (gsv_pos (by omega)).symm, len_fz]
            exact lexit_pure (.refl s) (low.mono (Nat.zero_le _) (edv_pu _)) ⟨rfl, rfl⟩
end Go.S1N
end
section
namespace Go.Proofs
open Go.Shelf
def Tryz.laysSort_ren : Go.Shelf.Ren := ⟨fun | 125 => 136 | 128 => 189 | 129 => 190 | 189 => 95 | 215 => 252 | 216 => 186 | 257 => 135 | 294 => 180 | 295 => 181 | 296 => 182 | 297 => 183 | 298 => 184 | 299 => 185 | 300 => 187 | 301 => 188 | 328 => 247 | 329 => 248 | 330 => 249 | 331 => 250 | 332 => 251 | 343 => 314 | n => n, fun | 0 => 0 | 3 => 3 | 4 => 4 | 5 => 5 | 9 => 9 | 28 => 22 | 46 => 216 | 51 => 280 | 53 => 221 | 131 => 169 | 182 => 272 | 183 => 273 | 218 => 363 | 222 => 144 | 228 => 460 | 229 => 399 | n => n, fun | n => n⟩
theorem Tryz.laysSort : Go.Proofs.Lays.n189 Tryz.prog Tryz.laysSort_ren := {
  mixed := by kernel_rfl
  f125 := Tryz.func136.trans (congrArg some (by kernel_rfl))
  f128 := Tryz.func189.trans (congrArg some (by kernel_rfl))
  f129 := Tryz.func190.trans (congrArg some (by kernel_rfl))
  f189 := Tryz.func95.trans (congrArg some (by kernel_rfl))
  f215 := Tryz.func252.trans (congrArg some (by kernel_rfl))
  f216 := Tryz.func186.trans (congrArg some (by kernel_rfl))
  f257 := Tryz.func135.trans (congrArg some (by kernel_rfl))
  f294 := Tryz.func180.trans (congrArg some (by kernel_rfl))
  f295 := Tryz.func181.trans (congrArg some (by kernel_rfl))
  f296 := Tryz.func182.trans (congrArg some (by kernel_rfl))
  f297 := Tryz.func183.trans (congrArg some (by kernel_rfl))
  f298 := Tryz.func184.trans (congrArg some (by kernel_rfl))
  f299 := Tryz.func185.trans (congrArg some (by kernel_rfl))
  f300 := Tryz.func187.trans (congrArg some (by kernel_rfl))
  f301 := Tryz.func188.trans (congrArg some (by kernel_rfl))
  f328 := Tryz.func247.trans (congrArg some (by kernel_rfl))
  f329 := Tryz.func248.trans (congrArg some (by kernel_rfl))
  f330 := Tryz.func249.trans (congrArg some (by kernel_rfl))
  f331 := Tryz.func250.trans (congrArg some (by kernel_rfl))
  f332 := Tryz.func251.trans (congrArg some (by kernel_rfl))
  f343 := Tryz.func314.trans (congrArg some (by kernel_rfl))
  t0 := Tryz.underlying0
  a0 := Tryz.isAgg0
  z0 := Tryz.sizeOf0
  v0 := Tryz.zeroValue0
  t3 := Tryz.underlying3
  a3 := Tryz.isAgg3
  z3 := Tryz.sizeOf3
  v3 := Tryz.zeroValue3
  t4 := Tryz.underlying4
  a4 := Tryz.isAgg4
  z4 := Tryz.sizeOf4
  v4 := Tryz.zeroValue4
  t5 := Tryz.underlying5
  a5 := Tryz.isAgg5
  z5 := Tryz.sizeOf5
  v5 := Tryz.zeroValue5
  t9 := Tryz.underlying9
  a9 := Tryz.isAgg9
  z9 := Tryz.sizeOf9
  v9 := Tryz.zeroValue9
  t28 := Tryz.underlying22
  a28 := Tryz.isAgg22
  z28 := Tryz.sizeOf22
  v28 := Tryz.zeroValue22
  t46 := Tryz.underlying216
  a46 := Tryz.isAgg216
  z46 := Tryz.sizeOf216
  v46 := Tryz.zeroValue216
  t51 := Tryz.underlying280
  a51 := Tryz.isAgg280
  z51 := Tryz.sizeOf280
  v51 := Tryz.zeroValue280
  t53 := Tryz.underlying221
  a53 := Tryz.isAgg221
  z53 := Tryz.sizeOf221
  v53 := Tryz.zeroValue221
  t131 := Tryz.underlying169
  a131 := Tryz.isAgg169
  z131 := Tryz.sizeOf169
  v131 := Tryz.zeroValue169
  t182 := Tryz.underlying272
  a182 := Tryz.isAgg272
  z182 := Tryz.sizeOf272
  v182 := Tryz.zeroValue272
  t183 := Tryz.underlying273
  a183 := Tryz.isAgg273
  z183 := Tryz.sizeOf273
  v183 := Tryz.zeroValue273
  t218 := Tryz.underlying363
  a218 := Tryz.isAgg363
  z218 := Tryz.sizeOf363
  v218 := Tryz.zeroValue363
  t222 := Tryz.underlying144
  a222 := Tryz.isAgg144
  z222 := Tryz.sizeOf144
  v222 := Tryz.zeroValue144
  t228 := Tryz.underlying460
  a228 := Tryz.isAgg460
  z228 := Tryz.sizeOf460
  v228 := Tryz.zeroValue460
  t229 := Tryz.underlying399
  a229 := Tryz.isAgg399
  z229 := Tryz.sizeOf399
  v229 := Tryz.zeroValue399 }
end Go.Proofs
namespace Go.S1N
open Go Go.Am Go.Proofs Go.S1
set_option maxRecDepth 100000
attribute [local irreducible] lopsB lvb lstepB lfunG lcondB lguardB ldrawB ldrunB ldstepB ldguardB lmem lval ldmem ldval ldfun lexit ldloadB ldlenB lpostB athen ablock
theorem sort_ok {s : AHeap} {b : Nat} {L : List Int} {To : Option TypeId} (hb : s.get b = some (.cells (L.map (AV.int .i64)) To)) (h0 : L ≠ []) (hL : L.length < 4611686018427387904) :
    ACall Tryz.prog 95 [.rs 1 b 0 L.length] s fun v t => v = .tuple [] ∧ t = s.upd b (.cells ((L.mergeSort fun x y => decide (x ≤ y)).map (AV.int .i64)) To) := by
  obtain ⟨c, hc⟩ := Option.isSome_iff_exists.1 (show Tryz.f95.body.isSome = true by kernel_rfl)
  exact sort_gen Tryz.func95 hc nm164 (Any.slices_Sort_int Tryz.laysSort) hb h0 hL
end Go.S1N
end
section
namespace Go.S1N
open Go Go.Am Go.Proofs Go.S1
set_option maxRecDepth 100000
attribute [local irreducible] lopsB lvb lstepB lfunG lcondB lguardB ldrawB ldrunB ldstepB ldguardB lmem lval ldmem ldval ldfun lexit ldloadB ldlenB lpostB athen ablock
def compact : List Int → List Int
  | [] => []
  | [a] => [a]
  | a :: b :: r => if a = b then compact (b :: r) else a :: compact (b :: r)
theorem inl_drop (L : List Int) (j : Nat) : (L.map (AV.int .i64)).drop j = (L.drop j).map (AV.int .i64) := List.map_drop.symm
theorem sl22_lo {b o m i : Nat} (h : i ≤ m) : aslice tab 22 (.rs 1 b o m) (some (.int .i64 i)) none none = some (.rs 1 b (o + i) (m - i)) := by
  simp [aslice, ty22, Tab.size, ty3, abounds, aidx, h]
theorem sl22_hi {b o m i : Nat} (h : i ≤ m) : aslice tab 22 (.rs 1 b o m) none (some (.int .i64 i)) none = some (.rs 1 b o i) := by
  simp [aslice, ty22, Tab.size, ty3, abounds, aidx, h]
theorem ix22n {b o m i : Nat} (h : i < m) : aindexAddr tab 22 (.rs 1 b o m) (.int .i64 i) = some (.ptr b (o + i)) := by
  rw [ix22r (by omega) (by omega)]; simp
theorem compact_snoc : ∀ (ys : List Int) (x z : Int), compact (ys ++ [x, z]) = if x = z then compact (ys ++ [x]) else compact (ys ++ [x]) ++ [z]
  | [], x, z => by
    simp only [List.nil_append, compact]
    split
    · rename_i h; rw [h]
    · rfl
  | [a], x, z => by
    simp only [List.cons_append, List.nil_append, compact]
    split <;> split <;> simp_all
  | a :: b :: ys, x, z => by
    have ih := compact_snoc (b :: ys) x z
    simp only [List.cons_append] at ih ⊢
    rw [compact, compact, ih]
    split <;> split <;> simp_all
theorem compact_take {L : List Int} {m : Nat} (h1 : 1 ≤ m) (h : m < L.length) : compact (L.take (m + 1)) = if L[m - 1] = L[m] then compact (L.take m) else compact (L.take m) ++ [L[m]] := by
  have e1 : L.take m = L.take (m - 1) ++ [L[m - 1]] := by
    have := List.take_succ_eq_append_getElem (show m - 1 < L.length by omega)
    rwa [show m - 1 + 1 = m by omega] at this
  have e2 : L.take (m + 1) = L.take (m - 1) ++ [L[m - 1], L[m]] := by
    rw [List.take_succ_eq_append_getElem h, e1, List.append_assoc]; rfl
  rw [e2, compact_snoc, ← e1]
theorem compact_len : ∀ L : List Int, (compact L).length ≤ L.length
  | [] => by simp [compact]
  | [a] => by simp [compact]
  | a :: b :: r => by
    have ih := compact_len (b :: r)
    rw [compact]
    split <;> simp only [List.length_cons] at ih ⊢ <;> omega
theorem clear22 {s : AHeap} {b o m : Nat} {D : List AV} {Tt : Option TypeId} (hg : s.get b = some (.cells D Tt)) (hlt : b < s.nx) (h : o + m ≤ D.length) (hm : m ≠ 0) :
    lclear tab 22 (.rs 1 b o m) (loc s 0 []) = some (.tuple [], loc (s.upd b (.cells (splice D o (List.replicate m [.int .i64 0]).flatten) Tt)) 0 []) := by
  simp only [lclear, ty22, aclear, ty3]
  have hz : (AV.ofV (Value.int IntKind.i64 0)).cells = [.int .i64 0] := rfl
  rw [if_neg (by decide), if_neg hm, get_loc_out hlt, hg]
  simp only [AObj.cells?, hz]
  rw [if_pos ⟨trivial, by omega, rfl⟩, upd_loc_out hlt]
theorem splice_ints : ∀ (m o : Nat) (D : List Int), ∃ C : List Int, splice (D.map (AV.int .i64)) o (List.replicate m [AV.int .i64 0]).flatten = C.map (AV.int .i64) ∧ C.length = D.length ∧ C.take o = D.take o
  | 0, o, D => ⟨D, rfl, rfl, rfl⟩
  | m + 1, o, D => by
    obtain ⟨C, h1, h2, h3⟩ := splice_ints m (o + 1) (D.set o 0)
    refine ⟨C, ?_, by rw [h2, List.length_set], ?_⟩
    · rw [List.replicate_succ, List.flatten_cons]
      show splice ((D.map (AV.int .i64)).set o (.int .i64 0)) (o + 1) (List.replicate m [AV.int .i64 0]).flatten = _
      rw [← h1, List.map_set]
    · have := congrArg (List.take o) h3
      rw [List.take_take, List.take_take, Nat.min_eq_left (by omega)] at this
      rw [this, List.take_set_of_le (Nat.le_refl _)]
theorem lowO_ints {n : Nat} (D : List Int) {Tt : Option TypeId} : lowO n (.cells (D.map (AV.int .i64)) Tt) := by
  simp only [lowO, lowL_iff, List.mem_map]
  rintro x ⟨y, _, rfl⟩
  simp only [low]
theorem compact_ok {s : AHeap} {b : Nat} {L : List Int} {Tt : Option TypeId} (hb : s.get b = some (.cells (L.map (AV.int .i64)) Tt)) (hlt : b < s.nx) (hL : L.length ≤ 1000000) :
    ACall Tryz.prog 96 [.rs 1 b 0 L.length] s fun v t => ∃ C : List Int, C.take (compact L).length = compact L ∧ C.length = L.length ∧ v = .rs 1 b 0 (compact L).length ∧ ((t = s ∧ C = L) ∨ t = s.upd b (.cells (C.map (AV.int .i64)) Tt)) := by
  refine gob96 (by simp) ?_
  intro tm hlen harg
  simp +contextual only [go_sem, L96, hlen, harg, cdD, cdN, gdT, gdF, gdD, Nat.reduceLT, Nat.reduceEqDiff, Nat.reduceAdd, Nat.reduceLeDiff, reduceIte, reduceCtorEq]
  refine ⟨fun h2 => ?_, fun h2 => ?_⟩
  · have hc : compact L = L := by
      match L, h2 with
      | [], _ => rfl
      | [a], _ => rfl
      | a :: b :: r, h2 => simp at h2; omega
    exact lexit_pure (.refl s) (by simp only [low]; exact hlt) ⟨L, by rw [hc, List.take_length], rfl, by rw [hc], .inl ⟨rfl, rfl⟩⟩
  refine ⟨Nat, fun k => [(0, .rs 1 b 0 L.length), (3, .int .i64 k)], fun _ => loc s 0 [], fun k => 1 ≤ k ∧ k ≤ L.length ∧ compact (L.take k) = L.take k, fun k => L.length - k, 1, ⟨Nat.le_refl _, by omega, ?_⟩, ?_, ?_⟩
  · obtain ⟨a, r, rfl⟩ : ∃ a r, L = a :: r := by
      cases L with
      | nil => simp at h2
      | cons a r => exact ⟨a, r, rfl⟩
    simp [compact]
  · refine To.go [] [] rfl (.refl s) (by decide) (by simp) ?_ trivial
    simp +contextual only [go_sem, hlen, harg, rnm_low hlt, cdD, cdN, gdT, gdF, gdD, Nat.reduceLT, Nat.reduceEqDiff, Nat.reduceAdd, Nat.reduceLeDiff, reduceIte, reduceCtorEq]
    rfl
  · rintro k tm1 ⟨hk1, hk2, hkc⟩ hlen1 hlv
    simp only [go_sem, hlen, cdD, cdN, gdT, gdF, gdD, Nat.reduceLT, Nat.reduceEqDiff, Nat.reduceAdd, Nat.reduceLeDiff, reduceIte, reduceCtorEq] at hlen1 hlv
    simp +contextual only [go_sem, hlen, hlen1, hlv, cdD, cdN, gdT, gdF, gdD, Nat.reduceLT, Nat.reduceEqDiff, Nat.reduceAdd, Nat.reduceLeDiff, reduceIte, reduceCtorEq]
    refine ⟨fun hlt2 => ?_, fun hge => ?_⟩
    · have hk3 : k < L.length := by omega
      have hct := compact_take hk1 hk3
      have d1 : (L.map (AV.int .i64)).drop (k - 1) = .int .i64 L[k - 1] :: (L.drop (k - 1 + 1)).map (AV.int .i64) := by rw [inl_drop, List.drop_eq_getElem_cons (show k - 1 < L.length by omega)]; rfl
      have d2 : (L.map (AV.int .i64)).drop k = .int .i64 L[k] :: (L.drop (k + 1)).map (AV.int .i64) := by rw [inl_drop, List.drop_eq_getElem_cons hk3]; rfl
      have htk := List.take_succ_eq_append_getElem hk3
      generalize L[k - 1] = x at hct d1
      generalize L[k] = z at hct d2 htk
      have hw1 : IntKind.i64.wrap ((k : Int) - 1) = ((k - 1 : Nat) : Int) := by rw [wrap_id (by omega)]; omega
      have hw2 : IntKind.i64.wrap ((k : Int) + 1) = ((k + 1 : Nat) : Int) := by rw [wrap_id (by omega)]; rfl
      have i1 : aindexAddr tab 22 (.rs 1 b 0 L.length) (.int .i64 ((k - 1 : Nat) : Int)) = some (.ptr b (k - 1)) := by rw [ix22n (by omega), Nat.zero_add]
      have i2 : aindexAddr tab 22 (.rs 1 b 0 L.length) (.int .i64 (k : Int)) = some (.ptr b k) := by rw [ix22n (by omega), Nat.zero_add]
      refine ldrawB_go [] [] 9 (by decide) ?_
      simp +contextual only [go_sem, hlen1, hlv, hw1, hw2, i1, i2, hb, hlt, d1, d2, cdD, cdN, gdT, gdF, gdD, Nat.reduceLT, Nat.reduceEqDiff, Nat.reduceAdd, Nat.reduceLeDiff, reduceIte, reduceCtorEq]
      refine ⟨by kernel_rfl, fun hz => ?_, fun hz => ?_⟩
      · rw [if_pos hz.symm, hkc] at hct
        have d3 : aslice tab 22 (.rs 1 b 0 L.length) (some (.int .i64 (k : Int))) none none = some (.rs 1 b k (L.length - k)) := by rw [sl22_lo (by omega), Nat.zero_add]
        simp +contextual only [go_sem, hlen1, hlv, d3, cdD, cdN, gdT, gdF, gdD, Nat.reduceLT, Nat.reduceEqDiff, Nat.reduceAdd, Nat.reduceLeDiff, reduceIte, reduceCtorEq]
        refine ⟨Nat × Nat × List Int × AHeap, fun x => [(0, .rs 1 b 0 L.length), (3, .int .i64 x.1), (4, .rs 1 b k (L.length - k)), (5, .int .i64 (x.2.1 - k : Nat))], fun x => loc x.2.2.2 0 [],
          fun x => k < x.2.1 ∧ x.2.1 ≤ L.length ∧ x.1 < x.2.1 ∧ x.2.2.1.length = L.length ∧ x.2.2.1.take x.1 = compact (L.take x.2.1) ∧ x.1 = (compact (L.take x.2.1)).length ∧ x.2.2.1.drop (x.2.1 - 1) = L.drop (x.2.1 - 1) ∧ OKo s x.2.2.2 ∧
            x.2.2.2.get b = some (.cells (x.2.2.1.map (AV.int .i64)) Tt) ∧ ((x.2.2.2 = s ∧ x.2.2.1 = L) ∨ x.2.2.2 = s.upd b (.cells (x.2.2.1.map (AV.int .i64)) Tt)),
          fun x => L.length - x.2.1, (k, k + 1, L, s), ⟨by simp only; omega, by simp only; omega, by simp only; omega, rfl, hct.symm, by rw [hct, List.length_take]; simp only; omega, rfl, .refl s, hb, .inl ⟨rfl, rfl⟩⟩, ?_, ?_⟩
        · refine To.go [] [] rfl (.refl s) (by decide) (by simp) ?_ trivial
          simp +contextual only [go_sem, hlen1, hlv, rnm_low hlt, Nat.add_sub_cancel_left, cdD, cdN, gdT, gdF, gdD, Nat.reduceLT, Nat.reduceEqDiff, Nat.reduceAdd, Nat.reduceLeDiff, reduceIte, reduceCtorEq]
          rfl
        · rintro ⟨kw, m, D, s1⟩ tm2 ⟨q1, q2, q3, q4, q5, q6, q7, q8, q9, q10⟩ hlen2 hlv2
          simp only [go_sem, hlen1, cdD, cdN, gdT, gdF, gdD, Nat.reduceLT, Nat.reduceEqDiff, Nat.reduceAdd, Nat.reduceLeDiff, reduceIte, reduceCtorEq] at hlen2 hlv2 q1 q2 q3 q4 q5 q6 q7 q8 q9 q10
          have hlt1 : b < s1.nx := by rw [q8.1]; exact hlt
          simp +contextual only [go_sem, hlen2, hlv2, cdD, cdN, gdT, gdF, gdD, Nat.reduceLT, Nat.reduceEqDiff, Nat.reduceAdd, Nat.reduceLeDiff, reduceIte, reduceCtorEq]
          refine ⟨fun hlt3 => ?_, fun hge => ?_⟩
          · have hm : m < L.length := by omega
            have hct := compact_take (show 1 ≤ m by omega) hm
            have e1 : (D.map (AV.int .i64)).drop (m - 1) = .int .i64 L[m - 1] :: (L.drop (m - 1 + 1)).map (AV.int .i64) := by rw [inl_drop, q7, List.drop_eq_getElem_cons (show m - 1 < L.length by omega)]; rfl
            have e0 : D.drop m = L.drop m := by
              have := congrArg (List.drop 1) q7
              rwa [List.drop_drop, List.drop_drop, show m - 1 + 1 = m by omega] at this
            have e2 : (D.map (AV.int .i64)).drop m = .int .i64 L[m] :: (L.drop (m + 1)).map (AV.int .i64) := by rw [inl_drop, e0, List.drop_eq_getElem_cons hm]; rfl
            generalize L[m - 1] = x at hct e1
            generalize L[m] = z at hct e2
            have hw1 : IntKind.i64.wrap (((m - k : Nat) : Int) - 1) = ((m - k - 1 : Nat) : Int) := by rw [wrap_id (by omega)]; omega
            have hw2 : IntKind.i64.wrap (((m - k : Nat) : Int) + 1) = ((m + 1 - k : Nat) : Int) := by rw [wrap_id (by omega)]; omega
            have hw3 : IntKind.i64.wrap ((kw : Int) + 1) = ((kw + 1 : Nat) : Int) := by rw [wrap_id (by omega)]; rfl
            have i1 : aindexAddr tab 22 (.rs 1 b k (L.length - k)) (.int .i64 ((m - k - 1 : Nat) : Int)) = some (.ptr b (m - 1)) := by rw [ix22n (by omega)]; congr 2; omega
            have i2 : aindexAddr tab 22 (.rs 1 b k (L.length - k)) (.int .i64 ((m - k : Nat) : Int)) = some (.ptr b m) := by rw [ix22n (by omega)]; congr 2; omega
            have i3 : aindexAddr tab 22 (.rs 1 b 0 L.length) (.int .i64 (kw : Int)) = some (.ptr b kw) := by rw [ix22n (by omega), Nat.zero_add]
            have hle : kw + 1 ≤ (D.map (AV.int .i64)).length := by rw [List.length_map]; omega
            refine ldrawB_go [] [] 9 (by decide) ?_
            simp +contextual only [go_sem, hlen2, hlv2, hw1, hw2, hw3, i1, i2, i3, q9, hlt1, e1, e2, hle, cdD, cdN, gdT, gdF, gdD, Nat.reduceLT, Nat.reduceEqDiff, Nat.reduceAdd, Nat.reduceLeDiff, reduceIte, reduceCtorEq]
            refine ⟨by kernel_rfl, fun hz => ?_, fun hz => ?_⟩
            · rw [if_neg (Ne.symm hz)] at hct
              have hs' : OKo s (s1.upd b (.cells ((D.map (AV.int .i64)).set kw (.int .i64 z)) Tt)) := q8.upd hlt (by rw [show (D.map (AV.int .i64)).set kw (.int .i64 z) = (D.set kw z).map (AV.int .i64) from (List.map_set ..).symm]; exact lowO_ints _)
              refine ⟨hlen1.symm, (kw + 1, m + 1, D.set kw z, s1.upd b (.cells ((D.map (AV.int .i64)).set kw (.int .i64 z)) Tt)), ⟨by simp only; omega, by simp only; omega, by simp only; omega, by simp only [List.length_set]; exact q4, ?_, ?_, ?_, hs', ?_, ?_⟩, by simp only; omega, ?_⟩
              · simp only
                rw [hct, ← q5, List.take_add_one, List.take_set_of_le (Nat.le_refl _), List.getElem?_set_self (by omega)]; rfl
              · simp only
                rw [hct, List.length_append, ← q6]; rfl
              · simp only [Nat.add_sub_cancel]
                rw [List.drop_set, if_pos q3, e0]
              · simp only
                rw [get_upd_same, List.map_set]
              · right
                simp only [List.map_set]
                rcases q10 with ⟨r1, _⟩ | r1
                · rw [r1]
                · rw [r1, upd_upd]
              · refine To.go [] [] rfl hs' (by decide) (by simp) ?_ trivial
                simp +contextual only [go_sem, hlen2, hlv2, rnm_low hlt, cdD, cdN, gdT, gdF, gdD, Nat.reduceLT, Nat.reduceEqDiff, Nat.reduceAdd, Nat.reduceLeDiff, reduceIte, reduceCtorEq]
            · rw [if_pos hz.symm] at hct
              refine ⟨hlen1.symm, (kw, m + 1, D, s1), ⟨by simp only; omega, by simp only; omega, by simp only; omega, q4, by rw [hct]; exact q5, by rw [hct]; exact q6, by simp only [Nat.add_sub_cancel]; exact e0, q8, q9, q10⟩, by simp only; omega, ?_⟩
              refine To.go [] [] rfl q8 (by decide) (by simp) ?_ trivial
              simp +contextual only [go_sem, hlen2, hlv2, rnm_low hlt, cdD, cdN, gdT, gdF, gdD, Nat.reduceLT, Nat.reduceEqDiff, Nat.reduceAdd, Nat.reduceLeDiff, reduceIte, reduceCtorEq]
          · have hm : m = L.length := by omega
            subst hm
            rw [List.take_length] at q5 q6
            have d4 : aslice tab 22 (.rs 1 b 0 L.length) (some (.int .i64 (kw : Int))) none none = some (.rs 1 b kw (L.length - kw)) := by rw [sl22_lo (by omega), Nat.zero_add]
            have d5 : aslice tab 22 (.rs 1 b 0 L.length) none (some (.int .i64 (kw : Int))) none = some (.rs 1 b 0 kw) := by rw [sl22_hi (by omega)]
            simp +contextual only [go_sem, hlen2, hlv2, d4, cdD, cdN, gdT, gdF, gdD, Nat.reduceLT, Nat.reduceEqDiff, Nat.reduceAdd, Nat.reduceLeDiff, reduceIte, reduceCtorEq]
            refine lmem_eq (clear22 q9 hlt1 (by rw [List.length_map]; omega) (by omega)) ?_
            simp +contextual only [go_sem, hlen2, hlv2, d5, cdD, cdN, gdT, gdF, gdD, Nat.reduceLT, Nat.reduceEqDiff, Nat.reduceAdd, Nat.reduceLeDiff, reduceIte, reduceCtorEq]
            obtain ⟨C, c1, c2, c3⟩ := splice_ints (L.length - kw) kw D
            rw [c1]
            refine lexit_pure (q8.upd hlt (lowO_ints C)) (by simp only [low]; exact hlt) ⟨C, by rw [← q6, c3, q5], by omega, by rw [q6], .inr ?_⟩
            rcases q10 with ⟨r1, _⟩ | r1
            · rw [r1]
            · rw [r1, upd_upd]
      · rw [if_neg (Ne.symm hz), hkc, ← htk] at hct
        refine ⟨k + 1, ⟨by omega, by omega, hct⟩, by omega, ?_⟩
        refine To.go [] [] rfl (.refl s) (by decide) (by simp) ?_ trivial
        simp +contextual only [go_sem, hlen1, hlv, rnm_low hlt, cdD, cdN, gdT, gdF, gdD, Nat.reduceLT, Nat.reduceEqDiff, Nat.reduceAdd, Nat.reduceLeDiff, reduceIte, reduceCtorEq]
    · have hk3 : k = L.length := by omega
      subst hk3
      rw [List.take_length] at hkc
      refine lexit_pure (.refl s) (by simp only [low]; exact hlt) ⟨L, by rw [hkc, List.take_length], rfl, by rw [hkc], .inl ⟨rfl, rfl⟩⟩
end Go.S1N
end
section
namespace Go.S1N
open Go Go.Am Go.Proofs Go.S1
set_option maxRecDepth 100000
attribute [local irreducible] lopsB lvb lstepB lfunG lcondB lguardB ldrawB ldrunB ldstepB ldguardB lmem lval ldmem ldval ldfun lexit ldloadB ldlenB lpostB athen ablock
def ends (l : List Ed) : List Int := l.flatMap fun e => [e.at_, e.at_ + e.cut]
def placesL (n : Int) (a b : List Ed) : List Int := compact ((0 :: n :: ends (a ++ b)).mergeSort fun x y => decide (x ≤ y))
theorem ends_len (l : List Ed) : (ends l).length = 2 * l.length := by
  unfold ends
  induction l with
  | nil => rfl
  | cons e l ih => rw [List.flatMap_cons, List.length_append, ih]; simp; omega
theorem ends_snoc (l : List Ed) (e : Ed) : ends (l ++ [e]) = ends l ++ [e.at_, e.at_ + e.cut] := by simp [ends]
theorem compact_ne : ∀ {L : List Int}, L ≠ [] → compact L ≠ []
  | [a], _ => by simp [compact]
  | a :: b :: r, _ => by
    rw [compact]
    split
    · exact compact_ne (by simp)
    · simp
def accL (n : Int) (L : List Ed) (j : Nat) : List Int := 0 :: n :: ends (L.take j)
theorem accL_ne (n : Int) (L : List Ed) (j : Nat) : accL n L j ≠ [] := by simp [accL]
theorem accL_len {n : Int} {L : List Ed} {j : Nat} : (accL n L j).length ≤ 2 * L.length + 2 := by
  simp only [accL, List.length_cons, ends_len, List.length_take]; omega
theorem accL_pos (n : Int) (L : List Ed) (j : Nat) : (accL n L j).length ≠ 0 := by simp [accL]
theorem places_ok (n : Int) (hn : 0 ≤ n ∧ n ≤ 1000000) (a b : List Ed) (ha : a.length ≤ 2000) (hb : b.length ≤ 2000) (he : ∀ e ∈ a ++ b, 0 ≤ e.at_ ∧ 0 ≤ e.cut ∧ e.at_ + e.cut ≤ n) (s : AHeap) :
    ACall Tryz.prog 72 [.int .i64 n, edv a, edv b] s fun r t => r = intv (placesL n a b) ∧ t = s := by
  refine gob72 (by simp) ?_
  intro tm hlen harg
  have hfa : (edv a).cells = [edv a] := fsv_cells
  have hfb : (edv b).cells = [edv b] := fsv_cells
  have hra : (edv a).israw = false := fsv_israw
  have hrb : (edv b).israw = false := fsv_israw
  simp +contextual only [go_sem, L72, hlen, harg, hfa, hfb, hra, hrb, cdD, cdN, gdT, gdF, gdD, Nat.reduceLT, Nat.reduceEqDiff, Nat.reduceAdd, Nat.reduceLeDiff, reduceIte, reduceCtorEq]
  refine lfunG_freeze 1 1 [edv a, edv b] (TT := some 27) (by simp only [go_sem, hfa, hfb, List.flatMap_cons, List.flatMap_nil, cdD, cdN, gdT, gdF, gdD, Nat.reduceLT, Nat.reduceEqDiff, Nat.reduceAdd, Nat.reduceLeDiff, reduceIte, reduceCtorEq]) (by intro x hx; simp only [List.mem_cons, List.not_mem_nil, or_false] at hx; rcases hx with rfl | rfl; rw [hfa]; rfl; rw [hfb]; rfl) ?_
  simp +contextual only [go_sem, hlen, harg, pu_fz (edv_pu _), cdD, cdN, gdT, gdF, gdD, Nat.reduceLT, Nat.reduceEqDiff, Nat.reduceAdd, Nat.reduceLeDiff, reduceIte, reduceCtorEq]
  refine lfunG_eq (concat_ok _ [a, b] (eds_is [a, b]) (by simp) (by intro c hc; simp only [List.mem_cons, List.not_mem_nil, or_false] at hc; rcases hc with rfl | rfl <;> omega) _) ?_
  rw [show [a, b].flatten = a ++ b by simp]
  have hsl := edv_sl (a ++ b)
  generalize hL : a ++ b = L at *
  have hLl : L.length ≤ 4000 := by rw [← hL, List.length_append]; omega
  simp +contextual only [go_sem, hlen, harg, hsl.len, cdD, cdN, gdT, gdF, gdD, Nat.reduceLT, Nat.reduceEqDiff, Nat.reduceAdd, Nat.reduceLeDiff, reduceIte, reduceCtorEq]
  have hAl := accL_pos n L
  refine ⟨Nat, fun j => [(7, gsv 1 (nm s.nx 0) (accL n L j).length), (15, edv L), (16, .int .i64 L.length), (17, .int .i64 j)], fun j => loc s 1 [(0, gso 3 (inl_ (accL n L j)))], fun j => j ≤ L.length, fun j => L.length - j, 0, by simp, ?_, ?_⟩
  · refine To.go [0] [(0, some (.cells [.int .i64 0, .int .i64 n] (some 3)))] ?_ (.refl s) (by decide) (by simp) ?_ ?_
    · show loc s 1 [(0, gso 3 (inl_ (accL n L 0)))] = _
      rw [gso_pos (by simp [inl_, accL])]
      simp [ends, inl_, accL]
    · have hg0 : gsv 1 (nm s.nx 0) (accL n L 0).length = .rs 1 (nm s.nx 0) 0 2 := by rw [gsv_pos (hAl 0)]; simp [ends, accL]
      simp +contextual only [go_sem, hlen, harg, pu_fz (edv_pu _), pu_ren (edv_pu _), pu_ren hsl.pu, pu_fz hsl.pu, cdD, cdN, gdT, gdF, gdD, Nat.reduceLT, Nat.reduceEqDiff, Nat.reduceAdd, Nat.reduceLeDiff, reduceIte, reduceCtorEq]
      rw [hg0]
      simp only [go_sem, cdD, cdN, gdT, gdF, gdD, Nat.reduceLT, Nat.reduceEqDiff, Nat.reduceAdd, Nat.reduceLeDiff, reduceIte, reduceCtorEq]
      rfl
    · simp only [go_sem, cdD, cdN, gdT, gdF, gdD, Nat.reduceLT, Nat.reduceEqDiff, Nat.reduceAdd, Nat.reduceLeDiff, reduceIte, reduceCtorEq]
  · intro j tm1 hj hlen1 hlv
    simp only [go_sem, hlen, cdD, cdN, gdT, gdF, gdD, Nat.reduceLT, Nat.reduceEqDiff, Nat.reduceAdd, Nat.reduceLeDiff, reduceIte, reduceCtorEq] at hlen1 hlv
    simp +contextual only [go_sem, hlen, hlen1, hlv, cdD, cdN, gdT, gdF, gdD, Nat.reduceLT, Nat.reduceEqDiff, Nat.reduceAdd, Nat.reduceLeDiff, reduceIte, reduceCtorEq]
    refine ⟨fun hlt => ?_, fun hge => ?_⟩
    · have hj2 : j < L.length := by omega
      have hg := List.getElem?_eq_getElem hj2
      have hmem : L[j] ∈ L := List.getElem_mem hj2
      have htk := List.take_succ_eq_append_getElem hj2
      generalize L[j] = e at hg hmem htk
      obtain ⟨e1, e2, e3⟩ := he e hmem
      have hw1 : IntKind.i64.wrap (e.at_ + e.cut) = e.at_ + e.cut := wrap_id (by omega)
      have hw3 : IntKind.i64.wrap ((j : Int) + 1) = ((j + 1 : Nat) : Int) := by rw [wrap_id (by omega)]; rfl
      have hel := accL_len (n := n) (L := L) (j := j)
      have hA2 : accL n L (j + 1) = (accL n L j) ++ [e.at_, e.at_ + e.cut] := by rw [accL, htk, ends_snoc]; rfl
      simp +contextual only [go_sem, hlen1, hlv, hsl.at hg, hw1, cdD, cdN, gdT, gdF, gdD, Nat.reduceLT, Nat.reduceEqDiff, Nat.reduceAdd, Nat.reduceLeDiff, reduceIte, reduceCtorEq]
      refine lmem_eq (app22 (c := inl_ (accL n L j)) (acellsOf_rs (by simp only [go_sem, cdD, cdN, gdT, gdF, gdD, Nat.reduceLT, Nat.reduceEqDiff, Nat.reduceAdd, Nat.reduceLeDiff, reduceIte, reduceCtorEq]; rfl) (by rfl) rfl) (by decide) (by simp only [go_sem, cdD, cdN, gdT, gdF, gdD, Nat.reduceLT, Nat.reduceEqDiff, Nat.reduceAdd, Nat.reduceLeDiff, reduceIte, reduceCtorEq]) (by simp only [go_sem, cdD, cdN, gdT, gdF, gdD, Nat.reduceLT, Nat.reduceEqDiff, Nat.reduceAdd, Nat.reduceLeDiff, reduceIte, reduceCtorEq]) (by rw [inl_length]; omega) (by omega) rfl) ?_
      simp +contextual only [go_sem, hlen1, hlv, hw3, cdD, cdN, gdT, gdF, gdD, Nat.reduceLT, Nat.reduceEqDiff, Nat.reduceAdd, Nat.reduceLeDiff, reduceIte, reduceCtorEq]
      refine ⟨j + 1, by omega, by omega, ?_⟩
      refine To.go [3] [(0, gso 3 (inl_ (accL n L (j + 1))))] rfl (.refl s) (by decide) (by simp) ?_ ?_
      · rw [gsv_pos (hAl (j + 1)), hA2]
        simp +contextual only [go_sem, hlen1, hlv, pu_ren hsl.pu, List.length_append, cdD, cdN, gdT, gdF, gdD, Nat.reduceLT, Nat.reduceEqDiff, Nat.reduceAdd, Nat.reduceLeDiff, reduceIte, reduceCtorEq]
      · rw [hA2]
        simp only [go_sem, map_gso_pu (inl_pul _), cdD, cdN, gdT, gdF, gdD, Nat.reduceLT, Nat.reduceEqDiff, Nat.reduceAdd, Nat.reduceLeDiff, reduceIte, reduceCtorEq]
        rw [gso_pos (by simp [inl_])]
        simp [inl_]
    · have hj2 : j = L.length := by omega
      subst hj2
      have hAne := accL_ne n L L.length
      have hAll := accL_len (n := n) (L := L) (j := L.length)
      simp only [gsv_pos (hAl L.length)] at hlv ⊢
      rw [gso_pos (by simp [inl_, accL])]
      have hpl : placesL n a b = compact ((accL n L L.length).mergeSort fun x y => decide (x ≤ y)) := by rw [placesL, hL, accL, List.take_length]
      rw [hpl]
      generalize accL n L L.length = A at *
      refine lfunG_eq (sort_ok (b := nm s.nx 0) (L := A) (To := some 3) (by simp only [go_sem, cdD, cdN, gdT, gdF, gdD, Nat.reduceLT, Nat.reduceEqDiff, Nat.reduceAdd, Nat.reduceLeDiff, reduceIte, reduceCtorEq]; rfl) hAne (by omega)) ?_
      have hMl := List.length_mergeSort (le := fun x y : Int => decide (x ≤ y)) A
      generalize (A.mergeSort fun x y => decide (x ≤ y)) = M at hMl ⊢
      have hMne : M ≠ [] := by rintro rfl; exact hAne (List.eq_nil_of_length_eq_zero hMl.symm)
      simp +contextual only [go_sem, hlen1, hlv, ← hMl, cdD, cdN, gdT, gdF, gdD, Nat.reduceLT, Nat.reduceEqDiff, Nat.reduceAdd, Nat.reduceLeDiff, reduceIte, reduceCtorEq]
      refine lfunG_of (compact_ok (b := nm s.nx 0) (L := M) (Tt := some 3) (by simp only [go_sem, cdD, cdN, gdT, gdF, gdD, Nat.reduceLT, Nat.reduceEqDiff, Nat.reduceAdd, Nat.reduceLeDiff, reduceIte, reduceCtorEq]) (by simp only [go_sem, cdD, cdN, gdT, gdF, gdD, Nat.reduceLT, Nat.reduceEqDiff, Nat.reduceAdd, Nat.reduceLeDiff, reduceIte, reduceCtorEq]) (by omega)) ?_
      rintro _ t ⟨C, c1, c2, rfl, ht⟩
      have hcn := compact_ne hMne
      have hcl := compact_len M
      generalize compact M = Q at *
      have ht2 : t = loc s 1 [(0, some (.cells (C.map (AV.int .i64)) (some 3)))] := by
        rcases ht with ⟨rfl, rfl⟩ | rfl
        · rfl
        · simp only [go_sem, cdD, cdN, gdT, gdF, gdD, Nat.reduceLT, Nat.reduceEqDiff, Nat.reduceAdd, Nat.reduceLeDiff, reduceIte, reduceCtorEq]
      subst ht2
      simp +contextual only [go_sem, hlen1, hlv, cdD, cdN, gdT, gdF, gdD, Nat.reduceLT, Nat.reduceEqDiff, Nat.reduceAdd, Nat.reduceLeDiff, reduceIte, reduceCtorEq]
      refine lexit_trim 0 (Q.map (AV.int .i64)) ((C.drop Q.length).map (AV.int .i64)) (T := some 3) (by rw [← c1, List.length_take, c2, Nat.min_eq_left hcl, ← List.map_append, List.take_append_drop]; rfl) ?_
      simp only [go_sem, cdD, cdN, gdT, gdF, gdD, Nat.reduceLT, Nat.reduceEqDiff, Nat.reduceAdd, Nat.reduceLeDiff, reduceIte, reduceCtorEq]
      refine lexit_freeze 0 1 (inl_ Q) (T := some 3) (by simp only [go_sem, cdD, cdN, gdT, gdF, gdD, Nat.reduceLT, Nat.reduceEqDiff, Nat.reduceAdd, Nat.reduceLeDiff, reduceIte, reduceCtorEq]; rw [inl_flat]; rfl) (inl_cl Q) ?_
      rw [show (AV.rs 1 (nm s.nx 0) 0 Q.length) = gsv 1 (nm s.nx 0) Q.length from (gsv_pos (by intro h; exact hcn (List.eq_nil_of_length_eq_zero h))).symm, len_infz]
      exact lexit_pure (.refl s) (low.mono (Nat.zero_le _) (intv_pu _)) ⟨rfl, rfl⟩
end Go.S1N
end
section
namespace Go.S1N
open Go Go.Am Go.Proofs Go.S1
set_option maxRecDepth 100000
theorem lexit_go {s0 s1 : AHeap} {n : Nat} {l : List (Nat × Option AObj)} {v : AV} {R : AV → AHeap → Prop} (r : List Nat) (l' : List (Nat × Option AObj)) (v' : AV) (hs : OKo s0 s1) (hr : r.Nodup) (hv : v = ren (rnm s0.nx r (nm s0.nx n)) v')
    (ho : okObjs (rnm s0.nx r (nm s0.nx n)) r l l') (h : lexit s0 R (some v') (loc s1 r.length l')) : lexit s0 R (some v) (loc s1 n l) := by
  intro B hB K w us hw hvs hx
  obtain ⟨K', h1, h2, h3⟩ := ren_loc hB hw hx hs hr ho
  cases hvs with
  | cons _ u _ us hu hs' =>
    cases hs'
    exact h B hB K' w _ h1 (.cons _ _ _ _ (h3 _ _ (by rw [← hv]; exact hu)) .nil) h2
attribute [local irreducible] lopsB lvb lstepB lfunG lcondB lguardB ldrawB ldrunB ldstepB ldguardB lmem lval ldmem ldval ldfun lexit ldloadB ldlenB lpostB athen ablock
structure Mt where
  both : List Rn
  first : List Rn
  second : List Rn
  long : Int
def Mt.app (m k : Mt) : Mt := ⟨m.both ++ k.both, m.first ++ k.first, m.second ++ k.second, m.long + k.long⟩
def Mt.nil : Mt := ⟨[], [], [], 0⟩
theorem Mt.nil_app (m : Mt) : Mt.nil.app m = m := by simp [Mt.nil, Mt.app]
theorem Mt.app_nil (m : Mt) : m.app Mt.nil = m := by simp [Mt.nil, Mt.app]
theorem Mt.app_assoc (m k j : Mt) : (m.app k).app j = m.app (k.app j) := by simp [Mt.app, Int.add_assoc]
def mtA (a : List Ed) (p x : Int) : Mt := if hasAt a p then ⟨[⟨0, 0, insAt a p⟩], [⟨x, (insAt a p).length, []⟩], [⟨0, 0, insAt a p⟩], (insAt a p).length⟩ else .nil
def mtB (b : List Ed) (p y : Int) : Mt := if hasAt b p then ⟨[⟨0, 0, insAt b p⟩], [⟨0, 0, insAt b p⟩], [⟨y, (insAt b p).length, []⟩], (insAt b p).length⟩ else .nil
def mtK (k : Bool) (p x y z : Int) : Mt := if k then ⟨[⟨p, z, []⟩], [⟨x, z, []⟩], [⟨y, z, []⟩], z⟩ else .nil
def meetGo (a b : List Ed) : List Int → Int → Int → Mt
  | [], _, _ => .nil
  | [p], x, y => (mtA a p x).app (mtB b p y)
  | p :: q :: r, x, y => ((mtA a p x).app (mtB b p y)).app ((mtK (!goneB a p && !goneB b p) p (x + (insAt a p).length) (y + (insAt b p).length) (q - p)).app
      (meetGo a b (q :: r) (x + (insAt a p).length + if goneB a p then 0 else q - p) (y + (insAt b p).length + if goneB b p then 0 else q - p)))
def Mt.enc (m : Mt) : AV := .agg [rnv m.both, rnv m.first, rnv m.second, .int .i64 m.long]
theorem ints_atv {L : List Int} {i : Nat} {p : Int} (h : L[i]? = some p) : aindexAddr tab 22 (intv L) (.int .i64 i) = some (.rptr [.int .i64 p]) := ints_at' (intv_ints L) h
theorem rn_ne3 (l : List AV) (a b c : AV) : l ++ [a, b, c] ≠ [] := by simp
theorem mtA_len (m : Mt) (a : List Ed) (p x : Int) : (m.app (mtA a p x)).both.length ≤ m.both.length + 1 ∧ (m.app (mtA a p x)).first.length ≤ m.first.length + 1 ∧ (m.app (mtA a p x)).second.length ≤ m.second.length + 1 := by
  unfold mtA Mt.app Mt.nil
  split <;> simp
theorem mtA_long (a : List Ed) (p x : Int) : 0 ≤ (mtA a p x).long ∧ (mtA a p x).long ≤ (insAt a p).length := by
  unfold mtA Mt.nil
  split <;> simp
theorem mtB_len (m : Mt) (a : List Ed) (p x : Int) : (m.app (mtB a p x)).both.length ≤ m.both.length + 1 ∧ (m.app (mtB a p x)).first.length ≤ m.first.length + 1 ∧ (m.app (mtB a p x)).second.length ≤ m.second.length + 1 := by
  unfold mtB Mt.app Mt.nil
  split <;> simp
theorem mtB_long (a : List Ed) (p x : Int) : 0 ≤ (mtB a p x).long ∧ (mtB a p x).long ≤ (insAt a p).length := by
  unfold mtB Mt.nil
  split <;> simp
theorem map_gso_fz {e : TypeId} {c : List AV} (h : PuL c) : ∀ b sz xs, (gso e c).map (fzO b sz xs) = gso e c := by
  intro b sz xs
  unfold gso
  split
  · rfl
  · simp only [Option.map_some, fzO, pul_fz h]
theorem meet_end {s : AHeap} {R : AV → AHeap → Prop} (m : Mt) (h : R m.enc s) : lexit s R (some (.agg [gsv 3 (nm s.nx 2) m.both.length, gsv 3 (nm s.nx 3) m.first.length, gsv 3 (nm s.nx 4) m.second.length, .int .i64 m.long]))
    (loc s 5 [(2, gso 98 (rnc m.both)), (3, gso 98 (rnc m.first)), (4, gso 98 (rnc m.second))]) := by
  refine lexit_freezeG 2 3 (m.both.map Rn.enc) (by simp only [go_sem, cdD, cdN, gdT, gdF, gdD, Nat.reduceLT, Nat.reduceEqDiff, Nat.reduceAdd, Nat.reduceLeDiff, reduceIte, reduceCtorEq]; rfl) (rn_len _) (by decide) ?_
  simp only [go_sem, len_rnfz, map_gso_fz (rnc_pul _), fz_gsv_ne (show nm s.nx 3 ≠ nm s.nx 2 by simp only [ne_eq, nm_inj]; decide), fz_gsv_ne (show nm s.nx 4 ≠ nm s.nx 2 by simp only [ne_eq, nm_inj]; decide), cdD, cdN, gdT, gdF, gdD, Nat.reduceLT, Nat.reduceEqDiff, Nat.reduceAdd, Nat.reduceLeDiff, reduceIte, reduceCtorEq]
  refine lexit_freezeG 3 3 (m.first.map Rn.enc) (by simp only [go_sem, cdD, cdN, gdT, gdF, gdD, Nat.reduceLT, Nat.reduceEqDiff, Nat.reduceAdd, Nat.reduceLeDiff, reduceIte, reduceCtorEq]; rfl) (rn_len _) (by decide) ?_
  simp only [go_sem, len_rnfz, map_gso_fz (rnc_pul _), pu_fz (rnv_pu _), fz_gsv_ne (show nm s.nx 4 ≠ nm s.nx 3 by simp only [ne_eq, nm_inj]; decide), cdD, cdN, gdT, gdF, gdD, Nat.reduceLT, Nat.reduceEqDiff, Nat.reduceAdd, Nat.reduceLeDiff, reduceIte, reduceCtorEq]
  refine lexit_freezeG 4 3 (m.second.map Rn.enc) (by simp only [go_sem, cdD, cdN, gdT, gdF, gdD, Nat.reduceLT, Nat.reduceEqDiff, Nat.reduceAdd, Nat.reduceLeDiff, reduceIte, reduceCtorEq]; rfl) (rn_len _) (by decide) ?_
  simp only [go_sem, len_rnfz, pu_fz (rnv_pu _), cdD, cdN, gdT, gdF, gdD, Nat.reduceLT, Nat.reduceEqDiff, Nat.reduceAdd, Nat.reduceLeDiff, reduceIte, reduceCtorEq]
  refine lexit_pure (.refl s) ?_ h
  simp only [low, lowL, and_true]
  exact ⟨low.mono (Nat.zero_le _) (rnv_pu _), low.mono (Nat.zero_le _) (rnv_pu _), low.mono (Nat.zero_le _) (rnv_pu _)⟩
theorem mtK_false {p x y z : Int} : mtK false p x y z = .nil := rfl
set_option maxHeartbeats 4000000 in
theorem meet_ok (n : Int) (hn : 0 ≤ n ∧ n ≤ 1000000) (a b : List Ed) (ha : a.length ≤ 2000) (hb : b.length ≤ 2000) (hra : RS n a) (hrb : RS n b) (hia : ∀ p, (insAt a p).length ≤ 100000) (hib : ∀ p, (insAt b p).length ≤ 100000)
    (hpl : ∀ p ∈ placesL n a b, 0 ≤ p ∧ p ≤ 1000000) (hpl2 : (placesL n a b).length ≤ 10000) (hmono : ∀ (i : Nat) (p q : Int), (placesL n a b)[i]? = some p → (placesL n a b)[i + 1]? = some q → p ≤ q) (s : AHeap) :
    ACall Tryz.prog 43 [.int .i64 n, edv a, edv b] s fun r t => r = (meetGo a b (placesL n a b) 0 0).enc ∧ t = s := by
  refine gob43 (by simp) ?_
  intro tm hlen harg
  have hsa := edv_sl a
  have hsb := edv_sl b
  simp +contextual only [go_sem, L43, hlen, harg, cdD, cdN, gdT, gdF, gdD, Nat.reduceLT, Nat.reduceEqDiff, Nat.reduceAdd, Nat.reduceLeDiff, reduceIte, reduceCtorEq]
  refine lfunG_eq (places_ok n hn a b ha hb (by intro e he; rcases List.mem_append.1 he with h | h; exact hra.each e h; exact hrb.each e h) _) ?_
  generalize hP : placesL n a b = P at *
  simp +contextual only [go_sem, hlen, harg, (intv_ints P).len, cdD, cdN, gdT, gdF, gdD, Nat.reduceLT, Nat.reduceEqDiff, Nat.reduceAdd, Nat.reduceLeDiff, reduceIte, reduceCtorEq]
  refine ⟨Nat × Int × Int × Mt, fun w => [(0, .int .i64 n), (1, edv a), (2, edv b), (6, .ptr (nm s.nx 0) 0), (7, .ptr (nm s.nx 1) 0), (8, .int .i64 w.2.1), (9, .int .i64 w.2.2.1), (10, intv P), (24, intv P), (25, .int .i64 P.length), (26, .int .i64 w.1)],
    fun w => loc s 5 [(0, some (.cells [.nils, .nils, .nils, .int .i64 0] (some 91))), (1, some (.cells [gsv 3 (nm s.nx 2) w.2.2.2.both.length, gsv 3 (nm s.nx 3) w.2.2.2.first.length, gsv 3 (nm s.nx 4) w.2.2.2.second.length, .int .i64 w.2.2.2.long] (some 91))),
      (2, gso 98 (rnc w.2.2.2.both)), (3, gso 98 (rnc w.2.2.2.first)), (4, gso 98 (rnc w.2.2.2.second))],
    fun w => w.1 ≤ P.length ∧ 0 ≤ w.2.1 ∧ w.2.1 ≤ w.1 * 2000000 ∧ 0 ≤ w.2.2.1 ∧ w.2.2.1 ≤ w.1 * 2000000 ∧ 0 ≤ w.2.2.2.long ∧ w.2.2.2.long ≤ w.1 * 4000000 ∧ w.2.2.2.both.length ≤ 3 * w.1 ∧ w.2.2.2.first.length ≤ 3 * w.1 ∧ w.2.2.2.second.length ≤ 3 * w.1 ∧
      w.2.2.2.app (meetGo a b (P.drop w.1) w.2.1 w.2.2.1) = meetGo a b P 0 0,
    fun w => P.length - w.1, (0, 0, 0, .nil), ⟨by simp, by simp, by simp, by simp, by simp, by simp [Mt.nil], by simp [Mt.nil], by simp [Mt.nil], by simp [Mt.nil], by simp [Mt.nil], by rw [Mt.nil_app]; rfl⟩, ?_, ?_⟩
  · refine To.go [0, 1, 10, 11, 12] [(0, some (.cells [.nils, .nils, .nils, .int .i64 0] (some 91))), (1, some (.cells [.nils, .nils, .nils, .int .i64 0] (some 91))), (2, none), (3, none), (4, none)] (by simp only [Mt.nil, rnc, List.map_nil, List.flatMap_nil, gso_nil, List.length_nil, gsv_zero]; rfl) (.refl s) (by decide) (by simp) ?_ ?_
    · simp +contextual only [go_sem, hlen, harg, pu_ren (edv_pu _), pu_ren (intv_pu _), cdD, cdN, gdT, gdF, gdD, Nat.reduceLT, Nat.reduceEqDiff, Nat.reduceAdd, Nat.reduceLeDiff, reduceIte, reduceCtorEq]
      rfl
    · simp only [go_sem, cdD, cdN, gdT, gdF, gdD, Nat.reduceLT, Nat.reduceEqDiff, Nat.reduceAdd, Nat.reduceLeDiff, reduceIte, reduceCtorEq]
  · rintro ⟨i, x, y, m⟩ tm1 ⟨hi, hx0, hx1, hy0, hy1, hl0, hl1, hB, hF, hS, hE⟩ hlen1 hlv
    simp only [go_sem, hlen, cdD, cdN, gdT, gdF, gdD, Nat.reduceLT, Nat.reduceEqDiff, Nat.reduceAdd, Nat.reduceLeDiff, reduceIte, reduceCtorEq] at hlen1 hlv hi hx0 hx1 hy0 hy1 hl0 hl1 hB hF hS hE
    simp +contextual only [go_sem, hlen, hlen1, hlv, cdD, cdN, gdT, gdF, gdD, Nat.reduceLT, Nat.reduceEqDiff, Nat.reduceAdd, Nat.reduceLeDiff, reduceIte, reduceCtorEq]
    refine ⟨fun hlt => ?_, fun hge => ?_⟩
    · have hi2 : i < P.length := by omega
      have hg := List.getElem?_eq_getElem hi2
      have hmem : P[i] ∈ P := List.getElem_mem hi2
      have hdrop := List.drop_eq_getElem_cons hi2
      generalize P[i] = p at hg hmem hdrop
      obtain ⟨hp0, hp1⟩ := hpl p hmem
      have hA1 := hia p
      have hB1 := hib p
      simp +contextual only [go_sem, hlen1, hlv, ints_atv hg, cdD, cdN, gdT, gdF, gdD, Nat.reduceLT, Nat.reduceEqDiff, Nat.reduceAdd, Nat.reduceLeDiff, reduceIte, reduceCtorEq]
      refine lfunG_eq (at_ok n hn.2 _ a p hsa ha hra ⟨hp0, hp1⟩ _) ?_
      simp +contextual only [go_sem, hlen1, hlv, Nat.reduceLT, Nat.reduceEqDiff, Nat.reduceAdd, Nat.reduceLeDiff, reduceIte, reduceCtorEq]
      have hw1 : IntKind.i64.wrap (x + ((insAt a p).length : Int)) = x + (insAt a p).length := wrap_id (by omega)
      have hw2 : IntKind.i64.wrap (m.long + ((insAt a p).length : Int)) = m.long + (insAt a p).length := wrap_id (by omega)
      have hmA := mtA_len m a p x
      have hlA := mtA_long a p x
      have hlA2 : (m.app (mtA a p x)).long = m.long + (mtA a p x).long := rfl
      cases hhA : hasAt a p
      case' true =>
        simp +contextual only [go_sem, hlen1, hlv, cdD, cdN, gdT, gdF, gdD, Nat.reduceLT, Nat.reduceEqDiff, Nat.reduceAdd, Nat.reduceLeDiff, reduceIte, reduceCtorEq]
        refine ldrawB_go [] [(1, 1), (7, 0), (7, 1), (7, 3), (15, 0), (15, 1), (15, 2), (15, 3), (15, 5)] 21 (by decide) ?_
        simp +contextual only [go_sem, hlen1, hlv, cdD, cdN, gdT, gdF, gdD, Nat.reduceLT, Nat.reduceEqDiff, Nat.reduceAdd, Nat.reduceLeDiff, reduceIte, reduceCtorEq]
        refine ldfun_pure _ (fresh_ok _) ?_
        simp +contextual only [go_sem, hlen1, hlv, Rn.enc, cdD, cdN, gdT, gdF, gdD, Nat.reduceLT, Nat.reduceEqDiff, Nat.reduceAdd, Nat.reduceLeDiff, reduceIte, reduceCtorEq]
        refine ldmem_eq (app89 (acellsOf_rs (by simp only [go_sem, cdD, cdN, gdT, gdF, gdD, Nat.reduceLT, Nat.reduceEqDiff, Nat.reduceAdd, Nat.reduceLeDiff, reduceIte, reduceCtorEq]; rfl) (by rfl) rfl) (by decide) (by simp only [go_sem, cdD, cdN, gdT, gdF, gdD, Nat.reduceLT, Nat.reduceEqDiff, Nat.reduceAdd, Nat.reduceLeDiff, reduceIte, reduceCtorEq]) (by simp only [go_sem, cdD, cdN, gdT, gdF, gdD, Nat.reduceLT, Nat.reduceEqDiff, Nat.reduceAdd, Nat.reduceLeDiff, reduceIte, reduceCtorEq]) (rnc_len m.both) (by omega) rfl) ?_
        simp +contextual only [go_sem, hlen1, hlv, cdD, cdN, gdT, gdF, gdD, Nat.reduceLT, Nat.reduceEqDiff, Nat.reduceAdd, Nat.reduceLeDiff, reduceIte, reduceCtorEq]
        refine ldfun_pure _ (kept_ok _ _) ?_
        simp +contextual only [go_sem, hlen1, hlv, Rn.enc, cdD, cdN, gdT, gdF, gdD, Nat.reduceLT, Nat.reduceEqDiff, Nat.reduceAdd, Nat.reduceLeDiff, reduceIte, reduceCtorEq]
        refine ldmem_eq (app89 (acellsOf_rs (by simp only [go_sem, cdD, cdN, gdT, gdF, gdD, Nat.reduceLT, Nat.reduceEqDiff, Nat.reduceAdd, Nat.reduceLeDiff, reduceIte, reduceCtorEq]; rfl) (by rfl) rfl) (by decide) (by simp only [go_sem, cdD, cdN, gdT, gdF, gdD, Nat.reduceLT, Nat.reduceEqDiff, Nat.reduceAdd, Nat.reduceLeDiff, reduceIte, reduceCtorEq]) (by simp only [go_sem, cdD, cdN, gdT, gdF, gdD, Nat.reduceLT, Nat.reduceEqDiff, Nat.reduceAdd, Nat.reduceLeDiff, reduceIte, reduceCtorEq]) (rnc_len m.first) (by omega) rfl) ?_
        simp +contextual only [go_sem, hlen1, hlv, cdD, cdN, gdT, gdF, gdD, Nat.reduceLT, Nat.reduceEqDiff, Nat.reduceAdd, Nat.reduceLeDiff, reduceIte, reduceCtorEq]
        refine ldfun_pure _ (fresh_ok _) ?_
        simp +contextual only [go_sem, hlen1, hlv, Rn.enc, cdD, cdN, gdT, gdF, gdD, Nat.reduceLT, Nat.reduceEqDiff, Nat.reduceAdd, Nat.reduceLeDiff, reduceIte, reduceCtorEq]
        refine ldmem_eq (app89 (acellsOf_rs (by simp only [go_sem, cdD, cdN, gdT, gdF, gdD, Nat.reduceLT, Nat.reduceEqDiff, Nat.reduceAdd, Nat.reduceLeDiff, reduceIte, reduceCtorEq]; rfl) (by rfl) rfl) (by decide) (by simp only [go_sem, cdD, cdN, gdT, gdF, gdD, Nat.reduceLT, Nat.reduceEqDiff, Nat.reduceAdd, Nat.reduceLeDiff, reduceIte, reduceCtorEq]) (by simp only [go_sem, cdD, cdN, gdT, gdF, gdD, Nat.reduceLT, Nat.reduceEqDiff, Nat.reduceAdd, Nat.reduceLeDiff, reduceIte, reduceCtorEq]) (rnc_len m.second) (by omega) rfl) ?_
        simp (config := { contextual := true, maxSteps := 4000000 }) only [go_sem, hlen1, hlv, hw1, hw2, cdD, cdN, gdT, gdF, gdD, Nat.reduceLT, Nat.reduceEqDiff, Nat.reduceAdd, Nat.reduceLeDiff, reduceIte, reduceCtorEq]
        refine ⟨by kernel_rfl, ?_⟩
        refine lfunG_to (lv := [(0, .int .i64 n), (1, edv a), (2, edv b), (6, .ptr (nm s.nx 0) 0), (7, .ptr (nm s.nx 1) 0), (10, intv P), (24, intv P), (25, .int .i64 P.length), (26, .int .i64 i), (11, .int .i64 i), (12, .int .i64 p), (8, .int .i64 (x + (insAt a p).length)), (9, .int .i64 y), (72, edv b), (73, .int .i64 p)])
          (h := loc s 5 [(0, some (.cells [.nils, .nils, .nils, .int .i64 0] (some 91))), (1, some (.cells [gsv 3 (nm s.nx 2) (m.app (mtA a p x)).both.length, gsv 3 (nm s.nx 3) (m.app (mtA a p x)).first.length, gsv 3 (nm s.nx 4) (m.app (mtA a p x)).second.length, .int .i64 (m.app (mtA a p x)).long] (some 91))), (2, gso 98 (rnc (m.app (mtA a p x)).both)), (3, gso 98 (rnc (m.app (mtA a p x)).first)), (4, gso 98 (rnc (m.app (mtA a p x)).second))])
          (To.go [0, 1, 27, 29, 31] _ rfl (.refl s) (by decide) (by simp)
            (by
              simp (config := { contextual := true, maxSteps := 4000000 }) only [go_sem, hlen1, hlv, pu_ren (edv_pu _), pu_ren (intv_pu _), cdD, cdN, gdT, gdF, gdD, Nat.reduceLT, Nat.reduceEqDiff, Nat.reduceAdd, Nat.reduceLeDiff, reduceIte, reduceCtorEq]
            )
            (by
              rw [show (m.app (mtA a p x)).both = m.both ++ [⟨0, 0, insAt a p⟩] from by simp [Mt.app, mtA, hhA], show (m.app (mtA a p x)).first = m.first ++ [⟨x, (insAt a p).length, []⟩] from by simp [Mt.app, mtA, hhA], show (m.app (mtA a p x)).second = m.second ++ [⟨0, 0, insAt a p⟩] from by simp [Mt.app, mtA, hhA], show (m.app (mtA a p x)).long = m.long + (insAt a p).length from by simp [Mt.app, mtA, hhA]]
              simp only [go_sem, map_gso_pu (rnc_pul _), ren_gsv, cdD, cdN, gdT, gdF, gdD, Nat.reduceLT, Nat.reduceEqDiff, Nat.reduceAdd, Nat.reduceLeDiff, reduceIte, reduceCtorEq]
              simp only [go_sem, rnc_snoc, gso_pos (rn_ne3 _ _ _ _), List.length_append, gsv_pos (Nat.succ_ne_zero _), cdD, cdN, gdT, gdF, gdD, Nat.reduceLT, Nat.reduceEqDiff, Nat.reduceAdd, Nat.reduceLeDiff, reduceIte, reduceCtorEq]
            )) ?_
      case' false =>
        have h0 := ((has_at hra p).2 hhA).1
        have hm0 : m.app (mtA a p x) = m := by rw [mtA, hhA]; exact Mt.app_nil m
        simp +contextual only [go_sem, hlen1, hlv, cdD, cdN, gdT, gdF, gdD, Nat.reduceLT, Nat.reduceEqDiff, Nat.reduceAdd, Nat.reduceLeDiff, reduceIte, reduceCtorEq]
        refine lfunG_to (lv := [(0, .int .i64 n), (1, edv a), (2, edv b), (6, .ptr (nm s.nx 0) 0), (7, .ptr (nm s.nx 1) 0), (10, intv P), (24, intv P), (25, .int .i64 P.length), (26, .int .i64 i), (11, .int .i64 i), (12, .int .i64 p), (8, .int .i64 (x + (insAt a p).length)), (9, .int .i64 y), (72, edv b), (73, .int .i64 p)])
          (h := loc s 5 [(0, some (.cells [.nils, .nils, .nils, .int .i64 0] (some 91))), (1, some (.cells [gsv 3 (nm s.nx 2) (m.app (mtA a p x)).both.length, gsv 3 (nm s.nx 3) (m.app (mtA a p x)).first.length, gsv 3 (nm s.nx 4) (m.app (mtA a p x)).second.length, .int .i64 (m.app (mtA a p x)).long] (some 91))), (2, gso 98 (rnc (m.app (mtA a p x)).both)), (3, gso 98 (rnc (m.app (mtA a p x)).first)), (4, gso 98 (rnc (m.app (mtA a p x)).second))])
          (To.go [0, 1, 2, 3, 4] _ rfl (.refl s) (by decide) (by simp)
            (by
              rw [h0]
              simp +contextual only [go_sem, hlen1, hlv, pu_ren (edv_pu _), pu_ren (intv_pu _), List.length_nil, cdD, cdN, gdT, gdF, gdD, Nat.reduceLT, Nat.reduceEqDiff, Nat.reduceAdd, Nat.reduceLeDiff, reduceIte, reduceCtorEq]
              simp
            )
            (by
              rw [hm0]
              simp only [go_sem, map_gso_pu (rnc_pul _), ren_gsv, cdD, cdN, gdT, gdF, gdD, Nat.reduceLT, Nat.reduceEqDiff, Nat.reduceAdd, Nat.reduceLeDiff, reduceIte, reduceCtorEq]
            )) ?_
      all_goals
        intro tm2 hlen2 hlv2
        simp only [go_sem, hlen1, cdD, cdN, gdT, gdF, gdD, Nat.reduceLT, Nat.reduceEqDiff, Nat.reduceAdd, Nat.reduceLeDiff, reduceIte, reduceCtorEq] at hlen2 hlv2
        generalize hm1 : m.app (mtA a p x) = m1 at *
        generalize hx1v : x + ((insAt a p).length : Int) = x1 at *
        simp +contextual only [go_sem, hlen2, hlv2, cdD, cdN, gdT, gdF, gdD, Nat.reduceLT, Nat.reduceEqDiff, Nat.reduceAdd, Nat.reduceLeDiff, reduceIte, reduceCtorEq]
        refine lfunG_eq (at_ok n hn.2 _ b p hsb hb hrb ⟨hp0, hp1⟩ _) ?_
        simp +contextual only [go_sem, hlen2, hlv2, Nat.reduceLT, Nat.reduceEqDiff, Nat.reduceAdd, Nat.reduceLeDiff, reduceIte, reduceCtorEq]
        have hw3 : IntKind.i64.wrap (y + ((insAt b p).length : Int)) = y + (insAt b p).length := wrap_id (by omega)
        have hw4 : IntKind.i64.wrap (m1.long + ((insAt b p).length : Int)) = m1.long + (insAt b p).length := wrap_id (by omega)
        have hmB := mtB_len m1 b p y
        have hlB := mtB_long b p y
        have hlB2 : (m1.app (mtB b p y)).long = m1.long + (mtB b p y).long := rfl
        have hw5 : IntKind.i64.wrap ((P.length : Int) - 1) = ((P.length - 1 : Nat) : Int) := by rw [wrap_id (by omega)]; omega
        cases hhB : hasAt b p
        case' true =>
          simp +contextual only [go_sem, hlen2, hlv2, cdD, cdN, gdT, gdF, gdD, Nat.reduceLT, Nat.reduceEqDiff, Nat.reduceAdd, Nat.reduceLeDiff, reduceIte, reduceCtorEq]
          refine ldrawB_go [] [(1, 1), (7, 0), (7, 1), (7, 3), (13, 0), (13, 1), (13, 2), (13, 3), (13, 5)] 21 (by decide) ?_
          simp +contextual only [go_sem, hlen2, hlv2, cdD, cdN, gdT, gdF, gdD, Nat.reduceLT, Nat.reduceEqDiff, Nat.reduceAdd, Nat.reduceLeDiff, reduceIte, reduceCtorEq]
          refine ldfun_pure _ (fresh_ok _) ?_
          simp +contextual only [go_sem, hlen2, hlv2, Rn.enc, cdD, cdN, gdT, gdF, gdD, Nat.reduceLT, Nat.reduceEqDiff, Nat.reduceAdd, Nat.reduceLeDiff, reduceIte, reduceCtorEq]
          refine ldmem_eq (app89 (acellsOf_rs (by simp only [go_sem, cdD, cdN, gdT, gdF, gdD, Nat.reduceLT, Nat.reduceEqDiff, Nat.reduceAdd, Nat.reduceLeDiff, reduceIte, reduceCtorEq]; rfl) (by rfl) rfl) (by decide) (by simp only [go_sem, cdD, cdN, gdT, gdF, gdD, Nat.reduceLT, Nat.reduceEqDiff, Nat.reduceAdd, Nat.reduceLeDiff, reduceIte, reduceCtorEq]) (by simp only [go_sem, cdD, cdN, gdT, gdF, gdD, Nat.reduceLT, Nat.reduceEqDiff, Nat.reduceAdd, Nat.reduceLeDiff, reduceIte, reduceCtorEq]) (rnc_len m1.both) (by omega) rfl) ?_
          simp +contextual only [go_sem, hlen2, hlv2, cdD, cdN, gdT, gdF, gdD, Nat.reduceLT, Nat.reduceEqDiff, Nat.reduceAdd, Nat.reduceLeDiff, reduceIte, reduceCtorEq]
          refine ldfun_pure _ (fresh_ok _) ?_
          simp +contextual only [go_sem, hlen2, hlv2, Rn.enc, cdD, cdN, gdT, gdF, gdD, Nat.reduceLT, Nat.reduceEqDiff, Nat.reduceAdd, Nat.reduceLeDiff, reduceIte, reduceCtorEq]
          refine ldmem_eq (app89 (acellsOf_rs (by simp only [go_sem, cdD, cdN, gdT, gdF, gdD, Nat.reduceLT, Nat.reduceEqDiff, Nat.reduceAdd, Nat.reduceLeDiff, reduceIte, reduceCtorEq]; rfl) (by rfl) rfl) (by decide) (by simp only [go_sem, cdD, cdN, gdT, gdF, gdD, Nat.reduceLT, Nat.reduceEqDiff, Nat.reduceAdd, Nat.reduceLeDiff, reduceIte, reduceCtorEq]) (by simp only [go_sem, cdD, cdN, gdT, gdF, gdD, Nat.reduceLT, Nat.reduceEqDiff, Nat.reduceAdd, Nat.reduceLeDiff, reduceIte, reduceCtorEq]) (rnc_len m1.first) (by omega) rfl) ?_
          simp +contextual only [go_sem, hlen2, hlv2, cdD, cdN, gdT, gdF, gdD, Nat.reduceLT, Nat.reduceEqDiff, Nat.reduceAdd, Nat.reduceLeDiff, reduceIte, reduceCtorEq]
          refine ldfun_pure _ (kept_ok _ _) ?_
          simp +contextual only [go_sem, hlen2, hlv2, Rn.enc, cdD, cdN, gdT, gdF, gdD, Nat.reduceLT, Nat.reduceEqDiff, Nat.reduceAdd, Nat.reduceLeDiff, reduceIte, reduceCtorEq]
          refine ldmem_eq (app89 (acellsOf_rs (by simp only [go_sem, cdD, cdN, gdT, gdF, gdD, Nat.reduceLT, Nat.reduceEqDiff, Nat.reduceAdd, Nat.reduceLeDiff, reduceIte, reduceCtorEq]; rfl) (by rfl) rfl) (by decide) (by simp only [go_sem, cdD, cdN, gdT, gdF, gdD, Nat.reduceLT, Nat.reduceEqDiff, Nat.reduceAdd, Nat.reduceLeDiff, reduceIte, reduceCtorEq]) (by simp only [go_sem, cdD, cdN, gdT, gdF, gdD, Nat.reduceLT, Nat.reduceEqDiff, Nat.reduceAdd, Nat.reduceLeDiff, reduceIte, reduceCtorEq]) (rnc_len m1.second) (by omega) rfl) ?_
          simp (config := { contextual := true, maxSteps := 4000000 }) only [go_sem, hlen2, hlv2, hw3, hw4, hw5, (intv_ints P).len, cdD, cdN, gdT, gdF, gdD, Nat.reduceLT, Nat.reduceEqDiff, Nat.reduceAdd, Nat.reduceLeDiff, reduceIte, reduceCtorEq]
          refine ⟨by kernel_rfl, ?_, ?_⟩
          · intro hlast
            have hP2 : P.drop (i + 1) = [] := List.drop_eq_nil_iff.2 (by omega)
            have hfin : m1.app (mtB b p y) = meetGo a b P 0 0 := by rw [← hE, hdrop, hP2, meetGo, ← Mt.app_assoc, hm1]
            refine lexit_go [0, 1, 27, 29, 31] [(2, gso 98 (rnc (m1.app (mtB b p y)).both)), (3, gso 98 (rnc (m1.app (mtB b p y)).first)), (4, gso 98 (rnc (m1.app (mtB b p y)).second))] (.agg [gsv 3 (nm s.nx 2) (m1.app (mtB b p y)).both.length, gsv 3 (nm s.nx 3) (m1.app (mtB b p y)).first.length, gsv 3 (nm s.nx 4) (m1.app (mtB b p y)).second.length, .int .i64 (m1.app (mtB b p y)).long]) (.refl s) (by decide)
              (by
                rw [show (m1.app (mtB b p y)).both = m1.both ++ [⟨0, 0, insAt b p⟩] from by simp [Mt.app, mtB, hhB], show (m1.app (mtB b p y)).first = m1.first ++ [⟨0, 0, insAt b p⟩] from by simp [Mt.app, mtB, hhB], show (m1.app (mtB b p y)).second = m1.second ++ [⟨y, (insAt b p).length, []⟩] from by simp [Mt.app, mtB, hhB], show (m1.app (mtB b p y)).long = m1.long + (insAt b p).length from by simp [Mt.app, mtB, hhB]]
                simp only [go_sem, List.length_append, gsv_pos (Nat.succ_ne_zero _), cdD, cdN, gdT, gdF, gdD, Nat.reduceLT, Nat.reduceEqDiff, Nat.reduceAdd, Nat.reduceLeDiff, reduceIte, reduceCtorEq]
              )
              (by
                rw [show (m1.app (mtB b p y)).both = m1.both ++ [⟨0, 0, insAt b p⟩] from by simp [Mt.app, mtB, hhB], show (m1.app (mtB b p y)).first = m1.first ++ [⟨0, 0, insAt b p⟩] from by simp [Mt.app, mtB, hhB], show (m1.app (mtB b p y)).second = m1.second ++ [⟨y, (insAt b p).length, []⟩] from by simp [Mt.app, mtB, hhB]]
                simp only [go_sem, map_gso_pu (rnc_pul _), ren_gsv, cdD, cdN, gdT, gdF, gdD, Nat.reduceLT, Nat.reduceEqDiff, Nat.reduceAdd, Nat.reduceLeDiff, reduceIte, reduceCtorEq]
                simp only [go_sem, rnc_snoc, gso_pos (rn_ne3 _ _ _ _), List.length_append, gsv_pos (Nat.succ_ne_zero _), cdD, cdN, gdT, gdF, gdD, Nat.reduceLT, Nat.reduceEqDiff, Nat.reduceAdd, Nat.reduceLeDiff, reduceIte, reduceCtorEq]
              ) ?_
            exact meet_end _ ⟨by rw [hfin], rfl⟩
          intro hlast
          have hi3 : i + 1 < P.length := by omega
          have hgq := List.getElem?_eq_getElem hi3
          have hmq : P[i + 1] ∈ P := List.getElem_mem hi3
          have hdrop2 := List.drop_eq_getElem_cons hi3
          generalize P[i + 1] = q at hgq hmq hdrop2
          obtain ⟨hq0, hq1⟩ := hpl q hmq
          have hwi : IntKind.i64.wrap ((i : Int) + 1) = ((i + 1 : Nat) : Int) := by rw [wrap_id (by omega)]; rfl
          have hwq : IntKind.i64.wrap (q - p) = q - p := wrap_id (by omega)
          simp (config := { contextual := true, maxSteps := 4000000 }) only [go_sem, hlen2, hlv2, hwi, hwq, ints_atv hgq, cdD, cdN, gdT, gdF, gdD, Nat.reduceLT, Nat.reduceEqDiff, Nat.reduceAdd, Nat.reduceLeDiff, reduceIte, reduceCtorEq]
          refine lfunG_to (lv := [(0, .int .i64 n), (1, edv a), (2, edv b), (6, .ptr (nm s.nx 0) 0), (7, .ptr (nm s.nx 1) 0), (10, intv P), (24, intv P), (25, .int .i64 P.length), (26, .int .i64 i), (11, .int .i64 i), (12, .int .i64 p), (8, .int .i64 x1), (9, .int .i64 (y + (insAt b p).length)), (17, .int .i64 (q - p)), (123, edv a), (124, .int .i64 p)])
            (h := loc s 5 [(0, some (.cells [.nils, .nils, .nils, .int .i64 0] (some 91))), (1, some (.cells [gsv 3 (nm s.nx 2) (m1.app (mtB b p y)).both.length, gsv 3 (nm s.nx 3) (m1.app (mtB b p y)).first.length, gsv 3 (nm s.nx 4) (m1.app (mtB b p y)).second.length, .int .i64 (m1.app (mtB b p y)).long] (some 91))), (2, gso 98 (rnc (m1.app (mtB b p y)).both)), (3, gso 98 (rnc (m1.app (mtB b p y)).first)), (4, gso 98 (rnc (m1.app (mtB b p y)).second))])
            (To.go [0, 1, 27, 29, 31] _ rfl (.refl s) (by decide) (by simp)
              (by
                simp (config := { contextual := true, maxSteps := 4000000 }) only [go_sem, hlen2, hlv2, pu_ren (edv_pu _), pu_ren (intv_pu _), cdD, cdN, gdT, gdF, gdD, Nat.reduceLT, Nat.reduceEqDiff, Nat.reduceAdd, Nat.reduceLeDiff, reduceIte, reduceCtorEq]
              )
              (by
                rw [show (m1.app (mtB b p y)).both = m1.both ++ [⟨0, 0, insAt b p⟩] from by simp [Mt.app, mtB, hhB], show (m1.app (mtB b p y)).first = m1.first ++ [⟨0, 0, insAt b p⟩] from by simp [Mt.app, mtB, hhB], show (m1.app (mtB b p y)).second = m1.second ++ [⟨y, (insAt b p).length, []⟩] from by simp [Mt.app, mtB, hhB], show (m1.app (mtB b p y)).long = m1.long + (insAt b p).length from by simp [Mt.app, mtB, hhB]]
                simp only [go_sem, map_gso_pu (rnc_pul _), ren_gsv, cdD, cdN, gdT, gdF, gdD, Nat.reduceLT, Nat.reduceEqDiff, Nat.reduceAdd, Nat.reduceLeDiff, reduceIte, reduceCtorEq]
                simp only [go_sem, rnc_snoc, gso_pos (rn_ne3 _ _ _ _), List.length_append, gsv_pos (Nat.succ_ne_zero _), cdD, cdN, gdT, gdF, gdD, Nat.reduceLT, Nat.reduceEqDiff, Nat.reduceAdd, Nat.reduceLeDiff, reduceIte, reduceCtorEq]
              )) ?_
        case' false =>
          have h0b := ((has_at hrb p).2 hhB).1
          have hm0b : m1.app (mtB b p y) = m1 := by rw [mtB, hhB]; exact Mt.app_nil m1
          simp +contextual only [go_sem, hlen2, hlv2, hw5, (intv_ints P).len, cdD, cdN, gdT, gdF, gdD, Nat.reduceLT, Nat.reduceEqDiff, Nat.reduceAdd, Nat.reduceLeDiff, reduceIte, reduceCtorEq]
          refine ⟨?_, ?_⟩
          · intro hlast
            have hP2 : P.drop (i + 1) = [] := List.drop_eq_nil_iff.2 (by omega)
            have hfin : m1.app (mtB b p y) = meetGo a b P 0 0 := by rw [← hE, hdrop, hP2, meetGo, ← Mt.app_assoc, hm1]
            refine lexit_go [0, 1, 2, 3, 4] [(2, gso 98 (rnc (m1.app (mtB b p y)).both)), (3, gso 98 (rnc (m1.app (mtB b p y)).first)), (4, gso 98 (rnc (m1.app (mtB b p y)).second))] (.agg [gsv 3 (nm s.nx 2) (m1.app (mtB b p y)).both.length, gsv 3 (nm s.nx 3) (m1.app (mtB b p y)).first.length, gsv 3 (nm s.nx 4) (m1.app (mtB b p y)).second.length, .int .i64 (m1.app (mtB b p y)).long]) (.refl s) (by decide)
              (by
                rw [hm0b]
                simp only [go_sem, ren_gsv, cdD, cdN, gdT, gdF, gdD, Nat.reduceLT, Nat.reduceEqDiff, Nat.reduceAdd, Nat.reduceLeDiff, reduceIte, reduceCtorEq]
              )
              (by
                rw [hm0b]
                simp only [go_sem, map_gso_pu (rnc_pul _), ren_gsv, cdD, cdN, gdT, gdF, gdD, Nat.reduceLT, Nat.reduceEqDiff, Nat.reduceAdd, Nat.reduceLeDiff, reduceIte, reduceCtorEq]
              ) ?_
            exact meet_end _ ⟨by rw [hfin], rfl⟩
          intro hlast
          have hi3 : i + 1 < P.length := by omega
          have hgq := List.getElem?_eq_getElem hi3
          have hmq : P[i + 1] ∈ P := List.getElem_mem hi3
          have hdrop2 := List.drop_eq_getElem_cons hi3
          generalize P[i + 1] = q at hgq hmq hdrop2
          obtain ⟨hq0, hq1⟩ := hpl q hmq
          have hwi : IntKind.i64.wrap ((i : Int) + 1) = ((i + 1 : Nat) : Int) := by rw [wrap_id (by omega)]; rfl
          have hwq : IntKind.i64.wrap (q - p) = q - p := wrap_id (by omega)
          simp +contextual only [go_sem, hlen2, hlv2, hwi, hwq, ints_atv hgq, cdD, cdN, gdT, gdF, gdD, Nat.reduceLT, Nat.reduceEqDiff, Nat.reduceAdd, Nat.reduceLeDiff, reduceIte, reduceCtorEq]
          refine lfunG_to (lv := [(0, .int .i64 n), (1, edv a), (2, edv b), (6, .ptr (nm s.nx 0) 0), (7, .ptr (nm s.nx 1) 0), (10, intv P), (24, intv P), (25, .int .i64 P.length), (26, .int .i64 i), (11, .int .i64 i), (12, .int .i64 p), (8, .int .i64 x1), (9, .int .i64 (y + (insAt b p).length)), (17, .int .i64 (q - p)), (123, edv a), (124, .int .i64 p)])
            (h := loc s 5 [(0, some (.cells [.nils, .nils, .nils, .int .i64 0] (some 91))), (1, some (.cells [gsv 3 (nm s.nx 2) (m1.app (mtB b p y)).both.length, gsv 3 (nm s.nx 3) (m1.app (mtB b p y)).first.length, gsv 3 (nm s.nx 4) (m1.app (mtB b p y)).second.length, .int .i64 (m1.app (mtB b p y)).long] (some 91))), (2, gso 98 (rnc (m1.app (mtB b p y)).both)), (3, gso 98 (rnc (m1.app (mtB b p y)).first)), (4, gso 98 (rnc (m1.app (mtB b p y)).second))])
            (To.go [0, 1, 2, 3, 4] _ rfl (.refl s) (by decide) (by simp)
              (by
                rw [h0b]
                simp +contextual only [go_sem, hlen2, hlv2, pu_ren (edv_pu _), pu_ren (intv_pu _), List.length_nil, cdD, cdN, gdT, gdF, gdD, Nat.reduceLT, Nat.reduceEqDiff, Nat.reduceAdd, Nat.reduceLeDiff, reduceIte, reduceCtorEq]
                simp
              )
              (by
                rw [hm0b]
                simp only [go_sem, map_gso_pu (rnc_pul _), ren_gsv, cdD, cdN, gdT, gdF, gdD, Nat.reduceLT, Nat.reduceEqDiff, Nat.reduceAdd, Nat.reduceLeDiff, reduceIte, reduceCtorEq]
              )) ?_
        all_goals
          intro tm3 hlen3 hlv3
          simp only [go_sem, hlen2, cdD, cdN, gdT, gdF, gdD, Nat.reduceLT, Nat.reduceEqDiff, Nat.reduceAdd, Nat.reduceLeDiff, reduceIte, reduceCtorEq] at hlen3 hlv3
          generalize hm2 : m1.app (mtB b p y) = m2 at *
          generalize hy1v : y + ((insAt b p).length : Int) = y1 at *
          simp +contextual only [go_sem, hlen3, hlv3, cdD, cdN, gdT, gdF, gdD, Nat.reduceLT, Nat.reduceEqDiff, Nat.reduceAdd, Nat.reduceLeDiff, reduceIte, reduceCtorEq]
          refine lfunG_eq (keeps_ok n hn.2 _ a p hsa ha hra ⟨hp0, hp1⟩ _) ?_
          simp +contextual only [go_sem, hlen3, hlv3, cdD, cdN, gdT, gdF, gdD, Nat.reduceLT, Nat.reduceEqDiff, Nat.reduceAdd, Nat.reduceLeDiff, reduceIte, reduceCtorEq]
          refine lfunG_eq (keeps_ok n hn.2 _ b p hsb hb hrb ⟨hp0, hp1⟩ _) ?_
          simp +contextual only [go_sem, hlen3, hlv3, Nat.reduceLT, Nat.reduceEqDiff, Nat.reduceAdd, Nat.reduceLeDiff, reduceIte, reduceCtorEq]
          have hE2 : (m2.app (mtK (!goneB a p && !goneB b p) p x1 y1 (q - p))).app (meetGo a b (P.drop (i + 1)) (x1 + if goneB a p then 0 else q - p) (y1 + if goneB b p then 0 else q - p)) = meetGo a b P 0 0 := by
            rw [← hE, hdrop, hdrop2, meetGo, ← hm2, ← hm1, ← hx1v, ← hy1v]
            simp only [Mt.app_assoc]
          have hpq := hmono i p q hg hgq
          have hw6 : IntKind.i64.wrap (m2.long + (q - p)) = m2.long + (q - p) := wrap_id (by omega)
          have hw7 : IntKind.i64.wrap (x1 + (q - p)) = x1 + (q - p) := wrap_id (by omega)
          have hw8 : IntKind.i64.wrap (y1 + (q - p)) = y1 + (q - p) := wrap_id (by omega)
          cases hgA : goneB a p
          case' false =>
            cases hgB : goneB b p
            · simp (config := { contextual := true, maxSteps := 4000000 }) only [go_sem, hlen3, hlv3, hwi, Bool.not_true, Bool.not_false, cdD, cdN, gdT, gdF, gdD, Nat.reduceLT, Nat.reduceEqDiff, Nat.reduceAdd, Nat.reduceLeDiff, reduceIte, reduceCtorEq]
              refine ldrawB_go [] [(1, 1), (8, 0), (8, 1), (8, 3), (15, 0), (15, 1), (15, 2), (15, 3), (15, 5)] 22 (by decide) ?_
              simp +contextual only [go_sem, hlen3, hlv3, cdD, cdN, gdT, gdF, gdD, Nat.reduceLT, Nat.reduceEqDiff, Nat.reduceAdd, Nat.reduceLeDiff, reduceIte, reduceCtorEq]
              refine ldfun_pure _ (kept_ok _ _) ?_
              simp +contextual only [go_sem, hlen3, hlv3, Rn.enc, cdD, cdN, gdT, gdF, gdD, Nat.reduceLT, Nat.reduceEqDiff, Nat.reduceAdd, Nat.reduceLeDiff, reduceIte, reduceCtorEq]
              refine ldmem_eq (app89 (acellsOf_rs (by simp only [go_sem, cdD, cdN, gdT, gdF, gdD, Nat.reduceLT, Nat.reduceEqDiff, Nat.reduceAdd, Nat.reduceLeDiff, reduceIte, reduceCtorEq]; rfl) (by rfl) rfl) (by decide) (by simp only [go_sem, cdD, cdN, gdT, gdF, gdD, Nat.reduceLT, Nat.reduceEqDiff, Nat.reduceAdd, Nat.reduceLeDiff, reduceIte, reduceCtorEq]) (by simp only [go_sem, cdD, cdN, gdT, gdF, gdD, Nat.reduceLT, Nat.reduceEqDiff, Nat.reduceAdd, Nat.reduceLeDiff, reduceIte, reduceCtorEq]) (rnc_len m2.both) (by omega) rfl) ?_
              simp +contextual only [go_sem, hlen3, hlv3, cdD, cdN, gdT, gdF, gdD, Nat.reduceLT, Nat.reduceEqDiff, Nat.reduceAdd, Nat.reduceLeDiff, reduceIte, reduceCtorEq]
              refine ldfun_pure _ (kept_ok _ _) ?_
              simp +contextual only [go_sem, hlen3, hlv3, Rn.enc, cdD, cdN, gdT, gdF, gdD, Nat.reduceLT, Nat.reduceEqDiff, Nat.reduceAdd, Nat.reduceLeDiff, reduceIte, reduceCtorEq]
              refine ldmem_eq (app89 (acellsOf_rs (by simp only [go_sem, cdD, cdN, gdT, gdF, gdD, Nat.reduceLT, Nat.reduceEqDiff, Nat.reduceAdd, Nat.reduceLeDiff, reduceIte, reduceCtorEq]; rfl) (by rfl) rfl) (by decide) (by simp only [go_sem, cdD, cdN, gdT, gdF, gdD, Nat.reduceLT, Nat.reduceEqDiff, Nat.reduceAdd, Nat.reduceLeDiff, reduceIte, reduceCtorEq]) (by simp only [go_sem, cdD, cdN, gdT, gdF, gdD, Nat.reduceLT, Nat.reduceEqDiff, Nat.reduceAdd, Nat.reduceLeDiff, reduceIte, reduceCtorEq]) (rnc_len m2.first) (by omega) rfl) ?_
              simp +contextual only [go_sem, hlen3, hlv3, cdD, cdN, gdT, gdF, gdD, Nat.reduceLT, Nat.reduceEqDiff, Nat.reduceAdd, Nat.reduceLeDiff, reduceIte, reduceCtorEq]
              refine ldfun_pure _ (kept_ok _ _) ?_
              simp +contextual only [go_sem, hlen3, hlv3, Rn.enc, cdD, cdN, gdT, gdF, gdD, Nat.reduceLT, Nat.reduceEqDiff, Nat.reduceAdd, Nat.reduceLeDiff, reduceIte, reduceCtorEq]
              refine ldmem_eq (app89 (acellsOf_rs (by simp only [go_sem, cdD, cdN, gdT, gdF, gdD, Nat.reduceLT, Nat.reduceEqDiff, Nat.reduceAdd, Nat.reduceLeDiff, reduceIte, reduceCtorEq]; rfl) (by rfl) rfl) (by decide) (by simp only [go_sem, cdD, cdN, gdT, gdF, gdD, Nat.reduceLT, Nat.reduceEqDiff, Nat.reduceAdd, Nat.reduceLeDiff, reduceIte, reduceCtorEq]) (by simp only [go_sem, cdD, cdN, gdT, gdF, gdD, Nat.reduceLT, Nat.reduceEqDiff, Nat.reduceAdd, Nat.reduceLeDiff, reduceIte, reduceCtorEq]) (rnc_len m2.second) (by omega) rfl) ?_
              simp (config := { contextual := true, maxSteps := 4000000 }) only [go_sem, hlen3, hlv3, hw6, hw7, hw8, hwi, cdD, cdN, gdT, gdF, gdD, Nat.reduceLT, Nat.reduceEqDiff, Nat.reduceAdd, Nat.reduceLeDiff, reduceIte, reduceCtorEq]
              refine ⟨by kernel_rfl, ?_⟩
              rw [hgA, hgB] at hE2
              simp only [Bool.not_true, Bool.not_false, Bool.and_true, Bool.and_false, Bool.true_and, Bool.false_and, Bool.false_eq_true, if_true, if_false, mtK_false, Mt.app_nil, Int.add_zero] at hE2
              first | refine ⟨by simp only [hlen1, hlen2], (i + 1, x1 + (q - p), y1 + (q - p), m2.app (mtK true p x1 y1 (q - p))), ⟨by simp only; omega, by simp only; omega, by simp only; omega, by simp only; omega, by simp only; omega, by simp [Mt.app, mtK]; omega, by simp [Mt.app, mtK]; omega, by simp [Mt.app, mtK]; omega, by simp [Mt.app, mtK]; omega, by simp [Mt.app, mtK]; omega, hE2⟩, by simp only; omega, ?_⟩
                    | refine ⟨(i + 1, x1 + (q - p), y1 + (q - p), m2.app (mtK true p x1 y1 (q - p))), ⟨by simp only; omega, by simp only; omega, by simp only; omega, by simp only; omega, by simp only; omega, by simp [Mt.app, mtK]; omega, by simp [Mt.app, mtK]; omega, by simp [Mt.app, mtK]; omega, by simp [Mt.app, mtK]; omega, by simp [Mt.app, mtK]; omega, hE2⟩, by simp only; omega, ?_⟩
              refine To.go [0, 1, 28, 30, 32] _ rfl (.refl s) (by decide) (by simp) ?_ ?_
              · simp (config := { contextual := true, maxSteps := 4000000 }) only [go_sem, hlen3, hlv3, pu_ren (edv_pu _), pu_ren (intv_pu _), cdD, cdN, gdT, gdF, gdD, Nat.reduceLT, Nat.reduceEqDiff, Nat.reduceAdd, Nat.reduceLeDiff, reduceIte, reduceCtorEq]
              · rw [show (m2.app (mtK true p x1 y1 (q - p))).both = m2.both ++ [⟨p, q - p, []⟩] from by simp [Mt.app, mtK], show (m2.app (mtK true p x1 y1 (q - p))).first = m2.first ++ [⟨x1, q - p, []⟩] from by simp [Mt.app, mtK], show (m2.app (mtK true p x1 y1 (q - p))).second = m2.second ++ [⟨y1, q - p, []⟩] from by simp [Mt.app, mtK], show (m2.app (mtK true p x1 y1 (q - p))).long = m2.long + (q - p) from by simp [Mt.app, mtK]]
                simp only [go_sem, map_gso_pu (rnc_pul _), ren_gsv, cdD, cdN, gdT, gdF, gdD, Nat.reduceLT, Nat.reduceEqDiff, Nat.reduceAdd, Nat.reduceLeDiff, reduceIte, reduceCtorEq]
                simp only [go_sem, rnc_snoc, gso_pos (rn_ne3 _ _ _ _), List.length_append, gsv_pos (Nat.succ_ne_zero _), cdD, cdN, gdT, gdF, gdD, Nat.reduceLT, Nat.reduceEqDiff, Nat.reduceAdd, Nat.reduceLeDiff, reduceIte, reduceCtorEq]
            · simp (config := { contextual := true, maxSteps := 4000000 }) only [go_sem, hlen3, hlv3, hwi, hw7, Bool.not_true, Bool.not_false, cdD, cdN, gdT, gdF, gdD, Nat.reduceLT, Nat.reduceEqDiff, Nat.reduceAdd, Nat.reduceLeDiff, reduceIte, reduceCtorEq]
              rw [hgA, hgB] at hE2
              simp only [Bool.not_true, Bool.not_false, Bool.and_true, Bool.and_false, Bool.true_and, Bool.false_and, Bool.false_eq_true, if_true, if_false, mtK_false, Mt.app_nil, Int.add_zero] at hE2
              first | refine ⟨by simp only [hlen1, hlen2], (i + 1, x1 + (q - p), y1, m2), ⟨by simp only; omega, by simp only; omega, by simp only; omega, by simp only; omega, by simp only; omega, by simp only; omega, by simp only; omega, by simp only; omega, by simp only; omega, by simp only; omega, hE2⟩, by simp only; omega, ?_⟩
                    | refine ⟨(i + 1, x1 + (q - p), y1, m2), ⟨by simp only; omega, by simp only; omega, by simp only; omega, by simp only; omega, by simp only; omega, by simp only; omega, by simp only; omega, by simp only; omega, by simp only; omega, by simp only; omega, hE2⟩, by simp only; omega, ?_⟩
              refine To.go [0, 1, 2, 3, 4] _ rfl (.refl s) (by decide) (by simp) ?_ ?_
              · simp (config := { contextual := true, maxSteps := 4000000 }) only [go_sem, hlen3, hlv3, pu_ren (edv_pu _), pu_ren (intv_pu _), cdD, cdN, gdT, gdF, gdD, Nat.reduceLT, Nat.reduceEqDiff, Nat.reduceAdd, Nat.reduceLeDiff, reduceIte, reduceCtorEq]
              · simp only [go_sem, map_gso_pu (rnc_pul _), ren_gsv, cdD, cdN, gdT, gdF, gdD, Nat.reduceLT, Nat.reduceEqDiff, Nat.reduceAdd, Nat.reduceLeDiff, reduceIte, reduceCtorEq]
          case' true =>
            cases hgB : goneB b p
            · simp (config := { contextual := true, maxSteps := 4000000 }) only [go_sem, hlen3, hlv3, hwi, hw8, Bool.not_true, Bool.not_false, cdD, cdN, gdT, gdF, gdD, Nat.reduceLT, Nat.reduceEqDiff, Nat.reduceAdd, Nat.reduceLeDiff, reduceIte, reduceCtorEq]
              rw [hgA, hgB] at hE2
              simp only [Bool.not_true, Bool.not_false, Bool.and_true, Bool.and_false, Bool.true_and, Bool.false_and, Bool.false_eq_true, if_true, if_false, mtK_false, Mt.app_nil, Int.add_zero] at hE2
              first | refine ⟨by simp only [hlen1, hlen2], (i + 1, x1, y1 + (q - p), m2), ⟨by simp only; omega, by simp only; omega, by simp only; omega, by simp only; omega, by simp only; omega, by simp only; omega, by simp only; omega, by simp only; omega, by simp only; omega, by simp only; omega, hE2⟩, by simp only; omega, ?_⟩
                    | refine ⟨(i + 1, x1, y1 + (q - p), m2), ⟨by simp only; omega, by simp only; omega, by simp only; omega, by simp only; omega, by simp only; omega, by simp only; omega, by simp only; omega, by simp only; omega, by simp only; omega, by simp only; omega, hE2⟩, by simp only; omega, ?_⟩
              refine To.go [0, 1, 2, 3, 4] _ rfl (.refl s) (by decide) (by simp) ?_ ?_
              · simp (config := { contextual := true, maxSteps := 4000000 }) only [go_sem, hlen3, hlv3, pu_ren (edv_pu _), pu_ren (intv_pu _), cdD, cdN, gdT, gdF, gdD, Nat.reduceLT, Nat.reduceEqDiff, Nat.reduceAdd, Nat.reduceLeDiff, reduceIte, reduceCtorEq]
              · simp only [go_sem, map_gso_pu (rnc_pul _), ren_gsv, cdD, cdN, gdT, gdF, gdD, Nat.reduceLT, Nat.reduceEqDiff, Nat.reduceAdd, Nat.reduceLeDiff, reduceIte, reduceCtorEq]
            · simp (config := { contextual := true, maxSteps := 4000000 }) only [go_sem, hlen3, hlv3, hwi, Bool.not_true, Bool.not_false, cdD, cdN, gdT, gdF, gdD, Nat.reduceLT, Nat.reduceEqDiff, Nat.reduceAdd, Nat.reduceLeDiff, reduceIte, reduceCtorEq]
              rw [hgA, hgB] at hE2
              simp only [Bool.not_true, Bool.not_false, Bool.and_true, Bool.and_false, Bool.true_and, Bool.false_and, Bool.false_eq_true, if_true, if_false, mtK_false, Mt.app_nil, Int.add_zero] at hE2
              first | refine ⟨by simp only [hlen1, hlen2], (i + 1, x1, y1, m2), ⟨by simp only; omega, by simp only; omega, by simp only; omega, by simp only; omega, by simp only; omega, by simp only; omega, by simp only; omega, by simp only; omega, by simp only; omega, by simp only; omega, hE2⟩, by simp only; omega, ?_⟩
                    | refine ⟨(i + 1, x1, y1, m2), ⟨by simp only; omega, by simp only; omega, by simp only; omega, by simp only; omega, by simp only; omega, by simp only; omega, by simp only; omega, by simp only; omega, by simp only; omega, by simp only; omega, hE2⟩, by simp only; omega, ?_⟩
              refine To.go [0, 1, 2, 3, 4] _ rfl (.refl s) (by decide) (by simp) ?_ ?_
              · simp (config := { contextual := true, maxSteps := 4000000 }) only [go_sem, hlen3, hlv3, pu_ren (edv_pu _), pu_ren (intv_pu _), cdD, cdN, gdT, gdF, gdD, Nat.reduceLT, Nat.reduceEqDiff, Nat.reduceAdd, Nat.reduceLeDiff, reduceIte, reduceCtorEq]
              · simp only [go_sem, map_gso_pu (rnc_pul _), ren_gsv, cdD, cdN, gdT, gdF, gdD, Nat.reduceLT, Nat.reduceEqDiff, Nat.reduceAdd, Nat.reduceLeDiff, reduceIte, reduceCtorEq]
    · have hi2 : i = P.length := by omega
      subst hi2
      rw [List.drop_length, meetGo, Mt.app_nil] at hE
      refine lexit_go [0, 1, 2, 3, 4] [(2, gso 98 (rnc m.both)), (3, gso 98 (rnc m.first)), (4, gso 98 (rnc m.second))] (.agg [gsv 3 (nm s.nx 2) m.both.length, gsv 3 (nm s.nx 3) m.first.length, gsv 3 (nm s.nx 4) m.second.length, .int .i64 m.long]) (.refl s) (by decide)
        (by simp only [go_sem, ren_gsv, cdD, cdN, gdT, gdF, gdD, Nat.reduceLT, Nat.reduceEqDiff, Nat.reduceAdd, Nat.reduceLeDiff, reduceIte, reduceCtorEq]) (by simp only [go_sem, map_gso_pu (rnc_pul _), ren_gsv, cdD, cdN, gdT, gdF, gdD, Nat.reduceLT, Nat.reduceEqDiff, Nat.reduceAdd, Nat.reduceLeDiff, reduceIte, reduceCtorEq]) ?_
      exact meet_end _ ⟨by rw [hE], rfl⟩
end Go.S1N
end
section
namespace Go.S1N
open Go Go.Am Go.Proofs Go.S1
set_option maxRecDepth 100000
attribute [local irreducible] lopsB lvb lstepB lfunG lcondB lguardB ldrawB ldrunB ldstepB ldguardB lmem lval ldmem ldval ldfun lexit ldloadB ldlenB lpostB athen ablock
theorem thenX_ok (n : Nat) (v w : AV) (a b : List Ed) (hv : SlE v a) (hw : SlE w b) (hal : a.length < 4611686018427387904) (hbl : b.length < 4611686018427387904) (hna : ∀ e ∈ a, e.new.length ≤ 100000) (hnb : ∀ e ∈ b, e.new.length ≤ 100000) (hn : n ≤ 20000) (s : AHeap) :
    ACall Tryz.prog 17 [.int .i64 n, v, w] s fun r t => r = .tuple [edv (thenVal n a b).1, .int .i64 (thenVal n a b).2] ∧ t = s := by
  refine gob17 (by simp) ?_
  intro tm hlen harg
  simp +contextual only [go_sem, L17, hlen, harg, cdD, cdN, gdT, gdF, gdD, Nat.reduceLT, Nat.reduceEqDiff, Nat.reduceAdd, Nat.reduceLeDiff, reduceIte, reduceCtorEq]
  refine lfunG_eq (checkE _ _ a hv hal _) ?_
  simp +contextual only [go_sem, hlen, harg, cdD, cdN, gdT, gdF, gdD, Nat.reduceLT, Nat.reduceEqDiff, Nat.reduceAdd, Nat.reduceLeDiff, reduceIte, reduceCtorEq]
  refine ⟨fun c => ?_, fun c => ?_⟩
  · refine lexit_pure (.refl s) (by simp only [low, lowL, and_self]) ⟨?_, rfl⟩
    rw [thenVal, if_pos c]; rfl
  have c : faultOf n a = 0 := by simpa using c
  have hsh := (flow_short c hna).2
  refine lfunG_eq (longE _ _ a hv hal _) ?_
  simp +contextual only [go_sem, hlen, harg, hsh, cdD, cdN, gdT, gdF, gdD, Nat.reduceLT, Nat.reduceEqDiff, Nat.reduceAdd, Nat.reduceLeDiff, reduceIte, reduceCtorEq]
  refine lfunG_eq (checkE _ _ b hw hbl _) ?_
  simp +contextual only [go_sem, hlen, harg, cdD, cdN, gdT, gdF, gdD, Nat.reduceLT, Nat.reduceEqDiff, Nat.reduceAdd, Nat.reduceLeDiff, reduceIte, reduceCtorEq]
  refine ⟨fun d => ?_, fun d => ?_⟩
  · refine lexit_pure (.refl s) (by simp only [low, lowL, and_self]) ⟨?_, rfl⟩
    rw [thenVal, if_neg (by simpa using c), if_pos d]; rfl
  have d : faultOf (flowFrom n 0 a).length b = 0 := by simpa using d
  refine lfunG_eq (thenE_ok n _ _ a b hv hw hn c d hna hnb _) ?_
  have hV : thenVal n a b = if 2000 < (edGo n 0 [] (overF (flowFrom n 0 a) (flowFrom (flowFrom n 0 a).length 0 b))).length then ([], 2) else (edGo n 0 [] (overF (flowFrom n 0 a) (flowFrom (flowFrom n 0 a).length 0 b)), 0) := by
    rw [thenVal, if_neg (by simpa using c), if_neg (by simpa using d)]
  rw [hV]
  generalize edGo n 0 [] (overF (flowFrom n 0 a) (flowFrom (flowFrom n 0 a).length 0 b)) = E
  simp +contextual only [go_sem, hlen, harg, (edv_sl E).len, cdD, cdN, gdT, gdF, gdD, Nat.reduceLT, Nat.reduceEqDiff, Nat.reduceAdd, Nat.reduceLeDiff, reduceIte, reduceCtorEq]
  refine ⟨fun h => ?_, fun h => ?_⟩
  · rw [if_pos (by omega)]
    exact lexit_pure (.refl s) (by simp only [low, lowL, and_self]) ⟨rfl, rfl⟩
  · rw [if_neg (by omega)]
    exact lexit_pure (.refl s) (by simp only [low, lowL, and_self, and_true]; exact low.mono (Nat.zero_le _) (edv_pu _)) ⟨rfl, rfl⟩
end Go.S1N
end
section
namespace Go.S1N
open Go Go.Am Go.Proofs Go.S1
set_option maxRecDepth 100000
attribute [local irreducible] lopsB lvb lstepB lfunG lcondB lguardB ldrawB ldrunB ldstepB ldguardB lmem lval ldmem ldval ldfun lexit ldloadB ldlenB lpostB athen ablock
theorem rnv_one (l : List Rn) : (rnv l).one = true := fsv_one
theorem rnv_israw (l : List Rn) : (rnv l).israw = false := fsv_israw
theorem rnv_cells (l : List Rn) : (rnv l).cells = [rnv l] := fsv_cells
def bothErr (n : Int) (a b : List Ed) : Int := if faultOf n a ≠ 0 then faultOf n a else faultOf n b
theorem checkBoth_ok (n : Int) (a b : List Ed) (ha : a.length < 4611686018427387904) (hb : b.length < 4611686018427387904) (s : AHeap) : ACall Tryz.prog 42 [.int .i64 n, edv a, edv b] s fun r t => r = .int .i64 (bothErr n a b) ∧ t = s := by
  refine gob42 (by simp) ?_
  intro tm hlen harg
  simp +contextual only [go_sem, L42, hlen, harg, cdD, cdN, gdT, gdF, gdD, Nat.reduceLT, Nat.reduceEqDiff, Nat.reduceAdd, Nat.reduceLeDiff, reduceIte, reduceCtorEq]
  refine lfunG_eq (checkE n _ a (edv_sl a) ha _) ?_
  simp +contextual only [go_sem, hlen, harg, cdD, cdN, gdT, gdF, gdD, Nat.reduceLT, Nat.reduceEqDiff, Nat.reduceAdd, Nat.reduceLeDiff, reduceIte, reduceCtorEq]
  refine ⟨fun c => ?_, fun c => ?_⟩
  · exact lexit_pure (.refl s) (by simp only [low]) ⟨by rw [bothErr, if_pos c], rfl⟩
  · refine lfunG_eq (checkE n _ b (edv_sl b) hb _) ?_
    simp +contextual only [go_sem, hlen, harg, cdD, cdN, gdT, gdF, gdD, Nat.reduceLT, Nat.reduceEqDiff, Nat.reduceAdd, Nat.reduceLeDiff, reduceIte, reduceCtorEq]
    exact lexit_pure (.refl s) (by simp only [low]) ⟨by rw [bothErr, if_neg (by simpa using c)], rfl⟩
def rnB (l : List Rn) : Prop := (∀ r ∈ l, 0 ≤ r.at_ ∧ r.at_ ≤ 1000000000 ∧ r.at_ + r.long ≤ 1000000000 ∧ 0 ≤ r.long ∧ r.text.length ≤ 1000000) ∧ l.length ≤ 1000000000
structure MOk (n : Int) (a b : List Ed) : Prop where
  hn : 0 ≤ n ∧ n ≤ 1000000
  ha : a.length ≤ 2000
  hb : b.length ≤ 2000
  ra : RS n a
  rb : RS n b
  ia : ∀ p, (insAt a p).length ≤ 100000
  ib : ∀ p, (insAt b p).length ≤ 100000
  pl : ∀ p ∈ placesL n a b, 0 ≤ p ∧ p ≤ 1000000
  pl2 : (placesL n a b).length ≤ 10000
  mono : ∀ (i : Nat) (p q : Int), (placesL n a b)[i]? = some p → (placesL n a b)[i + 1]? = some q → p ≤ q
  la : 0 ≤ longOf n a ∧ longOf n a ≤ 1000000
  lb : 0 ≤ longOf n b ∧ longOf n b ≤ 1000000
  b1 : rnB (meetGo a b (placesL n a b) 0 0).both
  b2 : rnB (meetGo a b (placesL n a b) 0 0).first
  b3 : rnB (meetGo a b (placesL n a b) 0 0).second
theorem MOk.meet {n : Int} {a b : List Ed} (h : MOk n a b) (s : AHeap) : ACall Tryz.prog 43 [.int .i64 n, edv a, edv b] s fun r t => r = (meetGo a b (placesL n a b) 0 0).enc ∧ t = s :=
  meet_ok n h.hn a b h.ha h.hb h.ra h.rb h.ia h.ib h.pl h.pl2 h.mono s
def pastE (n : Int) (a b : List Ed) : List Ed × List Ed × Int :=
  if bothErr n a b ≠ 0 then ([], [], bothErr n a b) else
  if 2000 < (rGo (longOf n a) 0 [] (meetGo a b (placesL n a b) 0 0).first).length ∨ 2000 < (rGo (longOf n b) 0 [] (meetGo a b (placesL n a b) 0 0).second).length ∨ 20000 < (meetGo a b (placesL n a b) 0 0).long then ([], [], 2)
  else (rGo (longOf n a) 0 [] (meetGo a b (placesL n a b) 0 0).first, rGo (longOf n b) 0 [] (meetGo a b (placesL n a b) 0 0).second, 0)
theorem past_ok (n : Int) (a b : List Ed) (ha : a.length < 4611686018427387904) (hb : b.length < 4611686018427387904) (hm : bothErr n a b = 0 → MOk n a b) (s : AHeap) :
    ACall Tryz.prog 21 [.int .i64 n, edv a, edv b] s fun r t => r = .tuple [edv (pastE n a b).1, edv (pastE n a b).2.1, .int .i64 (pastE n a b).2.2] ∧ t = s := by
  refine gob21 (by simp) ?_
  intro tm hlen harg
  simp +contextual only [go_sem, L21, hlen, harg, cdD, cdN, gdT, gdF, gdD, Nat.reduceLT, Nat.reduceEqDiff, Nat.reduceAdd, Nat.reduceLeDiff, reduceIte, reduceCtorEq]
  refine lfunG_eq (checkBoth_ok n a b ha hb _) ?_
  simp +contextual only [go_sem, hlen, harg, cdD, cdN, gdT, gdF, gdD, Nat.reduceLT, Nat.reduceEqDiff, Nat.reduceAdd, Nat.reduceLeDiff, reduceIte, reduceCtorEq]
  refine ⟨fun c => ?_, fun c => ?_⟩
  · refine lexit_pure (.refl s) (by simp only [low, lowL, and_self]) ⟨by rw [pastE, if_pos c]; rfl, rfl⟩
  have c : bothErr n a b = 0 := by simpa using c
  have h := hm c
  have hval : pastE n a b = if 2000 < (rGo (longOf n a) 0 [] (meetGo a b (placesL n a b) 0 0).first).length ∨ 2000 < (rGo (longOf n b) 0 [] (meetGo a b (placesL n a b) 0 0).second).length ∨ 20000 < (meetGo a b (placesL n a b) 0 0).long then ([], [], 2)
    else (rGo (longOf n a) 0 [] (meetGo a b (placesL n a b) 0 0).first, rGo (longOf n b) 0 [] (meetGo a b (placesL n a b) 0 0).second, 0) := by rw [pastE, if_neg (by simpa using c)]
  rw [hval]
  have hb2 := h.b2
  have hb3 := h.b3
  refine lfunG_eq (h.meet _) ?_
  generalize meetGo a b (placesL n a b) 0 0 = M at *
  simp +contextual only [go_sem, hlen, harg, Mt.enc, rnv_one, rnv_israw, rnv_cells, cdD, cdN, gdT, gdF, gdD, Nat.reduceLT, Nat.reduceEqDiff, Nat.reduceAdd, Nat.reduceLeDiff, reduceIte, reduceCtorEq]
  refine ldrawB_go [] [] 11 (by decide) ?_
  simp +contextual only [go_sem, hlen, harg, cdD, cdN, gdT, gdF, gdD, Nat.reduceLT, Nat.reduceEqDiff, Nat.reduceAdd, Nat.reduceLeDiff, reduceIte, reduceCtorEq]
  refine ldfun_pure _ (longE n _ a (edv_sl a) ha) ?_
  simp +contextual only [go_sem, hlen, harg, cdD, cdN, gdT, gdF, gdD, Nat.reduceLT, Nat.reduceEqDiff, Nat.reduceAdd, Nat.reduceLeDiff, reduceIte, reduceCtorEq]
  refine ldfun_pure _ (fun s => editsR_ok (longOf n a) M.first ⟨h.la.1, by have := h.la.2; omega⟩ hb2.1 hb2.2 s) ?_
  simp +contextual only [go_sem, hlen, harg, cdD, cdN, gdT, gdF, gdD, Nat.reduceLT, Nat.reduceEqDiff, Nat.reduceAdd, Nat.reduceLeDiff, reduceIte, reduceCtorEq]
  refine ldfun_pure _ (longE n _ b (edv_sl b) hb) ?_
  simp +contextual only [go_sem, hlen, harg, cdD, cdN, gdT, gdF, gdD, Nat.reduceLT, Nat.reduceEqDiff, Nat.reduceAdd, Nat.reduceLeDiff, reduceIte, reduceCtorEq]
  refine ⟨by kernel_rfl, ?_⟩
  refine lfunG_eq (editsR_ok (longOf n b) M.second ⟨h.lb.1, by have := h.lb.2; omega⟩ hb3.1 hb3.2 _) ?_
  generalize rGo (longOf n a) 0 [] M.first = X
  generalize rGo (longOf n b) 0 [] M.second = Y
  generalize hV : (if 2000 < X.length ∨ 2000 < Y.length ∨ 20000 < M.long then (([], [], 2) : List Ed × List Ed × Int) else (X, Y, 0)) = V
  have hbad : (2000 < X.length ∨ 2000 < Y.length ∨ 20000 < M.long) → lexit s (fun r t => r = .tuple [edv V.1, edv V.2.1, .int .i64 V.2.2] ∧ t = s)
      (some (.tuple [.nils, .nils, .int .i64 2])) (loc s 12 [(0, some (.cells [rnv M.both, rnv M.first, rnv M.second, .int .i64 M.long] (some 91)))]) := by
    intro hh
    exact lexit_pure (.refl s) (by simp only [low, lowL, and_self]) ⟨by rw [← hV, if_pos hh]; rfl, rfl⟩
  by_cases c1 : 2000 < (X.length : Int)
  · simp +contextual only [go_sem, hlen, harg, (edv_sl X).len, (edv_sl Y).len, c1, cdD, cdN, gdT, gdF, gdD, Nat.reduceLT, Nat.reduceEqDiff, Nat.reduceAdd, Nat.reduceLeDiff, reduceIte, reduceCtorEq]
    exact hbad (.inl (by omega))
  by_cases c2 : 2000 < (Y.length : Int)
  · simp +contextual only [go_sem, hlen, harg, (edv_sl X).len, (edv_sl Y).len, c1, c2, cdD, cdN, gdT, gdF, gdD, Nat.reduceLT, Nat.reduceEqDiff, Nat.reduceAdd, Nat.reduceLeDiff, reduceIte, reduceCtorEq]
    exact hbad (.inr (.inl (by omega)))
  by_cases c3 : 20000 < M.long
  · simp +contextual only [go_sem, hlen, harg, (edv_sl X).len, (edv_sl Y).len, c1, c2, c3, cdD, cdN, gdT, gdF, gdD, Nat.reduceLT, Nat.reduceEqDiff, Nat.reduceAdd, Nat.reduceLeDiff, reduceIte, reduceCtorEq]
    exact hbad (.inr (.inr c3))
  · simp +contextual only [go_sem, hlen, harg, (edv_sl X).len, (edv_sl Y).len, c1, c2, c3, cdD, cdN, gdT, gdF, gdD, Nat.reduceLT, Nat.reduceEqDiff, Nat.reduceAdd, Nat.reduceLeDiff, reduceIte, reduceCtorEq]
    refine lexit_pure (.refl s) (by simp only [low, lowL, and_true]; exact ⟨low.mono (Nat.zero_le _) (edv_pu _), low.mono (Nat.zero_le _) (edv_pu _)⟩) ⟨by rw [← hV, if_neg (by omega)], rfl⟩
def bothE (n : Int) (a b : List Ed) : List Ed × Int :=
  if bothErr n a b ≠ 0 then ([], bothErr n a b) else
  if 2000 < (rGo n 0 [] (meetGo a b (placesL n a b) 0 0).both).length ∨ 20000 < (meetGo a b (placesL n a b) 0 0).long then ([], 2)
  else (rGo n 0 [] (meetGo a b (placesL n a b) 0 0).both, 0)
theorem both_ok (n : Int) (a b : List Ed) (ha : a.length < 4611686018427387904) (hb : b.length < 4611686018427387904) (hm : bothErr n a b = 0 → MOk n a b) (s : AHeap) :
    ACall Tryz.prog 22 [.int .i64 n, edv a, edv b] s fun r t => r = .tuple [edv (bothE n a b).1, .int .i64 (bothE n a b).2] ∧ t = s := by
  refine gob22 (by simp) ?_
  intro tm hlen harg
  simp +contextual only [go_sem, L22, hlen, harg, cdD, cdN, gdT, gdF, gdD, Nat.reduceLT, Nat.reduceEqDiff, Nat.reduceAdd, Nat.reduceLeDiff, reduceIte, reduceCtorEq]
  refine lfunG_eq (checkBoth_ok n a b ha hb _) ?_
  simp +contextual only [go_sem, hlen, harg, cdD, cdN, gdT, gdF, gdD, Nat.reduceLT, Nat.reduceEqDiff, Nat.reduceAdd, Nat.reduceLeDiff, reduceIte, reduceCtorEq]
  refine ⟨fun c => ?_, fun c => ?_⟩
  · refine lexit_pure (.refl s) (by simp only [low, lowL, and_self]) ⟨by rw [bothE, if_pos c]; rfl, rfl⟩
  have c : bothErr n a b = 0 := by simpa using c
  have h := hm c
  have hval : bothE n a b = if 2000 < (rGo n 0 [] (meetGo a b (placesL n a b) 0 0).both).length ∨ 20000 < (meetGo a b (placesL n a b) 0 0).long then ([], 2)
    else (rGo n 0 [] (meetGo a b (placesL n a b) 0 0).both, 0) := by rw [bothE, if_neg (by simpa using c)]
  rw [hval]
  have hb1 := h.b1
  refine lfunG_eq (h.meet _) ?_
  generalize meetGo a b (placesL n a b) 0 0 = M at *
  simp +contextual only [go_sem, hlen, harg, Mt.enc, rnv_one, rnv_israw, rnv_cells, cdD, cdN, gdT, gdF, gdD, Nat.reduceLT, Nat.reduceEqDiff, Nat.reduceAdd, Nat.reduceLeDiff, reduceIte, reduceCtorEq]
  refine lfunG_eq (editsR_ok n M.both ⟨h.hn.1, by have := h.hn.2; omega⟩ hb1.1 hb1.2 _) ?_
  generalize rGo n 0 [] M.both = X
  generalize hV : (if 2000 < X.length ∨ 20000 < M.long then (([], 2) : List Ed × Int) else (X, 0)) = V
  by_cases c1 : 2000 < (X.length : Int)
  · simp +contextual only [go_sem, hlen, harg, (edv_sl X).len, c1, cdD, cdN, gdT, gdF, gdD, Nat.reduceLT, Nat.reduceEqDiff, Nat.reduceAdd, Nat.reduceLeDiff, reduceIte, reduceCtorEq]
    exact lexit_pure (.refl s) (by simp only [low, lowL, and_self]) ⟨by rw [← hV, if_pos (.inl (by omega))]; rfl, rfl⟩
  by_cases c3 : 20000 < M.long
  · simp +contextual only [go_sem, hlen, harg, (edv_sl X).len, c1, c3, cdD, cdN, gdT, gdF, gdD, Nat.reduceLT, Nat.reduceEqDiff, Nat.reduceAdd, Nat.reduceLeDiff, reduceIte, reduceCtorEq]
    exact lexit_pure (.refl s) (by simp only [low, lowL, and_self]) ⟨by rw [← hV, if_pos (.inr c3)]; rfl, rfl⟩
  · simp +contextual only [go_sem, hlen, harg, (edv_sl X).len, c1, c3, cdD, cdN, gdT, gdF, gdD, Nat.reduceLT, Nat.reduceEqDiff, Nat.reduceAdd, Nat.reduceLeDiff, reduceIte, reduceCtorEq]
    exact lexit_pure (.refl s) (by simp only [low, lowL, and_true]; exact low.mono (Nat.zero_le _) (edv_pu _)) ⟨by rw [← hV, if_neg (by omega)], rfl⟩
def touch (x y : Ed) : Prop := x.at_ ≤ y.at_ + y.cut ∧ y.at_ ≤ x.at_ + x.cut
instance (x y : Ed) : Decidable (touch x y) := inferInstanceAs (Decidable (_ ∧ _))
def clashR (a b : List Ed) : Bool := a.any fun x => b.any fun y => decide (touch x y)
end Go.S1N
end
section
namespace Go.S1N
open Go Go.Am Go.Proofs Go.S1
set_option maxRecDepth 100000
attribute [local irreducible] lopsB lvb lstepB lfunG lcondB lguardB ldrawB ldrunB ldstepB ldguardB lmem lval ldmem ldval ldfun lexit ldloadB ldlenB lpostB athen ablock
def clashGo : List Ed → List Ed → Bool
  | [], _ => false
  | x :: a, b => match b.dropWhile fun y => decide (y.at_ + y.cut < x.at_) with
    | [] => clashGo a []
    | y :: r => if y.at_ ≤ x.at_ + x.cut then true else clashGo a (y :: r)
def clashE (n : Int) (a b : List Ed) : Bool × Int := if bothErr n a b ≠ 0 then (false, bothErr n a b) else (clashGo a b, 0)
theorem clash_ok (n : Int) (a b : List Ed) (ha : a.length ≤ 2000) (hb : b.length ≤ 2000) (he0 : bothErr n a b = 0 → ∀ e ∈ a ++ b, -1000000000000 ≤ e.at_ + e.cut ∧ e.at_ + e.cut ≤ 1000000000000) (s : AHeap) :
    ACall Tryz.prog 24 [.int .i64 n, edv a, edv b] s fun r t => r = .tuple [.bool (clashE n a b).1, .int .i64 (clashE n a b).2] ∧ t = s := by
  refine gob24 (by simp) ?_
  intro tm hlen harg
  have hsa := edv_sl a
  have hsb := edv_sl b
  simp +contextual only [go_sem, L24, hlen, harg, cdD, cdN, gdT, gdF, gdD, Nat.reduceLT, Nat.reduceEqDiff, Nat.reduceAdd, Nat.reduceLeDiff, reduceIte, reduceCtorEq]
  refine lfunG_eq (checkBoth_ok n a b (by omega) (by omega) _) ?_
  simp +contextual only [go_sem, hlen, harg, hsa.len, cdD, cdN, gdT, gdF, gdD, Nat.reduceLT, Nat.reduceEqDiff, Nat.reduceAdd, Nat.reduceLeDiff, reduceIte, reduceCtorEq]
  refine ⟨fun c => ?_, fun c => ?_⟩
  · exact lexit_pure (.refl s) (by simp only [low, lowL, and_self]) ⟨by rw [clashE, if_pos c], rfl⟩
  have he := he0 (by simpa using c)
  have hval : clashE n a b = (clashGo a b, 0) := by rw [clashE, if_neg (by simpa using c)]
  rw [hval]
  refine ⟨Nat × Nat, fun w => [(1, edv a), (2, edv b), (9, .int .i64 w.2), (19, edv a), (20, .int .i64 a.length), (21, .int .i64 w.1)], fun _ => loc s 0 [], fun w => w.1 ≤ a.length ∧ w.2 ≤ b.length ∧ clashGo (a.drop w.1) (b.drop w.2) = clashGo a b, fun w => a.length - w.1, (0, 0), ⟨Nat.zero_le _, Nat.zero_le _, rfl⟩, ?_, ?_⟩
  · refine To.go [] [] rfl (.refl s) (by decide) (by simp) ?_ trivial
    simp +contextual only [go_sem, hlen, harg, pu_ren (edv_pu _), cdD, cdN, gdT, gdF, gdD, Nat.reduceLT, Nat.reduceEqDiff, Nat.reduceAdd, Nat.reduceLeDiff, reduceIte, reduceCtorEq]
    rfl
  · rintro ⟨i, k⟩ tm1 ⟨hi, hk, hE⟩ hlen1 hlv
    simp only [go_sem, hlen, cdD, cdN, gdT, gdF, gdD, Nat.reduceLT, Nat.reduceEqDiff, Nat.reduceAdd, Nat.reduceLeDiff, reduceIte, reduceCtorEq] at hlen1 hlv hi hk hE
    simp +contextual only [go_sem, hlen, hlen1, hlv, cdD, cdN, gdT, gdF, gdD, Nat.reduceLT, Nat.reduceEqDiff, Nat.reduceAdd, Nat.reduceLeDiff, reduceIte, reduceCtorEq]
    refine ⟨fun hlt => ?_, fun hge => ?_⟩
    · have hi2 : i < a.length := by omega
      have hg := List.getElem?_eq_getElem hi2
      have hmem : a[i] ∈ a := List.getElem_mem hi2
      have hdrop := List.drop_eq_getElem_cons hi2
      generalize a[i] = x at hg hmem hdrop
      have hex := he x (List.mem_append_left _ hmem)
      rw [hdrop, clashGo] at hE
      have hw1 : IntKind.i64.wrap (x.at_ + x.cut) = x.at_ + x.cut := wrap_id (by omega)
      have hw3 : IntKind.i64.wrap ((i : Int) + 1) = ((i + 1 : Nat) : Int) := by rw [wrap_id (by omega)]; rfl
      simp +contextual only [go_sem, hlen1, hlv, hsa.at hg, cdD, cdN, gdT, gdF, gdD, Nat.reduceLT, Nat.reduceEqDiff, Nat.reduceAdd, Nat.reduceLeDiff, reduceIte, reduceCtorEq]
      refine ⟨Nat, fun j => [(1, edv a), (2, edv b), (9, .int .i64 j), (11, .ptr (nm s.nx 0) 0), (19, edv a), (20, .int .i64 a.length), (21, .int .i64 i)], fun _ => loc s 1 [(0, some (.cells [.int .i64 x.at_, .int .i64 x.cut, .str x.new] (some 37)))],
        fun j => j ≤ b.length ∧ (b.drop j).dropWhile (fun y => decide (y.at_ + y.cut < x.at_)) = (b.drop k).dropWhile fun y => decide (y.at_ + y.cut < x.at_), fun j => b.length - j, k, ⟨hk, rfl⟩, ?_, ?_⟩
      · refine To.go [0] _ rfl (.refl s) (by decide) (by simp) ?_ ?_
        · simp +contextual only [go_sem, hlen1, hlv, pu_ren (edv_pu _), cdD, cdN, gdT, gdF, gdD, Nat.reduceLT, Nat.reduceEqDiff, Nat.reduceAdd, Nat.reduceLeDiff, reduceIte, reduceCtorEq]
        · simp only [go_sem, cdD, cdN, gdT, gdF, gdD, Nat.reduceLT, Nat.reduceEqDiff, Nat.reduceAdd, Nat.reduceLeDiff, reduceIte, reduceCtorEq]
      · rintro j tm2 ⟨hj, hF⟩ hlen2 hlv2
        simp only [go_sem, hlen1, cdD, cdN, gdT, gdF, gdD, Nat.reduceLT, Nat.reduceEqDiff, Nat.reduceAdd, Nat.reduceLeDiff, reduceIte, reduceCtorEq] at hlen2 hlv2
        have hw4 : IntKind.i64.wrap ((j : Int) + 1) = ((j + 1 : Nat) : Int) := by rw [wrap_id (by omega)]; rfl
        by_cases hjl : (j : Int) < (b.length : Int)
        · have hj2 : j < b.length := by omega
          have hgj := List.getElem?_eq_getElem hj2
          have hmj : b[j] ∈ b := List.getElem_mem hj2
          have hdj := List.drop_eq_getElem_cons hj2
          generalize b[j] = y at hgj hmj hdj
          have hey := he y (List.mem_append_right _ hmj)
          rw [hdj, List.dropWhile_cons] at hF
          have hw2 : IntKind.i64.wrap (y.at_ + y.cut) = y.at_ + y.cut := wrap_id (by omega)
          simp +contextual only [go_sem, hlen2, hlv2, cdD, cdN, gdT, gdF, gdD, Nat.reduceLT, Nat.reduceEqDiff, Nat.reduceAdd, Nat.reduceLeDiff, reduceIte, reduceCtorEq]
          refine ldrawB_go [] [] 18 (by decide) ?_
          by_cases c1 : y.at_ + y.cut < x.at_
          · rw [if_pos (by simpa using c1)] at hF
            simp +contextual only [go_sem, hlen2, hlv2, hsb.len, hjl, hsb.at hgj, hw2, hw4, c1, cdD, cdN, gdT, gdF, gdD, Nat.reduceLT, Nat.reduceEqDiff, Nat.reduceAdd, Nat.reduceLeDiff, reduceIte, reduceCtorEq]
            refine ⟨by kernel_rfl, ?_⟩
            first
            | refine ⟨by simp only [hlen1], j + 1, ⟨by omega, hF⟩, by omega, ?_⟩
            | refine ⟨j + 1, ⟨by omega, hF⟩, by omega, ?_⟩
            refine To.go [0] _ rfl (.refl s) (by decide) (by simp) ?_ ?_
            · simp +contextual only [go_sem, hlen2, hlv2, pu_ren (edv_pu _), cdD, cdN, gdT, gdF, gdD, Nat.reduceLT, Nat.reduceEqDiff, Nat.reduceAdd, Nat.reduceLeDiff, reduceIte, reduceCtorEq]
            · simp only [go_sem, cdD, cdN, gdT, gdF, gdD, Nat.reduceLT, Nat.reduceEqDiff, Nat.reduceAdd, Nat.reduceLeDiff, reduceIte, reduceCtorEq]
          · rw [if_neg (by simpa using c1)] at hF
            rw [← hF] at hE
            simp only at hE
            simp +contextual only [go_sem, hlen2, hlv2, hsb.len, hjl, hsb.at hgj, hw2, hw4, c1, cdD, cdN, gdT, gdF, gdD, Nat.reduceLT, Nat.reduceEqDiff, Nat.reduceAdd, Nat.reduceLeDiff, reduceIte, reduceCtorEq]
            refine ⟨by kernel_rfl, ?_⟩
            refine ldrawB_go [] [] 15 (by decide) ?_
            by_cases c2 : y.at_ ≤ x.at_ + x.cut
            · rw [if_pos c2] at hE
              simp +contextual only [go_sem, hlen2, hlv2, hsb.len, hjl, hsb.at hgj, hw1, hw3, c2, cdD, cdN, gdT, gdF, gdD, Nat.reduceLT, Nat.reduceEqDiff, Nat.reduceAdd, Nat.reduceLeDiff, reduceIte, reduceCtorEq]
              refine ⟨by kernel_rfl, ?_⟩
              exact lexit_pure (.refl s) (by simp only [low, lowL, and_self]) ⟨by rw [← hE], rfl⟩
            · rw [if_neg c2] at hE
              simp +contextual only [go_sem, hlen2, hlv2, hsb.len, hjl, hsb.at hgj, hw1, hw3, c2, cdD, cdN, gdT, gdF, gdD, Nat.reduceLT, Nat.reduceEqDiff, Nat.reduceAdd, Nat.reduceLeDiff, reduceIte, reduceCtorEq]
              refine ⟨by kernel_rfl, ?_⟩
              first
              | refine ⟨by simp only [hlen1], (i + 1, j), ⟨by simp only; omega, by simp only; omega, by simp only; rw [hdj]; exact hE⟩, by simp only; omega, ?_⟩
              | refine ⟨(i + 1, j), ⟨by simp only; omega, by simp only; omega, by simp only; rw [hdj]; exact hE⟩, by simp only; omega, ?_⟩
              refine To.go [] [] rfl (.refl s) (by decide) (by simp) ?_ trivial
              simp +contextual only [go_sem, hlen2, hlv2, pu_ren (edv_pu _), cdD, cdN, gdT, gdF, gdD, Nat.reduceLT, Nat.reduceEqDiff, Nat.reduceAdd, Nat.reduceLeDiff, reduceIte, reduceCtorEq]
        · have hj2 : j = b.length := by omega
          have hdj : b.drop j = [] := by rw [hj2, List.drop_length]
          rw [hdj, List.dropWhile_nil] at hF
          rw [← hF] at hE
          simp only at hE
          simp +contextual only [go_sem, hlen2, hlv2, cdD, cdN, gdT, gdF, gdD, Nat.reduceLT, Nat.reduceEqDiff, Nat.reduceAdd, Nat.reduceLeDiff, reduceIte, reduceCtorEq]
          refine ldrawB_go [] [] 18 (by decide) ?_
          simp +contextual only [go_sem, hlen2, hlv2, hsb.len, hjl, cdD, cdN, gdT, gdF, gdD, Nat.reduceLT, Nat.reduceEqDiff, Nat.reduceAdd, Nat.reduceLeDiff, reduceIte, reduceCtorEq]
          refine ⟨by kernel_rfl, ?_⟩
          refine ldrawB_go [] [] 15 (by decide) ?_
          simp +contextual only [go_sem, hlen2, hlv2, hsb.len, hjl, hw3, cdD, cdN, gdT, gdF, gdD, Nat.reduceLT, Nat.reduceEqDiff, Nat.reduceAdd, Nat.reduceLeDiff, reduceIte, reduceCtorEq]
          refine ⟨by kernel_rfl, ?_⟩
          first
          | refine ⟨by simp only [hlen1], (i + 1, j), ⟨by simp only; omega, by simp only; omega, by simp only; rw [hdj]; exact hE⟩, by simp only; omega, ?_⟩
          | refine ⟨(i + 1, j), ⟨by simp only; omega, by simp only; omega, by simp only; rw [hdj]; exact hE⟩, by simp only; omega, ?_⟩
          refine To.go [] [] rfl (.refl s) (by decide) (by simp) ?_ trivial
          simp +contextual only [go_sem, hlen2, hlv2, pu_ren (edv_pu _), cdD, cdN, gdT, gdF, gdD, Nat.reduceLT, Nat.reduceEqDiff, Nat.reduceAdd, Nat.reduceLeDiff, reduceIte, reduceCtorEq]
    · have hi2 : i = a.length := by omega
      rw [hi2, List.drop_length, clashGo] at hE
      exact lexit_pure (.refl s) (by simp only [low, lowL, and_self]) ⟨by rw [← hE], rfl⟩
end Go.S1N
end
section
namespace Go.S1N
open Go Go.Am Go.Proofs Go.S1
set_option maxRecDepth 100000
theorem compact_mem (x : Int) : ∀ {L : List Int}, x ∈ compact L ↔ x ∈ L
  | [] => by simp [compact]
  | [a] => by simp [compact]
  | a :: b :: r => by
    have ih := compact_mem x (L := b :: r)
    rw [compact]
    split
    · rename_i h
      rw [ih, List.mem_cons (a := x) (b := a)]
      constructor
      · exact .inr
      · rintro (rfl | q)
        · rw [h]; exact List.mem_cons_self ..
        · exact q
    · rw [List.mem_cons, ih, List.mem_cons (a := x) (b := a)]
theorem compact_lt : ∀ {L : List Int}, L.Pairwise (fun x y => x ≤ y) → (compact L).Pairwise fun x y => x < y
  | [], _ => .nil
  | [a], _ => by simp [compact]
  | a :: b :: r, h => by
    obtain ⟨h1, h2⟩ := List.pairwise_cons.1 h
    have ih := compact_lt h2
    rw [compact]
    split
    · exact ih
    · rename_i hne
      refine List.pairwise_cons.2 ⟨fun y hy => ?_, ih⟩
      have hy := (compact_mem y).1 hy
      have hb := h1 b (List.mem_cons_self ..)
      rcases List.mem_cons.1 hy with rfl | hy
      · omega
      · have := (List.pairwise_cons.1 h2).1 y hy
        omega
theorem places_lt (n : Int) (a b : List Ed) : (placesL n a b).Pairwise fun x y => x < y := by
  refine compact_lt ?_
  have := List.pairwise_mergeSort (le := fun x y : Int => decide (x ≤ y)) (by intro x y z h1 h2; simp at *; omega) (by intro x y; simp; omega) (0 :: n :: ends (a ++ b))
  exact this.imp fun h => by simpa using h
theorem places_mem (n : Int) (a b : List Ed) (x : Int) : x ∈ placesL n a b ↔ x = 0 ∨ x = n ∨ x ∈ ends (a ++ b) := by
  rw [placesL, compact_mem, List.mem_mergeSort, List.mem_cons, List.mem_cons]
theorem ends_mem {l : List Ed} {x : Int} : x ∈ ends l ↔ ∃ e ∈ l, x = e.at_ ∨ x = e.at_ + e.cut := by
  unfold ends
  rw [List.mem_flatMap]
  simp only [List.mem_cons, List.not_mem_nil, or_false]
abbrev LT := Int × UInt8
def runI (x : Int) (k : Nat) : List LT := (List.range k).map fun (i : Nat) => (x + (i : Int), (0 : UInt8))
theorem runI_len (x : Int) (k : Nat) : (runI x k).length = k := by simp [runI]
theorem runI_succ (x : Int) (k : Nat) : runI x (k + 1) = (x, 0) :: runI (x + 1) k := by
  unfold runI
  rw [List.range_succ_eq_map, List.map_cons, List.map_map]
  simp only [Int.natCast_zero, Int.add_zero, List.cons.injEq, true_and]
  refine List.map_congr_left fun i _ => ?_
  simp only [Function.comp_apply, Nat.succ_eq_add_one, Prod.mk.injEq, and_true]
  omega
theorem runI_zero (x : Int) : runI x 0 = [] := rfl
theorem rfl1_run (x : Int) (k : Nat) : rfl1 ⟨x, k, []⟩ = runI x k := by
  simp only [rfl1, ne_eq, not_true_eq_false, if_false, runI, Int.toNat_natCast]
section
variable (a b : List Ed)
def keepAB (p : Int) : Bool := !goneB a p && !goneB b p
def stepA (p : Int) : Int := ((insAt a p).length : Int) + if goneB a p then 0 else 1
def gB : Nat → Int → List LT
  | 0, _ => []
  | k + 1, p => negL (insAt a p) ++ (negL (insAt b p) ++ ((if keepAB a b p then [(p, 0)] else []) ++ gB k (p + 1)))
def xA : Nat → Int → Int → Int
  | 0, _, x => x
  | k + 1, p, x => xA k (p + 1) (x + stepA a p)
def g1 : Nat → Int → Int → List LT
  | 0, _, _ => []
  | k + 1, p, x => runI x (insAt a p).length ++ (negL (insAt b p) ++ ((if keepAB a b p then [(x + (insAt a p).length, 0)] else []) ++ g1 k (p + 1) (x + stepA a p)))
def g2 : Nat → Int → Int → List LT
  | 0, _, _ => []
  | k + 1, p, y => negL (insAt a p) ++ (runI y (insAt b p).length ++ ((if keepAB a b p then [(y + (insAt b p).length, 0)] else []) ++ g2 k (p + 1) (y + stepA b p)))
end
section
variable {a b : List Ed}
theorem gB_add (j k : Nat) : ∀ (p : Int), gB a b (j + k) p = gB a b j p ++ gB a b k (p + j) := by
  induction j with
  | zero => intro p; simp [gB]
  | succ j ih =>
    intro p
    rw [show j + 1 + k = (j + k) + 1 by omega, gB, gB, ih, show p + 1 + (j : Int) = p + ((j + 1 : Nat) : Int) by omega]
    simp only [List.append_assoc]
theorem xA_add (j k : Nat) : ∀ (p x : Int), xA a (j + k) p x = xA a k (p + j) (xA a j p x) := by
  induction j with
  | zero => intro p x; simp [xA]
  | succ j ih =>
    intro p x
    rw [show j + 1 + k = (j + k) + 1 by omega, xA, xA, ih, show p + 1 + (j : Int) = p + ((j + 1 : Nat) : Int) by omega]
theorem g1_add (j k : Nat) : ∀ (p x : Int), g1 a b (j + k) p x = g1 a b j p x ++ g1 a b k (p + j) (xA a j p x) := by
  induction j with
  | zero => intro p x; simp [g1, xA]
  | succ j ih =>
    intro p x
    rw [show j + 1 + k = (j + k) + 1 by omega, g1, g1, xA, ih, show p + 1 + (j : Int) = p + ((j + 1 : Nat) : Int) by omega]
    simp only [List.append_assoc]
theorem g2_add (j k : Nat) : ∀ (p y : Int), g2 a b (j + k) p y = g2 a b j p y ++ g2 a b k (p + j) (xA b j p y) := by
  induction j with
  | zero => intro p y; simp [g2, xA]
  | succ j ih =>
    intro p y
    rw [show j + 1 + k = (j + k) + 1 by omega, g2, g2, xA, ih, show p + 1 + (j : Int) = p + ((j + 1 : Nat) : Int) by omega]
    simp only [List.append_assoc]
structure Calm (a b : List Ed) (p : Int) (k : Nat) (ga gb : Bool) : Prop where
  ins : ∀ r, p ≤ r → r < p + k → insAt a r = [] ∧ insAt b r = [] ∧ goneB a r = ga ∧ goneB b r = gb
theorem Calm.tail {p : Int} {k : Nat} {ga gb : Bool} (h : Calm a b p (k + 1) ga gb) : Calm a b (p + 1) k ga gb := ⟨fun r h1 h2 => h.ins r (by omega) (by omega)⟩
theorem gB_calm : ∀ {k : Nat} {p : Int} {ga gb : Bool}, Calm a b p k ga gb → gB a b k p = if !ga && !gb then runI p k else []
  | 0, p, ga, gb, _ => by simp [gB, runI]
  | k + 1, p, ga, gb, h => by
    obtain ⟨h1, h2, h3, h4⟩ := h.ins p (by omega) (by omega)
    rw [gB, h1, h2, keepAB, h3, h4, gB_calm h.tail]
    cases ga <;> cases gb <;> simp [negL, runI_succ]
theorem xA_calm : ∀ {k : Nat} {p x : Int} {ga gb : Bool}, Calm a b p k ga gb → xA a k p x = x + (if ga then 0 else (k : Int)) ∧ ∀ y, xA b k p y = y + (if gb then 0 else (k : Int))
  | 0, p, x, ga, gb, _ => by simp [xA]
  | k + 1, p, x, ga, gb, h => by
    obtain ⟨h1, h2, h3, h4⟩ := h.ins p (by omega) (by omega)
    have ih := fun x => xA_calm (x := x) h.tail
    refine ⟨?_, fun y => ?_⟩
    · rw [xA, (ih _).1, stepA, h1, h3]
      cases ga <;> simp <;> omega
    · rw [xA, (ih 0).2, stepA, h2, h4]
      cases gb <;> simp <;> omega
theorem g1_calm : ∀ {k : Nat} {p x : Int} {ga gb : Bool}, Calm a b p k ga gb → g1 a b k p x = if !ga && !gb then runI x k else []
  | 0, p, x, ga, gb, _ => by simp [g1, runI]
  | k + 1, p, x, ga, gb, h => by
    obtain ⟨h1, h2, h3, h4⟩ := h.ins p (by omega) (by omega)
    rw [g1, h1, h2, keepAB, stepA, h3, h4, h1, g1_calm h.tail]
    cases ga <;> cases gb <;> simp [negL, runI_succ, runI_zero]
theorem g2_calm : ∀ {k : Nat} {p x : Int} {ga gb : Bool}, Calm a b p k ga gb → g2 a b k p x = if !ga && !gb then runI x k else []
  | 0, p, x, ga, gb, _ => by simp [g2, runI]
  | k + 1, p, x, ga, gb, h => by
    obtain ⟨h1, h2, h3, h4⟩ := h.ins p (by omega) (by omega)
    rw [g2, h1, h2, keepAB, stepA, h3, h4, h2, g2_calm h.tail]
    cases ga <;> cases gb <;> simp [negL, runI_succ, runI_zero]
end
end Go.S1N
end
section

end
section
namespace Go.S1N
open Go Go.Am Go.Proofs Go.S1
set_option maxRecDepth 100000
def lcopy (T : Tab) (t : TypeId) (x y : AV) (s : AHeap) : Option (AV × AHeap) := match T.ty t with
  | some i => match i.td with
    | .slice e => acopy T e s x y
    | _ => none
  | none => none
theorem lstepB_copy {P : Program} {T : Tab} {s0 s : AHeap} {N : List AV → AHeap → Prop} {d : Option Nat} {tm : List AV} {t u : TypeId} {x y : Operand} : lstepB P T s0 N (.call { callee := .builtin .copy, args := ⟨[x, y]⟩, argTypes := ⟨[t, u]⟩ }) d tm s = lmem N (lcopy T t (aev tm x) (aev tm y) s) d tm := rfl
attribute [local irreducible] lopsB lvb lstepB lfunG lcondB lguardB ldrawB ldrunB ldstepB ldguardB lmem lval ldmem ldval ldfun lexit ldloadB ldlenB lpostB athen ablock
end Go.S1N
end
section
namespace Go.S1N
open Go Go.Am Go.Proofs Go.S1
set_option maxRecDepth 100000
attribute [local irreducible] lopsB lvb lstepB lfunG lcondB lguardB ldrawB ldrunB ldstepB ldguardB lmem lval ldmem ldval ldfun lexit ldloadB ldlenB lpostB athen ablock
def ownOf : Nat → List (Int × UInt8) → List Int
  | _, [] => []
  | i, p :: r => if p.1 < 0 then (i : Int) :: ownOf (i + 1) r else ownOf (i + 1) r
def oldOf : Nat → List (Int × UInt8) → List Int → List Int
  | _, [], o => o
  | i, p :: r, o => if p.1 < 0 then oldOf (i + 1) r o else oldOf (i + 1) r (o.set p.1.toNat i)
def need : List (Int × UInt8) → List Bool → Nat
  | p :: F, b :: bs => (if p.1 < 0 ∧ b = true then 1 else 0) + need F bs
  | _, _ => 0
def pastGo (old : List Int) : List Int → List (Int × UInt8) → List Bool → List (Int × UInt8)
  | own, p :: F, b :: bs => if 0 ≤ p.1 then (old.getD p.1.toNat 0, p.2) :: pastGo old own F bs else if b then (own.headD 0, p.2) :: pastGo old own.tail F bs else p :: pastGo old own F bs
  | _, _, _ => []
def pastF (n : Nat) (G F : List (Int × UInt8)) (bs : List Bool) : List (Int × UInt8) := pastGo (oldOf 0 G (List.replicate n (-1))) (ownOf 0 G) F bs
end Go.S1N
end
section
namespace Go.S1N
open Go Go.Am Go.Proofs Go.S1
set_option maxRecDepth 100000
attribute [local irreducible] lopsB lvb lstepB lfunG lcondB lguardB ldrawB ldrunB ldstepB ldguardB lmem lval ldmem ldval ldfun lexit ldloadB ldlenB lpostB athen ablock
abbrev ML := (Int × UInt8) × Bool × Bool
end Go.S1N
end
section
namespace Go.S1N
open Go Go.Am Go.Proofs Go.S1
set_option maxRecDepth 100000
attribute [local irreducible] lopsB lvb lstepB lfunG lcondB lguardB ldrawB ldrunB ldstepB ldguardB lmem lval ldmem ldval ldfun lexit ldloadB ldlenB lpostB athen ablock
def newM (e : Ed) (f : Bool × Bool) (i : Nat) : List ML := (e.new.take i).map fun c => ((-1, c), f)
def insM (l : List Ed) (p : Int) (f : Bool × Bool) : List ML := l.flatMap fun e => if e.at_ = p then newM e f e.new.length else []
def keptM (a b : List Ed) (n p : Int) : List ML := if p < n ∧ goneB a p = false ∧ goneB b p = false then [((p, 0), false, false)] else []
def mixAt (a b : List Ed) (n p : Int) : List ML := insM a p (true, false) ++ insM b p (false, true) ++ keptM a b n p
def mixL (a b : List Ed) (n : Int) (k : Nat) : List ML := (List.range k).flatMap fun p : Nat => mixAt a b n (p : Int)
def totN (l : List Ed) : Nat := (l.flatMap Ed.new).length
theorem mixL_succ (a b : List Ed) (n : Int) (k : Nat) : mixL a b n (k + 1) = mixL a b n k ++ mixAt a b n k := by simp [mixL, List.range_succ]
theorem totN_mem {l : List Ed} {e : Ed} (h : e ∈ l) : e.new.length ≤ totN l := by
  obtain ⟨x, y, rfl⟩ := List.append_of_mem h
  simp only [totN, List.flatMap_append, List.flatMap_cons, List.length_append]; omega
end Go.S1N
end
section
namespace Go.S1N
open Go Go.Am Go.Proofs Go.S1
set_option maxRecDepth 100000
attribute [local irreducible] lopsB lvb lstepB lfunG lcondB lguardB ldrawB ldrunB ldstepB ldguardB lmem lval ldmem ldval ldfun lexit ldloadB ldlenB lpostB athen ablock
structure POk (n : Nat) (a b : List Ed) : Prop where
  hn : n ≤ 1000
  ha : a.length ≤ 2000
  hb : b.length ≤ 2000
  hta : totN a ≤ 1000
  htb : totN b ≤ 1000
  hea : ∀ e ∈ a, -1000000000000 ≤ e.at_ + e.cut ∧ e.at_ + e.cut ≤ 1000000000000
  heb : ∀ e ∈ b, -1000000000000 ≤ e.at_ + e.cut ∧ e.at_ + e.cut ≤ 1000000000000
  hsa : scan n (-1) a = 0
  hsb : scan n (-1) b = 0
  hga : ∀ p ∈ flowFrom n 0 a, p.1 < n
  hgb : ∀ p ∈ flowFrom n 0 b, p.1 < n
  hm : ∀ x ∈ mixL a b n (n + 1), -1 ≤ x.1.1 ∧ x.1.1 < n
  hda : need ((mixL a b n (n + 1)).map (·.1)) ((mixL a b n (n + 1)).map (·.2.1)) ≤ (ownOf 0 (flowFrom n 0 a)).length
  hdb : need ((mixL a b n (n + 1)).map (·.1)) ((mixL a b n (n + 1)).map (·.2.2)) ≤ (ownOf 0 (flowFrom n 0 b)).length
def mixF (n : Nat) (a b : List Ed) : List (Int × UInt8) := (mixL a b n (n + 1)).map (·.1)
def pastA (n : Nat) (a b : List Ed) : List Ed := edGo (flowFrom n 0 a).length 0 [] (pastF n (flowFrom n 0 a) (mixF n a b) ((mixL a b n (n + 1)).map (·.2.1)))
def pastB (n : Nat) (a b : List Ed) : List Ed := edGo (flowFrom n 0 b).length 0 [] (pastF n (flowFrom n 0 b) (mixF n a b) ((mixL a b n (n + 1)).map (·.2.2)))
def pastR (n : Nat) (a b : List Ed) : List Ed × List Ed × Int :=
  if bothErr n a b ≠ 0 then ([], [], bothErr n a b) else if 20000 < (mixF n a b).length ∨ 2000 < (pastA n a b).length ∨ 2000 < (pastB n a b).length then ([], [], 2) else (pastA n a b, pastB n a b, 0)
def bothR (n : Nat) (a b : List Ed) : List Ed × Int :=
  if bothErr n a b ≠ 0 then ([], bothErr n a b) else if 20000 < (mixF n a b).length ∨ 2000 < (edGo n 0 [] (mixF n a b)).length then ([], 2) else (edGo n 0 [] (mixF n a b), 0)
end Go.S1N
end
section
namespace Go.S1N
open Go Go.Am Go.Proofs Go.S1
set_option maxRecDepth 100000
theorem insAt_nil (p : Int) : insAt [] p = [] := rfl
theorem goneB_nil (p : Int) : goneB [] p = false := rfl
theorem insAt_cons (e : Ed) (r : List Ed) (p : Int) : insAt (e :: r) p = if e.at_ = p then e.new else insAt r p := by
  unfold insAt
  rw [List.find?_cons]
  by_cases h : e.at_ = p <;> simp [h]
theorem goneB_cons (e : Ed) (r : List Ed) (p : Int) : goneB (e :: r) p = (decide (Ed.covers e p) || goneB r p) := by simp [goneB]
theorem insAt_none {l : List Ed} {p : Int} (h : ∀ e ∈ l, e.at_ ≠ p) : insAt l p = [] := by
  induction l with
  | nil => rfl
  | cons e l ih => rw [insAt_cons, if_neg (h e (List.mem_cons_self ..)), ih fun x hx => h x (List.mem_cons_of_mem _ hx)]
theorem goneB_none {l : List Ed} {p : Int} (h : ∀ e ∈ l, ¬ Ed.covers e p) : goneB l p = false := by
  unfold goneB
  rw [List.any_eq_false]
  intro e he; simpa using h e he
theorem cov_no {e : Ed} {q : Int} (h : q < e.at_ ∨ e.at_ + e.cut ≤ q) : decide (Ed.covers e q) = false := by
  rw [decide_eq_false_iff_not]; unfold Ed.covers; omega
theorem cov_yes {e : Ed} {q : Int} (h1 : e.at_ ≤ q) (h2 : q < e.at_ + e.cut) : decide (Ed.covers e q) = true := by
  rw [decide_eq_true_eq]; exact ⟨h1, h2⟩
theorem gB1_congr {a a' : List Ed} : ∀ {k : Nat} {p : Int}, (∀ q, p ≤ q → q < p + k → insAt a q = insAt a' q ∧ goneB a q = goneB a' q) → gB a [] k p = gB a' [] k p
  | 0, _, _ => rfl
  | k + 1, p, h => by
    obtain ⟨h1, h2⟩ := h p (by omega) (by omega)
    rw [gB, gB, h1, keepAB, keepAB, h2, gB1_congr fun q q1 q2 => h q (by omega) (by omega)]
theorem runI_of (a k : Nat) : runI a k = runOf a k := by rw [← rfl1_run, rfl1_kept]
theorem flow_pos (n : Nat) : ∀ (l : List Ed) (a : Nat), RS n l → (∀ e ∈ l, (a : Int) ≤ e.at_) → a ≤ n → flowFrom n a l = gB l [] (n - a) a ++ negL (insAt l n)
  | [], a, _, _, ha => by
    rw [flowFrom, gB_calm (ga := false) (gb := false) ⟨fun r _ _ => ⟨rfl, rfl, rfl, rfl⟩⟩, insAt_nil]
    simp [negL, runI_of]
  | e :: r, a, h, hle, ha => by
    obtain ⟨e1, e2, e3⟩ := h.each e (List.mem_cons_self ..)
    have hp := (List.pairwise_cons.1 h.pair).1
    have hea := hle e (List.mem_cons_self ..)
    obtain ⟨m, hm⟩ : ∃ m : Nat, e.at_ = m := ⟨e.at_.toNat, by omega⟩
    obtain ⟨c, hc⟩ : ∃ c : Nat, e.cut = c := ⟨e.cut.toNat, by omega⟩
    have hr0 : ∀ q : Int, q ≤ m + c → insAt r q = [] ∧ goneB r q = false := by
      intro q hq
      refine ⟨insAt_none fun x hx => ?_, goneB_none fun x hx => ?_⟩
      · have := hp x hx; omega
      · have := hp x hx; unfold Ed.covers; omega
    have ih := flow_pos n r (m + c) h.tail (fun x hx => by have := hp x hx; omega) (by omega)
    have s1 : gB (e :: r) [] (m - a) a = runOf a (m - a) := by
      rw [gB_calm (ga := false) (gb := false) ⟨fun q q1 q2 => ⟨?_, rfl, ?_, rfl⟩⟩]
      · simp [runI_of]
      · rw [insAt_cons, if_neg (by omega), (hr0 q (by omega)).1]
      · rw [goneB_cons, (hr0 q (by omega)).2, cov_no (by omega)]; rfl
    have s2 : gB (e :: r) [] (n - m) m ++ negL (insAt (e :: r) n) = negL e.new ++ (gB r [] (n - (m + c)) ((m + c : Nat) : Int) ++ negL (insAt r n)) := by
      by_cases hmn : m = n
      · have hc0 : c = 0 := by omega
        subst hc0 hmn
        rw [insAt_cons, if_pos hm, (hr0 m (by omega)).1]
        simp [gB, negL]
      · have hin : insAt (e :: r) n = insAt r n := by rw [insAt_cons, if_neg (by omega)]
        rw [hin]
        rw [← List.append_assoc]
        congr 1
        by_cases hc0 : c = 0
        · subst hc0
          obtain ⟨k, hk⟩ : ∃ k, n - m = k + 1 := ⟨n - m - 1, by omega⟩
          rw [Nat.add_zero, hk, gB, gB, insAt_cons, if_pos hm, (hr0 m (by omega)).1, keepAB, keepAB, goneB_cons, (hr0 m (by omega)).2, insAt_nil]
          rw [cov_no (by omega)]
          rw [gB1_congr (a := e :: r) (a' := r) fun q q1 q2 => ⟨by rw [insAt_cons, if_neg (by omega)], by rw [goneB_cons, cov_no (by omega)]; simp⟩]
          simp [negL]
        · obtain ⟨k, hk⟩ : ∃ k, c = k + 1 := ⟨c - 1, by omega⟩
          rw [show n - m = (k + (n - (m + c))) + 1 by omega, gB, insAt_cons, if_pos hm, gB_add, insAt_nil]
          rw [gB_calm (p := (m : Int) + 1) (k := k) (ga := true) (gb := false) ⟨fun q q1 q2 => ⟨by rw [insAt_cons, if_neg (by omega), (hr0 q (by omega)).1], rfl, by rw [goneB_cons, cov_yes (by omega) (by omega)]; simp, rfl⟩⟩]
          rw [keepAB, goneB_cons, cov_yes (by omega) (by omega)]
          rw [gB1_congr (a := e :: r) (a' := r) fun q q1 q2 => ⟨by rw [insAt_cons, if_neg (by omega)], by rw [goneB_cons, cov_no (by omega)]; simp⟩]
          rw [show (m : Int) + 1 + (k : Int) = ((m + c : Nat) : Int) by omega]
          simp [negL]
    rw [flowFrom, show (e.at_ + e.cut).toNat = m + c by omega, ih, show e.at_.toNat = m by omega]
    rw [show n - a = (m - a) + (n - m) by omega, gB_add, s1, show (a : Int) + ((m - a : Nat) : Int) = m by omega, List.append_assoc (runOf a (m - a)), List.append_assoc (runOf a (m - a)), s2]
    rw [show (e.new.map fun c => ((-1 : Int), c)) = negL e.new from rfl]
def insF (s : List UInt8) (f : Bool × Bool) : List ML := s.map fun c => ((-1, c), f)
theorem insM_at {n : Int} (p : Int) (f : Bool × Bool) : ∀ {l : List Ed}, RS n l → insM l p f = insF (insAt l p) f
  | [], _ => rfl
  | e :: r, h => by
    have ih := insM_at p f h.tail
    have e0 : insM (e :: r) p f = (if e.at_ = p then newM e f e.new.length else []) ++ insM r p f := by simp [insM]
    rw [e0, ih, insAt_cons]
    by_cases hp : e.at_ = p
    · rw [if_pos hp, if_pos hp, insAt_none fun x hx => by have := (List.pairwise_cons.1 h.pair).1 x hx; have := h.each e (List.mem_cons_self ..); omega]
      simp [newM, insF]
    · rw [if_neg hp, if_neg hp]; rfl
section
variable (a b : List Ed)
def gM : Nat → Int → List ML
  | 0, _ => []
  | k + 1, p => insF (insAt a p) (true, false) ++ (insF (insAt b p) (false, true) ++ ((if keepAB a b p then [((p, 0), false, false)] else []) ++ gM k (p + 1)))
end
section
variable {a b : List Ed}
theorem insF_neg (s : List UInt8) (f : Bool × Bool) : (insF s f).map (·.1) = negL s := by simp [insF, negL]
theorem gM_fst : ∀ (k : Nat) (p : Int), (gM a b k p).map (·.1) = gB a b k p
  | 0, _ => rfl
  | k + 1, p => by
    rw [gM, gB, List.map_append, List.map_append, List.map_append, insF_neg, insF_neg, gM_fst k]
    split <;> rfl
theorem gM_add (j k : Nat) : ∀ (p : Int), gM a b (j + k) p = gM a b j p ++ gM a b k (p + j) := by
  induction j with
  | zero => intro p; simp [gM]
  | succ j ih =>
    intro p
    rw [show j + 1 + k = (j + k) + 1 by omega, gM, gM, ih, show p + 1 + (j : Int) = p + ((j + 1 : Nat) : Int) by omega]
    simp only [List.append_assoc]
theorem mixAt_pos {n : Int} (ha : RS n a) (hb : RS n b) {p : Int} (hp : p < n) : mixAt a b n p = gM a b 1 p := by
  rw [mixAt, insM_at p _ ha, insM_at p _ hb, gM, gM, keptM, keepAB]
  by_cases h1 : goneB a p = true <;> by_cases h2 : goneB b p = true <;> simp [h1, h2, hp]
theorem mixL_pos {n : Nat} (ha : RS n a) (hb : RS n b) : ∀ k, k ≤ n → mixL a b n k = gM a b k 0
  | 0, _ => rfl
  | k + 1, h => by
    rw [mixL_succ, mixL_pos ha hb k (by omega), mixAt_pos ha hb (by omega), gM_add, Int.zero_add]
theorem mixL_all {n : Nat} (ha : RS n a) (hb : RS n b) : mixL a b n (n + 1) = gM a b n 0 ++ (insF (insAt a n) (true, false) ++ insF (insAt b n) (false, true)) := by
  rw [mixL_succ, mixL_pos ha hb n (Nat.le_refl _), mixAt, insM_at _ _ ha, insM_at _ _ hb, keptM, if_neg (by omega), List.append_nil]
theorem mixF_all {n : Nat} (ha : RS n a) (hb : RS n b) : mixF n a b = gB a b n 0 ++ (negL (insAt a n) ++ negL (insAt b n)) := by
  rw [mixF, mixL_all ha hb, List.map_append, List.map_append, insF_neg, insF_neg, gM_fst]
end
end Go.S1N
end
section
namespace Go.S1N
open Go Go.Am Go.Proofs Go.S1
set_option maxRecDepth 100000
def nrm (p : LT) : LT := if p.1 < 0 then p else (p.1, 0)
def nrmL (F : List LT) : List LT := F.map nrm
theorem nrm_app (F G : List LT) : nrmL (F ++ G) = nrmL F ++ nrmL G := List.map_append
theorem nrm_neg (s : List UInt8) : nrmL (negL s) = negL s := by
  unfold nrmL negL; rw [List.map_map]
  refine List.map_congr_left fun c _ => ?_
  simp [nrm]
theorem edGo_nrm (n : Int) : ∀ (F : List LT) (a : Int) (w : List UInt8), edGo n a w (nrmL F) = edGo n a w F
  | [], _, _ => rfl
  | p :: r, a, w => by
    have ih := fun a w => edGo_nrm n r a w
    show edGo n a w (nrm p :: nrmL r) = _
    by_cases h : p.1 < 0
    · rw [show nrm p = p from if_pos h, edGo, edGo, if_pos h, if_pos h, ih]
    · rw [show nrm p = (p.1, 0) from if_neg h, edGo, edGo, if_neg h, if_neg h, ih]
def idxI (x : Nat) (m : Nat) : List Int := (List.range m).map fun i : Nat => ((x + i : Nat) : Int)
theorem idxI_succ (x m : Nat) : idxI x (m + 1) = (x : Int) :: idxI (x + 1) m := by
  unfold idxI
  rw [List.range_succ_eq_map, List.map_cons, List.map_map]
  simp only [Nat.add_zero, List.cons.injEq, true_and]
  refine List.map_congr_left fun i _ => ?_
  simp only [Function.comp_apply, Nat.succ_eq_add_one]; omega
theorem idxI_len (x m : Nat) : (idxI x m).length = m := by simp [idxI]
theorem own_neg (r : List LT) : ∀ (s : List UInt8) (i : Nat), ownOf i (negL s ++ r) = idxI i s.length ++ ownOf (i + s.length) r
  | [], i => rfl
  | c :: s, i => by
    show ownOf i ((-1, c) :: (negL s ++ r)) = _
    rw [ownOf, if_pos (by simp), own_neg r s (i + 1), List.length_cons, idxI_succ, List.cons_append]
    congr 2; congr 1; omega
theorem own_kept (r : List LT) (i : Nat) {p : Int} (hp : 0 ≤ p) (c : UInt8) : ownOf i ((p, c) :: r) = ownOf (i + 1) r := by rw [ownOf, if_neg (by simp only; omega)]
theorem old_neg (r : List LT) (o : List Int) : ∀ (s : List UInt8) (i : Nat), oldOf i (negL s ++ r) o = oldOf (i + s.length) r o
  | [], i => rfl
  | c :: s, i => by
    show oldOf i ((-1, c) :: (negL s ++ r)) o = _
    rw [oldOf, if_pos (by simp), old_neg r o s (i + 1), List.length_cons]
    congr 1; omega
theorem old_kept (r : List LT) (o : List Int) (i : Nat) {p : Int} (hp : 0 ≤ p) (c : UInt8) : oldOf i ((p, c) :: r) o = oldOf (i + 1) r (o.set p.toNat i) := by rw [oldOf, if_neg (by simp only; omega)]
theorem old_skip {q : Nat} : ∀ (G : List LT) (i : Nat) (o : List Int), (∀ p ∈ G, p.1 < 0 ∨ p.1 ≠ q) → (oldOf i G o)[q]? = o[q]?
  | [], _, _, _ => rfl
  | p :: r, i, o, h => by
    have hr : ∀ p ∈ r, p.1 < 0 ∨ p.1 ≠ q := fun x hx => h x (List.mem_cons_of_mem _ hx)
    rw [oldOf]
    split
    · exact old_skip r (i + 1) o hr
    · rw [old_skip r (i + 1) _ hr, List.getElem?_set_ne]
      rcases h p (List.mem_cons_self ..) with h | h <;> omega
def stepN (a : List Ed) (p : Int) : Nat := (insAt a p).length + if goneB a p then 0 else 1
theorem stepN_A (a : List Ed) (p : Int) : ((stepN a p : Nat) : Int) = stepA a p := by
  unfold stepN stepA; split <;> simp
section
variable (a : List Ed)
def xN : Nat → Int → Nat → Nat
  | 0, _, x => x
  | k + 1, p, x => xN k (p + 1) (x + stepN a p)
end
theorem gB1_step (a : List Ed) (k : Nat) (p : Int) : gB a [] (k + 1) p = negL (insAt a p) ++ ((if goneB a p then [] else [(p, 0)]) ++ gB a [] k (p + 1)) := by
  rw [gB, keepAB, insAt_nil]
  cases goneB a p <;> simp [negL, goneB]
theorem gB1_ge (a : List Ed) : ∀ (k : Nat) (p : Int), ∀ q ∈ gB a [] k p, q.1 < 0 ∨ p ≤ q.1
  | 0, _ => by simp [gB]
  | k + 1, p => by
    intro q hq
    rw [gB1_step] at hq
    rcases List.mem_append.1 hq with h | h
    · obtain ⟨c, _, rfl⟩ := List.mem_map.1 h; left; simp
    · rcases List.mem_append.1 h with h | h
      · split at h
        · simp at h
        · rw [List.mem_singleton.1 h]; right; exact Int.le_refl _
      · rcases gB1_ge a k (p + 1) q h with h | h
        · exact .inl h
        · right; omega
theorem own_step (a : List Ed) (k : Nat) {p : Int} (hp : 0 ≤ p) (Z : List LT) (x : Nat) : ownOf x (gB a [] (k + 1) p ++ Z) = idxI x (insAt a p).length ++ ownOf (x + stepN a p) (gB a [] k (p + 1) ++ Z) := by
  rw [gB1_step, List.append_assoc, own_neg, List.append_assoc, stepN]
  cases goneB a p
  · simp only [Bool.false_eq_true, if_false, List.cons_append, List.nil_append]
    rw [own_kept _ _ hp]; congr 2
  · simp only [if_true, List.nil_append, Nat.add_zero]
theorem old_step (a : List Ed) (k : Nat) {p : Int} (hp : 0 ≤ p) (Z : List LT) (x : Nat) (o : List Int) : oldOf x (gB a [] (k + 1) p ++ Z) o = oldOf (x + stepN a p) (gB a [] k (p + 1) ++ Z) (if goneB a p then o else o.set p.toNat ((x + (insAt a p).length : Nat) : Int)) := by
  rw [gB1_step, List.append_assoc, old_neg, List.append_assoc, stepN]
  cases goneB a p
  · simp only [Bool.false_eq_true, if_false, List.cons_append, List.nil_append]
    rw [old_kept _ _ _ hp]; rfl
  · simp only [if_true, List.nil_append, Nat.add_zero]
def OldAt (a : List Ed) (old : List Int) : Nat → Int → Nat → Prop
  | 0, _, _ => True
  | k + 1, p, x => (goneB a p = false → old.getD p.toNat 0 = ((x + (insAt a p).length : Nat) : Int)) ∧ OldAt a old k (p + 1) (x + stepN a p)
theorem old_at (a : List Ed) (s : List UInt8) : ∀ (k : Nat) (p : Int) (x : Nat) (o : List Int), 0 ≤ p → (p + k).toNat ≤ o.length → OldAt a (oldOf x (gB a [] k p ++ negL s) o) k p x
  | 0, _, _, _, _, _ => trivial
  | k + 1, p, x, o, hp, hl => by
    rw [OldAt, old_step a k hp]
    refine ⟨fun hg => ?_, ?_⟩
    · rw [hg, List.getD_eq_getElem?_getD, old_skip]
      · simp only [Bool.false_eq_true, if_false]
        rw [List.getElem?_set_self (by omega)]; rfl
      · intro q hq
        rcases List.mem_append.1 hq with h | h
        · rcases gB1_ge a k (p + 1) q h with h | h
          · exact .inl h
          · right; omega
        · obtain ⟨c, _, rfl⟩ := List.mem_map.1 h; left; simp
    · refine old_at a s k (p + 1) _ _ (by omega) ?_
      split
      · omega
      · rw [List.length_set]; omega
def pastM (old own : List Int) (T : List ML) (sel : Bool × Bool → Bool) : List LT := pastGo old own (T.map (·.1)) (T.map fun x => sel x.2)
theorem past_ins (old own : List Int) (T : List ML) (sel : Bool × Bool → Bool) {f : Bool × Bool} (hf : sel f = true) : ∀ (s : List UInt8) (x : Nat), nrmL (pastM old (idxI x s.length ++ own) (insF s f ++ T) sel) = runI x s.length ++ nrmL (pastM old own T sel)
  | [], x => rfl
  | c :: s, x => by
    have ih := past_ins old own T sel hf s (x + 1)
    rw [List.length_cons, idxI_succ, runI_succ]
    show nrmL (pastGo old ((x : Int) :: (idxI (x + 1) s.length ++ own)) ((-1, c) :: (insF s f ++ T).map (·.1)) (sel f :: (insF s f ++ T).map fun x => sel x.2)) = _
    rw [pastGo, if_neg (by simp), if_pos hf]
    show nrm ((x : Int), c) :: nrmL (pastM old (idxI (x + 1) s.length ++ own) (insF s f ++ T) sel) = _
    rw [ih, show nrm ((x : Int), c) = ((x : Int), 0) from if_neg (by simp only; omega)]
    rfl
theorem past_other (old own : List Int) (T : List ML) (sel : Bool × Bool → Bool) {f : Bool × Bool} (hf : sel f = false) : ∀ (s : List UInt8), pastM old own (insF s f ++ T) sel = negL s ++ pastM old own T sel
  | [] => rfl
  | c :: s => by
    have ih := past_other old own T sel hf s
    show pastGo old own ((-1, c) :: (insF s f ++ T).map (·.1)) (sel f :: (insF s f ++ T).map fun x => sel x.2) = _
    rw [pastGo, if_neg (by simp), if_neg (by rw [hf]; decide)]
    show (-1, c) :: pastM old own (insF s f ++ T) sel = _
    rw [ih]; rfl
theorem past_kept (old own : List Int) (T : List ML) (sel : Bool × Bool → Bool) (f : Bool × Bool) {p : Int} (hp : 0 ≤ p) : pastM old own (((p, 0), f) :: T) sel = (old.getD p.toNat 0, 0) :: pastM old own T sel := by
  show pastGo old own ((p, 0) :: T.map (·.1)) (sel f :: T.map fun x => sel x.2) = _
  rw [pastGo, if_pos hp]; rfl
theorem pastM_nil (old own : List Int) (sel : Bool × Bool → Bool) : pastM old own [] sel = [] := rfl
theorem past_first (a b : List Ed) (old : List Int) (s t : List UInt8) : ∀ (k : Nat) (p : Int) (x : Nat), 0 ≤ p → OldAt a old k p x →
    nrmL (pastM old (ownOf x (gB a [] k p ++ negL s)) (gM a b k p ++ (insF s (true, false) ++ insF t (false, true))) (·.1)) = g1 a b k p x ++ (runI (xA a k p x) s.length ++ negL t)
  | 0, p, x, _, _ => by
    show nrmL (pastM old (ownOf x (negL s)) (insF s (true, false) ++ insF t (false, true)) (·.1)) = _
    rw [show negL s = negL s ++ [] by simp, own_neg, past_ins _ _ _ _ rfl]
    rw [show insF t (false, true) = insF t (false, true) ++ [] by simp, past_other _ _ _ _ rfl, pastM_nil, List.append_nil, nrm_neg]
    rfl
  | k + 1, p, x, hp, ho => by
    rw [OldAt] at ho
    have ih := past_first a b old s t k (p + 1) (x + stepN a p) (by omega) ho.2
    rw [own_step a k hp, gM, g1, xA, ← stepN_A, ← Int.natCast_add]
    simp only [List.append_assoc]
    rw [past_ins _ _ _ _ rfl, past_other _ _ _ _ rfl, nrm_app, nrm_neg]
    congr 2
    rw [keepAB]
    by_cases h1 : goneB a p = true
    · simp only [h1, Bool.not_true, Bool.false_and, Bool.false_eq_true, if_false, List.nil_append]; exact ih
    · have h1 : goneB a p = false := by simpa using h1
      by_cases h2 : goneB b p = true
      · simp only [h1, h2, Bool.not_true, Bool.and_false, Bool.false_eq_true, if_false, List.nil_append]; exact ih
      · have h2 : goneB b p = false := by simpa using h2
        simp only [h1, h2, Bool.not_false, Bool.and_true, if_true, List.cons_append, List.nil_append]
        rw [past_kept _ _ _ _ _ hp, ho.1 h1]
        show nrm _ :: nrmL _ = _
        rw [ih, show nrm (((x + (insAt a p).length : Nat) : Int), 0) = (((x + (insAt a p).length : Nat) : Int), 0) from if_neg (by simp only; omega)]
        rfl
theorem past_second (a b : List Ed) (old : List Int) (s t : List UInt8) : ∀ (k : Nat) (p : Int) (x : Nat), 0 ≤ p → OldAt b old k p x →
    nrmL (pastM old (ownOf x (gB b [] k p ++ negL t)) (gM a b k p ++ (insF s (true, false) ++ insF t (false, true))) (·.2)) = g2 a b k p x ++ (negL s ++ runI (xA b k p x) t.length)
  | 0, p, x, _, _ => by
    show nrmL (pastM old (ownOf x (negL t)) (insF s (true, false) ++ insF t (false, true)) (·.2)) = _
    rw [past_other _ _ _ _ rfl, nrm_app, nrm_neg, show negL t = negL t ++ [] by simp, own_neg, show insF t (false, true) = insF t (false, true) ++ [] by simp, past_ins _ _ _ _ rfl, pastM_nil]
    simp [nrmL, g2, xA]
  | k + 1, p, x, hp, ho => by
    rw [OldAt] at ho
    have ih := past_second a b old s t k (p + 1) (x + stepN b p) (by omega) ho.2
    rw [own_step b k hp, gM, g2, xA, ← stepN_A, ← Int.natCast_add]
    simp only [List.append_assoc]
    rw [past_other _ _ _ _ rfl, nrm_app, nrm_neg, past_ins _ _ _ _ rfl]
    congr 2
    rw [keepAB]
    by_cases h1 : goneB a p = true
    · simp only [h1, Bool.not_true, Bool.false_and, Bool.false_eq_true, if_false, List.nil_append]; exact ih
    · have h1 : goneB a p = false := by simpa using h1
      by_cases h2 : goneB b p = true
      · simp only [h1, h2, Bool.not_true, Bool.and_false, Bool.false_eq_true, if_false, List.nil_append]; exact ih
      · have h2 : goneB b p = false := by simpa using h2
        simp only [h1, h2, Bool.not_false, Bool.and_true, if_true, List.cons_append, List.nil_append]
        rw [past_kept _ _ _ _ _ hp, ho.1 h2]
        show nrm _ :: nrmL _ = _
        rw [ih, show nrm (((x + (insAt b p).length : Nat) : Int), 0) = (((x + (insAt b p).length : Nat) : Int), 0) from if_neg (by simp only; omega)]
        rfl
def needM (T : List ML) (sel : Bool × Bool → Bool) : Nat := need (T.map (·.1)) (T.map fun x => sel x.2)
theorem need_ins (T : List ML) (sel : Bool × Bool → Bool) (f : Bool × Bool) : ∀ s : List UInt8, needM (insF s f ++ T) sel = (if sel f then s.length else 0) + needM T sel
  | [] => by simp [insF]
  | c :: s => by
    have ih := need_ins T sel f s
    show need ((-1, c) :: (insF s f ++ T).map (·.1)) (sel f :: (insF s f ++ T).map fun x => sel x.2) = _
    rw [need]
    show _ + needM (insF s f ++ T) sel = _
    rw [ih, List.length_cons]
    cases sel f <;> simp <;> omega
theorem need_kept (T : List ML) (sel : Bool × Bool → Bool) (f : Bool × Bool) {p : Int} (hp : 0 ≤ p) : needM (((p, 0), f) :: T) sel = needM T sel := by
  show need ((p, 0) :: T.map (·.1)) (sel f :: T.map fun x => sel x.2) = _
  rw [need, if_neg (by simp only; omega), Nat.zero_add]; rfl
theorem need_first (a b : List Ed) (s t : List UInt8) : ∀ (k : Nat) (p : Int) (x : Nat), 0 ≤ p → needM (gM a b k p ++ (insF s (true, false) ++ insF t (false, true))) (·.1) = (ownOf x (gB a [] k p ++ negL s)).length
  | 0, p, x, _ => by
    show needM (insF s (true, false) ++ insF t (false, true)) (·.1) = (ownOf x (negL s)).length
    rw [show negL s = negL s ++ [] by simp, own_neg, need_ins, show insF t (false, true) = insF t (false, true) ++ [] by simp, need_ins]
    simp [needM, need, ownOf, idxI_len]
  | k + 1, p, x, hp => by
    have ih := need_first a b s t k (p + 1) (x + stepN a p) (by omega)
    rw [own_step a k hp, gM]
    simp only [List.append_assoc]
    rw [need_ins, need_ins, List.length_append, idxI_len, ← ih]
    simp only [Bool.false_eq_true, if_true, if_false, Nat.zero_add]
    cases keepAB a b p
    · simp only [Bool.false_eq_true, if_false, List.nil_append]
    · simp only [if_true, List.cons_append, List.nil_append]
      rw [need_kept _ _ _ hp]
theorem need_second (a b : List Ed) (s t : List UInt8) : ∀ (k : Nat) (p : Int) (x : Nat), 0 ≤ p → needM (gM a b k p ++ (insF s (true, false) ++ insF t (false, true))) (·.2) = (ownOf x (gB b [] k p ++ negL t)).length
  | 0, p, x, _ => by
    show needM (insF s (true, false) ++ insF t (false, true)) (·.2) = (ownOf x (negL t)).length
    rw [show negL t = negL t ++ [] by simp, own_neg, need_ins, show insF t (false, true) = insF t (false, true) ++ [] by simp, need_ins]
    simp [needM, need, ownOf, idxI_len]
  | k + 1, p, x, hp => by
    have ih := need_second a b s t k (p + 1) (x + stepN b p) (by omega)
    rw [own_step b k hp, gM]
    simp only [List.append_assoc]
    rw [need_ins, need_ins, List.length_append, idxI_len, ← ih]
    simp only [Bool.false_eq_true, if_true, if_false, Nat.zero_add]
    cases keepAB a b p
    · simp only [Bool.false_eq_true, if_false, List.nil_append]
    · simp only [if_true, List.cons_append, List.nil_append]
      rw [need_kept _ _ _ hp]
end Go.S1N
end
section
namespace Go.S1N
open Go Go.Am Go.Proofs Go.S1
set_option maxRecDepth 100000
theorem hasAt_none {l : List Ed} {p : Int} (h : hasAt l p = false) : insAt l p = [] := by
  refine insAt_none fun e he => ?_
  unfold hasAt at h
  rw [List.any_eq_false] at h
  simpa using h e he
theorem rflow_one (r : Rn) : rflow [r] = rfl1 r := by simp [rflow]
theorem rfl1_runI (p z : Int) : rfl1 ⟨p, z, []⟩ = runI p z.toNat := by simp only [rfl1, ne_eq, not_true_eq_false, if_false, runI]
section
variable (a b : List Ed) (p : Int)
theorem mtA_both (x : Int) : rflow (mtA a p x).both = negL (insAt a p) ∧ rflow (mtA a p x).first = runI x (insAt a p).length ∧ rflow (mtA a p x).second = negL (insAt a p) ∧ (mtA a p x).long = (insAt a p).length := by
  unfold mtA
  by_cases h : hasAt a p = true
  · rw [if_pos h]; simp only [rflow_one, rfl1_fresh, rfl1_run, and_self]
  · rw [if_neg h, hasAt_none (by simpa using h)]; simp [Mt.nil, rflow, negL, runI_zero]
theorem mtB_both (y : Int) : rflow (mtB b p y).both = negL (insAt b p) ∧ rflow (mtB b p y).first = negL (insAt b p) ∧ rflow (mtB b p y).second = runI y (insAt b p).length ∧ (mtB b p y).long = (insAt b p).length := by
  unfold mtB
  by_cases h : hasAt b p = true
  · rw [if_pos h]; simp only [rflow_one, rfl1_fresh, rfl1_run, and_self]
  · rw [if_neg h, hasAt_none (by simpa using h)]; simp [Mt.nil, rflow, negL, runI_zero]
theorem mtK_both (k : Bool) (x y z : Int) : rflow (mtK k p x y z).both = (if k then runI p z.toNat else []) ∧ rflow (mtK k p x y z).first = (if k then runI x z.toNat else []) ∧ rflow (mtK k p x y z).second = (if k then runI y z.toNat else []) ∧ (mtK k p x y z).long = if k then z else 0 := by
  unfold mtK
  cases k <;> simp [Mt.nil, rflow, rfl1_runI]
end
def Neigh (a b : List Ed) (n : Int) : List Int → Prop
  | [] => False
  | [p] => p = n
  | p :: q :: r => p < q ∧ Calm a b (p + 1) (q - p - 1).toNat (goneB a p) (goneB b p) ∧ Neigh a b n (q :: r)
theorem neigh_le {a b : List Ed} {n : Int} : ∀ {P : List Int} {p : Int}, Neigh a b n (p :: P) → p ≤ n
  | [], p, h => by rw [Neigh] at h; omega
  | q :: r, p, h => by
    have := neigh_le h.2.2
    have := h.1
    omega
section
variable {a b : List Ed} {p q : Int}
theorem seg_B (h : p < q) (hc : Calm a b (p + 1) (q - p - 1).toNat (goneB a p) (goneB b p)) : gB a b (q - p).toNat p = negL (insAt a p) ++ (negL (insAt b p) ++ if (!goneB a p && !goneB b p) then runI p (q - p).toNat else []) := by
  rw [show (q - p).toNat = (q - p - 1).toNat + 1 by omega, gB, gB_calm hc, keepAB]
  cases goneB a p <;> cases goneB b p <;> simp [runI_succ]
theorem seg_1 (h : p < q) (hc : Calm a b (p + 1) (q - p - 1).toNat (goneB a p) (goneB b p)) (x : Int) : g1 a b (q - p).toNat p x = runI x (insAt a p).length ++ (negL (insAt b p) ++ if (!goneB a p && !goneB b p) then runI (x + (insAt a p).length) (q - p).toNat else []) := by
  rw [show (q - p).toNat = (q - p - 1).toNat + 1 by omega, g1, g1_calm hc, keepAB, stepA]
  cases goneB a p <;> cases goneB b p <;> simp [runI_succ, Int.add_assoc]
theorem seg_2 (h : p < q) (hc : Calm a b (p + 1) (q - p - 1).toNat (goneB a p) (goneB b p)) (y : Int) : g2 a b (q - p).toNat p y = negL (insAt a p) ++ (runI y (insAt b p).length ++ if (!goneB a p && !goneB b p) then runI (y + (insAt b p).length) (q - p).toNat else []) := by
  rw [show (q - p).toNat = (q - p - 1).toNat + 1 by omega, g2, g2_calm hc, keepAB, stepA]
  cases goneB a p <;> cases goneB b p <;> simp [runI_succ, Int.add_assoc]
theorem seg_x (h : p < q) (hc : Calm a b (p + 1) (q - p - 1).toNat (goneB a p) (goneB b p)) (x : Int) : xA a (q - p).toNat p x = x + (insAt a p).length + (if goneB a p then 0 else q - p) ∧ xA b (q - p).toNat p x = x + (insAt b p).length + (if goneB b p then 0 else q - p) := by
  have h1 := fun x => (xA_calm (x := x) hc).1
  have h2 := fun x => (xA_calm (x := 0) hc).2 x
  rw [show (q - p).toNat = (q - p - 1).toNat + 1 by omega, xA, xA, h1, h2, stepA, stepA]
  constructor
  · cases goneB a p <;> simp; omega
  · cases goneB b p <;> simp; omega
end
theorem rapp (m k : Mt) : rflow (m.app k).both = rflow m.both ++ rflow k.both ∧ rflow (m.app k).first = rflow m.first ++ rflow k.first ∧ rflow (m.app k).second = rflow m.second ++ rflow k.second ∧ (m.app k).long = m.long + k.long := ⟨rflow_app _ _, rflow_app _ _, rflow_app _ _, rfl⟩
theorem meet_flow (a b : List Ed) (n : Int) : ∀ (P : List Int) (p x y : Int), Neigh a b n (p :: P) →
    rflow (meetGo a b (p :: P) x y).both = gB a b (n - p).toNat p ++ (negL (insAt a n) ++ negL (insAt b n)) ∧
    rflow (meetGo a b (p :: P) x y).first = g1 a b (n - p).toNat p x ++ (runI (xA a (n - p).toNat p x) (insAt a n).length ++ negL (insAt b n)) ∧
    rflow (meetGo a b (p :: P) x y).second = g2 a b (n - p).toNat p y ++ (negL (insAt a n) ++ runI (xA b (n - p).toNat p y) (insAt b n).length) ∧
    (meetGo a b (p :: P) x y).long = ((gB a b (n - p).toNat p ++ (negL (insAt a n) ++ negL (insAt b n))).length : Nat)
  | [], p, x, y, h => by
    rw [Neigh] at h
    subst h
    obtain ⟨a1, a2, a3, a4⟩ := mtA_both a p x
    obtain ⟨b1, b2, b3, b4⟩ := mtB_both b p y
    obtain ⟨r1, r2, r3, r4⟩ := rapp (mtA a p x) (mtB b p y)
    rw [meetGo, r1, r2, r3, r4, a1, a2, a3, a4, b1, b2, b3, b4]
    simp [gB, g1, g2, xA, negL]
  | q :: r, p, x, y, h => by
    obtain ⟨h1, h2, h3⟩ := h
    have hqn := neigh_le h3
    have e1 : (n - p).toNat = (q - p).toNat + (n - q).toNat := by omega
    have e2 : p + ((q - p).toNat : Int) = q := by omega
    obtain ⟨i1, i2, i3, i4⟩ := meet_flow a b n r q (x + (insAt a p).length + if goneB a p then 0 else q - p) (y + (insAt b p).length + if goneB b p then 0 else q - p) h3
    obtain ⟨a1, a2, a3, a4⟩ := mtA_both a p x
    obtain ⟨b1, b2, b3, b4⟩ := mtB_both b p y
    obtain ⟨k1, k2, k3, k4⟩ := mtK_both p (!goneB a p && !goneB b p) (x + (insAt a p).length) (y + (insAt b p).length) (q - p)
    rw [meetGo, (rapp _ _).1, (rapp _ _).2.1, (rapp _ _).2.2.1, (rapp _ _).2.2.2, (rapp (mtA _ _ _) _).1, (rapp (mtA _ _ _) _).2.1, (rapp (mtA _ _ _) _).2.2.1, (rapp (mtA _ _ _) _).2.2.2, (rapp (mtK _ _ _ _ _) _).1, (rapp (mtK _ _ _ _ _) _).2.1, (rapp (mtK _ _ _ _ _) _).2.2.1, (rapp (mtK _ _ _ _ _) _).2.2.2]
    rw [a1, a2, a3, a4, b1, b2, b3, b4, k1, k2, k3, k4, i1, i2, i3, i4, e1, gB_add, g1_add, g2_add, xA_add, xA_add, e2, seg_B h1 h2, seg_1 h1 h2, seg_2 h1 h2, (seg_x h1 h2 x).1, (seg_x h1 h2 y).2]
    refine ⟨by simp only [List.append_assoc], by simp only [List.append_assoc], by simp only [List.append_assoc], ?_⟩
    simp only [List.length_append, show ∀ s, (negL s).length = s.length from fun s => by simp [negL]]
    cases (!goneB a p && !goneB b p)
    · simp only [Bool.false_eq_true, if_false, List.length_nil]; omega
    · simp only [if_true, runI_len]; omega
theorem calm_of {a b : List Ed} {p q : Int} (h : ∀ z ∈ ends (a ++ b), z ≤ p ∨ q ≤ z) : Calm a b (p + 1) (q - p - 1).toNat (goneB a p) (goneB b p) := by
  have key : ∀ (l : List Ed), (∀ e ∈ l, e ∈ a ++ b) → ∀ r, p + 1 ≤ r → r < q → insAt l r = [] ∧ goneB l r = goneB l p := by
    intro l hl r r1 r2
    have he : ∀ e ∈ l, (e.at_ ≤ p ∨ q ≤ e.at_) ∧ (e.at_ + e.cut ≤ p ∨ q ≤ e.at_ + e.cut) := fun e h1 =>
      ⟨h _ (ends_mem.2 ⟨e, hl e h1, .inl rfl⟩), h _ (ends_mem.2 ⟨e, hl e h1, .inr rfl⟩)⟩
    refine ⟨insAt_none fun e h1 => by have := (he e h1).1; omega, ?_⟩
    unfold goneB
    rw [Bool.eq_iff_iff, List.any_eq_true, List.any_eq_true]
    constructor
    · rintro ⟨e, h1, h2⟩
      refine ⟨e, h1, ?_⟩
      have := he e h1
      simp only [decide_eq_true_eq] at h2 ⊢
      unfold Ed.covers at h2 ⊢
      omega
    · rintro ⟨e, h1, h2⟩
      refine ⟨e, h1, ?_⟩
      have := he e h1
      simp only [decide_eq_true_eq] at h2 ⊢
      unfold Ed.covers at h2 ⊢
      omega
  refine ⟨fun r r1 r2 => ?_⟩
  obtain ⟨a1, a2⟩ := key a (fun e h => List.mem_append_left _ h) r r1 (by omega)
  obtain ⟨b1, b2⟩ := key b (fun e h => List.mem_append_right _ h) r r1 (by omega)
  exact ⟨a1, b1, a2, b2⟩
theorem neigh_of {a b : List Ed} {n : Int} : ∀ (L : List Int) (p : Int), (p :: L).Pairwise (fun x y => x < y) → (∀ x ∈ p :: L, x ≤ n) → n ∈ p :: L → (∀ z ∈ ends (a ++ b), z ∈ p :: L ∨ z < p) → Neigh a b n (p :: L)
  | [], p, _, _, hn, _ => by rw [Neigh]; exact (List.mem_singleton.1 hn).symm
  | q :: r, p, hp, hle, hn, he => by
    obtain ⟨h1, h2⟩ := List.pairwise_cons.1 hp
    have hpq := h1 q (List.mem_cons_self ..)
    have hqn := hle q (by simp)
    refine ⟨hpq, calm_of fun z hz => ?_, neigh_of r q h2 (fun x hx => hle x (List.mem_cons_of_mem _ hx)) ?_ fun z hz => ?_⟩
    · rcases he z hz with h | h
      · rcases List.mem_cons.1 h with rfl | h
        · exact .inl (Int.le_refl _)
        · right
          rcases List.mem_cons.1 h with rfl | h
          · exact Int.le_refl _
          · exact Int.le_of_lt ((List.pairwise_cons.1 h2).1 z h)
      · left; omega
    · rcases List.mem_cons.1 hn with h | h
      · omega
      · exact h
    · rcases he z hz with h | h
      · rcases List.mem_cons.1 h with rfl | h
        · exact .inr hpq
        · exact .inl h
      · right; omega
theorem ends_in {n : Int} {l : List Ed} (h : RS n l) : ∀ z ∈ ends l, 0 ≤ z ∧ z ≤ n := by
  intro z hz
  obtain ⟨e, he, h2⟩ := ends_mem.1 hz
  have := h.each e he
  omega
theorem ends_app (a b : List Ed) : ends (a ++ b) = ends a ++ ends b := by simp [ends]
theorem places_in {n : Int} {a b : List Ed} (hn : 0 ≤ n) (ha : RS n a) (hb : RS n b) : ∀ x ∈ placesL n a b, 0 ≤ x ∧ x ≤ n := by
  intro x hx
  rcases (places_mem n a b x).1 hx with rfl | rfl | h
  · omega
  · omega
  · rw [ends_app] at h
    rcases List.mem_append.1 h with h | h
    · exact ends_in ha x h
    · exact ends_in hb x h
theorem places_head {n : Int} {a b : List Ed} (hn : 0 ≤ n) (ha : RS n a) (hb : RS n b) : ∃ L, placesL n a b = 0 :: L ∧ Neigh a b n (0 :: L) := by
  have h0 : (0 : Int) ∈ placesL n a b := (places_mem n a b 0).2 (.inl rfl)
  have hnn : n ∈ placesL n a b := (places_mem n a b n).2 (.inr (.inl rfl))
  have hin := places_in hn ha hb
  have hlt := places_lt n a b
  have hends : ∀ z ∈ ends (a ++ b), z ∈ placesL n a b := fun z hz => (places_mem n a b z).2 (.inr (.inr hz))
  generalize placesL n a b = Q at *
  cases Q with
  | nil => simp at h0
  | cons p L =>
    have hp : p = 0 := by
      rcases List.mem_cons.1 h0 with h | h
      · exact h.symm
      · have := (List.pairwise_cons.1 hlt).1 0 h
        have := hin p (List.mem_cons_self ..)
        omega
    subst hp
    exact ⟨L, rfl, neigh_of L 0 hlt (fun x hx => (hin x hx).2) hnn fun z hz => .inl (hends z hz)⟩
end Go.S1N
end
section
namespace Go.S1N
open Go Go.Am Go.Proofs Go.S1
set_option maxRecDepth 100000
theorem clash_drop {n : Int} (x : Ed) : ∀ {b : List Ed}, RS n b → ∃ u, b = u ++ b.dropWhile (fun y => decide (y.at_ + y.cut < x.at_)) ∧ ∀ y ∈ u, y.at_ + y.cut < x.at_
  | [], _ => ⟨[], rfl, by simp⟩
  | y :: b, h => by
    by_cases hy : y.at_ + y.cut < x.at_
    · obtain ⟨u, h1, h2⟩ := clash_drop x h.tail
      refine ⟨y :: u, ?_, ?_⟩
      · rw [List.dropWhile_cons, if_pos (by simpa using hy), List.cons_append, ← h1]
      · intro z hz
        rcases List.mem_cons.1 hz with rfl | hz
        · exact hy
        · exact h2 z hz
    · exact ⟨[], by rw [List.dropWhile_cons, if_neg (by simpa using hy)]; rfl, by simp⟩
theorem drop_head (x : Ed) : ∀ (b : List Ed) (y : Ed) (r : List Ed), b.dropWhile (fun y => decide (y.at_ + y.cut < x.at_)) = y :: r → ¬ y.at_ + y.cut < x.at_
  | [], _, _, h => by simp at h
  | z :: b, y, r, h => by
    by_cases hz : z.at_ + z.cut < x.at_
    · rw [List.dropWhile_cons, if_pos (by simpa using hz)] at h
      exact drop_head x b y r h
    · rw [List.dropWhile_cons, if_neg (by simpa using hz)] at h
      cases h; exact hz
theorem RS.app {n : Int} {u v : List Ed} (h : RS n (u ++ v)) : RS n v := ⟨fun e he => h.each e (List.mem_append_right _ he), (List.pairwise_append.1 h.pair).2.1⟩
theorem clashR_nil (a : List Ed) : clashR a [] = false := by
  unfold clashR; rw [List.any_eq_false]; intro x _; simp
theorem clashR_skip {n : Int} {a u v : List Ed} (ha : RS n a) (h : ∀ x ∈ a, ∀ y ∈ u, y.at_ + y.cut < x.at_) : clashR a (u ++ v) = clashR a v := by
  unfold clashR
  rw [Bool.eq_iff_iff, List.any_eq_true, List.any_eq_true]
  constructor
  · rintro ⟨x, hx, h2⟩
    refine ⟨x, hx, ?_⟩
    rw [List.any_append, Bool.or_eq_true] at h2
    rcases h2 with h2 | h2
    · obtain ⟨y, hy, h3⟩ := List.any_eq_true.1 h2
      have := h x hx y hy
      simp only [decide_eq_true_eq] at h3
      unfold touch at h3; omega
    · exact h2
  · rintro ⟨x, hx, h2⟩
    exact ⟨x, hx, by rw [List.any_append, h2, Bool.or_true]⟩
theorem clash_law {n : Int} : ∀ (a b : List Ed), RS n a → RS n b → clashGo a b = clashR a b
  | [], b, _, _ => rfl
  | x :: a, b, ha, hb => by
    obtain ⟨hxa, _⟩ := List.pairwise_cons.1 ha.pair
    have hx := ha.each x (List.mem_cons_self ..)
    obtain ⟨u, h1, h2⟩ := clash_drop x hb
    have hd := drop_head x b
    rw [clashGo]
    generalize b.dropWhile (fun y => decide (y.at_ + y.cut < x.at_)) = v at h1 hd
    subst h1
    have hv := RS.app hb
    have hskip : clashR (x :: a) (u ++ v) = clashR (x :: a) v := clashR_skip ha fun z hz y hy => by
      have := h2 y hy
      rcases List.mem_cons.1 hz with rfl | hz
      · exact this
      · have := hxa z hz; omega
    rw [hskip]
    cases v with
    | nil => simp only; rw [clash_law a [] ha.tail ⟨by simp, .nil⟩, clashR_nil, clashR_nil]
    | cons y r =>
      simp only
      by_cases hc : y.at_ ≤ x.at_ + x.cut
      · rw [if_pos hc]
        have h3 := hd y r rfl
        have ht : touch x y := ⟨by omega, hc⟩
        rw [clashR, List.any_cons, List.any_cons, decide_eq_true ht]; rfl
      · rw [if_neg hc, clash_law a (y :: r) ha.tail hv]
        have : (y :: r).any (fun z => decide (touch x z)) = false := by
          rw [List.any_eq_false]
          intro z hz
          simp only [decide_eq_true_eq]
          have hzz : y.at_ ≤ z.at_ := by
            rcases List.mem_cons.1 hz with rfl | hz
            · omega
            · have := (List.pairwise_cons.1 hv.pair).1 z hz
              have := hv.each y (List.mem_cons_self ..)
              omega
          unfold touch; omega
        rw [clashR, clashR, List.any_cons, this, Bool.false_or]
end Go.S1N
end
section
namespace Go.S1N
open Go Go.Am Go.Proofs Go.S1
set_option maxRecDepth 100000
def rB (M K n : Nat) (r : Rn) : Prop := 0 ≤ r.at_ ∧ r.at_ ≤ M ∧ 0 ≤ r.long ∧ r.long ≤ ((K + n : Nat) : Int) ∧ r.text.length ≤ K
theorem mt_bnd {a b : List Ed} {M K n : Nat} (hnM : n ≤ M) (ka : ∀ p, (insAt a p).length ≤ K) (kb : ∀ p, (insAt b p).length ≤ K) : ∀ (P : List Int) (x y : Int), P.Pairwise (fun u v => u < v) → (∀ p ∈ P, 0 ≤ p ∧ p ≤ n) → 0 ≤ x → 0 ≤ y →
    x + ((P.length * (K + n) : Nat) : Int) ≤ M → y + ((P.length * (K + n) : Nat) : Int) ≤ M →
    ((∀ r ∈ (meetGo a b P x y).both, rB M K n r) ∧ (∀ r ∈ (meetGo a b P x y).first, rB M K n r) ∧ ∀ r ∈ (meetGo a b P x y).second, rB M K n r) ∧
    (meetGo a b P x y).both.length ≤ 3 * P.length ∧ (meetGo a b P x y).first.length ≤ 3 * P.length ∧ (meetGo a b P x y).second.length ≤ 3 * P.length
  | [], x, y, _, _, _, _, _, _ => by simp [meetGo, Mt.nil]
  | p :: P, x, y, hp, hin, hx, hy, hxM, hyM => by
    obtain ⟨h1, h2⟩ := List.pairwise_cons.1 hp
    have hp0 := hin p (List.mem_cons_self ..)
    have hka := ka p
    have hkb := kb p
    rw [List.length_cons, Nat.succ_mul] at hxM hyM
    have bA : (∀ r ∈ (mtA a p x).both, rB M K n r) ∧ (∀ r ∈ (mtA a p x).first, rB M K n r) ∧ ∀ r ∈ (mtA a p x).second, rB M K n r := by
      unfold mtA
      split
      · refine ⟨?_, ?_, ?_⟩ <;> (intro r hr; rw [List.mem_singleton.1 hr]; unfold rB; simp only [List.length_nil]; omega)
      · simp [Mt.nil]
    have bB : (∀ r ∈ (mtB b p y).both, rB M K n r) ∧ (∀ r ∈ (mtB b p y).first, rB M K n r) ∧ ∀ r ∈ (mtB b p y).second, rB M K n r := by
      unfold mtB
      split
      · refine ⟨?_, ?_, ?_⟩ <;> (intro r hr; rw [List.mem_singleton.1 hr]; unfold rB; simp only [List.length_nil]; omega)
      · simp [Mt.nil]
    have lA := mtA_len .nil a p x
    have lB := mtB_len .nil b p y
    simp only [Mt.nil_app] at lA lB
    simp only [Mt.nil, List.length_nil] at lA lB
    cases P with
    | nil =>
      rw [meetGo]
      refine ⟨⟨?_, ?_, ?_⟩, ?_⟩
      · intro r hr; rcases List.mem_append.1 hr with h | h; exact bA.1 r h; exact bB.1 r h
      · intro r hr; rcases List.mem_append.1 hr with h | h; exact bA.2.1 r h; exact bB.2.1 r h
      · intro r hr; rcases List.mem_append.1 hr with h | h; exact bA.2.2 r h; exact bB.2.2 r h
      · simp only [Mt.app, List.length_append, List.length_cons, List.length_nil]; omega
    | cons q P =>
      have hpq := h1 q (List.mem_cons_self ..)
      have hq := hin q (by simp)
      have hxx : ∀ (g : Bool) (z : Int) (u : List UInt8), 0 ≤ z → u.length ≤ K → z + ((((q :: P).length * (K + n) + (K + n) : Nat)) : Int) ≤ M → 0 ≤ z + (u.length : Int) + (if g then 0 else q - p) ∧ z + (u.length : Int) + (if g then 0 else q - p) + (((q :: P).length * (K + n) : Nat) : Int) ≤ M := by
        intro g z u h1 h2 h3
        cases g <;> simp only [Bool.false_eq_true, if_false, if_true] <;> omega
      have ex := hxx (goneB a p) x (insAt a p) hx hka hxM
      have ey := hxx (goneB b p) y (insAt b p) hy hkb hyM
      obtain ⟨⟨i1, i2, i3⟩, i4, i5, i6⟩ := mt_bnd hnM ka kb (q :: P) _ _ h2 (fun z hz => hin z (List.mem_cons_of_mem _ hz)) ex.1 ey.1 ex.2 ey.2
      have bK : ∀ k : Bool, ((∀ r ∈ (mtK k p (x + (insAt a p).length) (y + (insAt b p).length) (q - p)).both, rB M K n r) ∧ (∀ r ∈ (mtK k p (x + (insAt a p).length) (y + (insAt b p).length) (q - p)).first, rB M K n r) ∧ ∀ r ∈ (mtK k p (x + (insAt a p).length) (y + (insAt b p).length) (q - p)).second, rB M K n r) ∧
          (mtK k p (x + (insAt a p).length) (y + (insAt b p).length) (q - p)).both.length ≤ 1 ∧ (mtK k p (x + (insAt a p).length) (y + (insAt b p).length) (q - p)).first.length ≤ 1 ∧ (mtK k p (x + (insAt a p).length) (y + (insAt b p).length) (q - p)).second.length ≤ 1 := by
        intro k
        unfold mtK
        cases k
        · simp [Mt.nil]
        · refine ⟨⟨?_, ?_, ?_⟩, by simp⟩ <;> (intro r hr; simp only [if_true] at hr; rw [List.mem_singleton.1 hr]; unfold rB; simp only [List.length_nil]; omega)
      rw [meetGo]
      obtain ⟨⟨k1, k2, k3⟩, k4, k5, k6⟩ := bK (!goneB a p && !goneB b p)
      refine ⟨⟨?_, ?_, ?_⟩, ?_⟩
      · intro r hr
        rcases List.mem_append.1 hr with h | h
        · rcases List.mem_append.1 h with h | h; exact bA.1 r h; exact bB.1 r h
        · rcases List.mem_append.1 h with h | h; exact k1 r h; exact i1 r h
      · intro r hr
        rcases List.mem_append.1 hr with h | h
        · rcases List.mem_append.1 h with h | h; exact bA.2.1 r h; exact bB.2.1 r h
        · rcases List.mem_append.1 h with h | h; exact k2 r h; exact i2 r h
      · intro r hr
        rcases List.mem_append.1 hr with h | h
        · rcases List.mem_append.1 h with h | h; exact bA.2.2 r h; exact bB.2.2 r h
        · rcases List.mem_append.1 h with h | h; exact k3 r h; exact i3 r h
      · simp only [Mt.app, List.length_append, List.length_cons] at i4 i5 i6 ⊢; omega
theorem insAt_tot (l : List Ed) (p : Int) : (insAt l p).length ≤ totN l := by
  induction l with
  | nil => simp [insAt]
  | cons e l ih =>
    rw [insAt_cons, totN, List.flatMap_cons, List.length_append]
    unfold totN at ih
    split <;> omega
theorem bothErr_zero {n : Int} {a b : List Ed} (h : bothErr n a b = 0) : faultOf n a = 0 ∧ faultOf n b = 0 := by
  unfold bothErr at h
  split at h
  · rename_i h1; exact absurd h h1
  · rename_i h1; exact ⟨by simpa using h1, h⟩
theorem gB_mem {a b : List Ed} : ∀ (k : Nat) (p : Int), ∀ q ∈ gB a b k p, q.1 = -1 ∨ (p ≤ q.1 ∧ q.1 < p + k)
  | 0, _ => by simp [gB]
  | k + 1, p => by
    intro q hq
    rw [gB] at hq
    have hneg : ∀ s, q ∈ negL s → q.1 = -1 := by
      intro s h
      obtain ⟨c, _, rfl⟩ := List.mem_map.1 h
      rfl
    rcases List.mem_append.1 hq with h | h
    · exact .inl (hneg _ h)
    rcases List.mem_append.1 h with h | h
    · exact .inl (hneg _ h)
    rcases List.mem_append.1 h with h | h
    · split at h
      · rw [List.mem_singleton.1 h]; right; simp only; omega
      · simp at h
    · rcases gB_mem k (p + 1) q h with h | h
      · exact .inl h
      · right; omega
theorem neg_mem {s : List UInt8} {q : LT} (h : q ∈ negL s) : q.1 = -1 := by
  obtain ⟨c, _, rfl⟩ := List.mem_map.1 h
  rfl
structure Pre (n : Nat) (a b : List Ed) : Prop where
  hn : n ≤ 1000
  ta : totN a ≤ 1000
  tb : totN b ≤ 1000
section
variable {n : Nat} {a b : List Ed}
theorem Pre.ra (h : bothErr n a b = 0) : RS n a ∧ RS n b := by
  obtain ⟨h1, h2⟩ := bothErr_zero h
  obtain ⟨_, _, _, s1⟩ := faultOf_zero h1
  obtain ⟨_, _, _, s2⟩ := faultOf_zero h2
  exact ⟨(scan_rs s1).1, (scan_rs s2).1⟩
theorem Pre.flowA (h : bothErr n a b = 0) : flowFrom n 0 a = gB a [] n 0 ++ negL (insAt a n) := by
  have hr := (Pre.ra h).1
  have := flow_pos n a 0 hr (fun e he => by have := hr.each e he; omega) (by omega)
  simpa using this
theorem Pre.flowB (h : bothErr n a b = 0) : flowFrom n 0 b = gB b [] n 0 ++ negL (insAt b n) := by
  have hr := (Pre.ra h).2
  have := flow_pos n b 0 hr (fun e he => by have := hr.each e he; omega) (by omega)
  simpa using this
theorem Pre.pok (hp : Pre n a b) (h : bothErr n a b = 0) : POk n a b := by
  obtain ⟨h1, h2⟩ := bothErr_zero h
  obtain ⟨_, _, la, s1⟩ := faultOf_zero h1
  obtain ⟨_, _, lb, s2⟩ := faultOf_zero h2
  obtain ⟨ra, rb⟩ := Pre.ra h
  have hn := hp.hn
  refine ⟨hp.hn, by omega, by omega, hp.ta, hp.tb, fun e he => by have := ra.each e he; omega, fun e he => by have := rb.each e he; omega, s1, s2, ?_, ?_, ?_, ?_, ?_⟩
  · intro q hq
    rw [Pre.flowA h] at hq
    rcases List.mem_append.1 hq with h | h
    · have := gB_mem n 0 q h; omega
    · have := neg_mem h; omega
  · intro q hq
    rw [Pre.flowB h] at hq
    rcases List.mem_append.1 hq with h | h
    · have := gB_mem n 0 q h; omega
    · have := neg_mem h; omega
  · intro x hx
    have hx2 : x.1 ∈ mixF n a b := List.mem_map.2 ⟨x, hx, rfl⟩
    rw [mixF_all ra rb] at hx2
    rcases List.mem_append.1 hx2 with h | h
    · have := gB_mem n 0 _ h; omega
    · rcases List.mem_append.1 h with h | h <;> (have := neg_mem h; omega)
  · rw [mixL_all ra rb, Pre.flowA h]
    exact Nat.le_of_eq (need_first a b (insAt a n) (insAt b n) n 0 0 (by omega))
  · rw [mixL_all ra rb, Pre.flowB h]
    exact Nat.le_of_eq (need_second a b (insAt a n) (insAt b n) n 0 0 (by omega))
theorem Pre.newA (hp : Pre n a b) : ∀ e ∈ a, e.new.length ≤ 100000 := fun e he => Nat.le_trans (totN_mem he) (by have := hp.ta; omega)
theorem Pre.newB (hp : Pre n a b) : ∀ e ∈ b, e.new.length ≤ 100000 := fun e he => Nat.le_trans (totN_mem he) (by have := hp.tb; omega)
theorem Pre.mok (hp : Pre n a b) (h : bothErr n a b = 0) : MOk n a b := by
  obtain ⟨h1, h2⟩ := bothErr_zero h
  obtain ⟨_, _, la, s1⟩ := faultOf_zero h1
  obtain ⟨_, _, lb, s2⟩ := faultOf_zero h2
  obtain ⟨ra, rb⟩ := Pre.ra h
  have hn := hp.hn
  have fa := flow_short h1 hp.newA
  have fb := flow_short h2 hp.newB
  have hin := places_in (by omega) ra rb
  have hlt := places_lt n a b
  have hpl : (placesL n a b).length ≤ 10000 := by
    have hc := compact_len ((0 :: (n : Int) :: ends (a ++ b)).mergeSort fun x y => decide (x ≤ y))
    rw [List.length_mergeSort, List.length_cons, List.length_cons, ends_len, List.length_append] at hc
    unfold placesL
    omega
  have ka : ∀ p, (insAt a p).length ≤ 1000 := fun p => Nat.le_trans (insAt_tot a p) hp.ta
  have kb : ∀ p, (insAt b p).length ≤ 1000 := fun p => Nat.le_trans (insAt_tot b p) hp.tb
  have hmul : (placesL n a b).length * (1000 + n) ≤ 10000 * 2000 := Nat.mul_le_mul hpl (by omega)
  have hrn : ∀ r, rB 900000000 1000 n r → 0 ≤ r.at_ ∧ r.at_ ≤ 1000000000 ∧ r.at_ + r.long ≤ 1000000000 ∧ 0 ≤ r.long ∧ r.text.length ≤ 1000000 := by
    intro r hr; unfold rB at hr; omega
  obtain ⟨⟨b1, b2, b3⟩, l1, l2, l3⟩ := mt_bnd (M := 900000000) (by omega) ka kb (placesL n a b) 0 0 hlt hin (by omega) (by omega) (by omega) (by omega)
  refine ⟨by omega, by omega, by omega, ra, rb, fun p => by have := ka p; omega, fun p => by have := kb p; omega, fun p hp => by have := hin p hp; omega, hpl, ?_, by omega, by omega, ⟨fun r hr => hrn r (b1 r hr), by omega⟩, ⟨fun r hr => hrn r (b2 r hr), by omega⟩, ⟨fun r hr => hrn r (b3 r hr), by omega⟩⟩
  intro i p q hp1 hq1
  obtain ⟨i1, e1⟩ := List.getElem?_eq_some_iff.1 hp1
  obtain ⟨i2, e2⟩ := List.getElem?_eq_some_iff.1 hq1
  have := List.pairwise_iff_getElem.1 hlt i (i + 1) i1 i2 (by omega)
  omega
theorem meet_eq (hp : Pre n a b) (h : bothErr n a b = 0) :
    rGo n 0 [] (meetGo a b (placesL n a b) 0 0).both = edGo n 0 [] (mixF n a b) ∧ rGo (longOf n a) 0 [] (meetGo a b (placesL n a b) 0 0).first = pastA n a b ∧
    rGo (longOf n b) 0 [] (meetGo a b (placesL n a b) 0 0).second = pastB n a b ∧ (meetGo a b (placesL n a b) 0 0).long = ((mixF n a b).length : Nat) := by
  obtain ⟨h1, h2⟩ := bothErr_zero h
  obtain ⟨ra, rb⟩ := Pre.ra h
  have m := hp.mok h
  have fa := flow_short h1 hp.newA
  have fb := flow_short h2 hp.newB
  obtain ⟨L, eL, hN⟩ := places_head (by omega) ra rb
  have g1' := m.b1.1
  have g2' := m.b2.1
  have g3' := m.b3.1
  rw [rGo_flow _ _ _ _ fun r hr => (g1' r hr).1, rGo_flow _ _ _ _ fun r hr => (g2' r hr).1, rGo_flow _ _ _ _ fun r hr => (g3' r hr).1, eL]
  obtain ⟨f1, f2, f3, f4⟩ := meet_flow a b n L 0 0 0 hN
  rw [f1, f2, f3, f4, mixF_all ra rb]
  rw [show ((n : Int) - 0).toNat = n by omega]
  refine ⟨rfl, ?_, ?_, rfl⟩
  · rw [pastA]
    refine Eq.trans ?_ (edGo_nrm _ _ _ _)
    rw [fa.2, pastF, Pre.flowA h, mixF, mixL_all ra rb]
    have := past_first a b (oldOf 0 (gB a [] n 0 ++ negL (insAt a n)) (List.replicate n (-1))) (insAt a n) (insAt b n) n 0 0 (by omega) (old_at a (insAt a n) n 0 0 _ (by omega) (by simp))
    exact congrArg _ this.symm
  · rw [pastB]
    refine Eq.trans ?_ (edGo_nrm _ _ _ _)
    rw [fb.2, pastF, Pre.flowB h, mixF, mixL_all ra rb]
    have := past_second a b (oldOf 0 (gB b [] n 0 ++ negL (insAt b n)) (List.replicate n (-1))) (insAt a n) (insAt b n) n 0 0 (by omega) (old_at b (insAt b n) n 0 0 _ (by omega) (by simp))
    exact congrArg _ this.symm
theorem past_eq (hp : Pre n a b) : pastE n a b = pastR n a b := by
  unfold pastE pastR
  by_cases h : bothErr n a b = 0
  · obtain ⟨_, e2, e3, e4⟩ := meet_eq hp h
    simp only [h, ne_eq, not_true_eq_false, if_false, e2, e3, e4]
    by_cases c : 20000 < (mixF n a b).length ∨ 2000 < (pastA n a b).length ∨ 2000 < (pastB n a b).length
    · rw [if_pos c, if_pos (by omega)]
    · rw [if_neg c, if_neg (by omega)]
  · rw [if_pos h, if_pos h]
theorem both_eq (hp : Pre n a b) : bothE n a b = bothR n a b := by
  unfold bothE bothR
  by_cases h : bothErr n a b = 0
  · obtain ⟨e1, _, _, e4⟩ := meet_eq hp h
    simp only [h, ne_eq, not_true_eq_false, if_false, e1, e4]
    by_cases c : 20000 < (mixF n a b).length ∨ 2000 < (edGo n 0 [] (mixF n a b)).length
    · rw [if_pos c, if_pos (by omega)]
    · rw [if_neg c, if_neg (by omega)]
  · rw [if_pos h, if_pos h]
theorem clash_eq : clashE n a b = (decide (bothErr n a b = 0) && clashR a b, bothErr n a b) := by
  unfold clashE
  by_cases h : bothErr n a b = 0
  · obtain ⟨ra, rb⟩ := Pre.ra h
    rw [if_neg (by simpa using h), clash_law a b ra rb, h]; rfl
  · rw [if_pos h]; simp [h]
end
end Go.S1N
end
section
namespace Go.S1N
open Go Go.Am Go.Proofs Go.S1
set_option maxRecDepth 100000
theorem neg_len (s : List UInt8) : (negL s).length = s.length := by simp [negL]
theorem okF_neg (n a : Nat) (s : List UInt8) : okF n a (negL s) := by
  have := ok_neg (n := n) (a := a) (F := []) trivial s
  rwa [List.append_nil] at this
theorem over_at {F : List LT} {x : Nat} {q : LT} {r : List LT} (h : F.drop x = q :: r) : x < F.length ∧ overF F [((x : Int), 0)] = [q] := by
  have hx : x < F.length := by
    rcases Nat.lt_or_ge x F.length with h1 | h1
    · exact h1
    · rw [List.drop_eq_nil_of_le h1] at h; cases h
  rw [List.drop_eq_getElem_cons hx] at h
  refine ⟨hx, ?_⟩
  show [overL F ((x : Int), 0)] = [q]
  rw [overL, if_pos (by simp only; omega), List.getD_eq_getElem?_getD]
  simp only [Int.toNat_natCast]
  rw [List.getElem?_eq_getElem hx]
  cases h; rfl
theorem over_takeL {F R : List LT} {x : Nat} {s : List UInt8} (hx : x ≤ F.length) (h : F.drop x = negL s ++ R) : overF F (runI x s.length) = negL s ∧ x + s.length ≤ F.length ∧ F.drop (x + s.length) = R := by
  have hl := congrArg List.length h
  rw [List.length_drop, List.length_append, neg_len] at hl
  refine ⟨?_, by omega, ?_⟩
  · rw [runI_of, over_run F x s.length (by omega), h, ← neg_len s, List.take_left]
  · rw [← List.drop_drop, h, ← neg_len s, List.drop_left]
section
variable {a b : List Ed} {F : List LT} {s t : List UInt8}
theorem first_over : ∀ (k : Nat) (p : Int) (x : Nat), x ≤ F.length → F.drop x = gB a [] k p ++ negL s →
    okF F.length x (g1 a b k p x ++ (runI (xA a k p x) s.length ++ negL t)) ∧ overF F (g1 a b k p x ++ (runI (xA a k p x) s.length ++ negL t)) = gB a b k p ++ (negL s ++ negL t)
  | 0, p, x, hx, h => by
    obtain ⟨h1, h2, h3⟩ := over_takeL (s := s) (R := []) hx (by rw [h]; simp [gB])
    rw [g1, xA, gB, List.nil_append, List.nil_append, over_app, h1, over_neg]
    refine ⟨?_, rfl⟩
    rw [runI_of]
    exact ok_run _ _ h2 (okF_neg _ _ _)
  | k + 1, p, x, hx, h => by
    rw [gB1_step, List.append_assoc] at h
    obtain ⟨h1, h2, h3⟩ := over_takeL hx h
    rw [g1, xA, gB, ← stepN_A, ← Int.natCast_add x (stepN a p)]
    simp only [List.append_assoc]
    rw [over_app, over_app, over_app, h1, over_neg]
    have e1 : okF F.length x (runI x (insAt a p).length ++ (negL (insAt b p) ++ ((if keepAB a b p then [((x : Int) + (insAt a p).length, 0)] else []) ++ (g1 a b k (p + 1) ((x + stepN a p : Nat) : Int) ++ (runI (xA a k (p + 1) ((x + stepN a p : Nat) : Int)) s.length ++ negL t))))) ↔ okF F.length x (runOf x (insAt a p).length ++ (negL (insAt b p) ++ ((if keepAB a b p then [((x : Int) + (insAt a p).length, 0)] else []) ++ (g1 a b k (p + 1) ((x + stepN a p : Nat) : Int) ++ (runI (xA a k (p + 1) ((x + stepN a p : Nat) : Int)) s.length ++ negL t))))) := by rw [runI_of]
    rw [e1]
    by_cases hg : goneB a p = true
    · have hk : keepAB a b p = false := by rw [keepAB, hg]; rfl
      rw [hg, if_pos rfl, List.nil_append] at h3
      rw [hk]
      simp only [Bool.false_eq_true, if_false, List.nil_append]
      have hst : x + stepN a p = x + (insAt a p).length := by rw [stepN, hg]; simp
      rw [hst]
      obtain ⟨i1, i2⟩ := first_over k (p + 1) (x + (insAt a p).length) h2 h3
      rw [i2]
      exact ⟨ok_run _ _ h2 (ok_neg i1 _), rfl⟩
    · have hg : goneB a p = false := by simpa using hg
      rw [hg, if_neg (by decide), List.cons_append, List.nil_append] at h3
      obtain ⟨q1, q2⟩ := over_at h3
      have hst : x + stepN a p = x + (insAt a p).length + 1 := by rw [stepN, hg]; simp; omega
      have h4 : F.drop (x + (insAt a p).length + 1) = gB a [] k (p + 1) ++ negL s := by rw [← List.drop_drop, h3]; rfl
      rw [hst]
      obtain ⟨i1, i2⟩ := first_over k (p + 1) (x + (insAt a p).length + 1) q1 h4
      rw [i2]
      by_cases hk : keepAB a b p = true
      · rw [hk]
        simp only [if_true, List.cons_append, List.nil_append]
        rw [show (x : Int) + ((insAt a p).length : Int) = ((x + (insAt a p).length : Nat) : Int) by omega, q2]
        exact ⟨ok_run _ _ h2 (ok_neg (by rw [okF]; exact .inr ⟨_, rfl, Nat.le_refl _, q1, i1⟩) _), rfl⟩
      · have hk : keepAB a b p = false := by simpa using hk
        rw [hk]
        simp only [Bool.false_eq_true, if_false, List.nil_append]
        exact ⟨ok_run _ _ h2 (ok_neg (okF_mono (by omega) i1) _), rfl⟩
theorem second_over : ∀ (k : Nat) (p : Int) (x : Nat), x ≤ F.length → F.drop x = gB b [] k p ++ negL t →
    okF F.length x (g2 a b k p x ++ (negL s ++ runI (xA b k p x) t.length)) ∧ overF F (g2 a b k p x ++ (negL s ++ runI (xA b k p x) t.length)) = gB a b k p ++ (negL s ++ negL t)
  | 0, p, x, hx, h => by
    obtain ⟨h1, h2, h3⟩ := over_takeL (s := t) (R := []) hx (by rw [h]; simp [gB])
    rw [g2, xA, gB, List.nil_append, List.nil_append, over_app, h1, over_neg]
    refine ⟨?_, rfl⟩
    have := ok_run (n := F.length) (F := []) t.length x h2 trivial
    rw [List.append_nil, ← runI_of] at this
    exact ok_neg this _
  | k + 1, p, x, hx, h => by
    rw [gB1_step, List.append_assoc] at h
    obtain ⟨h1, h2, h3⟩ := over_takeL hx h
    rw [g2, xA, gB, ← stepN_A, ← Int.natCast_add x (stepN b p)]
    simp only [List.append_assoc]
    rw [over_app, over_app, over_app, h1, over_neg]
    have e1 : okF F.length x (negL (insAt a p) ++ (runI x (insAt b p).length ++ ((if keepAB a b p then [((x : Int) + (insAt b p).length, 0)] else []) ++ (g2 a b k (p + 1) ((x + stepN b p : Nat) : Int) ++ (negL s ++ runI (xA b k (p + 1) ((x + stepN b p : Nat) : Int)) t.length))))) ↔ okF F.length x (negL (insAt a p) ++ (runOf x (insAt b p).length ++ ((if keepAB a b p then [((x : Int) + (insAt b p).length, 0)] else []) ++ (g2 a b k (p + 1) ((x + stepN b p : Nat) : Int) ++ (negL s ++ runI (xA b k (p + 1) ((x + stepN b p : Nat) : Int)) t.length))))) := by rw [runI_of x]
    rw [e1]
    by_cases hg : goneB b p = true
    · have hk : keepAB a b p = false := by rw [keepAB, hg]; simp
      rw [hg, if_pos rfl, List.nil_append] at h3
      rw [hk]
      simp only [Bool.false_eq_true, if_false, List.nil_append]
      have hst : x + stepN b p = x + (insAt b p).length := by rw [stepN, hg]; simp
      rw [hst]
      obtain ⟨i1, i2⟩ := second_over k (p + 1) (x + (insAt b p).length) h2 h3
      rw [i2]
      exact ⟨ok_neg (ok_run _ _ h2 i1) _, rfl⟩
    · have hg : goneB b p = false := by simpa using hg
      rw [hg, if_neg (by decide), List.cons_append, List.nil_append] at h3
      obtain ⟨q1, q2⟩ := over_at h3
      have hst : x + stepN b p = x + (insAt b p).length + 1 := by rw [stepN, hg]; simp; omega
      have h4 : F.drop (x + (insAt b p).length + 1) = gB b [] k (p + 1) ++ negL t := by rw [← List.drop_drop, h3]; rfl
      rw [hst]
      obtain ⟨i1, i2⟩ := second_over k (p + 1) (x + (insAt b p).length + 1) q1 h4
      rw [i2]
      by_cases hk : keepAB a b p = true
      · rw [hk]
        simp only [if_true, List.cons_append, List.nil_append]
        rw [show (x : Int) + ((insAt b p).length : Int) = ((x + (insAt b p).length : Nat) : Int) by omega, q2]
        exact ⟨ok_neg (ok_run _ _ h2 (by rw [okF]; exact .inr ⟨_, rfl, Nat.le_refl _, q1, i1⟩)) _, rfl⟩
      · have hk : keepAB a b p = false := by simpa using hk
        rw [hk]
        simp only [Bool.false_eq_true, if_false, List.nil_append]
        exact ⟨ok_neg (ok_run _ _ h2 (okF_mono (by omega) i1)) _, rfl⟩
end
theorem ins_of {l : List Ed} {q : Int} (h : insAt l q ≠ []) : ∃ e ∈ l, e.at_ = q := by
  apply Classical.byContradiction
  intro hn
  exact h (insAt_none fun e he h1 => hn ⟨e, he, h1⟩)
theorem apart_ins {n : Int} {a b : List Ed} (ha : RS n a) (hb : RS n b) (hc : clashR a b = false) (q : Int) : insAt a q = [] ∨ insAt b q = [] := by
  by_cases h1 : insAt a q = []
  · exact .inl h1
  · by_cases h2 : insAt b q = []
    · exact .inr h2
    · obtain ⟨x, hx, ex⟩ := ins_of h1
      obtain ⟨y, hy, ey⟩ := ins_of h2
      have c1 := ha.each x hx
      have c2 := hb.each y hy
      unfold clashR at hc
      rw [List.any_eq_false] at hc
      have := hc x hx
      rw [List.any_eq_true] at this
      exact absurd ⟨y, hy, decide_eq_true (show touch x y from ⟨by omega, by omega⟩)⟩ this
theorem gB_comm {a b : List Ed} (h : ∀ q, insAt a q = [] ∨ insAt b q = []) : ∀ (k : Nat) (p : Int), gB a b k p = gB b a k p
  | 0, _ => rfl
  | k + 1, p => by
    rw [gB, gB, gB_comm h k, show keepAB a b p = keepAB b a p by rw [keepAB, keepAB, Bool.and_comm]]
    rcases h p with h | h <;> rw [h] <;> simp [negL]
section
variable {n : Nat} {a b : List Ed}
theorem meet_law (hp : Pre n a b) (h : bothErr n a b = 0) (hs : (mixF n a b).length ≤ 1999) :
    pastR n a b = (pastA n a b, pastB n a b, 0) ∧ bothR n a b = (edGo n 0 [] (mixF n a b), 0) ∧ thenVal n a (pastA n a b) = (edGo n 0 [] (mixF n a b), 0) ∧ thenVal n b (pastB n a b) = (edGo n 0 [] (mixF n a b), 0) ∧
    (clashR a b = false → mixF n b a = mixF n a b) ∧ (pastA n a b).length ≤ 2000 ∧ (pastB n a b).length ≤ 2000 ∧ (∀ e ∈ pastA n a b, e.new.length ≤ 2000) ∧ ∀ e ∈ pastB n a b, e.new.length ≤ 2000 := by
  obtain ⟨h1, h2⟩ := bothErr_zero h
  obtain ⟨_, _, _, sa⟩ := faultOf_zero h1
  obtain ⟨_, _, _, sb⟩ := faultOf_zero h2
  obtain ⟨ra, rb⟩ := Pre.ra h
  have hn := hp.hn
  have fa := flow_short h1 hp.newA
  have fb := flow_short h2 hp.newB
  have eA := Pre.flowA h
  have eB := Pre.flowB h
  have p1 := past_first a b (oldOf 0 (gB a [] n 0 ++ negL (insAt a n)) (List.replicate n (-1))) (insAt a n) (insAt b n) n 0 0 (by omega) (old_at a (insAt a n) n 0 0 _ (by omega) (by simp))
  have p2 := past_second a b (oldOf 0 (gB b [] n 0 ++ negL (insAt b n)) (List.replicate n (-1))) (insAt a n) (insAt b n) n 0 0 (by omega) (old_at b (insAt b n) n 0 0 _ (by omega) (by simp))
  obtain ⟨o1, o2⟩ := first_over (a := a) (b := b) (F := flowFrom n 0 a) (s := insAt a n) (t := insAt b n) n 0 0 (Nat.zero_le _) (by rw [eA]; rfl)
  obtain ⟨o3, o4⟩ := second_over (a := a) (b := b) (F := flowFrom n 0 b) (s := insAt a n) (t := insAt b n) n 0 0 (Nat.zero_le _) (by rw [eB]; rfl)
  have eX : pastA n a b = edGo (flowFrom n 0 a).length 0 [] (g1 a b n 0 ((0 : Nat) : Int) ++ (runI (xA a n 0 ((0 : Nat) : Int)) (insAt a n).length ++ negL (insAt b n))) := by
    rw [← p1, edGo_nrm, pastA, pastF, mixF, mixL_all ra rb, eA]; rfl
  have eY : pastB n a b = edGo (flowFrom n 0 b).length 0 [] (g2 a b n 0 ((0 : Nat) : Int) ++ (negL (insAt a n) ++ runI (xA b n 0 ((0 : Nat) : Int)) (insAt b n).length)) := by
    rw [← p2, edGo_nrm, pastB, pastF, mixF, mixL_all ra rb, eB]; rfl
  rw [← mixF_all ra rb] at o2 o4
  generalize hG : g1 a b n 0 ((0 : Nat) : Int) ++ (runI (xA a n 0 ((0 : Nat) : Int)) (insAt a n).length ++ negL (insAt b n)) = G at *
  generalize hH : g2 a b n 0 ((0 : Nat) : Int) ++ (negL (insAt a n) ++ runI (xA b n 0 ((0 : Nat) : Int)) (insAt b n).length) = H at *
  have lG : G.length = (mixF n a b).length := by rw [← o2, over_len]
  have lH : H.length = (mixF n a b).length := by rw [← o4, over_len]
  have lX := ed_len (flowFrom n 0 a).length G 0 []
  have lY := ed_len (flowFrom n 0 b).length H 0 []
  have lZ := ed_len n (mixF n a b) 0 []
  rw [← eX] at lX
  rw [← eY] at lY
  have wX : ∀ e ∈ pastA n a b, e.new.length ≤ 2000 := by
    intro e he; rw [eX] at he
    have := ed_new _ _ _ _ e he; simp only [List.length_nil] at this; omega
  have wY : ∀ e ∈ pastB n a b, e.new.length ≤ 2000 := by
    intro e he; rw [eY] at he
    have := ed_new _ _ _ _ e he; simp only [List.length_nil] at this; omega
  have kX : flowFrom (flowFrom n 0 a).length 0 (pastA n a b) = G := by rw [eX]; exact ed_round _ G 0 [] (Nat.zero_le _) o1
  have kY : flowFrom (flowFrom n 0 b).length 0 (pastB n a b) = H := by rw [eY]; exact ed_round _ H 0 [] (Nat.zero_le _) o3
  have uX : faultOf (flowFrom n 0 a).length (pastA n a b) = 0 := fault_mk fa.1 (by omega) (fun e he => by have := wX e he; omega) (by rw [eX]; exact ed_scan _ G 0 [] (-1) (by omega) (Nat.zero_le _) o1) (by rw [kX]; omega)
  have uY : faultOf (flowFrom n 0 b).length (pastB n a b) = 0 := fault_mk fb.1 (by omega) (fun e he => by have := wY e he; omega) (by rw [eY]; exact ed_scan _ H 0 [] (-1) (by omega) (Nat.zero_le _) o3) (by rw [kY]; omega)
  have tX := (then_small h1 uX (by rw [kX]; omega)).1
  have tY := (then_small h2 uY (by rw [kY]; omega)).1
  rw [kX, o2] at tX
  rw [kY, o4] at tY
  refine ⟨?_, ?_, tX, tY, ?_, by omega, by omega, wX, wY⟩
  · rw [pastR, if_neg (by rw [h]; decide), if_neg (by omega)]
  · rw [bothR, if_neg (by rw [h]; decide), if_neg (by omega)]
  · intro hc
    have hq := apart_ins ra rb hc
    rw [mixF_all ra rb, mixF_all rb ra, gB_comm hq n 0]
    rcases hq n with h | h <;> rw [h] <;> simp [negL]
end
end Go.S1N
end
section
namespace Go.S1N
open Go Go.Am Go.Proofs Go.S1
set_option maxRecDepth 100000
theorem gB_len {a b : List Ed} {A B : Nat} (ha : ∀ p, (insAt a p).length ≤ A) (hb : ∀ p, (insAt b p).length ≤ B) : ∀ (k : Nat) (p : Int), (gB a b k p).length ≤ k * (A + B + 1)
  | 0, _ => by simp [gB]
  | k + 1, p => by
    have h1 := ha p
    have h2 := hb p
    have h3 := gB_len ha hb k (p + 1)
    have h4 : (if keepAB a b p then [(p, (0 : UInt8))] else []).length ≤ 1 := by split <;> simp
    rw [gB]
    simp only [List.length_append, neg_len]
    rw [Nat.add_mul]
    omega
theorem mix_short {n : Nat} {a b : List Ed} (hp : Pre n a b) (h : bothErr n a b = 0) (hn : n ≤ 20) (ha : totN a ≤ 16) (hb : totN b ≤ 16) : (mixF n a b).length ≤ 1999 := by
  obtain ⟨ra, rb⟩ := Pre.ra h
  have ia : ∀ p, (insAt a p).length ≤ 16 := fun p => Nat.le_trans (insAt_tot a p) ha
  have ib : ∀ p, (insAt b p).length ≤ 16 := fun p => Nat.le_trans (insAt_tot b p) hb
  have := gB_len ia ib n 0
  rw [mixF_all ra rb]
  simp only [List.length_append, neg_len]
  have h1 := ia n
  have h2 := ib n
  have : n * (16 + 16 + 1) ≤ 20 * 33 := Nat.mul_le_mul_right _ hn
  omega
theorem totN_16 {l : List Ed} (hl : l.length ≤ 4) (h : ∀ e ∈ l, e.new.length ≤ 4) : totN l ≤ 16 := by
  have : ∀ l : List Ed, (∀ e ∈ l, e.new.length ≤ 4) → totN l ≤ 4 * l.length := by
    intro l
    induction l with
    | nil => intro _; simp [totN]
    | cons e l ih =>
      intro h
      have h1 := h e (List.mem_cons_self ..)
      have h2 := ih fun x hx => h x (List.mem_cons_of_mem _ hx)
      unfold totN at h2 ⊢
      simp only [List.flatMap_cons, List.length_append, List.length_cons]
      omega
  have := this l h
  omega
end Go.S1N
end
section
namespace Go.S1
open Go Go.Am Go.Proofs
set_option maxRecDepth 100000
noncomputable def L7 : LCode := .seq (.ops [⟨.assign (.const (.bool false)), some 2, none⟩]) (.seq (.ops [⟨.move (.tmp 0), some 20, none⟩, ⟨.build 25 { toList := [(0, .tmp 20)] }, some 21, none⟩, ⟨.box 25 (.tmp 21), some 22, none⟩, ⟨.assign (.tmp 22), some 3, none⟩]) (.seq (.ops [⟨.move (.tmp 3), some 23, none⟩, ⟨.call { callee := .value (.func 19), args := { toList := [.tmp 23, .const (.int .i64 0), .const (.int .i64 10)] }, argTypes := { toList := [23, 3, 3] } }, some 24, none⟩, ⟨.assign (.tmp 24), some 4, none⟩]) (.seq (.ops [⟨.move (.tmp 3), some 25, none⟩, ⟨.move (.tmp 4), some 26, none⟩, ⟨.call { callee := .value (.func 10), args := { toList := [.tmp 25, .tmp 26] }, argTypes := { toList := [23, 3] } }, some 27, none⟩, ⟨.move (.tmp 3), some 28, none⟩, ⟨.move (.tmp 4), some 29, none⟩, ⟨.call { callee := .value (.func 10), args := { toList := [.tmp 28, .tmp 29] }, argTypes := { toList := [23, 3] } }, some 30, none⟩, ⟨.assign (.tmp 27), some 5, none⟩, ⟨.assign (.tmp 30), some 6, none⟩]) (.seq (.ops [⟨.move (.tmp 4), some 32, none⟩, ⟨.move (.tmp 5), some 33, none⟩, ⟨.move (.tmp 6), some 34, none⟩, ⟨.call { callee := .value (.func 21), args := { toList := [.tmp 32, .tmp 33, .tmp 34] }, argTypes := { toList := [3, 27, 27] } }, some 35, none⟩, ⟨.move (.tmp 35), some 31, none⟩, ⟨.extract (.tmp 31) 0, some 36, none⟩, ⟨.extract (.tmp 31) 1, some 37, none⟩, ⟨.extract (.tmp 31) 2, some 38, none⟩, ⟨.assign (.tmp 36), some 7, none⟩, ⟨.assign (.tmp 37), some 8, none⟩, ⟨.assign (.tmp 38), some 9, none⟩]) (.seq (.ops [⟨.move (.tmp 4), some 40, none⟩, ⟨.move (.tmp 5), some 41, none⟩, ⟨.move (.tmp 7), some 42, none⟩, ⟨.call { callee := .value (.func 17), args := { toList := [.tmp 40, .tmp 41, .tmp 42] }, argTypes := { toList := [3, 27, 27] } }, some 43, none⟩, ⟨.move (.tmp 43), some 39, none⟩, ⟨.extract (.tmp 39) 0, some 44, none⟩, ⟨.extract (.tmp 39) 1, some 45, none⟩, ⟨.assign (.tmp 44), some 10, none⟩, ⟨.assign (.tmp 45), some 11, none⟩]) (.seq (.ops [⟨.move (.tmp 4), some 47, none⟩, ⟨.move (.tmp 6), some 48, none⟩, ⟨.move (.tmp 8), some 49, none⟩, ⟨.call { callee := .value (.func 17), args := { toList := [.tmp 47, .tmp 48, .tmp 49] }, argTypes := { toList := [3, 27, 27] } }, some 50, none⟩, ⟨.move (.tmp 50), some 46, none⟩, ⟨.extract (.tmp 46) 0, some 51, none⟩, ⟨.extract (.tmp 46) 1, some 52, none⟩, ⟨.assign (.tmp 51), some 12, none⟩, ⟨.assign (.tmp 52), some 13, none⟩]) (.seq (.ops [⟨.move (.tmp 4), some 54, none⟩, ⟨.move (.tmp 5), some 55, none⟩, ⟨.move (.tmp 6), some 56, none⟩, ⟨.call { callee := .value (.func 22), args := { toList := [.tmp 54, .tmp 55, .tmp 56] }, argTypes := { toList := [3, 27, 27] } }, some 57, none⟩, ⟨.move (.tmp 57), some 53, none⟩, ⟨.extract (.tmp 53) 0, some 58, none⟩, ⟨.extract (.tmp 53) 1, some 59, none⟩, ⟨.assign (.tmp 58), some 14, none⟩, ⟨.assign (.tmp 59), some 15, none⟩]) (.seq (.ops [⟨.move (.tmp 4), some 61, none⟩, ⟨.move (.tmp 5), some 62, none⟩, ⟨.move (.tmp 6), some 63, none⟩, ⟨.call { callee := .value (.func 24), args := { toList := [.tmp 61, .tmp 62, .tmp 63] }, argTypes := { toList := [3, 27, 27] } }, some 64, none⟩, ⟨.move (.tmp 64), some 60, none⟩, ⟨.extract (.tmp 60) 0, some 65, none⟩, ⟨.extract (.tmp 60) 1, some 66, none⟩, ⟨.assign (.tmp 65), some 16, none⟩, ⟨.assign (.tmp 66), some 17, none⟩]) (.seq (.ops [⟨.move (.tmp 4), some 68, none⟩, ⟨.move (.tmp 6), some 69, none⟩, ⟨.move (.tmp 5), some 70, none⟩, ⟨.call { callee := .value (.func 22), args := { toList := [.tmp 68, .tmp 69, .tmp 70] }, argTypes := { toList := [3, 27, 27] } }, some 71, none⟩, ⟨.move (.tmp 71), some 67, none⟩, ⟨.extract (.tmp 67) 0, some 72, none⟩, ⟨.extract (.tmp 67) 1, some 73, none⟩, ⟨.assign (.tmp 72), some 18, none⟩, ⟨.assign (.tmp 73), some 19, none⟩]) (.seq (.ops [⟨.move (.tmp 9), some 74, none⟩, ⟨.move (.tmp 11), some 75, none⟩, ⟨.move (.tmp 13), some 76, none⟩, ⟨.move (.tmp 15), some 77, none⟩, ⟨.move (.tmp 17), some 78, none⟩, ⟨.move (.tmp 19), some 79, none⟩, ⟨.buildSlice 58 6 { toList := [(0, .tmp 74), (1, .tmp 75), (2, .tmp 76), (3, .tmp 77), (4, .tmp 78), (5, .tmp 79)] }, some 80, none⟩, ⟨.call { callee := .value (.func 13), args := { toList := [.tmp 80] }, argTypes := { toList := [58] } }, some 81, none⟩, ⟨.binOp .eql 29 (.tmp 81) (.const (.int .i64 0)) 29, some 82, none⟩, ⟨.move (.tmp 82), some 83, none⟩, ⟨.move (.tmp 10), some 84, some (83, true)⟩, ⟨.move (.tmp 12), some 85, some (83, true)⟩, ⟨.call { callee := .value (.func 14), args := { toList := [.tmp 84, .tmp 85] }, argTypes := { toList := [27, 27] } }, some 86, some (83, true)⟩, ⟨.pick (.tmp 83) (.tmp 86) (.const (.bool false)), some 87, none⟩, ⟨.move (.tmp 87), some 88, none⟩, ⟨.move (.tmp 10), some 89, some (88, true)⟩, ⟨.move (.tmp 14), some 90, some (88, true)⟩, ⟨.call { callee := .value (.func 14), args := { toList := [.tmp 89, .tmp 90] }, argTypes := { toList := [27, 27] } }, some 91, some (88, true)⟩, ⟨.pick (.tmp 88) (.tmp 91) (.const (.bool false)), some 92, none⟩, ⟨.move (.tmp 92), some 93, none⟩, ⟨.move (.tmp 16), some 94, some (93, true)⟩, ⟨.move (.tmp 94), some 95, some (93, true)⟩, ⟨.move (.tmp 14), some 96, some (95, false)⟩, ⟨.move (.tmp 18), some 97, some (95, false)⟩, ⟨.call { callee := .value (.func 14), args := { toList := [.tmp 96, .tmp 97] }, argTypes := { toList := [27, 27] } }, some 98, some (95, false)⟩, ⟨.pick (.tmp 95) (.const (.bool true)) (.tmp 98), some 99, some (93, true)⟩, ⟨.pick (.tmp 93) (.tmp 99) (.const (.bool false)), some 100, none⟩, ⟨.move (.tmp 100), some 101, none⟩, ⟨.call { callee := .value (.func 15), args := { toList := [] }, argTypes := { toList := [] } }, some 102, some (101, true)⟩, ⟨.pick (.tmp 101) (.tmp 102) (.const (.bool false)), some 103, none⟩, ⟨.assign (.tmp 103), some 2, none⟩]) .ret))))))))))
theorem l7 : Tryz.f7.body.map lighten = some L7 := by kernel_rfl
theorem rs7 : Tryz.f7.results.toList = [ResultVar.tmp 2] := by kernel_rfl
theorem nt7 : Tryz.f7.ntmps = 104 := by kernel_rfl
theorem gob7 {args : List AV} {s : AHeap} {R : AV → AHeap → Prop} (hl : args.length ≤ 104) (h : ∀ tm, tm.length = 104 → (∀ i, aev tm (.tmp i) = args.getD i aundef) → lvb Tryz.prog tab s L7 (lpostB tab s [ResultVar.tmp 2] R) tm (loc s 0 [])) : ACall Tryz.prog 7 args s R := ACall.goB tab_ok mixed Tryz.func7 l7 nm7 rs7 nt7 hl h
noncomputable def L10 : LCode := .seq (.ops [⟨.assign (.const (.slice none 0 0)), some 4, none⟩]) (.seq (.seq (.ops [⟨.move (.const (.int .i64 0)), some 6, none⟩]) (.block 0 (.loop (.seq (.ops [⟨.binOp .lss 3 (.tmp 6) (.const (.int .i64 5)) 3, some 7, none⟩]) (.seq (.cond (.tmp 7) .skip (.exit 0)) (.seq (.block 1 (.seq (.ops [⟨.move (.tmp 0), some 8, none⟩, ⟨.move (.tmp 1), some 9, none⟩, ⟨.call { callee := .value (.func 29), args := { toList := [.tmp 8, .tmp 9] }, argTypes := { toList := [23, 3] } }, some 10, none⟩, ⟨.assign (.tmp 10), some 5, none⟩]) (.seq (.ops [⟨.move (.tmp 1), some 11, none⟩, ⟨.move (.tmp 5), some 12, none⟩, ⟨.call { callee := .value (.func 30), args := { toList := [.tmp 11, .tmp 12] }, argTypes := { toList := [3, 27] } }, some 13, none⟩, ⟨.binOp .eql 29 (.tmp 13) (.const (.int .i64 0)) 29, some 14, none⟩]) (.cond (.tmp 14) (.seq (.ops [⟨.move (.tmp 5), some 15, none⟩, ⟨.assign (.tmp 15), some 4, none⟩]) .ret) .skip)))) (.ops [⟨.binOp .add 3 (.tmp 6) (.const (.int .i64 1)) 3, some 16, none⟩, ⟨.move (.tmp 16), some 6, none⟩]))))))) (.seq (.ops [⟨.assign (.const (.slice none 0 0)), some 4, none⟩]) .ret))
theorem l10 : Tryz.f10.body.map lighten = some L10 := by kernel_rfl
theorem rs10 : Tryz.f10.results.toList = [ResultVar.tmp 4] := by kernel_rfl
theorem nt10 : Tryz.f10.ntmps = 17 := by kernel_rfl
theorem gob10 {args : List AV} {s : AHeap} {R : AV → AHeap → Prop} (hl : args.length ≤ 17) (h : ∀ tm, tm.length = 17 → (∀ i, aev tm (.tmp i) = args.getD i aundef) → lvb Tryz.prog tab s L10 (lpostB tab s [ResultVar.tmp 4] R) tm (loc s 0 [])) : ACall Tryz.prog 10 args s R := ACall.goB tab_ok mixed Tryz.func10 l10 nm10 rs10 nt10 hl h
end Go.S1
end
section
namespace Go.S1N
open Go Go.Am Go.Proofs Go.S1
set_option maxRecDepth 100000
attribute [local irreducible] lopsB lvb lstepB lfunG lcondB lguardB ldrawB ldrunB ldstepB ldguardB lmem lval ldmem ldval ldfun lexit ldloadB ldlenB lpostB athen ablock
theorem rfault_nil {n : Nat} (hn : n ≤ 20000) : faultOf n [] = 0 := by
  have e : longOf (n : Int) [] = n := rfl
  have e2 : scan (n : Int) (-1) [] = 0 := rfl
  rw [faultOf, e, e2, if_neg (by omega), if_neg (by simp), if_neg (by simp), if_neg (by omega)]
theorem rightS {s : AHeap} {b : Nat} {Lv : AV} {L : List Int} {at_ : Int} (h : Sm s b Lv L at_) (h1 : at_ < 3700000000000000000) (n : Nat) (hn : n ≤ 20000) :
    ACall Tryz.prog 10 [.ptr b 0, .int .i64 n] s fun v t => ∃ (l : List Ed) (k : Nat), v = edv l ∧ l.length ≤ 4 ∧ (∀ e ∈ l, e.new.length ≤ 4) ∧ faultOf n l = 0 ∧ k ≤ 100 ∧ t = s.upd b (strm Lv (at_ + k)) := by
  refine gob10 (by simp) ?_
  intro tm hlen harg
  have hb := h.lt
  have h0 := h.at0
  simp +contextual only [go_sem, L10, hlen, harg, hb, cdD, cdN, gdT, gdF, gdD, Nat.reduceLT, Nat.reduceEqDiff, Nat.reduceAdd, Nat.reduceLeDiff, reduceIte, reduceCtorEq]
  refine ⟨Nat × Nat × AHeap, fun a => [(0, .ptr b 0), (1, .int .i64 n), (6, .int .i64 a.1)], fun a => loc a.2.2 0 [],
    fun a => a.1 ≤ 5 ∧ a.2.1 ≤ 20 * a.1 ∧ ((a.1 = 0 ∧ a.2.2 = s) ∨ a.2.2 = s.upd b (strm Lv (at_ + a.2.1))) ∧ (∀ o, a.2.2.upd b o = s.upd b o) ∧ Sm a.2.2 b Lv L (at_ + a.2.1) ∧ a.2.2.nx = s.nx, fun a => 5 - a.1, (0, 0, s),
    ⟨by simp, by simp, .inl ⟨rfl, rfl⟩, fun _ => rfl, by simpa using h, rfl⟩, ?_, ?_⟩
  · refine To.go [] [] rfl (OKo.refl s) (by decide) (by simp) ?_ trivial
    simp +contextual only [go_sem, hlen, harg, rnm_low hb, cdD, cdN, gdT, gdF, gdD, Nat.reduceLT, Nat.reduceEqDiff, Nat.reduceAdd, Nat.reduceLeDiff, reduceIte, reduceCtorEq]
    simp
  · rintro ⟨i, k, S⟩ tm1 ⟨hi, hk, hS, hup, hSm, hnx⟩ hlen1 hlv
    simp only [go_sem, hlen, cdD, cdN, gdT, gdF, gdD, Nat.reduceLT, Nat.reduceEqDiff, Nat.reduceAdd, Nat.reduceLeDiff, reduceIte, reduceCtorEq] at hlen1 hlv hi hk hS hup hSm hnx
    have hbS : b < S.nx := hSm.lt
    simp +contextual only [go_sem, hlen, hlen1, hlv, cdD, cdN, gdT, gdF, gdD, Nat.reduceLT, Nat.reduceEqDiff, Nat.reduceAdd, Nat.reduceLeDiff, reduceIte, reduceCtorEq]
    refine ⟨fun hlt => ?_, fun hge => ?_⟩
    · refine lfunG_of (changeS hSm.loc (by omega) n) ?_
      rintro _ _ ⟨l, k1, rfl, hl, hnl, hk1, rfl⟩
      simp +contextual only [go_sem, hlen, hlen1, hlv, hb, hbS, hup, cdD, cdN, gdT, gdF, gdD, Nat.reduceLT, Nat.reduceEqDiff, Nat.reduceAdd, Nat.reduceLeDiff, reduceIte, reduceCtorEq]
      refine lfunG_eq (exact_of (by simp only [Pu, low, lowL, and_self]) (fault_ok _ _ l (edv_sl l) (by omega) _)) ?_
      have hw : IntKind.i64.wrap ((i : Int) + 1) = ((i + 1 : Nat) : Int) := by rw [wrap_id (by omega)]; rfl
      simp +contextual only [go_sem, hlen, hlen1, hlv, hb, hbS, hup, hw, cdD, cdN, gdT, gdF, gdD, Nat.reduceLT, Nat.reduceEqDiff, Nat.reduceAdd, Nat.reduceLeDiff, reduceIte, reduceCtorEq]
      refine ⟨fun hf => ?_, fun hf => ?_⟩
      · exact lexit_pure ((OKo.refl s).upd hb h.lowO) (low.mono (Nat.zero_le _) (edv_pu _)) ⟨l, k + k1, rfl, hl, hnl, hf, by omega, by congr 2; omega⟩
      · refine ⟨(i + 1, k + k1, s.upd b (strm Lv (at_ + ((k + k1 : Nat) : Int)))), ⟨by simp only; omega, by simp only; omega, .inr rfl, ?_, ?_, AHeap.nx_upd _ _ _⟩, by simp only; omega, ?_⟩
        · intro o; simp only [go_sem]
        · exact h.upd (by omega) (by omega)
        · refine To.go [] [] (by simp only; congr 3; omega) ((OKo.refl s).upd hb h.lowO) (by decide) (by simp) ?_ trivial
          simp +contextual only [go_sem, hlen1, hlv, rnm_low hb, cdD, cdN, gdT, gdF, gdD, Nat.reduceLT, Nat.reduceEqDiff, Nat.reduceAdd, Nat.reduceLeDiff, reduceIte, reduceCtorEq]
    · have hS2 : S = s.upd b (strm Lv (at_ + k)) := by
        rcases hS with ⟨q, _⟩ | q
        · omega
        · exact q
      subst hS2
      refine lexit_pure ((OKo.refl s).upd hb h.lowO) (by simp only [low]) ⟨[], k, rfl, by simp, by simp, rfault_nil hn, by omega, rfl⟩
end Go.S1N
end
section
namespace Go.S1N
open Go Go.Am Go.Proofs Go.S1
set_option maxRecDepth 100000
attribute [local irreducible] lopsB lvb lstepB lfunG lcondB lguardB ldrawB ldrunB ldstepB ldguardB lmem lval ldmem ldval ldfun lexit ldloadB ldlenB lpostB athen ablock
set_option maxHeartbeats 2000000 in
theorem bothOrdersMeet_gen (hready : ∀ s, ACall Tryz.prog 15 [] s fun v t => v = .bool true ∧ t = s) (v : AV) (L : List Int) (hv : IsInts v L) (hL : L.length < 4611686018427387904) (s : AHeap) :
    ACall Tryz.prog 7 [v] s fun r t => r = .bool true ∧ t = s := by
  refine gob7 (by simp) ?_
  intro tm hlen harg
  simp +contextual only [go_sem, L7, hlen, harg, ints_cells hv, ints_israw hv, cdD, cdN, gdT, gdF, gdD, Nat.reduceLT, Nat.reduceEqDiff, Nat.reduceAdd, Nat.reduceLeDiff, reduceIte, reduceCtorEq]
  have hS : ∀ (a : Int) (n : Nat) (l : List (Nat × Option AObj)), 0 ≤ a → a < 4000000000000000000 → Sm (loc s (n + 1) ((0, some (strm v a)) :: l)) (nm s.nx 0) v L a := fun a n l h1 h2 =>
    ⟨hv, hL, h1, h2, by rw [nx_loc, nm_lt]; omega, by simp only [go_sem, cdD, cdN, gdT, gdF, gdD, Nat.reduceLT, Nat.reduceEqDiff, Nat.reduceAdd, Nat.reduceLeDiff, reduceIte, reduceCtorEq]⟩
  refine lfunG_eq (rangeS (hS 0 0 [] (by omega) (by omega)) 0 10 (by omega) (by omega) (by omega)) ?_
  have hr := nextOf_lt L 0 (n := 10 - 0 + 1) (by omega) (by omega)
  obtain ⟨n, hn⟩ : ∃ n : Nat, 0 + nextOf L 0 (10 - 0 + 1) = n := ⟨(nextOf L 0 (10 - 0 + 1)).toNat, by omega⟩
  have hn10 : n ≤ 10 := by omega
  simp +contextual only [go_sem, hlen, harg, hn, cdD, cdN, gdT, gdF, gdD, Nat.reduceLT, Nat.reduceEqDiff, Nat.reduceAdd, Nat.reduceLeDiff, reduceIte, reduceCtorEq]
  refine lfunG_of (rightS (hS _ _ _ (by omega) (by omega)) (by omega) n (by omega)) ?_
  rintro _ _ ⟨a, k1, rfl, ha, hna, hfa, hk1, rfl⟩
  simp +contextual only [go_sem, hlen, harg, cdD, cdN, gdT, gdF, gdD, Nat.reduceLT, Nat.reduceEqDiff, Nat.reduceAdd, Nat.reduceLeDiff, reduceIte, reduceCtorEq]
  refine lfunG_of (rightS (hS _ _ _ (by omega) (by omega)) (by omega) n (by omega)) ?_
  rintro _ _ ⟨b, k2, rfl, hb, hnb, hfb, hk2, rfl⟩
  have ta := totN_16 ha hna
  have tb := totN_16 hb hnb
  have hp : Pre n a b := ⟨by omega, by omega, by omega⟩
  have hq : Pre n b a := ⟨by omega, by omega, by omega⟩
  have he : bothErr n a b = 0 := by rw [bothErr, if_neg (by rw [hfa]; decide), hfb]
  have hf : bothErr n b a = 0 := by rw [bothErr, if_neg (by rw [hfb]; decide), hfa]
  obtain ⟨m1, m2, m3, m4, m5, m6, m7, m8, m9⟩ := meet_law hp he (mix_short hp he (by omega) ta tb)
  obtain ⟨-, w2, -⟩ := meet_law hq hf (mix_short hq hf (by omega) tb ta)
  have e1 := (past_eq hp).trans m1
  have e2 := (both_eq hp).trans m2
  have e3 := (both_eq hq).trans w2
  have e4 : clashE n a b = (clashR a b, 0) := by rw [clash_eq, he]; rfl
  have hna' := hp.newA
  have hnb' := hp.newB
  have hx : ∀ e ∈ pastA n a b, e.new.length ≤ 100000 := fun e h => by have := m8 e h; omega
  have hy : ∀ e ∈ pastB n a b, e.new.length ≤ 100000 := fun e h => by have := m9 e h; omega
  simp +contextual only [go_sem, hlen, harg, cdD, cdN, gdT, gdF, gdD, Nat.reduceLT, Nat.reduceEqDiff, Nat.reduceAdd, Nat.reduceLeDiff, reduceIte, reduceCtorEq]
  refine lfunG_eq (past_ok n a b (by omega) (by omega) (fun h => hp.mok h) _) ?_
  simp +contextual only [go_sem, hlen, harg, e1, cdD, cdN, gdT, gdF, gdD, Nat.reduceLT, Nat.reduceEqDiff, Nat.reduceAdd, Nat.reduceLeDiff, reduceIte, reduceCtorEq]
  refine lfunG_eq (thenX_ok n _ _ a _ (edv_sl a) (edv_sl _) (by omega) (by omega) hna' hx (by omega) _) ?_
  simp +contextual only [go_sem, hlen, harg, m3, cdD, cdN, gdT, gdF, gdD, Nat.reduceLT, Nat.reduceEqDiff, Nat.reduceAdd, Nat.reduceLeDiff, reduceIte, reduceCtorEq]
  refine lfunG_eq (thenX_ok n _ _ b _ (edv_sl b) (edv_sl _) (by omega) (by omega) hnb' hy (by omega) _) ?_
  simp +contextual only [go_sem, hlen, harg, m4, cdD, cdN, gdT, gdF, gdD, Nat.reduceLT, Nat.reduceEqDiff, Nat.reduceAdd, Nat.reduceLeDiff, reduceIte, reduceCtorEq]
  refine lfunG_eq (both_ok n a b (by omega) (by omega) (fun h => hp.mok h) _) ?_
  simp +contextual only [go_sem, hlen, harg, e2, cdD, cdN, gdT, gdF, gdD, Nat.reduceLT, Nat.reduceEqDiff, Nat.reduceAdd, Nat.reduceLeDiff, reduceIte, reduceCtorEq]
  refine lfunG_eq (clash_ok n a b (by omega) (by omega) (fun h e hm => ?_) _) ?_
  · have h2 : 0 ≤ e.at_ ∧ 0 ≤ e.cut ∧ e.at_ + e.cut ≤ n := by
      obtain ⟨ra, rb⟩ := Pre.ra h
      rcases List.mem_append.1 hm with h | h
      · exact ra.each e h
      · exact rb.each e h
    omega
  simp +contextual only [go_sem, hlen, harg, e4, cdD, cdN, gdT, gdF, gdD, Nat.reduceLT, Nat.reduceEqDiff, Nat.reduceAdd, Nat.reduceLeDiff, reduceIte, reduceCtorEq]
  refine lfunG_eq (both_ok n b a (by omega) (by omega) (fun h => hq.mok h) _) ?_
  simp +contextual only [go_sem, hlen, harg, e3, cdD, cdN, gdT, gdF, gdD, Nat.reduceLT, Nat.reduceEqDiff, Nat.reduceAdd, Nat.reduceLeDiff, reduceIte, reduceCtorEq]
  refine lfunG_eq (errs_ok _ [0, 0, 0, 0, 0, 0] (some 29) (by simp) _ (by simp only [go_sem, List.map_cons, cdD, cdN, gdT, gdF, gdD, Nat.reduceLT, Nat.reduceEqDiff, Nat.reduceAdd, Nat.reduceLeDiff, reduceIte, reduceCtorEq])) ?_
  have hz : errsOf [0, 0, 0, 0, 0, 0] = 0 := by decide
  have hlen2 := ed_len n (mixF n a b) 0 []
  have hmix := mix_short hp he (by omega) ta tb
  simp +contextual only [go_sem, hlen, harg, hz, cdD, cdN, gdT, gdF, gdD, Nat.reduceLT, Nat.reduceEqDiff, Nat.reduceAdd, Nat.reduceLeDiff, reduceIte, reduceCtorEq]
  refine lfunG_eq (same33 _ (by omega) _) ?_
  simp +contextual only [go_sem, hlen, harg, cdD, cdN, gdT, gdF, gdD, Nat.reduceLT, Nat.reduceEqDiff, Nat.reduceAdd, Nat.reduceLeDiff, reduceIte, reduceCtorEq]
  refine lfunG_eq (same33 _ (by omega) _) ?_
  simp +contextual only [go_sem, hlen, harg, cdD, cdN, gdT, gdF, gdD, Nat.reduceLT, Nat.reduceEqDiff, Nat.reduceAdd, Nat.reduceLeDiff, reduceIte, reduceCtorEq]
  cases hc : clashR a b with
  | true =>
    simp +contextual only [go_sem, hlen, harg, cdD, cdN, gdT, gdF, gdD, Nat.reduceLT, Nat.reduceEqDiff, Nat.reduceAdd, Nat.reduceLeDiff, reduceIte, reduceCtorEq]
    refine lfunG_eq (hready _) ?_
    simp only [go_sem, hlen, harg, cdD, cdN, gdT, gdF, gdD, Nat.reduceLT, Nat.reduceEqDiff, Nat.reduceAdd, Nat.reduceLeDiff, reduceIte, reduceCtorEq]
    exact lexit_pure (.refl s) (by simp only [low]) ⟨rfl, rfl⟩
  | false =>
    have hm := m5 hc
    simp +contextual only [go_sem, hlen, harg, hm, cdD, cdN, gdT, gdF, gdD, Nat.reduceLT, Nat.reduceEqDiff, Nat.reduceAdd, Nat.reduceLeDiff, reduceIte, reduceCtorEq]
    refine lfunG_eq (same33 _ (by omega) _) ?_
    simp +contextual only [go_sem, hlen, harg, cdD, cdN, gdT, gdF, gdD, Nat.reduceLT, Nat.reduceEqDiff, Nat.reduceAdd, Nat.reduceLeDiff, reduceIte, reduceCtorEq]
    refine lfunG_eq (hready _) ?_
    simp only [go_sem, hlen, harg, cdD, cdN, gdT, gdF, gdD, Nat.reduceLT, Nat.reduceEqDiff, Nat.reduceAdd, Nat.reduceLeDiff, reduceIte, reduceCtorEq]
    exact lexit_pure (.refl s) (by simp only [low]) ⟨rfl, rfl⟩
end Go.S1N
end
section
namespace Go.S1N
open Go Go.Proofs
set_option maxRecDepth 100000
def fastVia (P : Program) : Nat → List FuncId → List FuncId → Nat → List FuncId
  | 0, _, seen, _ => seen.reverse
  | n + 1, todo, seen, mask => match todo with
    | [] => seen.reverse
    | f :: todo => match Nat.testBit mask f with
      | true => fastVia P n todo seen mask
      | false => fastVia P n ((P.funcs[f]?).elim [] P.leadsTo ++ todo) (f :: seen) (mask ||| 2 ^ f)
theorem fastVia_eq (P : Program) : ∀ (n : Nat) (todo seen : List FuncId) (mask : Nat), (∀ x, Nat.testBit mask x = seen.contains x) → P.closureVia n todo seen = fastVia P n todo seen mask
  | 0, todo, seen, mask, h => by simp [Program.closureVia, fastVia]
  | n + 1, [], seen, mask, h => by simp [Program.closureVia, fastVia]
  | n + 1, f :: todo, seen, mask, h => by
    rw [Program.closureVia, fastVia, h f]
    cases hc : seen.contains f with
    | true => simp only [if_true]; exact fastVia_eq P n todo seen mask h
    | false =>
      simp only [Bool.false_eq_true, if_false]
      refine fastVia_eq P n _ _ _ fun x => ?_
      rw [Nat.testBit_or, h x, Nat.testBit_two_pow, List.contains_cons]
      by_cases e : f = x
      · subst e; simp
      · have e2 : (x == f) = false := by simpa using fun q => e q.symm
        simp [e, e2]
theorem closure_fast (P : Program) (f : FuncId) : P.closure f = fastVia P (1 + (P.funcs.toList.map fun g => (P.leadsTo g).length + 1).sum) [f] [] 0 := by
  unfold Program.closure
  exact fastVia_eq P _ _ _ _ fun x => by simp
end Go.S1N
end
