/- Part 3 of a proof: texts of this work, put together. -/
import Derived.Test.YtbbmffefhocmdaaV2
section
set_option linter.unusedVariables false
set_option linter.unusedSimpArgs false
namespace Go.S1N
open Go Go.Am Go.Proofs Go.S1
set_option maxRecDepth 100000
set_option linter.unusedSimpArgs false
attribute [local irreducible] lopsB lvb lstepB lfunG lcondB lguardB ldrawB ldrunB ldstepB ldguardB lmem lval ldmem ldval ldfun lexit ldloadB ldlenB lpostB athen ablock

theorem edvs_flat (l : List (List Ed)) : (l.map edv).flatMap AV.cells = l.map edv := by
  induction l with
  | nil => rfl
  | cons c l ih =>
    have hc : (edv c).cells = [edv c] := fsv_cells
    rw [List.map_cons, List.flatMap_cons, hc, ih]; rfl
theorem edvs_len (l : List (List Ed)) : ∀ x ∈ l.map edv, x.cells.length = 1 := by
  intro x hx
  obtain ⟨c, _, rfl⟩ := List.mem_map.1 hx
  rw [show (edv c).cells = [edv c] from fsv_cells]; rfl
theorem edvs_pul (l : List (List Ed)) : PuL (l.map edv) := by
  unfold PuL
  rw [lowL_iff]
  intro x hx
  obtain ⟨c, _, rfl⟩ := List.mem_map.1 hx
  exact edv_pu c
theorem sl60_hi {b m : Nat} {i : Int} (h0 : 0 ≤ i) (h : i ≤ m) : aslice tab 60 (.rs 1 b 0 m) none (some (.int .i64 i)) none = some (.rs 1 b 0 i.toNat) := by
  simp [aslice, ty60, Tab.size, ty27, abounds, aidx, h, h0]

theorem then_short (n : Nat) (a b : List Ed) : (thenVal n a b).1.length ≤ 2000 := by
  unfold thenVal
  split
  · simp
  · split
    · simp
    · split
      · simp
      · simp only; omega
theorem fold_short (n : Nat) (l : List (List Ed)) : (foldVal n l).1.length ≤ 2000 := by
  have : ∀ (l : List (List Ed)) (out : List Ed), out.length ≤ 2000 → (foldR n out l).1.length ≤ 2000 := by
    intro l
    induction l with
    | nil => intro out h; exact h
    | cons c l ih =>
      intro out h
      rw [foldR]
      split
      · simp
      · exact ih _ (then_short n out c)
  unfold foldVal
  split
  · simp
  · split
    · simp
    · exact this l [] (by simp)

set_option maxHeartbeats 1000000 in
theorem changesFollow_ok (v : AV) (L : List Int) (hv : IsInts v L) (hL : L.length < 4611686018427387904) (s : AHeap) :
    ACall Try.prog 5 [v] s fun r t => r = .bool true ∧ t = s := by
  refine gob5 (by simp) ?_
  intro tm hlen harg
  simp (config := { contextual := true }) only [go_sem, L5, hlen, harg, ints_cells hv, ints_israw hv, lcondB_decide, lcondB_not, lguardB_decide_true, lguardB_decide_false, ldguardB_decide, Nat.reduceLT, Nat.reduceEqDiff, Nat.reduceAdd, Nat.reduceLeDiff, reduceIte, reduceCtorEq]
  have hS : ∀ (a : Int) (n : Nat) (l : List (Nat × Option AObj)), 0 ≤ a → a < 4000000000000000000 → Sm (loc s (n + 1) ((0, some (strm v a)) :: l)) (nm s.nx 0) v L a := fun a n l h1 h2 =>
    ⟨hv, hL, h1, h2, by rw [nx_loc, nm_lt]; omega, by simp only [go_sem, lcondB_decide, lcondB_not, lguardB_decide_true, lguardB_decide_false, ldguardB_decide, Nat.reduceLT, Nat.reduceEqDiff, Nat.reduceAdd, Nat.reduceLeDiff, reduceIte, reduceCtorEq]⟩
  refine lfunG_eq (rangeS (hS 0 0 [] (by omega) (by omega)) 0 10 (by omega) (by omega) (by omega)) ?_
  have hr := nextOf_lt L 0 (n := 10 - 0 + 1) (by omega) (by omega)
  obtain ⟨n, hn⟩ : ∃ n : Nat, 0 + nextOf L 0 (10 - 0 + 1) = n := ⟨(nextOf L 0 (10 - 0 + 1)).toNat, by omega⟩
  have hn10 : n ≤ 10 := by omega
  simp (config := { contextual := true }) only [go_sem, hlen, harg, ints_cells hv, ints_israw hv, hn, lcondB_decide, lcondB_not, lguardB_decide_true, lguardB_decide_false, ldguardB_decide, Nat.reduceLT, Nat.reduceEqDiff, Nat.reduceAdd, Nat.reduceLeDiff, reduceIte, reduceCtorEq]
  refine lfunG_of (changeS (hS _ _ _ (by omega) (by omega)) (by omega) _) ?_
  rintro _ _ ⟨a, k1, rfl, ha, hna, hk1, rfl⟩
  have hsa := edv_sl a
  have hna' : ∀ e ∈ a, e.new.length ≤ 100000 := fun e he => by have := hna e he; omega
  simp (config := { contextual := true }) only [go_sem, hlen, harg, lcondB_decide, lcondB_not, lguardB_decide_true, lguardB_decide_false, ldguardB_decide, Nat.reduceLT, Nat.reduceEqDiff, Nat.reduceAdd, Nat.reduceLeDiff, reduceIte, reduceCtorEq]
  refine lfunG_eq (exact_of (by simp only [Pu, low, lowL, and_self]) (fault_ok _ _ a hsa (by omega) _)) ?_
  simp (config := { contextual := true }) only [go_sem, hlen, harg, Nat.reduceLT, Nat.reduceEqDiff, Nat.reduceAdd, Nat.reduceLeDiff, reduceIte, reduceCtorEq]
  generalize hstr : 0 + 1 + (k1 : Int) = str
  refine lcondB_cut 108 (fun m : Int => [(3, .ptr (nm s.nx 0) 0), (4, .int .i64 n), (5, edv a), (6, .int .i64 m)]) (fun _ => loc s 1 [(0, some (strm v str))]) (fun m => True) ?_ ?_
  · simp (config := { contextual := true }) only [go_sem, hlen, harg, lcondB_decide, lcondB_not, lguardB_decide_true, lguardB_decide_false, ldguardB_decide, Nat.reduceLT, Nat.reduceEqDiff, Nat.reduceAdd, Nat.reduceLeDiff, reduceIte, reduceCtorEq]
    refine ⟨fun c1 => ?_, fun c1 => ?_⟩
    · obtain ⟨hq0, hq1, hm2, hsc⟩ := faultOf_zero c1
      refine lfunG_eq (lengthOf_ok n _ a hsa (by omega) (by omega) hna' hsc _) ?_
      simp (config := { contextual := true }) only [go_sem, hlen, harg, lcondB_decide, lcondB_not, lguardB_decide_true, lguardB_decide_false, ldguardB_decide, Nat.reduceLT, Nat.reduceEqDiff, Nat.reduceAdd, Nat.reduceLeDiff, reduceIte, reduceCtorEq]
      refine ⟨by simp only [go_sem, hlen], ((flowFrom n 0 a).length : Int), trivial, rfl, ?_⟩
      simp only [go_sem, hlen, harg, lcondB_decide, lcondB_not, lguardB_decide_true, lguardB_decide_false, ldguardB_decide, Nat.reduceLT, Nat.reduceEqDiff, Nat.reduceAdd, Nat.reduceLeDiff, reduceIte, reduceCtorEq]
    · refine ⟨by simp only [go_sem, hlen], (n : Int), trivial, rfl, ?_⟩
      simp only [go_sem, hlen, harg, lcondB_decide, lcondB_not, lguardB_decide_true, lguardB_decide_false, ldguardB_decide, Nat.reduceLT, Nat.reduceEqDiff, Nat.reduceAdd, Nat.reduceLeDiff, reduceIte, reduceCtorEq]
  rintro m tm1 - hlen1 hlv
  simp only [go_sem, lcondB_decide, lcondB_not, lguardB_decide_true, lguardB_decide_false, ldguardB_decide, Nat.reduceLT, Nat.reduceEqDiff, Nat.reduceAdd, Nat.reduceLeDiff, reduceIte, reduceCtorEq] at hlv
  simp (config := { contextual := true }) only [go_sem, hlen1, hlv, lcondB_decide, lcondB_not, lguardB_decide_true, lguardB_decide_false, ldguardB_decide, Nat.reduceLT, Nat.reduceEqDiff, Nat.reduceAdd, Nat.reduceLeDiff, reduceIte, reduceCtorEq]
  refine lfunG_of (changeS (hS _ _ _ (by omega) (by omega)) (by omega) _) ?_
  rintro _ _ ⟨b, k2, rfl, hb, hnb, hk2, rfl⟩
  have hsb := edv_sl b
  have hnb' : ∀ e ∈ b, e.new.length ≤ 100000 := fun e he => by have := hnb e he; omega
  have hfa : (edv a).cells = [edv a] := fsv_cells
  have hfb : (edv b).cells = [edv b] := fsv_cells
  have hra : (edv a).israw = false := fsv_israw
  have hrb : (edv b).israw = false := fsv_israw
  simp (config := { contextual := true }) only [go_sem, hlen1, hlv, hfa, hfb, hra, hrb, lcondB_decide, lcondB_not, lguardB_decide_true, lguardB_decide_false, ldguardB_decide, Nat.reduceLT, Nat.reduceEqDiff, Nat.reduceAdd, Nat.reduceLeDiff, reduceIte, reduceCtorEq]
  refine lfunG_eq (exact_of (by simp only [Pu, low, lowL, and_self]) (fault_ok _ _ b hsb (by omega) _)) ?_
  simp (config := { contextual := true }) only [go_sem, hlen1, hlv, Nat.reduceLT, Nat.reduceEqDiff, Nat.reduceAdd, Nat.reduceLeDiff, reduceIte, reduceCtorEq]
  refine lguardB_cut 108 (fun x : Bool × Int => [(3, .ptr (nm s.nx 0) 0), (4, .int .i64 n), (5, edv a), (6, .int .i64 m), (7, edv b), (8, .rs 1 (nm s.nx 1) 0 2), (46, .bool x.1)])
    (fun x => loc s 2 [(0, some (strm v x.2)), (1, some (.cells [edv a, edv b] (some 27)))]) (fun x => (x.1 = true → faultOf m b = 0) ∧ 0 ≤ x.2 ∧ x.2 ≤ 1000) 2 ?_ ?_
  · simp (config := { contextual := true }) only [go_sem, hlen1, hlv, lcondB_decide, lcondB_not, lguardB_decide_true, lguardB_decide_false, ldguardB_decide, Nat.reduceLT, Nat.reduceEqDiff, Nat.reduceAdd, Nat.reduceLeDiff, reduceIte, reduceCtorEq]
    refine ⟨fun c2 => ?_, fun c2 => ?_⟩
    · refine lfunG_eq (flipS (hS _ _ _ (by omega) (by omega)) 2) ?_
      simp (config := { contextual := true }) only [go_sem, hlen1, hlv, lcondB_decide, lcondB_not, lguardB_decide_true, lguardB_decide_false, ldguardB_decide, Nat.reduceLT, Nat.reduceEqDiff, Nat.reduceAdd, Nat.reduceLeDiff, reduceIte, reduceCtorEq]
      refine ⟨by simp only [go_sem, hlen1], (decide (nextOf L (str + k2) 2 = 0), str + k2 + 1), ⟨fun _ => trivial, by simp only; omega, by simp only; omega⟩, rfl, ?_⟩
      simp only [go_sem, hlen1, hlv, lcondB_decide, lcondB_not, lguardB_decide_true, lguardB_decide_false, ldguardB_decide, Nat.reduceLT, Nat.reduceEqDiff, Nat.reduceAdd, Nat.reduceLeDiff, reduceIte, reduceCtorEq]
    · refine ⟨by simp only [go_sem, hlen1], (false, str + k2), ⟨fun h => by simp at h, by simp only; omega, by simp only; omega⟩, rfl, ?_⟩
      simp only [go_sem, hlen1, hlv, lcondB_decide, lcondB_not, lguardB_decide_true, lguardB_decide_false, ldguardB_decide, Nat.reduceLT, Nat.reduceEqDiff, Nat.reduceAdd, Nat.reduceLeDiff, reduceIte, reduceCtorEq]
  rintro ⟨β, st⟩ tm2 ⟨hβ, hs0, hs1⟩ hlen2 hlv2
  simp only [go_sem, lcondB_decide, lcondB_not, lguardB_decide_true, lguardB_decide_false, ldguardB_decide, Nat.reduceLT, Nat.reduceEqDiff, Nat.reduceAdd, Nat.reduceLeDiff, reduceIte, reduceCtorEq] at hlv2 hβ hs0 hs1
  simp (config := { contextual := true }) only [go_sem, hlen2, hlv2, Nat.reduceLT, Nat.reduceEqDiff, Nat.reduceAdd, Nat.reduceLeDiff, reduceIte, reduceCtorEq]
  refine lcondB_cut 108 (fun x : List (List Ed) × Int × Nat × Nat × List (Nat × Option AObj) => [(3, .ptr (nm s.nx 0) 0), (4, .int .i64 n), (5, edv a), (7, edv b), (8, .rs 1 (nm s.nx x.2.2.1) 0 x.1.length)])
    (fun x => loc s x.2.2.2.1 x.2.2.2.2) (fun x => x.1.length ≤ 3 ∧ (∀ c ∈ x.1, c.length ≤ 2000 ∧ ∀ e ∈ c, e.new.length ≤ 100000) ∧ 0 ≤ x.2.1 ∧ x.2.1 ≤ 2000 ∧ 0 < x.2.2.2.1 ∧ x.2.2.1 ≠ 0 ∧ lget x.2.2.2.2 0 = some (strm v x.2.1) ∧
      lget x.2.2.2.2 x.2.2.1 = some (.cells (x.1.map edv) (some 27))) ?_ ?_
  · rw [lcondB_bool]
    refine ⟨fun c3 => ?_, fun c3 => ?_⟩
    · obtain ⟨hq0, hq1, hm2, hsc⟩ := faultOf_zero (hβ c3)
      obtain ⟨M, rfl⟩ : ∃ M : Nat, m = M := ⟨m.toNat, by omega⟩
      simp (config := { contextual := true }) only [go_sem, hlen2, hlv2, lcondB_decide, lcondB_not, lguardB_decide_true, lguardB_decide_false, ldguardB_decide, Nat.reduceLT, Nat.reduceEqDiff, Nat.reduceAdd, Nat.reduceLeDiff, reduceIte, reduceCtorEq]
      refine lfunG_eq (lengthOf_ok M _ b hsb (by omega) (by omega) hnb' hsc _) ?_
      simp (config := { contextual := true }) only [go_sem, hlen2, hlv2, lcondB_decide, lcondB_not, lguardB_decide_true, lguardB_decide_false, ldguardB_decide, Nat.reduceLT, Nat.reduceEqDiff, Nat.reduceAdd, Nat.reduceLeDiff, reduceIte, reduceCtorEq]
      refine lfunG_of (changeS (hS _ _ _ (by omega) (by omega)) (by omega) _) ?_
      rintro _ _ ⟨c, k3, rfl, hc, hnc, hk3, rfl⟩
      have hfc : (edv c).cells = [edv c] := fsv_cells
      have hrc : (edv c).israw = false := fsv_israw
      simp (config := { contextual := true }) only [go_sem, hlen2, hlv2, hfc, hrc, lcondB_decide, lcondB_not, lguardB_decide_true, lguardB_decide_false, ldguardB_decide, Nat.reduceLT, Nat.reduceEqDiff, Nat.reduceAdd, Nat.reduceLeDiff, reduceIte, reduceCtorEq]
      rw [show (AV.rs 1 (nm s.nx 1) 0 2) = gsv 1 (nm s.nx 1) 2 from (gsv_pos (by decide)).symm]
      refine lmem_eq (app60 (c := [edv a, edv b]) (acellsOf_rs (by simp only [go_sem, lcondB_decide, lcondB_not, lguardB_decide_true, lguardB_decide_false, ldguardB_decide, Nat.reduceLT, Nat.reduceEqDiff, Nat.reduceAdd, Nat.reduceLeDiff, reduceIte, reduceCtorEq]; rfl) (by rfl) rfl) (by decide) (by simp only [List.all_cons, List.all_nil, Bool.and_true]; exact fsv_one) (by simp only [go_sem, lcondB_decide, lcondB_not, lguardB_decide_true, lguardB_decide_false, ldguardB_decide, Nat.reduceLT, Nat.reduceEqDiff, Nat.reduceAdd, Nat.reduceLeDiff, reduceIte, reduceCtorEq]; rfl) rfl (by omega) rfl) ?_
      simp (config := { contextual := true }) only [go_sem, hlen2, hlv2, lcondB_decide, lcondB_not, lguardB_decide_true, lguardB_decide_false, ldguardB_decide, Nat.reduceLT, Nat.reduceEqDiff, Nat.reduceAdd, Nat.reduceLeDiff, reduceIte, reduceCtorEq]
      refine ⟨by simp only [go_sem, hlen2], ([a, b, c], st + k3, 3, 4, _), ⟨by simp, ?_, by simp only; omega, by simp only; omega, by simp, by simp, ?_, ?_⟩, rfl, ?_⟩
      · intro x hx
        simp only [List.mem_cons, List.not_mem_nil, or_false] at hx
        rcases hx with rfl | rfl | rfl
        · exact ⟨by omega, hna'⟩
        · exact ⟨by omega, hnb'⟩
        · exact ⟨by omega, fun e he => by have := hnc e he; omega⟩
      · simp only [go_sem, lcondB_decide, lcondB_not, lguardB_decide_true, lguardB_decide_false, ldguardB_decide, Nat.reduceLT, Nat.reduceEqDiff, Nat.reduceAdd, Nat.reduceLeDiff, reduceIte, reduceCtorEq]
      · simp only [go_sem, lcondB_decide, lcondB_not, lguardB_decide_true, lguardB_decide_false, ldguardB_decide, Nat.reduceLT, Nat.reduceEqDiff, Nat.reduceAdd, Nat.reduceLeDiff, reduceIte, reduceCtorEq]
      · simp only [go_sem, hlen2, hlv2, lcondB_decide, lcondB_not, lguardB_decide_true, lguardB_decide_false, ldguardB_decide, Nat.reduceLT, Nat.reduceEqDiff, Nat.reduceAdd, Nat.reduceLeDiff, reduceIte, reduceCtorEq]
    · simp only [lvb_skip, athen_normal]
      refine ⟨by simp only [go_sem, hlen2], ([a, b], st, 1, 2, _), ⟨by simp, ?_, hs0, by simp only; omega, by simp, by simp, ?_, ?_⟩, rfl, ?_⟩
      · intro x hx
        simp only [List.mem_cons, List.not_mem_nil, or_false] at hx
        rcases hx with rfl | rfl
        · exact ⟨by omega, hna'⟩
        · exact ⟨by omega, hnb'⟩
      · simp only [go_sem, lcondB_decide, lcondB_not, lguardB_decide_true, lguardB_decide_false, ldguardB_decide, Nat.reduceLT, Nat.reduceEqDiff, Nat.reduceAdd, Nat.reduceLeDiff, reduceIte, reduceCtorEq]
      · simp only [go_sem, lcondB_decide, lcondB_not, lguardB_decide_true, lguardB_decide_false, ldguardB_decide, Nat.reduceLT, Nat.reduceEqDiff, Nat.reduceAdd, Nat.reduceLeDiff, reduceIte, reduceCtorEq]
      · simp only [go_sem, hlen2, hlv2, lcondB_decide, lcondB_not, lguardB_decide_true, lguardB_decide_false, ldguardB_decide, Nat.reduceLT, Nat.reduceEqDiff, Nat.reduceAdd, Nat.reduceLeDiff, reduceIte, reduceCtorEq]
  rintro ⟨all, st2, k, nn, l⟩ tm3 ⟨hal, halln, hs2, hs3, hnn, hk, hl0, hlk⟩ hlen3 hlv3
  simp only [go_sem, lcondB_decide, lcondB_not, lguardB_decide_true, lguardB_decide_false, ldguardB_decide, Nat.reduceLT, Nat.reduceEqDiff, Nat.reduceAdd, Nat.reduceLeDiff, reduceIte, reduceCtorEq] at hlv3 hal halln hs2 hs3 hnn hk hl0 hlk
  simp (config := { contextual := true }) only [go_sem, hlen3, hlv3, lcondB_decide, lcondB_not, lguardB_decide_true, lguardB_decide_false, ldguardB_decide, Nat.reduceLT, Nat.reduceEqDiff, Nat.reduceAdd, Nat.reduceLeDiff, reduceIte, reduceCtorEq]
  have hSm : Sm (loc s nn l) (nm s.nx 0) v L st2 := ⟨hv, hL, hs2, by omega, by rw [nx_loc, nm_lt]; exact hnn, by rw [get_loc_nm]; exact hl0⟩
  refine lfunG_eq (rangeS hSm 0 all.length (by omega) (by omega) (by omega)) ?_
  have hr2 := nextOf_lt L st2 (n := (all.length : Int) - 0 + 1) (by omega) (by omega)
  obtain ⟨q, hq⟩ : ∃ q : Nat, 0 + nextOf L st2 ((all.length : Int) - 0 + 1) = q := ⟨(nextOf L st2 ((all.length : Int) - 0 + 1)).toNat, by omega⟩
  have hqa : q ≤ all.length := by omega
  have hsl : aslice tab 60 (.rs 1 (nm s.nx k) 0 all.length) none (some (.int .i64 (q : Int))) none = some (.rs 1 (nm s.nx k) 0 q) := by rw [sl60_hi (by omega) (by omega)]; rfl
  simp (config := { contextual := true }) only [go_sem, hlen3, hlv3, hq, hsl, lcondB_decide, lcondB_not, lguardB_decide_true, lguardB_decide_false, ldguardB_decide, Nat.reduceLT, Nat.reduceEqDiff, Nat.reduceAdd, Nat.reduceLeDiff, reduceIte, reduceCtorEq]
  refine lfunG_eq (thenX_ok n _ _ a b hsa hsb (by omega) (by omega) hna' hnb' (by omega) _) ?_
  simp (config := { contextual := true }) only [go_sem, hlen3, hlv3, lcondB_decide, lcondB_not, lguardB_decide_true, lguardB_decide_false, ldguardB_decide, Nat.reduceLT, Nat.reduceEqDiff, Nat.reduceAdd, Nat.reduceLeDiff, reduceIte, reduceCtorEq]
  obtain ⟨W, hW, hW2⟩ : ∃ W : List (List Ed), q = W.length ∧ W = all.take q := ⟨all.take q, by rw [List.length_take]; omega, rfl⟩
  have hsplit : all.map edv = W.map edv ++ (all.drop q).map edv := by rw [hW2, ← List.map_append, List.take_append_drop]
  have hWn : ∀ c ∈ W, c.length ≤ 2000 ∧ ∀ e ∈ c, e.new.length ≤ 100000 := fun c hc => halln c (List.mem_of_mem_take (by rw [← hW2]; exact hc))
  have hWl : W.length ≤ 1000 := by omega
  have hWis := eds_is W
  refine lfunG_trim k ((W.map edv).flatMap AV.cells) ((all.drop q).map edv) (T := some 27) (by rw [lget_lput, if_neg hk, hlk, edvs_flat, hsplit]) ?_
  refine lfunG_freeze k 1 (W.map edv) (by rw [lget_lput, if_pos rfl]) (edvs_len W) ?_
  simp (config := { contextual := true }) only [go_sem, hlen3, hlv3, hW, List.length_map, pu_fz (edv_pu _), lcondB_decide, lcondB_not, lguardB_decide_true, lguardB_decide_false, ldguardB_decide, Nat.reduceLT, Nat.reduceEqDiff, Nat.reduceAdd, Nat.reduceLeDiff, reduceIte, reduceCtorEq]
  refine lfunG_eq (foldX_ok n (by omega) _ W hWis hWl hWn _) ?_
  simp (config := { contextual := true }) only [go_sem, hlen3, hlv3, hW, List.length_map, pu_fz (edv_pu _), lcondB_decide, lcondB_not, lguardB_decide_true, lguardB_decide_false, ldguardB_decide, Nat.reduceLT, Nat.reduceEqDiff, Nat.reduceAdd, Nat.reduceLeDiff, reduceIte, reduceCtorEq]
  refine lfunG_eq (thenOf_ok n _ _ a b hsa hsb (by omega) (by omega) hna' hnb' (by omega) _) ?_
  simp (config := { contextual := true }) only [go_sem, hlen3, hlv3, hW, List.length_map, pu_fz (edv_pu _), lcondB_decide, lcondB_not, lguardB_decide_true, lguardB_decide_false, ldguardB_decide, Nat.reduceLT, Nat.reduceEqDiff, Nat.reduceAdd, Nat.reduceLeDiff, reduceIte, reduceCtorEq]
  refine lfunG_eq (foldOf_ok n _ W hWis hWl hWn _) ?_
  have g1 := then_short n a b
  have g2 := fold_short n W
  simp (config := { contextual := true }) only [go_sem, hlen3, hlv3, hW, List.length_map, pu_fz (edv_pu _), lcondB_decide, lcondB_not, lguardB_decide_true, lguardB_decide_false, ldguardB_decide, Nat.reduceLT, Nat.reduceEqDiff, Nat.reduceAdd, Nat.reduceLeDiff, reduceIte, reduceCtorEq]
  refine lfunG_eq (same33 _ (by omega) _) ?_
  simp (config := { contextual := true }) only [go_sem, hlen3, hlv3, hW, List.length_map, pu_fz (edv_pu _), lcondB_decide, lcondB_not, lguardB_decide_true, lguardB_decide_false, ldguardB_decide, Nat.reduceLT, Nat.reduceEqDiff, Nat.reduceAdd, Nat.reduceLeDiff, reduceIte, reduceCtorEq]
  refine lfunG_eq (same33 _ (by omega) _) ?_
  simp (config := { contextual := true }) only [go_sem, hlen3, hlv3, lcondB_decide, lcondB_not, lguardB_decide_true, lguardB_decide_false, ldguardB_decide, Nat.reduceLT, Nat.reduceEqDiff, Nat.reduceAdd, Nat.reduceLeDiff, reduceIte, reduceCtorEq]
  refine lfunG_eq (edited_ok _) ?_
  simp only [go_sem, hlen3, hlv3, lcondB_decide, lcondB_not, lguardB_decide_true, lguardB_decide_false, ldguardB_decide, Nat.reduceLT, Nat.reduceEqDiff, Nat.reduceAdd, Nat.reduceLeDiff, reduceIte, reduceCtorEq]
  exact lexit_pure (.refl s) (by simp only [low]) ⟨rfl, rfl⟩
end Go.S1N
end
