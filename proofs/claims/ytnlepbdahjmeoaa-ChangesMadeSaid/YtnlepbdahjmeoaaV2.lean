/- Part 2 of a proof: texts of this work, put together. -/
import Derived.Test.YtnlepbdahjmeoaaV1
section
set_option linter.unusedVariables false
set_option linter.unusedSimpArgs false
namespace Go.S1N
open Go Go.Am Go.Proofs Go.S1
set_option maxRecDepth 100000
set_option linter.unusedSimpArgs false
attribute [local irreducible] lopsB lvb lstepB lfunG lcondB lguardB ldrawB ldrunB ldstepB ldguardB lmem lval ldmem ldval ldfun lexit ldloadB ldlenB lpostB athen ablock

theorem eq_of_take {α : Type} {a b : List α} {i : Nat} (h : a.take i = b.take i) (hi : i = a.length) (hl : a.length = b.length) : a = b := by
  subst hi
  rw [List.take_length, hl, List.take_length] at h
  exact h

theorem take_snoc {α : Type} {a b : List α} {i : Nat} {x : α} (h : a.take i = b.take i) (ha : a[i]? = some x) (hb : b[i]? = some x) : a.take (i + 1) = b.take (i + 1) := by
  rw [List.take_add_one, List.take_add_one, h, ha, hb]

theorem ints_at' {v : AV} {l : List Int} (h : IsInts v l) {i : Nat} {x : Int} (he : l[i]? = some x) : aindexAddr tab 22 v (.int .i64 i) = some (.rptr [.int .i64 x]) :=
  h.at (n := i) (by omega) (by simpa using he)

theorem equalInts_ok {v w : AV} {a b : List Int} (hv : IsInts v a) (hw : IsInts w b) (ha : a.length < 4611686018427387904) (s : AHeap) :
    ACall Try.prog 32 [v, w] s fun r t => r = .bool (decide (a = b)) ∧ t = s := by
  refine gob32 (by simp) ?_
  intro tm hlen harg
  simp (config := { contextual := true }) only [go_sem, L32, hlen, harg, hv.len, hw.len, lcondB_decide, lcondB_not, lguardB_decide_true, lguardB_decide_false, ldguardB_decide, Nat.reduceLT, Nat.reduceEqDiff, Nat.reduceAdd, Nat.reduceLeDiff, reduceIte, reduceCtorEq]
  refine ⟨fun c => ?_, fun c => ?_⟩
  · refine lexit_pure (.refl s) (by simp only [low]) ⟨?_, rfl⟩
    have : a ≠ b := by rintro rfl; exact c rfl
    simp [this]
  · have hl : a.length = b.length := by omega
    refine ⟨Nat, fun i => [(0, v), (1, w), (12, .int .i64 a.length), (13, .int .i64 i)], fun i => loc s 0 [], fun i => i ≤ a.length ∧ a.take i = b.take i, fun i => a.length - i, 0, by simp, ?_, ?_⟩
    · refine To.go [] [] rfl (.refl s) (by decide) (by simp) ?_ trivial
      simp (config := { contextual := true }) only [go_sem, hlen, harg, pu_ren hv.pu, pu_ren hw.pu, lcondB_decide, lcondB_not, lguardB_decide_true, lguardB_decide_false, ldguardB_decide, Nat.reduceLT, Nat.reduceEqDiff, Nat.reduceAdd, Nat.reduceLeDiff, reduceIte, reduceCtorEq]
      simp [hl]
    · rintro i tm1 ⟨hi, ht⟩ hlen1 hlv
      simp only [go_sem, hlen, lcondB_decide, lcondB_not, lguardB_decide_true, lguardB_decide_false, ldguardB_decide, Nat.reduceLT, Nat.reduceEqDiff, Nat.reduceAdd, Nat.reduceLeDiff, reduceIte, reduceCtorEq] at hlen1 hlv
      simp (config := { contextual := true }) only [go_sem, hlen, hlen1, hlv, lcondB_decide, lcondB_not, lguardB_decide_true, lguardB_decide_false, ldguardB_decide, Nat.reduceLT, Nat.reduceEqDiff, Nat.reduceAdd, Nat.reduceLeDiff, reduceIte, reduceCtorEq]
      refine ⟨fun hlt => ?_, fun hge => ?_⟩
      · have hea := List.getElem?_eq_getElem (show i < a.length by omega)
        have heb := List.getElem?_eq_getElem (show i < b.length by omega)
        generalize a[i] = x at hea
        generalize b[i] = y at heb
        have hw1 : IntKind.i64.wrap ((i : Int) + 1) = ((i + 1 : Nat) : Int) := by rw [wrap_id (by omega)]; rfl
        refine ldrawB_go [] [] 8 (by decide) ?_
        simp (config := { contextual := true }) only [go_sem, hlen1, hlv, ints_at' hv hea, ints_at' hw heb, hw1, lcondB_decide, lcondB_not, lguardB_decide_true, lguardB_decide_false, ldguardB_decide, Nat.reduceLT, Nat.reduceEqDiff, Nat.reduceAdd, Nat.reduceLeDiff, reduceIte, reduceCtorEq]
        refine ⟨by kernel_rfl, fun hne => ?_, fun he => ?_⟩
        · refine lexit_pure (.refl s) (by simp only [low]) ⟨?_, rfl⟩
          have : a ≠ b := by rintro rfl; rw [hea] at heb; cases heb; exact hne rfl
          simp [this]
        · refine ⟨i + 1, ⟨by omega, take_snoc ht hea (by rw [heb, he])⟩, by omega, ?_⟩
          refine To.go [] [] rfl (.refl s) (by decide) (by simp) ?_ trivial
          simp (config := { contextual := true }) only [go_sem, hlen1, hlv, pu_ren hv.pu, pu_ren hw.pu, lcondB_decide, lcondB_not, lguardB_decide_true, lguardB_decide_false, ldguardB_decide, Nat.reduceLT, Nat.reduceEqDiff, Nat.reduceAdd, Nat.reduceLeDiff, reduceIte, reduceCtorEq]
      · refine lexit_pure (.refl s) (by simp only [low]) ⟨?_, rfl⟩
        simp [eq_of_take ht (by omega) hl]

theorem Ed.ext' {a b : Ed} (h1 : a.at_ = b.at_) (h2 : a.cut = b.cut) (h3 : a.new = b.new) : a = b := by cases a; cases b; simp_all

theorem beqd {α : Type} [BEq α] [LawfulBEq α] [DecidableEq α] {a b : α} : (a == b) = decide (a = b) := by
  by_cases h : a = b <;> simp [h]

theorem neq35 {a b a' b' : Int} {c c' : List UInt8} : abin tab .neq 35 (.agg [.int .i64 a, .int .i64 b, .str c]) (.agg [.int .i64 a', .int .i64 b', .str c']) = some (.bool (decide (¬ (a = a' ∧ b = b' ∧ c = c')))) := by
  simp [abin, abin1, aeq, ty35, ty3, ty9, aeqFields, apart, TD.isAgg, beqd]
  by_cases h1 : a = a' <;> by_cases h2 : b = b' <;> by_cases h3 : c = c' <;> simp [h1, h2, h3]

theorem equalEds_ok {v w : AV} {a b : List Ed} (hv : SlE v a) (hw : SlE w b) (ha : a.length < 4611686018427387904) (s : AHeap) [Decidable (a = b)] :
    ACall Try.prog 33 [v, w] s fun r t => r = .bool (decide (a = b)) ∧ t = s := by
  refine gob33 (by simp) ?_
  intro tm hlen harg
  simp (config := { contextual := true }) only [go_sem, L33, hlen, harg, hv.len, hw.len, lcondB_decide, lcondB_not, lguardB_decide_true, lguardB_decide_false, ldguardB_decide, Nat.reduceLT, Nat.reduceEqDiff, Nat.reduceAdd, Nat.reduceLeDiff, reduceIte, reduceCtorEq]
  refine ⟨fun c => ?_, fun c => ?_⟩
  · refine lexit_pure (.refl s) (by simp only [low]) ⟨?_, rfl⟩
    have : a ≠ b := by rintro rfl; exact c rfl
    simp [this]
  · have hl : a.length = b.length := by omega
    refine ⟨Nat, fun i => [(0, v), (1, w), (12, .int .i64 a.length), (13, .int .i64 i)], fun i => loc s 0 [], fun i => i ≤ a.length ∧ a.take i = b.take i, fun i => a.length - i, 0, by simp, ?_, ?_⟩
    · refine To.go [] [] rfl (.refl s) (by decide) (by simp) ?_ trivial
      simp (config := { contextual := true }) only [go_sem, hlen, harg, pu_ren hv.pu, pu_ren hw.pu, lcondB_decide, lcondB_not, lguardB_decide_true, lguardB_decide_false, ldguardB_decide, Nat.reduceLT, Nat.reduceEqDiff, Nat.reduceAdd, Nat.reduceLeDiff, reduceIte, reduceCtorEq]
      simp [hl]
    · rintro i tm1 ⟨hi, ht⟩ hlen1 hlv
      simp only [go_sem, hlen, lcondB_decide, lcondB_not, lguardB_decide_true, lguardB_decide_false, ldguardB_decide, Nat.reduceLT, Nat.reduceEqDiff, Nat.reduceAdd, Nat.reduceLeDiff, reduceIte, reduceCtorEq] at hlen1 hlv
      simp (config := { contextual := true }) only [go_sem, hlen, hlen1, hlv, lcondB_decide, lcondB_not, lguardB_decide_true, lguardB_decide_false, ldguardB_decide, Nat.reduceLT, Nat.reduceEqDiff, Nat.reduceAdd, Nat.reduceLeDiff, reduceIte, reduceCtorEq]
      refine ⟨fun hlt => ?_, fun hge => ?_⟩
      · have hea := List.getElem?_eq_getElem (show i < a.length by omega)
        have heb := List.getElem?_eq_getElem (show i < b.length by omega)
        generalize a[i] = x at hea
        generalize b[i] = y at heb
        have hw1 : IntKind.i64.wrap ((i : Int) + 1) = ((i + 1 : Nat) : Int) := by rw [wrap_id (by omega)]; rfl
        refine ldrawB_go [] [] 8 (by decide) ?_
        simp only [go_sem, hlen1, hlv, hv.at hea, hw.at heb, neq35, hw1, lcondB_decide, Nat.reduceLT, Nat.reduceEqDiff, Nat.reduceAdd, Nat.reduceLeDiff, reduceIte, reduceCtorEq]
        refine ⟨by kernel_rfl, fun hne => ?_, fun he => ?_⟩
        · refine lexit_pure (.refl s) (by simp only [low]) ⟨?_, rfl⟩
          have : a ≠ b := by rintro rfl; rw [hea] at heb; cases heb; exact hne ⟨rfl, rfl, rfl⟩
          simp [this]
        · have he : _ ∧ _ ∧ _ := he
          have hxy : y = x := (Ed.ext' he.1 he.2.1 he.2.2).symm
          refine ⟨i + 1, ⟨by omega, take_snoc ht hea (by rw [heb, hxy])⟩, by omega, ?_⟩
          refine To.go [] [] rfl (.refl s) (by decide) (by simp) ?_ trivial
          simp (config := { contextual := true }) only [go_sem, hlen1, hlv, pu_ren hv.pu, pu_ren hw.pu, lcondB_decide, lcondB_not, lguardB_decide_true, lguardB_decide_false, ldguardB_decide, Nat.reduceLT, Nat.reduceEqDiff, Nat.reduceAdd, Nat.reduceLeDiff, reduceIte, reduceCtorEq]
      · refine lexit_pure (.refl s) (by simp only [low]) ⟨?_, rfl⟩
        simp [eq_of_take ht (by omega) hl]
end Go.S1N
end
section
set_option linter.unusedVariables false
set_option linter.unusedSimpArgs false
namespace Go.S1N
open Go Go.Am Go.Proofs Go.S1
set_option maxRecDepth 100000
set_option linter.unusedSimpArgs false
attribute [local irreducible] lopsB lvb lstepB lfunG lcondB lguardB ldrawB ldrunB ldstepB ldguardB lmem lval ldmem ldval ldfun lexit ldloadB ldlenB lpostB athen ablock

/-- the edits that undo -/
def invFrom (x : List UInt8) (sh : Int) : List Ed → List Ed
  | [] => []
  | e :: r => ⟨e.at_ + sh, e.new.length, (x.drop e.at_.toNat).take ((e.at_ + e.cut).toNat - e.at_.toNat)⟩ :: invFrom x (sh + (e.new.length - e.cut)) r
def inverseVal (x : List UInt8) (l : List Ed) : List Ed × Int := if textFault x l ≠ 0 then ([], textFault x l) else (invFrom x 0 l, 0)

theorem gso_ed {O : List Ed} {z : Ed} : gso 35 (edc (O ++ [z])) = some (.cells (edc (O ++ [z])) (some 35)) := gso_pos (by simp [edc_snoc])

theorem inverse_ok (x : List UInt8) (v : AV) (l : List Ed) (hv : SlE v l) (hl : l.length < 4611686018427387904) (hnew : ∀ e ∈ l, e.new.length ≤ 100000) (s : AHeap) :
    ACall Try.prog 24 [.str x, v] s fun r t => r = .tuple [edv (inverseVal x l).1, .int .i64 (inverseVal x l).2] ∧ t = s := by
  refine gob24 (by simp) ?_
  intro tm hlen harg
  simp (config := { contextual := true }) only [go_sem, L24, hlen, harg, lcondB_decide, lcondB_not, lguardB_decide_true, lguardB_decide_false, ldguardB_decide, Nat.reduceLT, Nat.reduceEqDiff, Nat.reduceAdd, Nat.reduceLeDiff, reduceIte, reduceCtorEq]
  refine lfunG_eq (checkTextE x v l hv hl _) ?_
  simp (config := { contextual := true }) only [go_sem, hlen, harg, hv.len, lcondB_decide, lcondB_not, lguardB_decide_true, lguardB_decide_false, ldguardB_decide, Nat.reduceLT, Nat.reduceEqDiff, Nat.reduceAdd, Nat.reduceLeDiff, reduceIte, reduceCtorEq]
  refine ⟨fun c => ?_, fun c => ?_⟩
  · refine lexit_pure (.refl s) (by simp only [low, lowL, and_self]) ⟨?_, rfl⟩
    rw [inverseVal, if_pos c]; rfl
  · obtain ⟨hx, hl2, hsc⟩ := textFault_zero c
    have hval : inverseVal x l = (invFrom x 0 l, 0) := by rw [inverseVal, if_neg (by simpa using c)]
    rw [hval]
    refine ⟨Nat × Int × Int × List Ed, fun a => [(0, .str x), (7, gsv 3 (nm s.nx 0) a.2.2.2.length), (8, .int .i64 a.2.1), (17, v), (18, .int .i64 l.length), (19, .int .i64 a.1)],
      fun a => loc s 1 [(0, gso 35 (edc a.2.2.2))], fun a => a.1 ≤ l.length ∧ a.2.2.2.length = a.1 ∧ -(20000 * (a.1 : Int)) ≤ a.2.1 ∧ a.2.1 ≤ 100000 * (a.1 : Int) ∧ scan x.length a.2.2.1 (l.drop a.1) = 0 ∧ a.2.2.2 ++ invFrom x a.2.1 (l.drop a.1) = invFrom x 0 l,
      fun a => l.length - a.1, (0, 0, -1, []), ⟨by simp, by simp, by simp, by simp, by simpa using hsc, by simp⟩, ?_, ?_⟩
    · refine To.go [9] [(0, none)] (by simp only [edc, List.map_nil, List.flatMap_nil, gso_nil]; rfl) (.refl s) (by decide) (by simp) ?_ ?_
      · simp (config := { contextual := true }) only [go_sem, hlen, harg, hv.pu, pu_ren hv.pu, List.length_nil, gsv_zero, lcondB_decide, lcondB_not, lguardB_decide_true, lguardB_decide_false, ldguardB_decide, Nat.reduceLT, Nat.reduceEqDiff, Nat.reduceAdd, Nat.reduceLeDiff, reduceIte, reduceCtorEq]
        simp
      · simp only [go_sem, lcondB_decide, lcondB_not, lguardB_decide_true, lguardB_decide_false, ldguardB_decide, Nat.reduceLT, Nat.reduceEqDiff, Nat.reduceAdd, Nat.reduceLeDiff, reduceIte, reduceCtorEq]
    · rintro ⟨i, sh, B, R⟩ tm1 ⟨hi, hR, hs0, hs1, hs, hL⟩ hlen1 hlv
      simp only [go_sem, hlen, lcondB_decide, lcondB_not, lguardB_decide_true, lguardB_decide_false, ldguardB_decide, Nat.reduceLT, Nat.reduceEqDiff, Nat.reduceAdd, Nat.reduceLeDiff, reduceIte, reduceCtorEq] at hlen1 hlv hi hR hs0 hs1 hs hL
      simp (config := { contextual := true }) only [go_sem, hlen, hlen1, hlv, lcondB_decide, lcondB_not, lguardB_decide_true, lguardB_decide_false, ldguardB_decide, Nat.reduceLT, Nat.reduceEqDiff, Nat.reduceAdd, Nat.reduceLeDiff, reduceIte, reduceCtorEq]
      refine ⟨fun hlt => ?_, fun hge => ?_⟩
      · have hi2 : i < l.length := by omega
        have he := List.getElem?_eq_getElem hi2
        have hmem : l[i] ∈ l := List.getElem_mem hi2
        have hdrop := List.drop_eq_getElem_cons hi2
        generalize l[i] = e at he hdrop hmem
        have hen := hnew e hmem
        rw [hdrop] at hs hL
        obtain ⟨c1, c2, c3, c4, c5, c6⟩ := scan_cons hs
        have hw1 : IntKind.i64.wrap (e.at_ + sh) = e.at_ + sh := wrap_id (by omega)
        have hw2 : IntKind.i64.wrap (e.at_ + e.cut) = e.at_ + e.cut := wrap_id (by omega)
        have hw4 : IntKind.i64.wrap ((e.new.length : Int) - e.cut) = (e.new.length : Int) - e.cut := wrap_id (by omega)
        have hw5 : IntKind.i64.wrap (sh + ((e.new.length : Int) - e.cut)) = sh + ((e.new.length : Int) - e.cut) := wrap_id (by omega)
        have hw3 : IntKind.i64.wrap ((i : Int) + 1) = ((i + 1 : Nat) : Int) := by rw [wrap_id (by omega)]; rfl
        simp (config := { contextual := true }) only [go_sem, hlen, hlen1, hlv, hv.at he, lcondB_decide, lcondB_not, lguardB_decide_true, lguardB_decide_false, ldguardB_decide, Nat.reduceLT, Nat.reduceEqDiff, Nat.reduceAdd, Nat.reduceLeDiff, reduceIte, reduceCtorEq]
        refine ldrawB_go [18] [] 19 (by decide) ?_
        simp (config := { contextual := true }) only [go_sem, hlen1, hlv, hw1, hw2, slice9 c1 (show e.at_ ≤ e.at_ + e.cut by omega) (show e.at_ + e.cut ≤ x.length by omega), build35_3, lcondB_decide, lcondB_not, lguardB_decide_true, lguardB_decide_false, ldguardB_decide, Nat.reduceLT, Nat.reduceEqDiff, Nat.reduceAdd, Nat.reduceLeDiff, reduceIte, reduceCtorEq]
        refine ⟨by kernel_rfl, ?_⟩
        refine lmem_eq (app27 (acellsOf_rs (by simp only [go_sem, lcondB_decide, lcondB_not, lguardB_decide_true, lguardB_decide_false, ldguardB_decide, Nat.reduceLT, Nat.reduceEqDiff, Nat.reduceAdd, Nat.reduceLeDiff, reduceIte, reduceCtorEq]; rfl) (by rfl) rfl) (by decide) (by simp only [go_sem, lcondB_decide, lcondB_not, lguardB_decide_true, lguardB_decide_false, ldguardB_decide, Nat.reduceLT, Nat.reduceEqDiff, Nat.reduceAdd, Nat.reduceLeDiff, reduceIte, reduceCtorEq]) (by simp only [go_sem, lcondB_decide, lcondB_not, lguardB_decide_true, lguardB_decide_false, ldguardB_decide, Nat.reduceLT, Nat.reduceEqDiff, Nat.reduceAdd, Nat.reduceLeDiff, reduceIte, reduceCtorEq]) (edc_len R) (by omega) rfl) ?_
        simp (config := { contextual := true }) only [go_sem, hlen1, hlv, hw3, hw4, hw5, lcondB_decide, lcondB_not, lguardB_decide_true, lguardB_decide_false, ldguardB_decide, Nat.reduceLT, Nat.reduceEqDiff, Nat.reduceAdd, Nat.reduceLeDiff, reduceIte, reduceCtorEq]
        generalize hz : (⟨e.at_ + sh, e.new.length, (x.drop e.at_.toNat).take ((e.at_ + e.cut).toNat - e.at_.toNat)⟩ : Ed) = z
        refine ⟨(i + 1, sh + (e.new.length - e.cut), e.at_ + e.cut, R ++ [z]), ⟨by simp only; omega, by simp only [List.length_append, List.length_cons, List.length_nil]; omega, by simp only; omega, by simp only; omega, c6, ?_⟩, by simp only; omega, ?_⟩
        · rw [← hL, ← hz]
          simp only [invFrom, List.append_assoc, List.cons_append, List.nil_append]
        · refine To.go [22] [(0, gso 35 (edc (R ++ [z])))] rfl (.refl s) (by decide) (by simp) ?_ ?_
          · simp (config := { contextual := true }) only [go_sem, hlen1, hlv, pu_ren hv.pu, List.length_append, gsv_pos (Nat.succ_ne_zero R.length), lcondB_decide, lcondB_not, lguardB_decide_true, lguardB_decide_false, ldguardB_decide, Nat.reduceLT, Nat.reduceEqDiff, Nat.reduceAdd, Nat.reduceLeDiff, reduceIte, reduceCtorEq]
          · simp only [go_sem, map_gso_pu (edc_pul _), lcondB_decide, lcondB_not, lguardB_decide_true, lguardB_decide_false, ldguardB_decide, Nat.reduceLT, Nat.reduceEqDiff, Nat.reduceAdd, Nat.reduceLeDiff, reduceIte, reduceCtorEq]
            rw [edc_snoc, ← hz]
            exact (gso_pos (by simp)).symm
      · have hi2 : i = l.length := by omega
        rw [hi2, List.drop_length, invFrom, List.append_nil] at hL
        refine lexit_freezeG 0 3 (R.map Ed.enc) (by simp only [go_sem, lcondB_decide, lcondB_not, lguardB_decide_true, lguardB_decide_false, ldguardB_decide, Nat.reduceLT, Nat.reduceEqDiff, Nat.reduceAdd, Nat.reduceLeDiff, reduceIte, reduceCtorEq]; rfl) (enc_len R) (by decide) ?_
        simp only [go_sem, len_fz, hL, lcondB_decide, lcondB_not, lguardB_decide_true, lguardB_decide_false, ldguardB_decide, Nat.reduceLT, Nat.reduceEqDiff, Nat.reduceAdd, Nat.reduceLeDiff, reduceIte, reduceCtorEq]
        exact lexit_pure (.refl s) (by simp only [low, lowL, and_self, and_true]; exact low.mono (Nat.zero_le _) (edv_pu _)) ⟨rfl, rfl⟩
end Go.S1N
end
section
set_option linter.unusedVariables false
set_option linter.unusedSimpArgs false
namespace Go.S1N
open Go Go.Am Go.Proofs Go.S1
set_option maxRecDepth 100000
set_option linter.unusedSimpArgs false
theorem lfunG_eqc' {P : Program} {s0 s : AHeap} {N : List AV → AHeap → Prop} {f : Operand} {args : List Operand} {d : Option Nat} {tm : List AV} {g : FuncId} {av fi ca av' : List AV} {R : AV → AHeap → Prop} (he : fi ++ av ++ ca = av') (h : ACall P g av' s R) (k : ∀ v t, R v t → N (aput tm d v) t) :
    lfunG P s0 N f args d tm s (.func (.func g) fi ca) av := by
  intro hf ha
  refine .now ?_
  rw [← hf, ← ha]
  show lcall P N g (fi ++ av ++ ca) s d tm
  rw [he]
  exact lcall_of h k
theorem lexit_now {s0 s : AHeap} {R : AV → AHeap → Prop} {v : AV} (h : R v s) : lexit s0 R (some v) s := Gh.now ⟨v, rfl, h⟩
attribute [local irreducible] lopsB lvb lstepB lfunG lcondB lguardB ldrawB ldrunB ldstepB ldguardB lmem lval ldmem ldval ldfun lexit ldloadB ldlenB lpostB athen ablock

theorem loc_loc {s : AHeap} {n : Nat} {l : List (Nat × Option AObj)} (h : ∀ j, n ≤ j → lget l j = none) : loc (loc s n l) 0 [] = loc s n l := by
  unfold loc
  congr 1
  funext b
  have e : ∀ b, AHeap.get (⟨s.nx + n, true, .nil, fun b => if b < s.nx then s.get b else lget l (b - s.nx)⟩ : AHeap) b = if b < s.nx then s.get b else lget l (b - s.nx) := fun b => rfl
  by_cases hb : b < s.nx + n
  · rw [if_pos hb, e]
  · rw [if_neg hb, if_neg (by omega), h _ (by omega)]; rfl

theorem cv113 {ev : Operand → AV} {x : Operand} {b : Nat} {s : AHeap} {c : UInt8} (hx : ev x = .rs 1 b 0 1) (hg : s.get b = some (.cells [.int .u8 c.toNat] (some 5))) : lop tab ev (.convert 113 9 x) s = some (.str [c], s) := by
  simp [lop, aop, apure, aconv, amem, ty113, ty9, ty5, hx, acellsOf, hg, AObj.cells?, abytes]

/-- what push hands over -/
def pushE (a : Int) (w : List UInt8) (to : Int) : List Ed := if a < to ∨ w ≠ [] then [⟨a, to - a, w⟩] else []
/-- the edits of a flow -/
def edGo (n : Int) : Int → List UInt8 → List (Int × UInt8) → List Ed
  | a, w, [] => pushE a w n
  | a, w, p :: r => if p.1 < 0 then edGo n a (w ++ [p.2]) r else pushE a w p.1 ++ edGo n (p.1 + 1) [] r

theorem push5 {s : AHeap} {o0 : Option AObj} {a to : Int} {w : List UInt8} {L : List Ed} (ha : -1 ≤ a) (ha2 : a ≤ 1000000000000) (ht : -1 ≤ to) (ht2 : to ≤ 1000000000000) (hL : L.length ≤ 1000000000) :
    ACall Try.prog 121 [.int .i64 to, .ptr (nm s.nx 2) 0, .ptr (nm s.nx 3) 0, .ptr (nm s.nx 1) 0]
      (loc s 5 [(0, o0), (1, some (.cells [gsv 3 (nm s.nx 4) L.length] (some 27))), (2, some (.cells [.int .i64 a] (some 3))), (3, some (.cells [.str w] (some 9))), (4, gso 35 (edc L))])
      fun v t => v = .tuple [] ∧ ((pushE a w to = [] ∧ t = loc s 5 [(0, o0), (1, some (.cells [gsv 3 (nm s.nx 4) L.length] (some 27))), (2, some (.cells [.int .i64 a] (some 3))), (3, some (.cells [.str []] (some 9))), (4, gso 35 (edc L))]) ∨
        ∃ e, pushE a w to = [e] ∧ t = loc s 7 [(0, o0), (1, some (.cells [gsv 3 (nm s.nx 6) (L ++ [e]).length] (some 27))), (2, some (.cells [.int .i64 a] (some 3))), (3, some (.cells [.str []] (some 9))), (5, some (.cells [.int .i64 a, .int .i64 (to - a), .str w] (some 35))), (6, gso 35 (edc (L ++ [e])))]) := by
  refine gob121 (by simp) ?_
  intro tm hlen harg
  rw [loc_loc (by intro j hj; simp only [lget]; rw [if_neg (by omega), if_neg (by omega), if_neg (by omega), if_neg (by omega), if_neg (by omega)])]
  simp (config := { contextual := true }) only [go_sem, L121, hlen, harg, lcondB_decide, lcondB_not, lguardB_decide_true, lguardB_decide_false, ldguardB_decide, Nat.reduceLT, Nat.reduceEqDiff, Nat.reduceAdd, Nat.reduceLeDiff, reduceIte, reduceCtorEq]
  have hw : IntKind.i64.wrap (to - a) = to - a := wrap_id (by omega)
  have fin : ∀ e : Ed, e = ⟨a, to - a, w⟩ → pushE a w to = [e] →
      pushE a w to = [e] ∧ loc s 7 [(0, o0), (1, some (AObj.cells [AV.rs 3 (nm s.nx 6) 0 (L.length + 1)] (some 27))), (2, some (AObj.cells [AV.int IntKind.i64 a] (some 3))), (3, some (AObj.cells [AV.str []] (some 9))), (5, some (.cells [.int .i64 a, .int .i64 (to - a), .str w] (some 35))), (6, some (.cells (edc L ++ [.int .i64 a, .int .i64 (to - a), .str w]) (some 35)))] =
        loc s 7 [(0, o0), (1, some (.cells [gsv 3 (nm s.nx 6) (L ++ [e]).length] (some 27))), (2, some (.cells [.int .i64 a] (some 3))), (3, some (.cells [.str []] (some 9))), (5, some (.cells [.int .i64 a, .int .i64 (to - a), .str w] (some 35))), (6, gso 35 (edc (L ++ [e])))] := by
    rintro e rfl h
    refine ⟨h, ?_⟩
    rw [gso_ed, List.length_append, List.length_singleton, gsv_pos (Nat.succ_ne_zero _), edc_snoc]
  refine ⟨fun c => ?_, fun c => ⟨fun c2 => ?_, fun c2 => ?_⟩⟩
  · refine lmem_eq (app27 (acellsOf_rs (by simp only [go_sem, lcondB_decide, lcondB_not, lguardB_decide_true, lguardB_decide_false, ldguardB_decide, Nat.reduceLT, Nat.reduceEqDiff, Nat.reduceAdd, Nat.reduceLeDiff, reduceIte, reduceCtorEq]; rfl) (by rfl) rfl) (by decide) (by simp only [go_sem, lcondB_decide, lcondB_not, lguardB_decide_true, lguardB_decide_false, ldguardB_decide, Nat.reduceLT, Nat.reduceEqDiff, Nat.reduceAdd, Nat.reduceLeDiff, reduceIte, reduceCtorEq]) (by simp only [go_sem, lcondB_decide, lcondB_not, lguardB_decide_true, lguardB_decide_false, ldguardB_decide, Nat.reduceLT, Nat.reduceEqDiff, Nat.reduceAdd, Nat.reduceLeDiff, reduceIte, reduceCtorEq]) (edc_len L) (by omega) rfl) ?_
    simp (config := { contextual := true }) only [go_sem, hlen, harg, hw, lcondB_decide, lcondB_not, lguardB_decide_true, lguardB_decide_false, ldguardB_decide, Nat.reduceLT, Nat.reduceEqDiff, Nat.reduceAdd, Nat.reduceLeDiff, reduceIte, reduceCtorEq]
    exact lexit_now ⟨rfl, .inr ⟨_, fin _ rfl (if_pos (.inl c))⟩⟩
  · refine lmem_eq (app27 (acellsOf_rs (by simp only [go_sem, lcondB_decide, lcondB_not, lguardB_decide_true, lguardB_decide_false, ldguardB_decide, Nat.reduceLT, Nat.reduceEqDiff, Nat.reduceAdd, Nat.reduceLeDiff, reduceIte, reduceCtorEq]; rfl) (by rfl) rfl) (by decide) (by simp only [go_sem, lcondB_decide, lcondB_not, lguardB_decide_true, lguardB_decide_false, ldguardB_decide, Nat.reduceLT, Nat.reduceEqDiff, Nat.reduceAdd, Nat.reduceLeDiff, reduceIte, reduceCtorEq]) (by simp only [go_sem, lcondB_decide, lcondB_not, lguardB_decide_true, lguardB_decide_false, ldguardB_decide, Nat.reduceLT, Nat.reduceEqDiff, Nat.reduceAdd, Nat.reduceLeDiff, reduceIte, reduceCtorEq]) (edc_len L) (by omega) rfl) ?_
    simp (config := { contextual := true }) only [go_sem, hlen, harg, hw, lcondB_decide, lcondB_not, lguardB_decide_true, lguardB_decide_false, ldguardB_decide, Nat.reduceLT, Nat.reduceEqDiff, Nat.reduceAdd, Nat.reduceLeDiff, reduceIte, reduceCtorEq]
    exact lexit_now ⟨rfl, .inr ⟨_, fin _ rfl (if_pos (.inr c2))⟩⟩
  · subst c2
    exact lexit_now ⟨rfl, .inl ⟨if_neg (by rintro (h | h); exact c h; exact h rfl), rfl⟩⟩
theorem push6 {s : AHeap} {o0 o5 : Option AObj} {a to : Int} {w : List UInt8} {L : List Ed} (ha : -1 ≤ a) (ha2 : a ≤ 1000000000000) (ht : -1 ≤ to) (ht2 : to ≤ 1000000000000) (hL : L.length ≤ 1000000000) :
    ACall Try.prog 121 [.int .i64 to, .ptr (nm s.nx 2) 0, .ptr (nm s.nx 3) 0, .ptr (nm s.nx 1) 0]
      (loc s 6 [(0, o0), (1, some (.cells [gsv 3 (nm s.nx 4) L.length] (some 27))), (2, some (.cells [.int .i64 a] (some 3))), (3, some (.cells [.str w] (some 9))), (4, gso 35 (edc L)), (5, o5)])
      fun v t => v = .tuple [] ∧ ((pushE a w to = [] ∧ t = loc s 6 [(0, o0), (1, some (.cells [gsv 3 (nm s.nx 4) L.length] (some 27))), (2, some (.cells [.int .i64 a] (some 3))), (3, some (.cells [.str []] (some 9))), (4, gso 35 (edc L)), (5, o5)]) ∨
        ∃ e, pushE a w to = [e] ∧ t = loc s 8 [(0, o0), (1, some (.cells [gsv 3 (nm s.nx 7) (L ++ [e]).length] (some 27))), (2, some (.cells [.int .i64 a] (some 3))), (3, some (.cells [.str []] (some 9))), (5, o5), (6, some (.cells [.int .i64 a, .int .i64 (to - a), .str w] (some 35))), (7, gso 35 (edc (L ++ [e])))]) := by
  refine gob121 (by simp) ?_
  intro tm hlen harg
  rw [loc_loc (by intro j hj; simp only [lget]; rw [if_neg (by omega), if_neg (by omega), if_neg (by omega), if_neg (by omega), if_neg (by omega), if_neg (by omega)])]
  simp (config := { contextual := true }) only [go_sem, L121, hlen, harg, lcondB_decide, lcondB_not, lguardB_decide_true, lguardB_decide_false, ldguardB_decide, Nat.reduceLT, Nat.reduceEqDiff, Nat.reduceAdd, Nat.reduceLeDiff, reduceIte, reduceCtorEq]
  have hw : IntKind.i64.wrap (to - a) = to - a := wrap_id (by omega)
  have fin : ∀ e : Ed, e = ⟨a, to - a, w⟩ → pushE a w to = [e] →
      pushE a w to = [e] ∧ loc s 8 [(0, o0), (1, some (AObj.cells [AV.rs 3 (nm s.nx 7) 0 (L.length + 1)] (some 27))), (2, some (AObj.cells [AV.int IntKind.i64 a] (some 3))), (3, some (AObj.cells [AV.str []] (some 9))), (5, o5), (6, some (.cells [.int .i64 a, .int .i64 (to - a), .str w] (some 35))), (7, some (.cells (edc L ++ [.int .i64 a, .int .i64 (to - a), .str w]) (some 35)))] =
        loc s 8 [(0, o0), (1, some (.cells [gsv 3 (nm s.nx 7) (L ++ [e]).length] (some 27))), (2, some (.cells [.int .i64 a] (some 3))), (3, some (.cells [.str []] (some 9))), (5, o5), (6, some (.cells [.int .i64 a, .int .i64 (to - a), .str w] (some 35))), (7, gso 35 (edc (L ++ [e])))] := by
    rintro e rfl h
    refine ⟨h, ?_⟩
    rw [gso_ed, List.length_append, List.length_singleton, gsv_pos (Nat.succ_ne_zero _), edc_snoc]
  refine ⟨fun c => ?_, fun c => ⟨fun c2 => ?_, fun c2 => ?_⟩⟩
  · refine lmem_eq (app27 (acellsOf_rs (by simp only [go_sem, lcondB_decide, lcondB_not, lguardB_decide_true, lguardB_decide_false, ldguardB_decide, Nat.reduceLT, Nat.reduceEqDiff, Nat.reduceAdd, Nat.reduceLeDiff, reduceIte, reduceCtorEq]; rfl) (by rfl) rfl) (by decide) (by simp only [go_sem, lcondB_decide, lcondB_not, lguardB_decide_true, lguardB_decide_false, ldguardB_decide, Nat.reduceLT, Nat.reduceEqDiff, Nat.reduceAdd, Nat.reduceLeDiff, reduceIte, reduceCtorEq]) (by simp only [go_sem, lcondB_decide, lcondB_not, lguardB_decide_true, lguardB_decide_false, ldguardB_decide, Nat.reduceLT, Nat.reduceEqDiff, Nat.reduceAdd, Nat.reduceLeDiff, reduceIte, reduceCtorEq]) (edc_len L) (by omega) rfl) ?_
    simp (config := { contextual := true }) only [go_sem, hlen, harg, hw, lcondB_decide, lcondB_not, lguardB_decide_true, lguardB_decide_false, ldguardB_decide, Nat.reduceLT, Nat.reduceEqDiff, Nat.reduceAdd, Nat.reduceLeDiff, reduceIte, reduceCtorEq]
    exact lexit_now ⟨rfl, .inr ⟨_, fin _ rfl (if_pos (.inl c))⟩⟩
  · refine lmem_eq (app27 (acellsOf_rs (by simp only [go_sem, lcondB_decide, lcondB_not, lguardB_decide_true, lguardB_decide_false, ldguardB_decide, Nat.reduceLT, Nat.reduceEqDiff, Nat.reduceAdd, Nat.reduceLeDiff, reduceIte, reduceCtorEq]; rfl) (by rfl) rfl) (by decide) (by simp only [go_sem, lcondB_decide, lcondB_not, lguardB_decide_true, lguardB_decide_false, ldguardB_decide, Nat.reduceLT, Nat.reduceEqDiff, Nat.reduceAdd, Nat.reduceLeDiff, reduceIte, reduceCtorEq]) (by simp only [go_sem, lcondB_decide, lcondB_not, lguardB_decide_true, lguardB_decide_false, ldguardB_decide, Nat.reduceLT, Nat.reduceEqDiff, Nat.reduceAdd, Nat.reduceLeDiff, reduceIte, reduceCtorEq]) (edc_len L) (by omega) rfl) ?_
    simp (config := { contextual := true }) only [go_sem, hlen, harg, hw, lcondB_decide, lcondB_not, lguardB_decide_true, lguardB_decide_false, ldguardB_decide, Nat.reduceLT, Nat.reduceEqDiff, Nat.reduceAdd, Nat.reduceLeDiff, reduceIte, reduceCtorEq]
    exact lexit_now ⟨rfl, .inr ⟨_, fin _ rfl (if_pos (.inr c2))⟩⟩
  · subst c2
    exact lexit_now ⟨rfl, .inl ⟨if_neg (by rintro (h | h); exact c h; exact h rfl), rfl⟩⟩

theorem flow_len' (F : List (Int × UInt8)) : alen tab 116 (fsv 2 (ltv F)) = some (.int .i64 F.length) := by rw [len116f, ltv, List.length_map]

theorem edits_ok (n : Int) (F : List (Int × UInt8)) (hn : 0 ≤ n ∧ n ≤ 1000000000000) (hF : ∀ p ∈ F, -1 ≤ p.1 ∧ p.1 < 1000000000) (hFl : F.length ≤ 1000000000) (s : AHeap) :
    ACall Try.prog 79 [flv n F] s fun r t => r = edv (edGo n 0 [] F) ∧ t = s := by
  refine gob79 (by simp) ?_
  intro tm hlen harg
  have hpu : Pu (fsv 2 (ltv F)) := pu_fsv (ltv_pu F)
  simp (config := { contextual := true }) only [go_sem, L79, hlen, harg, flv, flow_len', lcondB_decide, lcondB_not, lguardB_decide_true, lguardB_decide_false, ldguardB_decide, Nat.reduceLT, Nat.reduceEqDiff, Nat.reduceAdd, Nat.reduceLeDiff, reduceIte, reduceCtorEq]
  refine ⟨Nat × Int × List UInt8 × List Ed, fun a => [(1, .ptr (nm s.nx 0) 0), (3, .ptr (nm s.nx 1) 0), (4, .ptr (nm s.nx 2) 0), (5, .ptr (nm s.nx 3) 0), (6, .func (.func 121) [] [.ptr (nm s.nx 2) 0, .ptr (nm s.nx 3) 0, .ptr (nm s.nx 1) 0]), (11, fsv 2 (ltv F)), (12, .int .i64 F.length), (13, .int .i64 a.1)],
    fun a => loc s 5 [(0, some (.cells [.int .i64 n, fsv 2 (ltv F)] (some 118))), (1, some (.cells [gsv 3 (nm s.nx 4) a.2.2.2.length] (some 27))), (2, some (.cells [.int .i64 a.2.1] (some 3))), (3, some (.cells [.str a.2.2.1] (some 9))), (4, gso 35 (edc a.2.2.2))],
    fun a => a.1 ≤ F.length ∧ a.2.2.2.length ≤ a.1 ∧ a.2.2.1.length ≤ a.1 ∧ 0 ≤ a.2.1 ∧ a.2.1 ≤ 1000000000 ∧ a.2.2.2 ++ edGo n a.2.1 a.2.2.1 (F.drop a.1) = edGo n 0 [] F, fun a => F.length - a.1, (0, 0, [], []), ⟨by simp, by simp, by simp, by simp, by simp, by simp⟩, ?_, ?_⟩
  · refine To.go [0, 1, 2, 3, 9] [(0, some (.cells [.int .i64 n, fsv 2 (ltv F)] (some 118))), (1, some (.cells [.nils] (some 27))), (2, some (.cells [.int .i64 0] (some 3))), (3, some (.cells [.str []] (some 9))), (4, none)] (by simp only [edc, List.map_nil, List.flatMap_nil, gso_nil, List.length_nil, gsv_zero]; rfl) (.refl s) (by decide) (by simp) ?_ ?_
    · simp (config := { contextual := true }) only [go_sem, hlen, harg, pu_ren hpu, gsv_zero, lcondB_decide, lcondB_not, lguardB_decide_true, lguardB_decide_false, ldguardB_decide, Nat.reduceLT, Nat.reduceEqDiff, Nat.reduceAdd, Nat.reduceLeDiff, reduceIte, reduceCtorEq]
      rfl
    · simp only [go_sem, pu_ren hpu, lcondB_decide, lcondB_not, lguardB_decide_true, lguardB_decide_false, ldguardB_decide, Nat.reduceLT, Nat.reduceEqDiff, Nat.reduceAdd, Nat.reduceLeDiff, reduceIte, reduceCtorEq]
  · rintro ⟨j, a, w, L⟩ tm1 ⟨hj, hL, hw, ha0, ha1, hE⟩ hlen1 hlv
    simp only [go_sem, hlen, lcondB_decide, lcondB_not, lguardB_decide_true, lguardB_decide_false, ldguardB_decide, Nat.reduceLT, Nat.reduceEqDiff, Nat.reduceAdd, Nat.reduceLeDiff, reduceIte, reduceCtorEq] at hlen1 hlv hj hL hw ha0 ha1 hE
    simp (config := { contextual := true }) only [go_sem, hlen, hlen1, hlv, lcondB_decide, lcondB_not, lguardB_decide_true, lguardB_decide_false, ldguardB_decide, Nat.reduceLT, Nat.reduceEqDiff, Nat.reduceAdd, Nat.reduceLeDiff, reduceIte, reduceCtorEq]
    refine ⟨fun hlt => ?_, fun hge => ?_⟩
    · have hj2 : j < F.length := by omega
      have he := List.getElem?_eq_getElem hj2
      have hmem : F[j] ∈ F := List.getElem_mem hj2
      have hdrop := List.drop_eq_getElem_cons hj2
      generalize F[j] = p at he hmem hdrop
      have hp := hF p hmem
      rw [hdrop] at hE
      have hw3 : IntKind.i64.wrap ((j : Int) + 1) = ((j + 1 : Nat) : Int) := by rw [wrap_id (by omega)]; rfl
      have hw4 : IntKind.i64.wrap (p.1 + 1) = p.1 + 1 := wrap_id (by omega)
      have hadd := abin_sadd (t := 9) (a := w) (b := [p.2]) (by simp; omega)
      simp (config := { contextual := true }) only [go_sem, hlen1, hlv, flow_at F he, lcondB_decide, lcondB_not, lguardB_decide_true, lguardB_decide_false, ldguardB_decide, Nat.reduceLT, Nat.reduceEqDiff, Nat.reduceAdd, Nat.reduceLeDiff, reduceIte, reduceCtorEq]
      refine ⟨fun hneg => ?_, fun hpos => ?_⟩
      · rw [lstepB_convert]
        refine lmem_eq (cv113 (c := p.2) (by simp only [go_sem, hlen1, lcondB_decide, lcondB_not, lguardB_decide_true, lguardB_decide_false, ldguardB_decide, Nat.reduceLT, Nat.reduceEqDiff, Nat.reduceAdd, Nat.reduceLeDiff, reduceIte, reduceCtorEq]; rfl) (by simp only [go_sem, lcondB_decide, lcondB_not, lguardB_decide_true, lguardB_decide_false, ldguardB_decide, Nat.reduceLT, Nat.reduceEqDiff, Nat.reduceAdd, Nat.reduceLeDiff, reduceIte, reduceCtorEq])) ?_
        simp (config := { contextual := true }) only [go_sem, hlen1, hlv, hadd, hw3, lcondB_decide, lcondB_not, lguardB_decide_true, lguardB_decide_false, ldguardB_decide, Nat.reduceLT, Nat.reduceEqDiff, Nat.reduceAdd, Nat.reduceLeDiff, reduceIte, reduceCtorEq]
        refine ⟨(j + 1, a, w ++ [p.2], L), ⟨by simp only; omega, by simp only; omega, by simp only [List.length_append, List.length_singleton]; omega, ha0, ha1, ?_⟩, by simp only; omega, ?_⟩
        · rw [← hE, edGo, if_pos hneg]
        · refine To.go [0, 1, 2, 3, 4] _ rfl (.refl s) (by decide) (by simp) ?_ ?_
          · simp (config := { contextual := true }) only [go_sem, hlen1, hlv, pu_ren hpu, lcondB_decide, lcondB_not, lguardB_decide_true, lguardB_decide_false, ldguardB_decide, Nat.reduceLT, Nat.reduceEqDiff, Nat.reduceAdd, Nat.reduceLeDiff, reduceIte, reduceCtorEq]
          · simp only [go_sem, pu_ren hpu, map_gso_pu (edc_pul _), lcondB_decide, lcondB_not, lguardB_decide_true, lguardB_decide_false, ldguardB_decide, Nat.reduceLT, Nat.reduceEqDiff, Nat.reduceAdd, Nat.reduceLeDiff, reduceIte, reduceCtorEq]
      · refine lfunG_eqc' rfl (push6 (by omega) (by omega) (by omega) (by omega) (by omega)) ?_
        rintro _ t ⟨rfl, h | ⟨e, h⟩⟩
        · obtain ⟨hpe, rfl⟩ := h
          simp (config := { contextual := true }) only [go_sem, hlen1, hlv, hw3, hw4, lcondB_decide, lcondB_not, lguardB_decide_true, lguardB_decide_false, ldguardB_decide, Nat.reduceLT, Nat.reduceEqDiff, Nat.reduceAdd, Nat.reduceLeDiff, reduceIte, reduceCtorEq]
          refine ⟨(j + 1, p.1 + 1, [], L), ⟨by simp only; omega, by simp only; omega, by simp, by simp only; omega, by simp only; omega, ?_⟩, by simp only; omega, ?_⟩
          · rw [← hE, edGo, if_neg hpos, hpe, List.nil_append]
          · refine To.go [0, 1, 2, 3, 4] _ rfl (.refl s) (by decide) (by simp) ?_ ?_
            · simp (config := { contextual := true }) only [go_sem, hlen1, hlv, pu_ren hpu, lcondB_decide, lcondB_not, lguardB_decide_true, lguardB_decide_false, ldguardB_decide, Nat.reduceLT, Nat.reduceEqDiff, Nat.reduceAdd, Nat.reduceLeDiff, reduceIte, reduceCtorEq]
            · simp only [go_sem, pu_ren hpu, map_gso_pu (edc_pul _), lcondB_decide, lcondB_not, lguardB_decide_true, lguardB_decide_false, ldguardB_decide, Nat.reduceLT, Nat.reduceEqDiff, Nat.reduceAdd, Nat.reduceLeDiff, reduceIte, reduceCtorEq]
        · obtain ⟨hpe, rfl⟩ := h
          simp (config := { contextual := true }) only [go_sem, hlen1, hlv, hw3, hw4, lcondB_decide, lcondB_not, lguardB_decide_true, lguardB_decide_false, ldguardB_decide, Nat.reduceLT, Nat.reduceEqDiff, Nat.reduceAdd, Nat.reduceLeDiff, reduceIte, reduceCtorEq]
          refine ⟨(j + 1, p.1 + 1, [], L ++ [e]), ⟨by simp only; omega, by simp only [List.length_append, List.length_singleton]; omega, by simp, by simp only; omega, by simp only; omega, ?_⟩, by simp only; omega, ?_⟩
          · rw [← hE, edGo, if_neg hpos, hpe, List.append_assoc]
          · refine To.go [0, 1, 2, 3, 7] _ rfl (.refl s) (by decide) (by simp) ?_ ?_
            · simp (config := { contextual := true }) only [go_sem, hlen1, hlv, pu_ren hpu, lcondB_decide, lcondB_not, lguardB_decide_true, lguardB_decide_false, ldguardB_decide, Nat.reduceLT, Nat.reduceEqDiff, Nat.reduceAdd, Nat.reduceLeDiff, reduceIte, reduceCtorEq]
            · simp only [go_sem, pu_ren hpu, map_gso_pu (edc_pul _), lcondB_decide, lcondB_not, lguardB_decide_true, lguardB_decide_false, ldguardB_decide, Nat.reduceLT, Nat.reduceEqDiff, Nat.reduceAdd, Nat.reduceLeDiff, reduceIte, reduceCtorEq]
    · have hj2 : j = F.length := by omega
      rw [hj2, List.drop_length, edGo] at hE
      refine lfunG_eqc' rfl (push5 (by omega) (by omega) (by omega) (by omega) (by omega)) ?_
      rintro _ t ⟨rfl, h | ⟨e, h⟩⟩
      · obtain ⟨hpe, rfl⟩ := h
        rw [hpe, List.append_nil] at hE
        simp (config := { contextual := true }) only [go_sem, hlen1, hlv, lcondB_decide, lcondB_not, lguardB_decide_true, lguardB_decide_false, ldguardB_decide, Nat.reduceLT, Nat.reduceEqDiff, Nat.reduceAdd, Nat.reduceLeDiff, reduceIte, reduceCtorEq]
        refine lexit_freezeG 4 3 (L.map Ed.enc) (by simp only [go_sem, lcondB_decide, lcondB_not, lguardB_decide_true, lguardB_decide_false, ldguardB_decide, Nat.reduceLT, Nat.reduceEqDiff, Nat.reduceAdd, Nat.reduceLeDiff, reduceIte, reduceCtorEq]; rfl) (enc_len L) (by decide) ?_
        simp only [go_sem, len_fz, hE, lcondB_decide, lcondB_not, lguardB_decide_true, lguardB_decide_false, ldguardB_decide, Nat.reduceLT, Nat.reduceEqDiff, Nat.reduceAdd, Nat.reduceLeDiff, reduceIte, reduceCtorEq]
        exact lexit_pure (.refl s) (low.mono (Nat.zero_le _) (edv_pu _)) ⟨rfl, rfl⟩
      · obtain ⟨hpe, rfl⟩ := h
        rw [hpe] at hE
        simp (config := { contextual := true }) only [go_sem, hlen1, hlv, lcondB_decide, lcondB_not, lguardB_decide_true, lguardB_decide_false, ldguardB_decide, Nat.reduceLT, Nat.reduceEqDiff, Nat.reduceAdd, Nat.reduceLeDiff, reduceIte, reduceCtorEq]
        refine lexit_freezeG 6 3 ((L ++ [e]).map Ed.enc) (by simp only [go_sem, lcondB_decide, lcondB_not, lguardB_decide_true, lguardB_decide_false, ldguardB_decide, Nat.reduceLT, Nat.reduceEqDiff, Nat.reduceAdd, Nat.reduceLeDiff, reduceIte, reduceCtorEq]; rfl) (enc_len _) (by decide) ?_
        simp only [go_sem, len_fz, hE, lcondB_decide, lcondB_not, lguardB_decide_true, lguardB_decide_false, ldguardB_decide, Nat.reduceLT, Nat.reduceEqDiff, Nat.reduceAdd, Nat.reduceLeDiff, reduceIte, reduceCtorEq]
        exact lexit_pure (.refl s) (low.mono (Nat.zero_le _) (edv_pu _)) ⟨rfl, rfl⟩
end Go.S1N
end
section
set_option linter.unusedVariables false
set_option linter.unusedSimpArgs false
namespace Go.S1N
open Go Go.Am Go.Proofs Go.S1
set_option maxRecDepth 100000
set_option linter.unusedSimpArgs false
theorem build118 {n : Int} : abuild tab 118 [(0, .int .i64 n)] = some (.agg [.int .i64 n, .nils]) := by
  simp [abuild, ty118, Tab.size, ty3, ty116, AV.ofV, AV.ofOne, afill, AV.israw, AV.cells, splice]
theorem lfunG_of' {P : Program} {s0 s : AHeap} {N : List AV → AHeap → Prop} {f : Operand} {args : List Operand} {d : Option Nat} {tm : List AV} {g : FuncId} {av fi ca av' : List AV} {R : AV → AHeap → Prop} (he : fi ++ av ++ ca = av') (h : ACall P g av' s R) (k : ∀ v t, R v t → N (aput tm d v) t) :
    lfunG P s0 N f args d tm s (.func (.func g) fi ca) av := lfunG_eqc' he h k
attribute [local irreducible] lopsB lvb lstepB lfunG lcondB lguardB ldrawB ldrunB ldstepB ldguardB lmem lval ldmem ldval ldfun lexit ldloadB ldlenB lpostB athen ablock

/-- is a letter's origin this? -/
theorem isOrigin_ok {s : AHeap} {b : Nat} {i : Int} (hb : s.get b = some (.cells [.int .i64 i] (some 3))) (hlt : b < s.nx) (k c : Int) :
    ACall Try.prog 78 [.agg [.int .i64 k, .int .u8 c], .ptr b 0] s fun r t => r = .bool (decide (k = i)) ∧ t = s := by
  refine gob78 (by simp) ?_
  intro tm hlen harg
  simp (config := { contextual := true }) only [go_sem, L78, hlen, harg, hb, hlt, lcondB_decide, lcondB_not, lguardB_decide_true, lguardB_decide_false, ldguardB_decide, Nat.reduceLT, Nat.reduceEqDiff, Nat.reduceAdd, Nat.reduceLeDiff, reduceIte, reduceCtorEq]
  exact lexit_pure (.refl s) (by simp only [low]) ⟨rfl, rfl⟩

/-- where a letter comes to lie -/
def idxOf : List (Int × UInt8) → Int → Int → Int
  | [], _, _ => -1
  | p :: r, i, j => if p.1 = i then j else idxOf r i (j + 1)

theorem idx_ok {s : AHeap} {b : Nat} {i : Int} (hb : s.get b = some (.cells [.int .i64 i] (some 3))) (hlt : b < s.nx) (F : List (Int × UInt8)) (hF : F.length ≤ 1000000000) :
    ACall Try.prog 77 [fsv 2 (ltv F), .func (.func 78) [] [.ptr b 0]] s fun r t => r = .int .i64 (idxOf F i 0) ∧ t = s := by
  refine gob77 (by simp) ?_
  intro tm hlen harg
  have hpu : Pu (fsv 2 (ltv F)) := pu_fsv (ltv_pu F)
  simp (config := { contextual := true }) only [go_sem, L77, hlen, harg, flow_len', lcondB_decide, lcondB_not, lguardB_decide_true, lguardB_decide_false, ldguardB_decide, Nat.reduceLT, Nat.reduceEqDiff, Nat.reduceAdd, Nat.reduceLeDiff, reduceIte, reduceCtorEq]
  refine ⟨Nat, fun j => [(0, fsv 2 (ltv F)), (1, .func (.func 78) [] [.ptr b 0]), (7, .int .i64 F.length), (8, .int .i64 j)], fun j => loc s 0 [], fun j => j ≤ F.length ∧ idxOf (F.drop j) i j = idxOf F i 0, fun j => F.length - j, 0, by simp, ?_, ?_⟩
  · refine To.go [] [] rfl (.refl s) (by decide) (by simp) ?_ trivial
    simp (config := { contextual := true }) only [go_sem, hlen, harg, pu_ren hpu, rnm_low hlt, lcondB_decide, lcondB_not, lguardB_decide_true, lguardB_decide_false, ldguardB_decide, Nat.reduceLT, Nat.reduceEqDiff, Nat.reduceAdd, Nat.reduceLeDiff, reduceIte, reduceCtorEq]
    simp
  · rintro j tm1 ⟨hj, hE⟩ hlen1 hlv
    simp only [go_sem, hlen, lcondB_decide, lcondB_not, lguardB_decide_true, lguardB_decide_false, ldguardB_decide, Nat.reduceLT, Nat.reduceEqDiff, Nat.reduceAdd, Nat.reduceLeDiff, reduceIte, reduceCtorEq] at hlen1 hlv
    simp (config := { contextual := true }) only [go_sem, hlen, hlen1, hlv, lcondB_decide, lcondB_not, lguardB_decide_true, lguardB_decide_false, ldguardB_decide, Nat.reduceLT, Nat.reduceEqDiff, Nat.reduceAdd, Nat.reduceLeDiff, reduceIte, reduceCtorEq]
    refine ⟨fun hl => ?_, fun hge => ?_⟩
    · have hj2 : j < F.length := by omega
      have he := List.getElem?_eq_getElem hj2
      have hdrop := List.drop_eq_getElem_cons hj2
      generalize F[j] = p at he hdrop
      rw [hdrop, idxOf] at hE
      have hw3 : IntKind.i64.wrap ((j : Int) + 1) = ((j + 1 : Nat) : Int) := by rw [wrap_id (by omega)]; rfl
      simp (config := { contextual := true }) only [go_sem, hlen1, hlv, flow_at F he, lcondB_decide, lcondB_not, lguardB_decide_true, lguardB_decide_false, ldguardB_decide, Nat.reduceLT, Nat.reduceEqDiff, Nat.reduceAdd, Nat.reduceLeDiff, reduceIte, reduceCtorEq]
      refine lfunG_eqc rfl (isOrigin_ok (s := loc s 0 []) (i := i) (by rw [get_loc, if_pos hlt]; exact hb) (Nat.lt_of_lt_of_le hlt (Nat.le_refl _)) _ _) ?_
      simp (config := { contextual := true }) only [go_sem, hlen1, hlv, hw3, lcondB_decide, lcondB_not, lguardB_decide_true, lguardB_decide_false, ldguardB_decide, Nat.reduceLT, Nat.reduceEqDiff, Nat.reduceAdd, Nat.reduceLeDiff, reduceIte, reduceCtorEq]
      refine ⟨fun hc => ?_, fun hc => ?_⟩
      · refine lexit_pure (.refl s) (by simp only [low]) ⟨?_, rfl⟩
        rw [← hE, if_pos hc]
      · rw [if_neg hc] at hE
        refine ⟨j + 1, ⟨by omega, hE⟩, by omega, ?_⟩
        refine To.go [] [] rfl (.refl s) (by decide) (by simp) ?_ trivial
        simp (config := { contextual := true }) only [go_sem, hlen1, hlv, pu_ren hpu, rnm_low hlt, lcondB_decide, lcondB_not, lguardB_decide_true, lguardB_decide_false, ldguardB_decide, Nat.reduceLT, Nat.reduceEqDiff, Nat.reduceAdd, Nat.reduceLeDiff, reduceIte, reduceCtorEq]
    · have hj2 : j = F.length := by omega
      rw [hj2, List.drop_length, idxOf] at hE
      refine lexit_pure (.refl s) (by simp only [low]) ⟨?_, rfl⟩
      rw [← hE]

/-- the letters of the flow that leads back -/
def backTo (x : List UInt8) (F : List (Int × UInt8)) (i : Nat) : List (Int × UInt8) := (List.range i).map fun k => (idxOf F (k : Nat) 0, x.getD k 0)
theorem backTo_succ (x : List UInt8) (F : List (Int × UInt8)) (i : Nat) : backTo x F (i + 1) = backTo x F i ++ [(idxOf F (i : Nat) 0, x.getD i 0)] := by
  unfold backTo; rw [List.range_succ, List.map_append]; rfl
theorem backTo_len (x : List UInt8) (F : List (Int × UInt8)) (i : Nat) : (backTo x F i).length = i := by simp [backTo]
theorem letters_pul (L : List (Int × UInt8)) : PuL (letters L) := by
  rw [← ltv_letters]
  have := ltv_pu L
  simp only [PuL, lowL_iff] at this ⊢
  intro c hc
  obtain ⟨v, hv, hcv⟩ := List.mem_flatMap.1 hc
  obtain ⟨p, _, rfl⟩ := List.mem_map.1 hv
  simp only [AV.cells, List.mem_cons, List.not_mem_nil, or_false] at hcv
  rcases hcv with rfl | rfl <;> simp only [low]
theorem letters_snoc (L : List (Int × UInt8)) (a : Int) (c : UInt8) : letters (L ++ [(a, c)]) = letters L ++ [.int .i64 a, .int .u8 c.toNat] := by rw [letters_append]; rfl
theorem gso_let {O : List (Int × UInt8)} {z : Int × UInt8} : gso 121 (letters (O ++ [z])) = some (.cells (letters (O ++ [z])) (some 121)) := gso_pos (by simp [letters])
theorem idxOf_range : ∀ (F : List (Int × UInt8)) (i j : Int), 0 ≤ j → -1 ≤ idxOf F i j ∧ idxOf F i j < j + F.length + 1
  | [], i, j, h => by simp only [idxOf, List.length_nil]; omega
  | p :: F, i, j, h => by
    rw [idxOf]
    split
    · simp only [List.length_cons]; omega
    · have := idxOf_range F i (j + 1) (by omega)
      simp only [List.length_cons]; omega

theorem inverseOf_ok (x : List UInt8) (v : AV) (l : List Ed) (hv : SlE v l) (hl : l.length ≤ 2000) (hx : x.length ≤ 20000) (hnew : ∀ e ∈ l, e.new.length ≤ 100000) (hsc : scan x.length (-1) l = 0) (s : AHeap) :
    ACall Try.prog 28 [.str x, v] s fun r t => r = edv (edGo (flowFrom x.length 0 l).length 0 [] (backTo x (flowFrom x.length 0 l) x.length)) ∧ t = s := by
  refine gob28 (by simp) ?_
  intro tm hlen harg
  simp (config := { contextual := true }) only [go_sem, L28, hlen, harg, lcondB_decide, lcondB_not, lguardB_decide_true, lguardB_decide_false, ldguardB_decide, Nat.reduceLT, Nat.reduceEqDiff, Nat.reduceAdd, Nat.reduceLeDiff, reduceIte, reduceCtorEq]
  refine lfunG_eq (flowOfE x.length v l hv hl hx hnew hsc _) ?_
  have hlenb : (flowFrom x.length 0 l).length ≤ 300000000 := by
    have h1 := flow_len x.length l 0 hnew (fun e he => (scan_range l _ hsc e he).2.2.1)
    have h2 : l.length * (x.length + 100000) ≤ 2000 * (20000 + 100000) := Nat.mul_le_mul hl (by omega)
    omega
  generalize flowFrom x.length 0 l = F at *
  have hpu : Pu (fsv 2 (ltv F)) := pu_fsv (ltv_pu F)
  simp (config := { contextual := true }) only [go_sem, hlen, harg, flv, flow_len', build118, lcondB_decide, lcondB_not, lguardB_decide_true, lguardB_decide_false, ldguardB_decide, Nat.reduceLT, Nat.reduceEqDiff, Nat.reduceAdd, Nat.reduceLeDiff, reduceIte, reduceCtorEq]
  refine ⟨Nat, fun i => [(0, .str x), (5, .ptr (nm s.nx 0) 0), (6, .ptr (nm s.nx 1) 0), (18, .int .i64 x.length), (19, .int .i64 i)],
    fun i => loc s 3 [(0, some (.cells [.int .i64 x.length, fsv 2 (ltv F)] (some 118))), (1, some (.cells [.int .i64 F.length, gsv 2 (nm s.nx 2) (backTo x F i).length] (some 118))), (2, gso 121 (letters (backTo x F i)))], fun i => i ≤ x.length, fun i => x.length - i, 0, by simp, ?_, ?_⟩
  · refine To.go [0, 1, 9] [(0, some (.cells [.int .i64 x.length, fsv 2 (ltv F)] (some 118))), (1, some (.cells [.int .i64 F.length, .nils] (some 118))), (2, none)] rfl (.refl s) (by decide) (by simp) ?_ ?_
    · simp (config := { contextual := true }) only [go_sem, hlen, harg, gsv_zero, lcondB_decide, lcondB_not, lguardB_decide_true, lguardB_decide_false, ldguardB_decide, Nat.reduceLT, Nat.reduceEqDiff, Nat.reduceAdd, Nat.reduceLeDiff, reduceIte, reduceCtorEq]
      rfl
    · simp only [go_sem, pu_ren hpu, lcondB_decide, lcondB_not, lguardB_decide_true, lguardB_decide_false, ldguardB_decide, Nat.reduceLT, Nat.reduceEqDiff, Nat.reduceAdd, Nat.reduceLeDiff, reduceIte, reduceCtorEq]
  · intro i tm1 hi hlen1 hlv
    simp only [go_sem, hlen, lcondB_decide, lcondB_not, lguardB_decide_true, lguardB_decide_false, ldguardB_decide, Nat.reduceLT, Nat.reduceEqDiff, Nat.reduceAdd, Nat.reduceLeDiff, reduceIte, reduceCtorEq] at hlen1 hlv
    simp (config := { contextual := true }) only [go_sem, hlen, hlen1, hlv, lcondB_decide, lcondB_not, lguardB_decide_true, lguardB_decide_false, ldguardB_decide, Nat.reduceLT, Nat.reduceEqDiff, Nat.reduceAdd, Nat.reduceLeDiff, reduceIte, reduceCtorEq]
    refine ⟨fun hlt => ?_, fun hge => ?_⟩
    · have hi2 : i < x.length := by omega
      have hw3 : IntKind.i64.wrap ((i : Int) + 1) = ((i + 1 : Nat) : Int) := by rw [wrap_id (by omega)]; rfl
      refine lfunG_eq (idx_ok (i := i) (by simp only [go_sem, lcondB_decide, lcondB_not, lguardB_decide_true, lguardB_decide_false, ldguardB_decide, Nat.reduceLT, Nat.reduceEqDiff, Nat.reduceAdd, Nat.reduceLeDiff, reduceIte, reduceCtorEq]) (by simp only [go_sem, nx_loc, nm]; omega) F (by omega)) ?_
      have hix : aindex tab 9 (.str x) (.int .i64 i) = some (.int .u8 (x.getD i 0).toNat) := by simp [aindex, ty9, hi2, List.getD_eq_getElem?_getD]
      simp (config := { contextual := true }) only [go_sem, hlen1, hlv, lcondB_decide, lcondB_not, lguardB_decide_true, lguardB_decide_false, ldguardB_decide, Nat.reduceLT, Nat.reduceEqDiff, Nat.reduceAdd, Nat.reduceLeDiff, reduceIte, reduceCtorEq]
      refine ldrawB_go [] [(1, 1)] 8 (by decide) ?_
      simp (config := { contextual := true }) only [go_sem, hlen1, hlv, hix, build121_2, lcondB_decide, lcondB_not, lguardB_decide_true, lguardB_decide_false, ldguardB_decide, Nat.reduceLT, Nat.reduceEqDiff, Nat.reduceAdd, Nat.reduceLeDiff, reduceIte, reduceCtorEq]
      refine ⟨by kernel_rfl, ?_⟩
      refine lmem_eq (app116 (acellsOf_rs (by simp only [go_sem, lcondB_decide, lcondB_not, lguardB_decide_true, lguardB_decide_false, ldguardB_decide, Nat.reduceLT, Nat.reduceEqDiff, Nat.reduceAdd, Nat.reduceLeDiff, reduceIte, reduceCtorEq]; rfl) (by rfl) rfl) (by decide) (by simp only [go_sem, lcondB_decide, lcondB_not, lguardB_decide_true, lguardB_decide_false, ldguardB_decide, Nat.reduceLT, Nat.reduceEqDiff, Nat.reduceAdd, Nat.reduceLeDiff, reduceIte, reduceCtorEq]) (by simp only [go_sem, lcondB_decide, lcondB_not, lguardB_decide_true, lguardB_decide_false, ldguardB_decide, Nat.reduceLT, Nat.reduceEqDiff, Nat.reduceAdd, Nat.reduceLeDiff, reduceIte, reduceCtorEq]) (letters_length _) (by rw [backTo_len]; omega) rfl) ?_
      simp (config := { contextual := true }) only [go_sem, hlen1, hlv, hw3, lcondB_decide, lcondB_not, lguardB_decide_true, lguardB_decide_false, ldguardB_decide, Nat.reduceLT, Nat.reduceEqDiff, Nat.reduceAdd, Nat.reduceLeDiff, reduceIte, reduceCtorEq]
      refine ⟨i + 1, by omega, by omega, ?_⟩
      refine To.go [0, 1, 13] _ rfl (.refl s) (by decide) (by simp) ?_ ?_
      · simp (config := { contextual := true }) only [go_sem, hlen1, hlv, lcondB_decide, lcondB_not, lguardB_decide_true, lguardB_decide_false, ldguardB_decide, Nat.reduceLT, Nat.reduceEqDiff, Nat.reduceAdd, Nat.reduceLeDiff, reduceIte, reduceCtorEq]
      · simp only [go_sem, pu_ren hpu, map_gso_pu (letters_pul _), lcondB_decide, lcondB_not, lguardB_decide_true, lguardB_decide_false, ldguardB_decide, Nat.reduceLT, Nat.reduceEqDiff, Nat.reduceAdd, Nat.reduceLeDiff, reduceIte, reduceCtorEq]
        rw [backTo_succ, gso_let, letters_snoc, List.length_append, List.length_singleton, gsv_pos (Nat.succ_ne_zero _)]
        exact ⟨rfl, rfl⟩
    · have hi2 : i = x.length := by omega
      subst hi2
      refine lfunG_freezeG 2 2 (ltv (backTo x F x.length)) (by rw [ltv_letters]; simp only [go_sem, lcondB_decide, lcondB_not, lguardB_decide_true, lguardB_decide_false, ldguardB_decide, Nat.reduceLT, Nat.reduceEqDiff, Nat.reduceAdd, Nat.reduceLeDiff, reduceIte, reduceCtorEq]; rfl) (ltv_len _) (by decide) ?_
      have hfz : fz (nm s.nx 2) 2 (ltv (backTo x F x.length)) (gsv 2 (nm s.nx 2) (backTo x F x.length).length) = fsv 2 (ltv (backTo x F x.length)) := by
        rw [show (backTo x F x.length).length = (ltv (backTo x F x.length)).length from (List.length_map ..).symm, fz_gsv]
      simp only [go_sem, hfz, lcondB_decide, lcondB_not, lguardB_decide_true, lguardB_decide_false, ldguardB_decide, Nat.reduceLT, Nat.reduceEqDiff, Nat.reduceAdd, Nat.reduceLeDiff, reduceIte, reduceCtorEq]
      refine lfunG_eq (edits_ok F.length (backTo x F x.length) (by omega) (by
        intro p hp
        obtain ⟨k, _, rfl⟩ := List.mem_map.1 hp
        have := idxOf_range F (k : Nat) 0 (by omega)
        simp only; omega) (by rw [backTo_len]; omega) _) ?_
      simp (config := { contextual := true }) only [go_sem, fzL_length, hlen1, lcondB_decide, lcondB_not, lguardB_decide_true, lguardB_decide_false, ldguardB_decide, Nat.reduceLT, Nat.reduceEqDiff, Nat.reduceAdd, Nat.reduceLeDiff, reduceIte, reduceCtorEq]
      exact lexit_pure (.refl s) (low.mono (Nat.zero_le _) (edv_pu _)) ⟨rfl, rfl⟩
end Go.S1N
end
section
set_option linter.unusedVariables false
set_option linter.unusedSimpArgs false
namespace Go.S1N
open Go Go.Am Go.Proofs Go.S1
set_option maxRecDepth 100000
set_option linter.unusedSimpArgs false
/-- a cut behind a draw -/
theorem ldrawB_cut {P : Program} {T : Tab} {s0 s : AHeap} {α : Type} (n : Nat) (lv : α → List (Nat × AV)) (hp : α → AHeap) (C : α → Prop) {N : List AV → AHeap → Prop} {Q : APost} {tm : List AV} {ms : List Nat} {l : List LOp} (h1 : ldrawB P T s0 (athen (Cut n lv hp C) Q) ms l tm s)
    (h2 : ∀ a tm', C a → tm'.length = n → (∀ p ∈ lv a, aev tm' (.tmp p.1) = p.2) → N tm' (hp a)) : ldrawB P T s0 (athen N Q) ms l tm s := ldrawB_mono (cut_post n lv hp C h2) h1
attribute [local irreducible] lopsB lvb lstepB lfunG lcondB lguardB ldrawB ldrunB ldstepB ldguardB lmem lval ldmem ldval ldfun lexit ldloadB ldlenB lpostB athen ablock

/-- what both begin with is left out -/
def sqF : Int → List UInt8 → List UInt8 → Int × List UInt8 × List UInt8
  | a, p :: c, q :: w => if p = q then sqF (a + 1) c w else (a, p :: c, q :: w)
  | a, c, w => (a, c, w)
/-- what both end with is left out -/
def sqB (c w : List UInt8) : List UInt8 × List UInt8 := ((sqF 0 c.reverse w.reverse).2.1.reverse, (sqF 0 c.reverse w.reverse).2.2.reverse)
def sq1 (x : List UInt8) (e : Ed) : List Ed :=
  let u := sqF e.at_ ((x.drop e.at_.toNat).take ((e.at_ + e.cut).toNat - e.at_.toNat)) e.new
  let v := sqB u.2.1 u.2.2
  if v.1 ≠ [] ∨ v.2 ≠ [] then [⟨u.1, v.1.length, v.2⟩] else []
def sqz (x : List UInt8) (l : List Ed) : List Ed := l.flatMap (sq1 x)
def squeezedVal (x : List UInt8) (l : List Ed) : List Ed × Int := if textFault x l ≠ 0 then ([], textFault x l) else (sqz x l, 0)

theorem sqz_cons {x : List UInt8} {e : Ed} {l : List Ed} : sqz x (e :: l) = sq1 x e ++ sqz x l := List.flatMap_cons
theorem sqF_nil1 {a : Int} {w : List UInt8} : sqF a [] w = (a, [], w) := by simp [sqF]
theorem sqF_nil2 {a : Int} {c : List UInt8} : sqF a c [] = (a, c, []) := by cases c <;> simp [sqF]
theorem sqF_shift : ∀ (c w : List UInt8) (a b : Int), (sqF a c w).2 = (sqF b c w).2
  | [], w, a, b => by simp [sqF_nil1]
  | p :: c, [], a, b => by simp [sqF_nil2]
  | p :: c, q :: w, a, b => by
    rw [sqF, sqF]
    split
    · exact sqF_shift c w _ _
    · rfl
theorem sqB_nil1 {w : List UInt8} : sqB [] w = ([], w) := by simp [sqB, sqF_nil1]
theorem sqB_nil2 {c : List UInt8} : sqB c [] = (c, []) := by simp [sqB, sqF_nil2]
theorem sqB_eq {c w : List UInt8} {p : UInt8} : sqB (c ++ [p]) (w ++ [p]) = sqB c w := by
  simp only [sqB, List.reverse_append, List.reverse_cons, List.reverse_nil, List.nil_append, List.cons_append]
  rw [sqF, if_pos rfl, sqF_shift _ _ (0 + 1) 0]
theorem sqB_ne {c w : List UInt8} {p q : UInt8} (h : p ≠ q) : sqB (c ++ [p]) (w ++ [q]) = (c ++ [p], w ++ [q]) := by
  simp only [sqB, List.reverse_append, List.reverse_cons, List.reverse_nil, List.nil_append, List.cons_append]
  rw [sqF, if_neg h]
  simp

theorem snoc_cases (c : List UInt8) : c = [] ∨ ∃ d p, c = d ++ [p] := by
  rcases List.eq_nil_or_concat c with h | ⟨d, p, h⟩
  · exact .inl h
  · exact .inr ⟨d, p, by simpa using h⟩
theorem snoc_ne {d : List UInt8} {p : UInt8} : (d ++ [p] = []) = False := by simp
theorem ixs0 {p : UInt8} {c : List UInt8} : aindex tab 9 (.str (p :: c)) (.int .i64 0) = some (.int .u8 p.toNat) := by simp [aindex, ty9]
theorem ixsl {p : UInt8} {c : List UInt8} {n : Int} (h : n = c.length) : aindex tab 9 (.str (c ++ [p])) (.int .i64 n) = some (.int .u8 p.toNat) := by subst h; simp [aindex, ty9]
theorem sl1 {p : UInt8} {c : List UInt8} : aslice tab 9 (.str (p :: c)) (some (.int .i64 1)) none none = some (.str c) := by
  rw [slice9a (by omega) (by simp; omega)]; rfl
theorem sll {p : UInt8} {c : List UInt8} {n : Int} (h : n = c.length) : aslice tab 9 (.str (c ++ [p])) none (some (.int .i64 n)) none = some (.str c) := by
  subst h
  have h1 : (c.length : Int) ≤ c.length + 1 := by omega
  simp [aslice, ty9, abounds, aidx, h1]
theorem u8ne {p q : UInt8} : ((p.toNat : Int) = q.toNat) = (p = q) := by
  apply propext
  constructor
  · intro h; exact UInt8.toNat_inj.1 (by omega)
  · rintro rfl; rfl

theorem squeezed_ok (x : List UInt8) (v : AV) (l : List Ed) (hv : SlE v l) (hl : l.length < 4611686018427387904) (hnew : ∀ e ∈ l, e.new.length ≤ 100000) (s : AHeap) :
    ACall Try.prog 25 [.str x, v] s fun r t => r = .tuple [edv (squeezedVal x l).1, .int .i64 (squeezedVal x l).2] ∧ t = s := by
  refine gob25 (by simp) ?_
  intro tm hlen harg
  simp (config := { contextual := true }) only [go_sem, L25, hlen, harg, lcondB_decide, lcondB_not, lguardB_decide_true, lguardB_decide_false, ldguardB_decide, Nat.reduceLT, Nat.reduceEqDiff, Nat.reduceAdd, Nat.reduceLeDiff, reduceIte, reduceCtorEq]
  refine lfunG_eq (checkTextE x v l hv hl _) ?_
  simp (config := { contextual := true }) only [go_sem, hlen, harg, hv.len, lcondB_decide, lcondB_not, lguardB_decide_true, lguardB_decide_false, ldguardB_decide, Nat.reduceLT, Nat.reduceEqDiff, Nat.reduceAdd, Nat.reduceLeDiff, reduceIte, reduceCtorEq]
  refine ⟨fun c => ?_, fun c => ?_⟩
  · refine lexit_pure (.refl s) (by simp only [low, lowL, and_self]) ⟨?_, rfl⟩
    rw [squeezedVal, if_pos c]; rfl
  · obtain ⟨hx, hl2, hsc⟩ := textFault_zero c
    have hval : squeezedVal x l = (sqz x l, 0) := by rw [squeezedVal, if_neg (by simpa using c)]
    rw [hval]
    refine ⟨Nat × Int × List Ed, fun a => [(0, .str x), (7, gsv 3 (nm s.nx 0) a.2.2.length), (17, v), (18, .int .i64 l.length), (19, .int .i64 a.1)],
      fun a => loc s 1 [(0, gso 35 (edc a.2.2))], fun a => a.1 ≤ l.length ∧ a.2.2.length ≤ a.1 ∧ scan x.length a.2.1 (l.drop a.1) = 0 ∧ a.2.2 ++ sqz x (l.drop a.1) = sqz x l,
      fun a => l.length - a.1, (0, -1, []), ⟨by simp, by simp, by simpa using hsc, by simp⟩, ?_, ?_⟩
    · refine To.go [9] [(0, none)] (by simp only [edc, List.map_nil, List.flatMap_nil, gso_nil]; rfl) (.refl s) (by decide) (by simp) ?_ ?_
      · simp (config := { contextual := true }) only [go_sem, hlen, harg, hv.pu, pu_ren hv.pu, List.length_nil, gsv_zero, lcondB_decide, lcondB_not, lguardB_decide_true, lguardB_decide_false, ldguardB_decide, Nat.reduceLT, Nat.reduceEqDiff, Nat.reduceAdd, Nat.reduceLeDiff, reduceIte, reduceCtorEq]
        simp
      · simp only [go_sem, lcondB_decide, lcondB_not, lguardB_decide_true, lguardB_decide_false, ldguardB_decide, Nat.reduceLT, Nat.reduceEqDiff, Nat.reduceAdd, Nat.reduceLeDiff, reduceIte, reduceCtorEq]
    · rintro ⟨i, B, R⟩ tm1 ⟨hi, hR, hs, hL⟩ hlen1 hlv
      simp only [go_sem, hlen, lcondB_decide, lcondB_not, lguardB_decide_true, lguardB_decide_false, ldguardB_decide, Nat.reduceLT, Nat.reduceEqDiff, Nat.reduceAdd, Nat.reduceLeDiff, reduceIte, reduceCtorEq] at hlen1 hlv hi hR hs hL
      simp (config := { contextual := true }) only [go_sem, hlen, hlen1, hlv, lcondB_decide, lcondB_not, lguardB_decide_true, lguardB_decide_false, ldguardB_decide, Nat.reduceLT, Nat.reduceEqDiff, Nat.reduceAdd, Nat.reduceLeDiff, reduceIte, reduceCtorEq]
      refine ⟨fun hlt => ?_, fun hge => ?_⟩
      · have hi2 : i < l.length := by omega
        have he := List.getElem?_eq_getElem hi2
        have hmem : l[i] ∈ l := List.getElem_mem hi2
        have hdrop := List.drop_eq_getElem_cons hi2
        generalize l[i] = e at he hdrop hmem
        have hen := hnew e hmem
        rw [hdrop] at hs hL
        obtain ⟨c1, c2, c3, c4, c5, c6⟩ := scan_cons hs
        have hw2 : IntKind.i64.wrap (e.at_ + e.cut) = e.at_ + e.cut := wrap_id (by omega)
        have hw3 : IntKind.i64.wrap ((i : Int) + 1) = ((i + 1 : Nat) : Int) := by rw [wrap_id (by omega)]; rfl
        simp (config := { contextual := true }) only [go_sem, hlen, hlen1, hlv, hv.at he, hw2, slice9 c1 (show e.at_ ≤ e.at_ + e.cut by omega) (show e.at_ + e.cut ≤ x.length by omega), lcondB_decide, lcondB_not, lguardB_decide_true, lguardB_decide_false, ldguardB_decide, Nat.reduceLT, Nat.reduceEqDiff, Nat.reduceAdd, Nat.reduceLeDiff, reduceIte, reduceCtorEq]
        have hcl : ((x.drop e.at_.toNat).take ((e.at_ + e.cut).toNat - e.at_.toNat)).length ≤ 20000 := by simp; omega
        have hsq : sq1 x e = _ := sq1.eq_def x e
        generalize (x.drop e.at_.toNat).take ((e.at_ + e.cut).toNat - e.at_.toNat) = c0 at hcl hsq ⊢
        refine ⟨Int × List UInt8 × List UInt8, fun a => [(0, .str x), (7, gsv 3 (nm s.nx 0) R.length), (9, .ptr (nm s.nx 1) 0), (10, .str a.2.1), (17, v), (18, .int .i64 l.length), (19, .int .i64 i)],
          fun a => loc s 2 [(0, gso 35 (edc R)), (1, some (.cells [.int .i64 a.1, .int .i64 e.cut, .str a.2.2] (some 35)))], fun a => 0 ≤ a.1 ∧ a.1 + a.2.1.length ≤ 50000 ∧ a.2.2.length ≤ 100000 ∧ sqF a.1 a.2.1 a.2.2 = sqF e.at_ c0 e.new, fun a => a.2.1.length, (e.at_, c0, e.new), ⟨by simp only; omega, by simp only; omega, by simp only; omega, rfl⟩, ?_, ?_⟩
        · refine To.go [0, 1] _ rfl (.refl s) (by decide) (by simp) ?_ ?_
          · simp (config := { contextual := true }) only [go_sem, hlen1, hlv, pu_ren hv.pu, lcondB_decide, lcondB_not, lguardB_decide_true, lguardB_decide_false, ldguardB_decide, Nat.reduceLT, Nat.reduceEqDiff, Nat.reduceAdd, Nat.reduceLeDiff, reduceIte, reduceCtorEq]
          · simp only [go_sem, map_gso_pu (edc_pul _), lcondB_decide, lcondB_not, lguardB_decide_true, lguardB_decide_false, ldguardB_decide, Nat.reduceLT, Nat.reduceEqDiff, Nat.reduceAdd, Nat.reduceLeDiff, reduceIte, reduceCtorEq]
        · rintro ⟨a, c, w⟩ tm2 ⟨ha, hac, hw, hE⟩ hlen2 hlv2
          simp only [go_sem, hlen1, lcondB_decide, lcondB_not, lguardB_decide_true, lguardB_decide_false, ldguardB_decide, Nat.reduceLT, Nat.reduceEqDiff, Nat.reduceAdd, Nat.reduceLeDiff, reduceIte, reduceCtorEq] at hlen2 hlv2 ha hac hw hE
          simp (config := { contextual := true }) only [go_sem, lcondB_decide, lcondB_not, lguardB_decide_true, lguardB_decide_false, ldguardB_decide, Nat.reduceLT, Nat.reduceEqDiff, Nat.reduceAdd, Nat.reduceLeDiff, reduceIte, reduceCtorEq]
          refine ldrawB_cut 108 (fun b : Bool => [(0, .str x), (7, gsv 3 (nm s.nx 0) R.length), (9, .ptr (nm s.nx 1) 0), (10, .str c), (17, v), (18, .int .i64 l.length), (19, .int .i64 i), (46, .bool b)])
            (fun _ => loc s 15 [(0, gso 35 (edc R)), (1, some (.cells [.int .i64 a, .int .i64 e.cut, .str w] (some 35)))]) (fun b => (b = true ∧ ∃ p c' w', c = p :: c' ∧ w = p :: w') ∨ (b = false ∧ sqF a c w = (a, c, w))) ?_ ?_
          · refine ldrawB_go [] [] 13 (by decide) ?_
            rcases c with _ | ⟨p, c⟩
            · simp (config := { contextual := true }) only [go_sem, hlen2, hlv2, lcondB_decide, lcondB_not, lguardB_decide_true, lguardB_decide_false, ldguardB_decide, Nat.reduceLT, Nat.reduceEqDiff, Nat.reduceAdd, Nat.reduceLeDiff, reduceIte, reduceCtorEq]
              refine ⟨by kernel_rfl, by simp only [go_sem, hlen2], false, .inr ⟨rfl, sqF_nil1⟩, rfl, ?_⟩
              simp only [go_sem, hlen2, hlv2, lcondB_decide, lcondB_not, lguardB_decide_true, lguardB_decide_false, ldguardB_decide, Nat.reduceLT, Nat.reduceEqDiff, Nat.reduceAdd, Nat.reduceLeDiff, reduceIte, reduceCtorEq]
            · rcases w with _ | ⟨q, w⟩
              · simp (config := { contextual := true }) only [go_sem, hlen2, hlv2, lcondB_decide, lcondB_not, lguardB_decide_true, lguardB_decide_false, ldguardB_decide, Nat.reduceLT, Nat.reduceEqDiff, Nat.reduceAdd, Nat.reduceLeDiff, reduceIte, reduceCtorEq]
                refine ⟨by kernel_rfl, by simp only [go_sem, hlen2], false, .inr ⟨rfl, sqF_nil2⟩, rfl, ?_⟩
                simp only [go_sem, hlen2, hlv2, lcondB_decide, lcondB_not, lguardB_decide_true, lguardB_decide_false, ldguardB_decide, Nat.reduceLT, Nat.reduceEqDiff, Nat.reduceAdd, Nat.reduceLeDiff, reduceIte, reduceCtorEq]
              · simp only [go_sem, hlen2, hlv2, ixs0, Nat.reduceLT, Nat.reduceEqDiff, Nat.reduceAdd, Nat.reduceLeDiff, reduceIte, reduceCtorEq]
                refine ⟨by kernel_rfl, by simp only [go_sem, hlen2], decide (p = q), ?_, rfl, ?_⟩
                · by_cases h : p = q
                  · subst h; exact .inl ⟨by simp, p, c, w, rfl, rfl⟩
                  · exact .inr ⟨by simp [h], by rw [sqF, if_neg h]⟩
                · simp only [go_sem, hlen2, hlv2, u8ne, Nat.reduceLT, Nat.reduceEqDiff, Nat.reduceAdd, Nat.reduceLeDiff, reduceIte, reduceCtorEq]
          · rintro b tm3 hb hlen3 hlv3
            simp only [go_sem, lcondB_decide, lcondB_not, lguardB_decide_true, lguardB_decide_false, ldguardB_decide, Nat.reduceLT, Nat.reduceEqDiff, Nat.reduceAdd, Nat.reduceLeDiff, reduceIte, reduceCtorEq] at hlv3
            rcases hb with ⟨rfl, p, c', w', rfl, rfl⟩ | ⟨rfl, hst⟩
            · have hwa : IntKind.i64.wrap (a + 1) = a + 1 := wrap_id (by simp only [List.length_cons] at hac; omega)
              simp (config := { contextual := true }) only [go_sem, hlen3, hlv3, lcondB_decide, lcondB_not, lguardB_decide_true, lguardB_decide_false, ldguardB_decide, Nat.reduceLT, Nat.reduceEqDiff, Nat.reduceAdd, Nat.reduceLeDiff, reduceIte, reduceCtorEq]
              refine ldrawB_go [] [] 11 (by decide) ?_
              simp (config := { contextual := true }) only [go_sem, hlen3, hlv3, sl1, hwa, lcondB_decide, lcondB_not, lguardB_decide_true, lguardB_decide_false, ldguardB_decide, Nat.reduceLT, Nat.reduceEqDiff, Nat.reduceAdd, Nat.reduceLeDiff, reduceIte, reduceCtorEq]
              refine ⟨by kernel_rfl, hlen1.symm, (a + 1, c', w'), ⟨by simp only; omega, by simp only [List.length_cons] at hac ⊢; omega, by simp only [List.length_cons] at hw ⊢; omega, by rw [← hE, sqF, if_pos rfl]⟩, by simp only; omega, ?_⟩
              refine To.go [0, 1] _ rfl (.refl s) (by decide) (by simp) ?_ ?_
              · simp (config := { contextual := true }) only [go_sem, hlen3, hlv3, pu_ren hv.pu, lcondB_decide, lcondB_not, lguardB_decide_true, lguardB_decide_false, ldguardB_decide, Nat.reduceLT, Nat.reduceEqDiff, Nat.reduceAdd, Nat.reduceLeDiff, reduceIte, reduceCtorEq]
              · simp only [go_sem, map_gso_pu (edc_pul _), lcondB_decide, lcondB_not, lguardB_decide_true, lguardB_decide_false, ldguardB_decide, Nat.reduceLT, Nat.reduceEqDiff, Nat.reduceAdd, Nat.reduceLeDiff, reduceIte, reduceCtorEq]
            · rw [hst] at hE
              rw [← hE] at hsq
              have hcl2 : c.length ≤ 50000 := by omega
              simp (config := { contextual := true }) only [go_sem, hlen3, hlv3, lcondB_decide, lcondB_not, lguardB_decide_true, lguardB_decide_false, ldguardB_decide, Nat.reduceLT, Nat.reduceEqDiff, Nat.reduceAdd, Nat.reduceLeDiff, reduceIte, reduceCtorEq]
              refine ⟨List UInt8 × List UInt8, fun k => [(0, .str x), (7, gsv 3 (nm s.nx 0) R.length), (9, .ptr (nm s.nx 1) 0), (10, .str k.1), (17, v), (18, .int .i64 l.length), (19, .int .i64 i)],
                fun k => loc s 2 [(0, gso 35 (edc R)), (1, some (.cells [.int .i64 a, .int .i64 e.cut, .str k.2] (some 35)))], fun k => k.1.length ≤ 50000 ∧ k.2.length ≤ 100000 ∧ sqB k.1 k.2 = sqB c w, fun k => k.1.length, (c, w), ⟨hcl2, hw, rfl⟩, ?_, ?_⟩
              · refine To.go [0, 1] _ rfl (.refl s) (by decide) (by simp) ?_ ?_
                · simp (config := { contextual := true }) only [go_sem, hlen3, hlv3, pu_ren hv.pu, lcondB_decide, lcondB_not, lguardB_decide_true, lguardB_decide_false, ldguardB_decide, Nat.reduceLT, Nat.reduceEqDiff, Nat.reduceAdd, Nat.reduceLeDiff, reduceIte, reduceCtorEq]
                · simp only [go_sem, map_gso_pu (edc_pul _), lcondB_decide, lcondB_not, lguardB_decide_true, lguardB_decide_false, ldguardB_decide, Nat.reduceLT, Nat.reduceEqDiff, Nat.reduceAdd, Nat.reduceLeDiff, reduceIte, reduceCtorEq]
              · rintro ⟨c2, w2⟩ tm4 ⟨hk1, hk2, hE2⟩ hlen4 hlv4
                simp only [go_sem, hlen3, lcondB_decide, lcondB_not, lguardB_decide_true, lguardB_decide_false, ldguardB_decide, Nat.reduceLT, Nat.reduceEqDiff, Nat.reduceAdd, Nat.reduceLeDiff, reduceIte, reduceCtorEq] at hlen4 hlv4 hk1 hk2 hE2
                simp (config := { contextual := true }) only [go_sem, lcondB_decide, lcondB_not, lguardB_decide_true, lguardB_decide_false, ldguardB_decide, Nat.reduceLT, Nat.reduceEqDiff, Nat.reduceAdd, Nat.reduceLeDiff, reduceIte, reduceCtorEq]
                refine ldrawB_cut 108 (fun b : Bool => [(0, .str x), (7, gsv 3 (nm s.nx 0) R.length), (9, .ptr (nm s.nx 1) 0), (10, .str c2), (17, v), (18, .int .i64 l.length), (19, .int .i64 i), (78, .bool b)])
                  (fun _ => loc s 22 [(0, gso 35 (edc R)), (1, some (.cells [.int .i64 a, .int .i64 e.cut, .str w2] (some 35)))]) (fun b => (b = true ∧ ∃ p d u, c2 = d ++ [p] ∧ w2 = u ++ [p]) ∨ (b = false ∧ sqB c2 w2 = (c2, w2))) ?_ ?_
                · refine ldrawB_go [] [] 20 (by decide) ?_
                  rcases snoc_cases c2 with rfl | ⟨d, p, rfl⟩
                  · simp (config := { contextual := true }) only [go_sem, hlen4, hlv4, lcondB_decide, lcondB_not, lguardB_decide_true, lguardB_decide_false, ldguardB_decide, Nat.reduceLT, Nat.reduceEqDiff, Nat.reduceAdd, Nat.reduceLeDiff, reduceIte, reduceCtorEq]
                    refine ⟨by kernel_rfl, by simp only [go_sem, hlen4], false, .inr ⟨rfl, sqB_nil1⟩, rfl, ?_⟩
                    simp only [go_sem, hlen4, hlv4, lcondB_decide, lcondB_not, lguardB_decide_true, lguardB_decide_false, ldguardB_decide, Nat.reduceLT, Nat.reduceEqDiff, Nat.reduceAdd, Nat.reduceLeDiff, reduceIte, reduceCtorEq]
                  · rcases snoc_cases w2 with rfl | ⟨u, q, rfl⟩
                    · simp (config := { contextual := true }) only [go_sem, hlen4, hlv4, snoc_ne, lcondB_decide, lcondB_not, lguardB_decide_true, lguardB_decide_false, ldguardB_decide, Nat.reduceLT, Nat.reduceEqDiff, Nat.reduceAdd, Nat.reduceLeDiff, reduceIte, reduceCtorEq]
                      refine ⟨by kernel_rfl, by simp only [go_sem, hlen4], false, .inr ⟨rfl, sqB_nil2⟩, rfl, ?_⟩
                      simp only [go_sem, hlen4, hlv4, lcondB_decide, lcondB_not, lguardB_decide_true, lguardB_decide_false, ldguardB_decide, Nat.reduceLT, Nat.reduceEqDiff, Nat.reduceAdd, Nat.reduceLeDiff, reduceIte, reduceCtorEq]
                    · have hd : IntKind.i64.wrap (((d ++ [p]).length : Int) - 1) = d.length := by rw [wrap_id (by simp only [List.length_append, List.length_singleton] at hk1 ⊢; omega)]; simp
                      have hu : IntKind.i64.wrap (((u ++ [q]).length : Int) - 1) = u.length := by rw [wrap_id (by simp only [List.length_append, List.length_singleton] at hk2 ⊢; omega)]; simp
                      simp only [go_sem, hlen4, hlv4, snoc_ne, hd, hu, ixsl rfl, Nat.reduceLT, Nat.reduceEqDiff, Nat.reduceAdd, Nat.reduceLeDiff, reduceIte, reduceCtorEq]
                      refine ⟨by kernel_rfl, by simp only [go_sem, hlen4], decide (p = q), ?_, rfl, ?_⟩
                      · by_cases h : p = q
                        · subst h; exact .inl ⟨by simp, p, d, u, rfl, rfl⟩
                        · exact .inr ⟨by simp [h], sqB_ne h⟩
                      · simp only [go_sem, hlen4, hlv4, u8ne, Nat.reduceLT, Nat.reduceEqDiff, Nat.reduceAdd, Nat.reduceLeDiff, reduceIte, reduceCtorEq]
                · rintro b tm5 hb hlen5 hlv5
                  simp only [go_sem, lcondB_decide, lcondB_not, lguardB_decide_true, lguardB_decide_false, ldguardB_decide, Nat.reduceLT, Nat.reduceEqDiff, Nat.reduceAdd, Nat.reduceLeDiff, reduceIte, reduceCtorEq] at hlv5
                  rcases hb with ⟨rfl, p, d, u, rfl, rfl⟩ | ⟨rfl, hst2⟩
                  · have hd : IntKind.i64.wrap (((d ++ [p]).length : Int) - 1) = d.length := by rw [wrap_id (by simp only [List.length_append, List.length_singleton] at hk1 ⊢; omega)]; simp
                    have hu : IntKind.i64.wrap (((u ++ [p]).length : Int) - 1) = u.length := by rw [wrap_id (by simp only [List.length_append, List.length_singleton] at hk2 ⊢; omega)]; simp
                    simp (config := { contextual := true }) only [go_sem, hlen5, hlv5, lcondB_decide, lcondB_not, lguardB_decide_true, lguardB_decide_false, ldguardB_decide, Nat.reduceLT, Nat.reduceEqDiff, Nat.reduceAdd, Nat.reduceLeDiff, reduceIte, reduceCtorEq]
                    refine ldrawB_go [] [] 13 (by decide) ?_
                    simp (config := { contextual := true }) only [go_sem, hlen5, hlv5, hd, hu, sll rfl, lcondB_decide, lcondB_not, lguardB_decide_true, lguardB_decide_false, ldguardB_decide, Nat.reduceLT, Nat.reduceEqDiff, Nat.reduceAdd, Nat.reduceLeDiff, reduceIte, reduceCtorEq]
                    refine ⟨by kernel_rfl, hlen3.symm, (d, u), ⟨by simp only [List.length_append, List.length_singleton] at hk1 ⊢; omega, by simp only [List.length_append, List.length_singleton] at hk2 ⊢; omega, by rw [← hE2, sqB_eq]⟩, by simp only [List.length_append, List.length_singleton]; omega, ?_⟩
                    refine To.go [0, 1] _ rfl (.refl s) (by decide) (by simp) ?_ ?_
                    · simp (config := { contextual := true }) only [go_sem, hlen5, hlv5, pu_ren hv.pu, lcondB_decide, lcondB_not, lguardB_decide_true, lguardB_decide_false, ldguardB_decide, Nat.reduceLT, Nat.reduceEqDiff, Nat.reduceAdd, Nat.reduceLeDiff, reduceIte, reduceCtorEq]
                    · simp only [go_sem, map_gso_pu (edc_pul _), lcondB_decide, lcondB_not, lguardB_decide_true, lguardB_decide_false, ldguardB_decide, Nat.reduceLT, Nat.reduceEqDiff, Nat.reduceAdd, Nat.reduceLeDiff, reduceIte, reduceCtorEq]
                  · rw [hst2] at hE2
                    simp only [← hE2] at hsq
                    simp (config := { contextual := true }) only [go_sem, hlen5, hlv5, lcondB_decide, lcondB_not, lguardB_decide_true, lguardB_decide_false, ldguardB_decide, Nat.reduceLT, Nat.reduceEqDiff, Nat.reduceAdd, Nat.reduceLeDiff, reduceIte, reduceCtorEq]
                    refine ⟨fun q => ?_, fun q => ⟨fun q2 => ?_, fun q2 => ?_⟩⟩
                    · simp only [ne_eq, q, not_true_eq_false, not_false_eq_true, true_or, or_true, if_true] at hsq
                      refine lmem_eq (app27 (acellsOf_rs (by simp only [go_sem, lcondB_decide, lcondB_not, lguardB_decide_true, lguardB_decide_false, ldguardB_decide, Nat.reduceLT, Nat.reduceEqDiff, Nat.reduceAdd, Nat.reduceLeDiff, reduceIte, reduceCtorEq]; rfl) (by rfl) rfl) (by decide) (by simp only [go_sem, lcondB_decide, lcondB_not, lguardB_decide_true, lguardB_decide_false, ldguardB_decide, Nat.reduceLT, Nat.reduceEqDiff, Nat.reduceAdd, Nat.reduceLeDiff, reduceIte, reduceCtorEq]) (by simp only [go_sem, lcondB_decide, lcondB_not, lguardB_decide_true, lguardB_decide_false, ldguardB_decide, Nat.reduceLT, Nat.reduceEqDiff, Nat.reduceAdd, Nat.reduceLeDiff, reduceIte, reduceCtorEq]) (edc_len R) (by omega) rfl) ?_
                      simp (config := { contextual := true }) only [go_sem, hlen5, hlv5, hw3, lcondB_decide, lcondB_not, lguardB_decide_true, lguardB_decide_false, ldguardB_decide, Nat.reduceLT, Nat.reduceEqDiff, Nat.reduceAdd, Nat.reduceLeDiff, reduceIte, reduceCtorEq]
                      refine ⟨(i + 1, e.at_ + e.cut, R ++ [⟨a, c2.length, w2⟩]), ⟨by simp only; omega, by simp only [List.length_append, List.length_singleton]; omega, c6, ?_⟩, by simp only; omega, ?_⟩
                      · rw [← hL, sqz_cons, hsq, List.append_assoc]
                      · refine To.go [23] [(0, gso 35 (edc (R ++ [⟨a, c2.length, w2⟩])))] rfl (.refl s) (by decide) (by simp) ?_ ?_
                        · simp (config := { contextual := true }) only [go_sem, hlen5, hlv5, pu_ren hv.pu, List.length_append, gsv_pos (Nat.succ_ne_zero R.length), lcondB_decide, lcondB_not, lguardB_decide_true, lguardB_decide_false, ldguardB_decide, Nat.reduceLT, Nat.reduceEqDiff, Nat.reduceAdd, Nat.reduceLeDiff, reduceIte, reduceCtorEq]
                        · simp only [go_sem, map_gso_pu (edc_pul _), lcondB_decide, lcondB_not, lguardB_decide_true, lguardB_decide_false, ldguardB_decide, Nat.reduceLT, Nat.reduceEqDiff, Nat.reduceAdd, Nat.reduceLeDiff, reduceIte, reduceCtorEq]
                          rw [edc_snoc]
                          exact (gso_pos (by simp)).symm
                    · subst q
                      simp only [ne_eq, q2, not_true_eq_false, not_false_eq_true, true_or, or_true, if_true] at hsq
                      refine lmem_eq (app27 (acellsOf_rs (by simp only [go_sem, lcondB_decide, lcondB_not, lguardB_decide_true, lguardB_decide_false, ldguardB_decide, Nat.reduceLT, Nat.reduceEqDiff, Nat.reduceAdd, Nat.reduceLeDiff, reduceIte, reduceCtorEq]; rfl) (by rfl) rfl) (by decide) (by simp only [go_sem, lcondB_decide, lcondB_not, lguardB_decide_true, lguardB_decide_false, ldguardB_decide, Nat.reduceLT, Nat.reduceEqDiff, Nat.reduceAdd, Nat.reduceLeDiff, reduceIte, reduceCtorEq]) (by simp only [go_sem, lcondB_decide, lcondB_not, lguardB_decide_true, lguardB_decide_false, ldguardB_decide, Nat.reduceLT, Nat.reduceEqDiff, Nat.reduceAdd, Nat.reduceLeDiff, reduceIte, reduceCtorEq]) (edc_len R) (by omega) rfl) ?_
                      simp (config := { contextual := true }) only [go_sem, hlen5, hlv5, hw3, lcondB_decide, lcondB_not, lguardB_decide_true, lguardB_decide_false, ldguardB_decide, Nat.reduceLT, Nat.reduceEqDiff, Nat.reduceAdd, Nat.reduceLeDiff, reduceIte, reduceCtorEq]
                      refine ⟨(i + 1, e.at_ + e.cut, R ++ [⟨a, 0, w2⟩]), ⟨by simp only; omega, by simp only [List.length_append, List.length_singleton]; omega, c6, ?_⟩, by simp only; omega, ?_⟩
                      · rw [← hL, sqz_cons, hsq, List.append_assoc]; rfl
                      · refine To.go [23] [(0, gso 35 (edc (R ++ [⟨a, 0, w2⟩])))] rfl (.refl s) (by decide) (by simp) ?_ ?_
                        · simp (config := { contextual := true }) only [go_sem, hlen5, hlv5, pu_ren hv.pu, List.length_append, gsv_pos (Nat.succ_ne_zero R.length), lcondB_decide, lcondB_not, lguardB_decide_true, lguardB_decide_false, ldguardB_decide, Nat.reduceLT, Nat.reduceEqDiff, Nat.reduceAdd, Nat.reduceLeDiff, reduceIte, reduceCtorEq]
                        · simp only [go_sem, map_gso_pu (edc_pul _), lcondB_decide, lcondB_not, lguardB_decide_true, lguardB_decide_false, ldguardB_decide, Nat.reduceLT, Nat.reduceEqDiff, Nat.reduceAdd, Nat.reduceLeDiff, reduceIte, reduceCtorEq]
                          rw [edc_snoc]
                          exact (gso_pos (by simp)).symm
                    · subst q
                      subst q2
                      simp only [ne_eq, not_true_eq_false, or_self, if_false] at hsq
                      rw [hw3]
                      refine ⟨(i + 1, e.at_ + e.cut, R), ⟨by simp only; omega, by simp only; omega, c6, ?_⟩, by simp only; omega, ?_⟩
                      · rw [← hL, sqz_cons, hsq, List.nil_append]
                      · refine To.go [0] [(0, gso 35 (edc R))] rfl (.refl s) (by decide) (by simp) ?_ ?_
                        · simp (config := { contextual := true }) only [go_sem, hlen5, hlv5, pu_ren hv.pu, lcondB_decide, lcondB_not, lguardB_decide_true, lguardB_decide_false, ldguardB_decide, Nat.reduceLT, Nat.reduceEqDiff, Nat.reduceAdd, Nat.reduceLeDiff, reduceIte, reduceCtorEq]
                        · simp only [go_sem, map_gso_pu (edc_pul _), lcondB_decide, lcondB_not, lguardB_decide_true, lguardB_decide_false, ldguardB_decide, Nat.reduceLT, Nat.reduceEqDiff, Nat.reduceAdd, Nat.reduceLeDiff, reduceIte, reduceCtorEq]
      · have hi2 : i = l.length := by omega
        rw [hi2, List.drop_length, sqz, List.flatMap_nil, List.append_nil] at hL
        refine lexit_freezeG 0 3 (R.map Ed.enc) (by simp only [go_sem, lcondB_decide, lcondB_not, lguardB_decide_true, lguardB_decide_false, ldguardB_decide, Nat.reduceLT, Nat.reduceEqDiff, Nat.reduceAdd, Nat.reduceLeDiff, reduceIte, reduceCtorEq]; rfl) (enc_len R) (by decide) ?_
        simp only [go_sem, len_fz, hL, lcondB_decide, lcondB_not, lguardB_decide_true, lguardB_decide_false, ldguardB_decide, Nat.reduceLT, Nat.reduceEqDiff, Nat.reduceAdd, Nat.reduceLeDiff, reduceIte, reduceCtorEq]
        exact lexit_pure (.refl s) (by simp only [low, lowL, and_self, and_true]; exact low.mono (Nat.zero_le _) (edv_pu _)) ⟨rfl, rfl⟩
end Go.S1N
end
section
set_option linter.unusedVariables false
set_option linter.unusedSimpArgs false
namespace Go.S1N
open Go Go.Am Go.Proofs Go.S1
set_option maxRecDepth 100000
set_option linter.unusedSimpArgs false
attribute [local irreducible] lopsB lvb lstepB lfunG lcondB lguardB ldrawB ldrunB ldstepB ldguardB lmem lval ldmem ldval ldfun lexit ldloadB ldlenB lpostB athen ablock

theorem ixd {x r : List UInt8} {p : UInt8} {a : Int} {m : Nat} (h0 : 0 ≤ a) (hm : r[m]? = some p) (h : x.drop a.toNat = r) {b : Int} (hb : b = a + m) : aindex tab 9 (.str x) (.int .i64 b) = some (.int .u8 p.toNat) := by
  have e : x[b.toNat]? = some p := by
    rw [show b.toNat = a.toNat + m by omega, ← List.getElem?_drop, h, hm]
  have h2 : 0 ≤ b := by omega
  simp [aindex, ty9, h2, e]
theorem gtT {k : Int} (h : 0 < k) : abin tab .gtr 3 (.int .i64 k) (.int .i64 0) = some (.bool true) := by
  simp [abin, abin1, aint, ty3, apart, TD.isAgg, h]
theorem gtF {k : Int} (h : ¬ 0 < k) : abin tab .gtr 3 (.int .i64 k) (.int .i64 0) = some (.bool false) := by
  simp [abin, abin1, aint, ty3, apart, TD.isAgg, h]

theorem squeezedOf_ok (x : List UInt8) (v : AV) (l : List Ed) (hv : SlE v l) (hl : l.length ≤ 2000) (hx : x.length ≤ 20000) (hnew : ∀ e ∈ l, e.new.length ≤ 100000) (hsc : scan x.length (-1) l = 0) (s : AHeap) :
    ACall Try.prog 29 [.str x, v] s fun r t => r = edv (sqz x l) ∧ t = s := by
  refine gob29 (by simp) ?_
  intro tm hlen harg
  simp (config := { contextual := true }) only [go_sem, L29, hlen, harg, hv.len, lcondB_decide, lcondB_not, lguardB_decide_true, lguardB_decide_false, ldguardB_decide, Nat.reduceLT, Nat.reduceEqDiff, Nat.reduceAdd, Nat.reduceLeDiff, reduceIte, reduceCtorEq]
  refine ⟨Nat × Int × List Ed, fun a => [(0, .str x), (5, gsv 3 (nm s.nx 0) a.2.2.length), (8, v), (9, .int .i64 l.length), (10, .int .i64 a.1)],
    fun a => loc s 1 [(0, gso 35 (edc a.2.2))], fun a => a.1 ≤ l.length ∧ a.2.2.length ≤ a.1 ∧ scan x.length a.2.1 (l.drop a.1) = 0 ∧ a.2.2 ++ sqz x (l.drop a.1) = sqz x l,
    fun a => l.length - a.1, (0, -1, []), ⟨by simp, by simp, by simpa using hsc, by simp⟩, ?_, ?_⟩
  · refine To.go [9] [(0, none)] (by simp only [edc, List.map_nil, List.flatMap_nil, gso_nil]; rfl) (.refl s) (by decide) (by simp) ?_ ?_
    · simp (config := { contextual := true }) only [go_sem, hlen, harg, hv.pu, pu_ren hv.pu, List.length_nil, gsv_zero, lcondB_decide, lcondB_not, lguardB_decide_true, lguardB_decide_false, ldguardB_decide, Nat.reduceLT, Nat.reduceEqDiff, Nat.reduceAdd, Nat.reduceLeDiff, reduceIte, reduceCtorEq]
      simp
    · simp only [go_sem, lcondB_decide, lcondB_not, lguardB_decide_true, lguardB_decide_false, ldguardB_decide, Nat.reduceLT, Nat.reduceEqDiff, Nat.reduceAdd, Nat.reduceLeDiff, reduceIte, reduceCtorEq]
  · rintro ⟨i, B, R⟩ tm1 ⟨hi, hR, hs, hL⟩ hlen1 hlv
    simp only [go_sem, hlen, lcondB_decide, lcondB_not, lguardB_decide_true, lguardB_decide_false, ldguardB_decide, Nat.reduceLT, Nat.reduceEqDiff, Nat.reduceAdd, Nat.reduceLeDiff, reduceIte, reduceCtorEq] at hlen1 hlv hi hR hs hL
    simp (config := { contextual := true }) only [go_sem, hlen, hlen1, hlv, lcondB_decide, lcondB_not, lguardB_decide_true, lguardB_decide_false, ldguardB_decide, Nat.reduceLT, Nat.reduceEqDiff, Nat.reduceAdd, Nat.reduceLeDiff, reduceIte, reduceCtorEq]
    refine ⟨fun hlt => ?_, fun hge => ?_⟩
    · have hi2 : i < l.length := by omega
      have he := List.getElem?_eq_getElem hi2
      have hmem : l[i] ∈ l := List.getElem_mem hi2
      have hdrop := List.drop_eq_getElem_cons hi2
      generalize l[i] = e at he hdrop hmem
      have hen := hnew e hmem
      rw [hdrop] at hs hL
      obtain ⟨c1, c2, c3, c4, c5, c6⟩ := scan_cons hs
      have hw3 : IntKind.i64.wrap ((i : Int) + 1) = ((i + 1 : Nat) : Int) := by rw [wrap_id (by omega)]; rfl
      simp (config := { contextual := true }) only [go_sem, hlen, hlen1, hlv, hv.at he, lcondB_decide, lcondB_not, lguardB_decide_true, lguardB_decide_false, ldguardB_decide, Nat.reduceLT, Nat.reduceEqDiff, Nat.reduceAdd, Nat.reduceLeDiff, reduceIte, reduceCtorEq]
      have hcl : (((x.drop e.at_.toNat).take ((e.at_ + e.cut).toNat - e.at_.toNat)).length : Int) = e.cut := by simp; omega
      have hdr : x.drop e.at_.toNat = (x.drop e.at_.toNat).take ((e.at_ + e.cut).toNat - e.at_.toNat) ++ (x.drop e.at_.toNat).drop ((e.at_ + e.cut).toNat - e.at_.toNat) := (List.take_append_drop _ _).symm
      have hsq : sq1 x e = _ := sq1.eq_def x e
      generalize hc0 : (x.drop e.at_.toNat).take ((e.at_ + e.cut).toNat - e.at_.toNat) = c0 at hcl hsq hdr
      generalize (x.drop e.at_.toNat).drop ((e.at_ + e.cut).toNat - e.at_.toNat) = rest at hdr
      clear hc0
      refine ⟨Int × Int × List UInt8 × List UInt8, fun a => [(0, .str x), (5, gsv 3 (nm s.nx 0) R.length), (7, .ptr (nm s.nx 1) 0), (8, v), (9, .int .i64 l.length), (10, .int .i64 i)],
        fun a => loc s 2 [(0, gso 35 (edc R)), (1, some (.cells [.int .i64 a.1, .int .i64 a.2.1, .str a.2.2.2] (some 35)))], fun a => 0 ≤ a.1 ∧ a.1 + a.2.1 ≤ 50000 ∧ a.2.1 = a.2.2.1.length ∧ x.drop a.1.toNat = a.2.2.1 ++ rest ∧ a.2.2.2.length ≤ 100000 ∧ sqF a.1 a.2.2.1 a.2.2.2 = sqF e.at_ c0 e.new, fun a => a.2.2.1.length, (e.at_, e.cut, c0, e.new), ⟨c1, by simp only; omega, hcl.symm, hdr, by simp only; omega, rfl⟩, ?_, ?_⟩
      · refine To.go [0, 1] _ rfl (.refl s) (by decide) (by simp) ?_ ?_
        · simp (config := { contextual := true }) only [go_sem, hlen1, hlv, pu_ren hv.pu, lcondB_decide, lcondB_not, lguardB_decide_true, lguardB_decide_false, ldguardB_decide, Nat.reduceLT, Nat.reduceEqDiff, Nat.reduceAdd, Nat.reduceLeDiff, reduceIte, reduceCtorEq]
        · simp only [go_sem, map_gso_pu (edc_pul _), lcondB_decide, lcondB_not, lguardB_decide_true, lguardB_decide_false, ldguardB_decide, Nat.reduceLT, Nat.reduceEqDiff, Nat.reduceAdd, Nat.reduceLeDiff, reduceIte, reduceCtorEq]
      · rintro ⟨a, k, c, w⟩ tm2 ⟨ha, hak, hkc, hxd, hw, hE⟩ hlen2 hlv2
        simp only [go_sem, hlen1, lcondB_decide, lcondB_not, lguardB_decide_true, lguardB_decide_false, ldguardB_decide, Nat.reduceLT, Nat.reduceEqDiff, Nat.reduceAdd, Nat.reduceLeDiff, reduceIte, reduceCtorEq] at hlen2 hlv2 ha hak hkc hxd hw hE
        simp (config := { contextual := true }) only [go_sem, lcondB_decide, lcondB_not, lguardB_decide_true, lguardB_decide_false, ldguardB_decide, Nat.reduceLT, Nat.reduceEqDiff, Nat.reduceAdd, Nat.reduceLeDiff, reduceIte, reduceCtorEq]
        refine ldrawB_cut 96 (fun b : Bool => [(0, .str x), (5, gsv 3 (nm s.nx 0) R.length), (7, .ptr (nm s.nx 1) 0), (8, v), (9, .int .i64 l.length), (10, .int .i64 i), (31, .bool b)])
          (fun _ => loc s 18 [(0, gso 35 (edc R)), (1, some (.cells [.int .i64 a, .int .i64 k, .str w] (some 35)))]) (fun b => (b = true ∧ ∃ p c' w', c = p :: c' ∧ w = p :: w') ∨ (b = false ∧ sqF a c w = (a, c, w))) ?_ ?_
        · refine ldrawB_go [] [] 16 (by decide) ?_
          rcases c with _ | ⟨p, c⟩
          · have hgt := gtF (k := k) (by rw [hkc]; simp)
            simp (config := { contextual := true }) only [go_sem, hlen2, hlv2, hgt, lcondB_decide, lcondB_not, lguardB_decide_true, lguardB_decide_false, ldguardB_decide, Nat.reduceLT, Nat.reduceEqDiff, Nat.reduceAdd, Nat.reduceLeDiff, reduceIte, reduceCtorEq]
            refine ⟨by kernel_rfl, by simp only [go_sem, hlen2], false, .inr ⟨rfl, sqF_nil1⟩, rfl, ?_⟩
            simp only [go_sem, hlen2, hlv2, lcondB_decide, lcondB_not, lguardB_decide_true, lguardB_decide_false, ldguardB_decide, Nat.reduceLT, Nat.reduceEqDiff, Nat.reduceAdd, Nat.reduceLeDiff, reduceIte, reduceCtorEq]
          · have hgt := gtT (k := k) (by rw [hkc, List.length_cons]; omega)
            rcases w with _ | ⟨q, w⟩
            · simp (config := { contextual := true }) only [go_sem, hlen2, hlv2, hgt, lcondB_decide, lcondB_not, lguardB_decide_true, lguardB_decide_false, ldguardB_decide, Nat.reduceLT, Nat.reduceEqDiff, Nat.reduceAdd, Nat.reduceLeDiff, reduceIte, reduceCtorEq]
              refine ⟨by kernel_rfl, by simp only [go_sem, hlen2], false, .inr ⟨rfl, sqF_nil2⟩, rfl, ?_⟩
              simp only [go_sem, hlen2, hlv2, lcondB_decide, lcondB_not, lguardB_decide_true, lguardB_decide_false, ldguardB_decide, Nat.reduceLT, Nat.reduceEqDiff, Nat.reduceAdd, Nat.reduceLeDiff, reduceIte, reduceCtorEq]
            · have hix := ixd (m := 0) (p := p) ha rfl hxd (b := a) (by simp)
              simp only [go_sem, hlen2, hlv2, hgt, ixs0, hix, Nat.reduceLT, Nat.reduceEqDiff, Nat.reduceAdd, Nat.reduceLeDiff, reduceIte, reduceCtorEq]
              refine ⟨by kernel_rfl, by simp only [go_sem, hlen2], decide (p = q), ?_, rfl, ?_⟩
              · by_cases h : p = q
                · subst h; exact .inl ⟨by simp, p, c, w, rfl, rfl⟩
                · exact .inr ⟨by simp [h], by rw [sqF, if_neg h]⟩
              · simp only [go_sem, hlen2, hlv2, u8ne, Nat.reduceLT, Nat.reduceEqDiff, Nat.reduceAdd, Nat.reduceLeDiff, reduceIte, reduceCtorEq]
        · rintro b tm3 hb hlen3 hlv3
          simp only [go_sem, lcondB_decide, lcondB_not, lguardB_decide_true, lguardB_decide_false, ldguardB_decide, Nat.reduceLT, Nat.reduceEqDiff, Nat.reduceAdd, Nat.reduceLeDiff, reduceIte, reduceCtorEq] at hlv3
          rcases hb with ⟨rfl, p, c', w', rfl, rfl⟩ | ⟨rfl, hst⟩
          · have hkc' := hkc
            simp only [List.length_cons] at hkc'
            have hwa : IntKind.i64.wrap (a + 1) = a + 1 := wrap_id (by omega)
            have hwk : IntKind.i64.wrap (k - 1) = k - 1 := wrap_id (by omega)
            simp (config := { contextual := true }) only [go_sem, hlen3, hlv3, lcondB_decide, lcondB_not, lguardB_decide_true, lguardB_decide_false, ldguardB_decide, Nat.reduceLT, Nat.reduceEqDiff, Nat.reduceAdd, Nat.reduceLeDiff, reduceIte, reduceCtorEq]
            refine ldrawB_go [] [] 13 (by decide) ?_
            simp (config := { contextual := true }) only [go_sem, hlen3, hlv3, sl1, hwa, hwk, lcondB_decide, lcondB_not, lguardB_decide_true, lguardB_decide_false, ldguardB_decide, Nat.reduceLT, Nat.reduceEqDiff, Nat.reduceAdd, Nat.reduceLeDiff, reduceIte, reduceCtorEq]
            refine ⟨by kernel_rfl, hlen1.symm, (a + 1, k - 1, c', w'), ⟨by simp only; omega, by simp only; omega, by simp only; omega, ?_, by simp only [List.length_cons] at hw ⊢; omega, by rw [← hE, sqF, if_pos rfl]⟩, by simp only; omega, ?_⟩
            · simp only
              rw [show (a + 1).toNat = a.toNat + 1 by omega, ← List.drop_drop, hxd]; rfl
            · refine To.go [0, 1] _ rfl (.refl s) (by decide) (by simp) ?_ ?_
              · simp (config := { contextual := true }) only [go_sem, hlen3, hlv3, pu_ren hv.pu, lcondB_decide, lcondB_not, lguardB_decide_true, lguardB_decide_false, ldguardB_decide, Nat.reduceLT, Nat.reduceEqDiff, Nat.reduceAdd, Nat.reduceLeDiff, reduceIte, reduceCtorEq]
              · simp only [go_sem, map_gso_pu (edc_pul _), lcondB_decide, lcondB_not, lguardB_decide_true, lguardB_decide_false, ldguardB_decide, Nat.reduceLT, Nat.reduceEqDiff, Nat.reduceAdd, Nat.reduceLeDiff, reduceIte, reduceCtorEq]
          · rw [hst] at hE
            rw [← hE] at hsq
            simp (config := { contextual := true }) only [go_sem, hlen3, hlv3, lcondB_decide, lcondB_not, lguardB_decide_true, lguardB_decide_false, ldguardB_decide, Nat.reduceLT, Nat.reduceEqDiff, Nat.reduceAdd, Nat.reduceLeDiff, reduceIte, reduceCtorEq]
            refine ⟨Int × List UInt8 × List UInt8 × List UInt8, fun u => [(0, .str x), (5, gsv 3 (nm s.nx 0) R.length), (7, .ptr (nm s.nx 1) 0), (8, v), (9, .int .i64 l.length), (10, .int .i64 i)],
              fun u => loc s 2 [(0, gso 35 (edc R)), (1, some (.cells [.int .i64 a, .int .i64 u.1, .str u.2.2.1] (some 35)))], fun u => u.1 = u.2.1.length ∧ u.1 ≤ k ∧ x.drop a.toNat = u.2.1 ++ u.2.2.2 ∧ u.2.2.1.length ≤ 100000 ∧ sqB u.2.1 u.2.2.1 = sqB c w, fun u => u.2.1.length, (k, c, w, rest), ⟨hkc, Int.le_refl _, hxd, hw, rfl⟩, ?_, ?_⟩
            · refine To.go [0, 1] _ rfl (.refl s) (by decide) (by simp) ?_ ?_
              · simp (config := { contextual := true }) only [go_sem, hlen3, hlv3, pu_ren hv.pu, lcondB_decide, lcondB_not, lguardB_decide_true, lguardB_decide_false, ldguardB_decide, Nat.reduceLT, Nat.reduceEqDiff, Nat.reduceAdd, Nat.reduceLeDiff, reduceIte, reduceCtorEq]
              · simp only [go_sem, map_gso_pu (edc_pul _), lcondB_decide, lcondB_not, lguardB_decide_true, lguardB_decide_false, ldguardB_decide, Nat.reduceLT, Nat.reduceEqDiff, Nat.reduceAdd, Nat.reduceLeDiff, reduceIte, reduceCtorEq]
            · rintro ⟨k2, c2, w2, r2⟩ tm4 ⟨hk1, hk0, hxd2, hk2, hE2⟩ hlen4 hlv4
              simp only [go_sem, hlen3, lcondB_decide, lcondB_not, lguardB_decide_true, lguardB_decide_false, ldguardB_decide, Nat.reduceLT, Nat.reduceEqDiff, Nat.reduceAdd, Nat.reduceLeDiff, reduceIte, reduceCtorEq] at hlen4 hlv4 hk1 hk0 hxd2 hk2 hE2
              simp (config := { contextual := true }) only [go_sem, lcondB_decide, lcondB_not, lguardB_decide_true, lguardB_decide_false, ldguardB_decide, Nat.reduceLT, Nat.reduceEqDiff, Nat.reduceAdd, Nat.reduceLeDiff, reduceIte, reduceCtorEq]
              refine ldrawB_cut 96 (fun b : Bool => [(0, .str x), (5, gsv 3 (nm s.nx 0) R.length), (7, .ptr (nm s.nx 1) 0), (8, v), (9, .int .i64 l.length), (10, .int .i64 i), (69, .bool b)])
                (fun _ => loc s 26 [(0, gso 35 (edc R)), (1, some (.cells [.int .i64 a, .int .i64 k2, .str w2] (some 35)))]) (fun b => (b = true ∧ ∃ p d u, c2 = d ++ [p] ∧ w2 = u ++ [p]) ∨ (b = false ∧ sqB c2 w2 = (c2, w2))) ?_ ?_
              · refine ldrawB_go [] [] 24 (by decide) ?_
                rcases snoc_cases c2 with rfl | ⟨d, p, rfl⟩
                · have hgt := gtF (k := k2) (by rw [hk1]; simp)
                  simp (config := { contextual := true }) only [go_sem, hlen4, hlv4, hgt, lcondB_decide, lcondB_not, lguardB_decide_true, lguardB_decide_false, ldguardB_decide, Nat.reduceLT, Nat.reduceEqDiff, Nat.reduceAdd, Nat.reduceLeDiff, reduceIte, reduceCtorEq]
                  refine ⟨by kernel_rfl, by simp only [go_sem, hlen4], false, .inr ⟨rfl, sqB_nil1⟩, rfl, ?_⟩
                  simp only [go_sem, hlen4, hlv4, lcondB_decide, lcondB_not, lguardB_decide_true, lguardB_decide_false, ldguardB_decide, Nat.reduceLT, Nat.reduceEqDiff, Nat.reduceAdd, Nat.reduceLeDiff, reduceIte, reduceCtorEq]
                · have hgt := gtT (k := k2) (by rw [hk1, List.length_append, List.length_singleton]; omega)
                  rcases snoc_cases w2 with rfl | ⟨u, q, rfl⟩
                  · simp (config := { contextual := true }) only [go_sem, hlen4, hlv4, hgt, lcondB_decide, lcondB_not, lguardB_decide_true, lguardB_decide_false, ldguardB_decide, Nat.reduceLT, Nat.reduceEqDiff, Nat.reduceAdd, Nat.reduceLeDiff, reduceIte, reduceCtorEq]
                    refine ⟨by kernel_rfl, by simp only [go_sem, hlen4], false, .inr ⟨rfl, sqB_nil2⟩, rfl, ?_⟩
                    simp only [go_sem, hlen4, hlv4, lcondB_decide, lcondB_not, lguardB_decide_true, lguardB_decide_false, ldguardB_decide, Nat.reduceLT, Nat.reduceEqDiff, Nat.reduceAdd, Nat.reduceLeDiff, reduceIte, reduceCtorEq]
                  · have hk1' := hk1
                    simp only [List.length_append, List.length_singleton] at hk1'
                    have hd : IntKind.i64.wrap (a + k2) = a + k2 := wrap_id (by omega)
                    have hd2 : IntKind.i64.wrap (a + k2 - 1) = a + k2 - 1 := wrap_id (by omega)
                    have hu : IntKind.i64.wrap (((u ++ [q]).length : Int) - 1) = u.length := by rw [wrap_id (by simp only [List.length_append, List.length_singleton] at hk2 ⊢; omega)]; simp
                    have hix := ixd (m := d.length) (p := p) ha (by simp) hxd2 (b := a + k2 - 1) (by omega)
                    simp only [go_sem, hlen4, hlv4, hgt, snoc_ne, hd, hd2, hu, hix, ixsl rfl, Nat.reduceLT, Nat.reduceEqDiff, Nat.reduceAdd, Nat.reduceLeDiff, reduceIte, reduceCtorEq]
                    refine ⟨by kernel_rfl, by simp only [go_sem, hlen4], decide (p = q), ?_, rfl, ?_⟩
                    · by_cases h : p = q
                      · subst h; exact .inl ⟨by simp, p, d, u, rfl, rfl⟩
                      · exact .inr ⟨by simp [h], sqB_ne h⟩
                    · simp only [go_sem, hlen4, hlv4, u8ne, Nat.reduceLT, Nat.reduceEqDiff, Nat.reduceAdd, Nat.reduceLeDiff, reduceIte, reduceCtorEq]
              · rintro b tm5 hb hlen5 hlv5
                simp only [go_sem, lcondB_decide, lcondB_not, lguardB_decide_true, lguardB_decide_false, ldguardB_decide, Nat.reduceLT, Nat.reduceEqDiff, Nat.reduceAdd, Nat.reduceLeDiff, reduceIte, reduceCtorEq] at hlv5
                rcases hb with ⟨rfl, p, d, u, rfl, rfl⟩ | ⟨rfl, hst2⟩
                · have hk1' := hk1
                  simp only [List.length_append, List.length_singleton] at hk1'
                  have hd : IntKind.i64.wrap (k2 - 1) = k2 - 1 := wrap_id (by omega)
                  have hu : IntKind.i64.wrap (((u ++ [p]).length : Int) - 1) = u.length := by rw [wrap_id (by simp only [List.length_append, List.length_singleton] at hk2 ⊢; omega)]; simp
                  simp (config := { contextual := true }) only [go_sem, hlen5, hlv5, lcondB_decide, lcondB_not, lguardB_decide_true, lguardB_decide_false, ldguardB_decide, Nat.reduceLT, Nat.reduceEqDiff, Nat.reduceAdd, Nat.reduceLeDiff, reduceIte, reduceCtorEq]
                  refine ldrawB_go [] [] 12 (by decide) ?_
                  simp (config := { contextual := true }) only [go_sem, hlen5, hlv5, hd, hu, sll rfl, lcondB_decide, lcondB_not, lguardB_decide_true, lguardB_decide_false, ldguardB_decide, Nat.reduceLT, Nat.reduceEqDiff, Nat.reduceAdd, Nat.reduceLeDiff, reduceIte, reduceCtorEq]
                  refine ⟨by kernel_rfl, hlen3.symm, (k2 - 1, d, u, p :: r2), ⟨by simp only; omega, by simp only; omega, by simp only; rw [hxd2, List.append_assoc]; rfl, by simp only [List.length_append, List.length_singleton] at hk2 ⊢; omega, by rw [← hE2, sqB_eq]⟩, by simp only [List.length_append, List.length_singleton]; omega, ?_⟩
                  refine To.go [0, 1] _ rfl (.refl s) (by decide) (by simp) ?_ ?_
                  · simp (config := { contextual := true }) only [go_sem, hlen5, hlv5, pu_ren hv.pu, lcondB_decide, lcondB_not, lguardB_decide_true, lguardB_decide_false, ldguardB_decide, Nat.reduceLT, Nat.reduceEqDiff, Nat.reduceAdd, Nat.reduceLeDiff, reduceIte, reduceCtorEq]
                  · simp only [go_sem, map_gso_pu (edc_pul _), lcondB_decide, lcondB_not, lguardB_decide_true, lguardB_decide_false, ldguardB_decide, Nat.reduceLT, Nat.reduceEqDiff, Nat.reduceAdd, Nat.reduceLeDiff, reduceIte, reduceCtorEq]
                · rw [hst2] at hE2
                  simp only [← hE2, ← hk1] at hsq
                  rcases c2 with _ | ⟨p, c2⟩
                  · have hk3 : k2 = 0 := by rw [hk1]; rfl
                    have hgt := gtF (k := k2) (by omega)
                    simp (config := { contextual := true }) only [go_sem, hlen5, hlv5, hgt, lcondB_decide, lcondB_not, lguardB_decide_true, lguardB_decide_false, ldguardB_decide, Nat.reduceLT, Nat.reduceEqDiff, Nat.reduceAdd, Nat.reduceLeDiff, reduceIte, reduceCtorEq]
                    refine ⟨fun q2 => ?_, fun q2 => ?_⟩
                    · simp only [ne_eq, q2, not_true_eq_false, not_false_eq_true, true_or, or_true, if_true] at hsq
                      refine lmem_eq (app27 (acellsOf_rs (by simp only [go_sem, lcondB_decide, lcondB_not, lguardB_decide_true, lguardB_decide_false, ldguardB_decide, Nat.reduceLT, Nat.reduceEqDiff, Nat.reduceAdd, Nat.reduceLeDiff, reduceIte, reduceCtorEq]; rfl) (by rfl) rfl) (by decide) (by simp only [go_sem, lcondB_decide, lcondB_not, lguardB_decide_true, lguardB_decide_false, ldguardB_decide, Nat.reduceLT, Nat.reduceEqDiff, Nat.reduceAdd, Nat.reduceLeDiff, reduceIte, reduceCtorEq]) (by simp only [go_sem, lcondB_decide, lcondB_not, lguardB_decide_true, lguardB_decide_false, ldguardB_decide, Nat.reduceLT, Nat.reduceEqDiff, Nat.reduceAdd, Nat.reduceLeDiff, reduceIte, reduceCtorEq]) (edc_len R) (by omega) rfl) ?_
                      simp (config := { contextual := true }) only [go_sem, hlen5, hlv5, hw3, lcondB_decide, lcondB_not, lguardB_decide_true, lguardB_decide_false, ldguardB_decide, Nat.reduceLT, Nat.reduceEqDiff, Nat.reduceAdd, Nat.reduceLeDiff, reduceIte, reduceCtorEq]
                      refine ⟨(i + 1, e.at_ + e.cut, R ++ [⟨a, k2, w2⟩]), ⟨by simp only; omega, by simp only [List.length_append, List.length_singleton]; omega, c6, ?_⟩, by simp only; omega, ?_⟩
                      · rw [← hL, sqz_cons, hsq, List.append_assoc]
                      · refine To.go [27] [(0, gso 35 (edc (R ++ [⟨a, k2, w2⟩])))] rfl (.refl s) (by decide) (by simp) ?_ ?_
                        · simp (config := { contextual := true }) only [go_sem, hlen5, hlv5, pu_ren hv.pu, List.length_append, gsv_pos (Nat.succ_ne_zero R.length), lcondB_decide, lcondB_not, lguardB_decide_true, lguardB_decide_false, ldguardB_decide, Nat.reduceLT, Nat.reduceEqDiff, Nat.reduceAdd, Nat.reduceLeDiff, reduceIte, reduceCtorEq]
                        · simp only [go_sem, map_gso_pu (edc_pul _), lcondB_decide, lcondB_not, lguardB_decide_true, lguardB_decide_false, ldguardB_decide, Nat.reduceLT, Nat.reduceEqDiff, Nat.reduceAdd, Nat.reduceLeDiff, reduceIte, reduceCtorEq]
                          rw [edc_snoc]
                          exact (gso_pos (by simp)).symm
                    · subst q2
                      simp only [ne_eq, not_true_eq_false, or_self, if_false] at hsq
                      rw [hw3]
                      refine ⟨(i + 1, e.at_ + e.cut, R), ⟨by simp only; omega, by simp only; omega, c6, ?_⟩, by simp only; omega, ?_⟩
                      · rw [← hL, sqz_cons, hsq, List.nil_append]
                      · refine To.go [0] [(0, gso 35 (edc R))] rfl (.refl s) (by decide) (by simp) ?_ ?_
                        · simp (config := { contextual := true }) only [go_sem, hlen5, hlv5, pu_ren hv.pu, lcondB_decide, lcondB_not, lguardB_decide_true, lguardB_decide_false, ldguardB_decide, Nat.reduceLT, Nat.reduceEqDiff, Nat.reduceAdd, Nat.reduceLeDiff, reduceIte, reduceCtorEq]
                        · simp only [go_sem, map_gso_pu (edc_pul _), lcondB_decide, lcondB_not, lguardB_decide_true, lguardB_decide_false, ldguardB_decide, Nat.reduceLT, Nat.reduceEqDiff, Nat.reduceAdd, Nat.reduceLeDiff, reduceIte, reduceCtorEq]
                  · have hgt := gtT (k := k2) (by rw [hk1, List.length_cons]; omega)
                    simp (config := { contextual := true }) only [go_sem, hlen5, hlv5, hgt, lcondB_decide, lcondB_not, lguardB_decide_true, lguardB_decide_false, ldguardB_decide, Nat.reduceLT, Nat.reduceEqDiff, Nat.reduceAdd, Nat.reduceLeDiff, reduceIte, reduceCtorEq]
                    simp only [ne_eq, reduceCtorEq, not_true_eq_false, not_false_eq_true, true_or, or_true, if_true] at hsq
                    refine lmem_eq (app27 (acellsOf_rs (by simp only [go_sem, lcondB_decide, lcondB_not, lguardB_decide_true, lguardB_decide_false, ldguardB_decide, Nat.reduceLT, Nat.reduceEqDiff, Nat.reduceAdd, Nat.reduceLeDiff, reduceIte, reduceCtorEq]; rfl) (by rfl) rfl) (by decide) (by simp only [go_sem, lcondB_decide, lcondB_not, lguardB_decide_true, lguardB_decide_false, ldguardB_decide, Nat.reduceLT, Nat.reduceEqDiff, Nat.reduceAdd, Nat.reduceLeDiff, reduceIte, reduceCtorEq]) (by simp only [go_sem, lcondB_decide, lcondB_not, lguardB_decide_true, lguardB_decide_false, ldguardB_decide, Nat.reduceLT, Nat.reduceEqDiff, Nat.reduceAdd, Nat.reduceLeDiff, reduceIte, reduceCtorEq]) (edc_len R) (by omega) rfl) ?_
                    simp (config := { contextual := true }) only [go_sem, hlen5, hlv5, hw3, lcondB_decide, lcondB_not, lguardB_decide_true, lguardB_decide_false, ldguardB_decide, Nat.reduceLT, Nat.reduceEqDiff, Nat.reduceAdd, Nat.reduceLeDiff, reduceIte, reduceCtorEq]
                    refine ⟨(i + 1, e.at_ + e.cut, R ++ [⟨a, k2, w2⟩]), ⟨by simp only; omega, by simp only [List.length_append, List.length_singleton]; omega, c6, ?_⟩, by simp only; omega, ?_⟩
                    · rw [← hL, sqz_cons, hsq, List.append_assoc]
                    · refine To.go [27] [(0, gso 35 (edc (R ++ [⟨a, k2, w2⟩])))] rfl (.refl s) (by decide) (by simp) ?_ ?_
                      · simp (config := { contextual := true }) only [go_sem, hlen5, hlv5, pu_ren hv.pu, List.length_append, gsv_pos (Nat.succ_ne_zero R.length), lcondB_decide, lcondB_not, lguardB_decide_true, lguardB_decide_false, ldguardB_decide, Nat.reduceLT, Nat.reduceEqDiff, Nat.reduceAdd, Nat.reduceLeDiff, reduceIte, reduceCtorEq]
                      · simp only [go_sem, map_gso_pu (edc_pul _), lcondB_decide, lcondB_not, lguardB_decide_true, lguardB_decide_false, ldguardB_decide, Nat.reduceLT, Nat.reduceEqDiff, Nat.reduceAdd, Nat.reduceLeDiff, reduceIte, reduceCtorEq]
                        rw [edc_snoc]
                        exact (gso_pos (by simp)).symm
    · have hi2 : i = l.length := by omega
      rw [hi2, List.drop_length, sqz, List.flatMap_nil, List.append_nil] at hL
      refine lexit_freezeG 0 3 (R.map Ed.enc) (by simp only [go_sem, lcondB_decide, lcondB_not, lguardB_decide_true, lguardB_decide_false, ldguardB_decide, Nat.reduceLT, Nat.reduceEqDiff, Nat.reduceAdd, Nat.reduceLeDiff, reduceIte, reduceCtorEq]; rfl) (enc_len R) (by decide) ?_
      simp only [go_sem, len_fz, hL, lcondB_decide, lcondB_not, lguardB_decide_true, lguardB_decide_false, ldguardB_decide, Nat.reduceLT, Nat.reduceEqDiff, Nat.reduceAdd, Nat.reduceLeDiff, reduceIte, reduceCtorEq]
      exact lexit_pure (.refl s) (low.mono (Nat.zero_le _) (edv_pu _)) ⟨rfl, rfl⟩
end Go.S1N
end
section
set_option linter.unusedVariables false
set_option linter.unusedSimpArgs false
namespace Go.S1N
open Go Go.Am Go.Proofs Go.S1
set_option maxRecDepth 100000
set_option linter.unusedSimpArgs false

/-! ## the length -/
def dl : List Ed → Int
  | [] => 0
  | e :: r => (e.new.length - e.cut) + dl r
theorem long_dl : ∀ (l : List Ed) (m : Int), (∀ e ∈ l, e.new.length ≤ 100000 ∧ 0 ≤ e.cut ∧ e.cut ≤ 100000) → -1000000000000 ≤ m - 100000 * (l.length : Int) → m + 100000 * (l.length : Int) ≤ 1000000000000 → longOf m l = m + dl l
  | [], m, _, _, _ => by simp [longOf, dl]
  | e :: r, m, h, h1, h2 => by
    have he := h e (List.mem_cons_self ..)
    simp only [List.length_cons] at h1 h2
    have hw1 : IntKind.i64.wrap ((e.new.length : Int) - e.cut) = (e.new.length : Int) - e.cut := wrap_id (by omega)
    have hw2 : IntKind.i64.wrap (m + ((e.new.length : Int) - e.cut)) = m + ((e.new.length : Int) - e.cut) := wrap_id (by omega)
    have := long_dl r (m + ((e.new.length : Int) - e.cut)) (fun x hx => h x (List.mem_cons_of_mem _ hx)) (by omega) (by omega)
    rw [longOf, List.foldl_cons, hw1, hw2]
    rw [longOf] at this
    rw [this, dl]
    omega
theorem run_len (a k : Nat) : (runOf a k).length = k := by simp [runOf]
theorem flow_dl (n : Nat) : ∀ (l : List Ed) (a : Nat) (B : Int), (B = a ∨ (B = -1 ∧ a = 0)) → a ≤ n → scan n B l = 0 → ((flowFrom n a l).length : Int) = (n - a) + dl l
  | [], a, B, _, ha, _ => by simp only [flowFrom, run_len, dl]; omega
  | e :: r, a, B, hB, ha, h => by
    obtain ⟨c1, c2, c3, c4, c5, c6⟩ := scan_cons h
    have := flow_dl n r (e.at_ + e.cut).toNat (e.at_ + e.cut) (.inl (by omega)) (by omega) c6
    simp only [flowFrom, List.length_append, run_len, List.length_map, dl]
    omega

/-! ## the way back -/
def numb : Int → List UInt8 → List (Int × UInt8)
  | _, [] => []
  | p, c :: w => (p, c) :: numb (p + 1) w
def negL (w : List UInt8) : List (Int × UInt8) := w.map fun c => ((-1 : Int), c)
def backL (x : List UInt8) : Int → Nat → List Ed → List (Int × UInt8)
  | p, a, [] => numb p (x.drop a)
  | p, a, e :: r => numb p ((x.drop a).take (e.at_.toNat - a)) ++ (negL ((x.drop e.at_.toNat).take ((e.at_ + e.cut).toNat - e.at_.toNat)) ++ backL x (p + (e.at_.toNat - a : Nat) + e.new.length) (e.at_ + e.cut).toNat r)

theorem push_same {p : Int} : pushE p [] p = [] := if_neg (by rintro (h | h); omega; exact h rfl)
theorem ed_numb (N : Int) : ∀ (u : List UInt8) (p q : Int) (w : List UInt8) (t : List (Int × UInt8)), 0 ≤ p → u ≠ [] → edGo N q w (numb p u ++ t) = pushE q w p ++ edGo N (p + u.length) [] t
  | [], _, _, _, _, _, h => absurd rfl h
  | [c], p, q, w, t, hp, _ => by
    simp only [numb, List.cons_append, List.nil_append, edGo]
    rw [if_neg (by omega)]; rfl
  | c :: d :: u, p, q, w, t, hp, _ => by
    have ih := ed_numb N (d :: u) (p + 1) (p + 1) [] t (by omega) (by simp)
    simp only [numb, List.cons_append, List.nil_append] at ih ⊢
    rw [edGo, if_neg (by simp only; omega), ih, push_same, List.nil_append]
    congr 2
    simp only [List.length_cons]; omega
theorem ed_neg (N : Int) : ∀ (u : List UInt8) (q : Int) (w : List UInt8) (t : List (Int × UInt8)), edGo N q w (negL u ++ t) = edGo N q (w ++ u) t
  | [], q, w, t => by simp [negL]
  | c :: u, q, w, t => by
    have ih := ed_neg N u q (w ++ [c]) t
    simp only [negL, List.map_cons, List.cons_append] at ih ⊢
    rw [edGo, if_pos (by simp only; omega), ih, List.append_assoc]; rfl

theorem scan_ne {n B : Int} {e : Ed} {r : List Ed} (h : scan n B (e :: r) = 0) : ¬ (e.cut = 0 ∧ e.new = []) := by
  intro hh
  rw [scan] at h
  split at h
  · cases h
  · split at h
    · cases h
    · first | cases h | (rw [if_pos hh] at h; cases h)

theorem ed_back (x : List UInt8) : ∀ (l : List Ed) (a : Nat) (B p q N : Int) (w : List UInt8), (B = a ∨ (B = -1 ∧ a = 0)) → a ≤ x.length → scan x.length B l = 0 → 0 ≤ p → N = p + (x.length - a) + dl l →
    ((w = [] ∧ q = p) ∨ B = a) → edGo N q w (backL x p a l) = pushE q w p ++ invFrom x (p - a) l
  | [], a, B, p, q, N, w, hB, ha, _, hp, hN, _ => by
    simp only [backL, invFrom, List.append_nil]
    simp only [dl] at hN
    by_cases hu : x.drop a = []
    · have : x.length ≤ a := by simpa using hu
      rw [hu, numb, edGo, show N = p by omega]
    · have h := ed_numb N (x.drop a) p q w [] hp hu
      rw [List.append_nil] at h
      rw [h, edGo, show N = p + (x.drop a).length by simp; omega, push_same, List.append_nil]
  | e :: r, a, B, p, q, N, w, hB, ha, hs, hp, hN, hH => by
    obtain ⟨c1, c2, c3, c4, c5, c6⟩ := scan_cons hs
    have hne := scan_ne hs
    simp only [dl] at hN
    have hea : a ≤ e.at_.toNat := by omega
    have hcl : (((x.drop e.at_.toNat).take ((e.at_ + e.cut).toNat - e.at_.toNat)).length : Int) = e.cut := by simp; omega
    have ih := ed_back x r (e.at_ + e.cut).toNat (e.at_ + e.cut) (p + (e.at_.toNat - a : Nat) + e.new.length) (p + (e.at_.toNat - a : Nat)) N ((x.drop e.at_.toNat).take ((e.at_ + e.cut).toNat - e.at_.toNat)) (.inl (by omega)) (by omega) c6 (by omega) (by omega) (.inr (by omega))
    have hpush : pushE (p + (e.at_.toNat - a : Nat)) ((x.drop e.at_.toNat).take ((e.at_ + e.cut).toNat - e.at_.toNat)) (p + (e.at_.toNat - a : Nat) + e.new.length) = [⟨e.at_ + (p - a), e.new.length, (x.drop e.at_.toNat).take ((e.at_ + e.cut).toNat - e.at_.toNat)⟩] := by
      unfold pushE
      rw [if_pos]
      · congr 2 <;> omega
      · by_cases hn : e.new = []
        · refine .inr fun h => hne ⟨?_, hn⟩
          rw [h] at hcl
          simpa using hcl.symm
        · have : 0 < e.new.length := List.length_pos_iff.2 hn
          exact .inl (by omega)
    have hinv : invFrom x (p - a) (e :: r) = ⟨e.at_ + (p - a), e.new.length, (x.drop e.at_.toNat).take ((e.at_ + e.cut).toNat - e.at_.toNat)⟩ :: invFrom x (p + (e.at_.toNat - a : Nat) + e.new.length - (e.at_ + e.cut).toNat) r := by
      rw [invFrom]; congr 2; omega
    rw [hpush] at ih
    by_cases hu : (x.drop a).take (e.at_.toNat - a) = []
    · have h0 : e.at_.toNat = a := by
        have h := congrArg List.length hu
        simp only [List.length_take, List.length_drop, List.length_nil] at h
        omega
      rcases hH with ⟨rfl, rfl⟩ | h
      · rw [backL, hu, numb, List.nil_append, ed_neg, List.nil_append, push_same, List.nil_append]
        have e0 : q + ((e.at_.toNat - a : Nat) : Int) = q := by omega
        rw [hinv]
        simp only [e0] at ih ⊢
        rw [ih]
        rfl
      · omega
    · rw [backL, ed_numb N _ p q w _ hp hu, ed_neg, List.nil_append, hinv]
      rw [show (((x.drop a).take (e.at_.toNat - a)).length : Int) = (e.at_.toNat - a : Nat) by simp; omega, ih]
      rfl

theorem idx_app (t : List (Int × UInt8)) (k : Int) : ∀ (pre : List (Int × UInt8)) (j : Int), (∀ q ∈ pre, q.1 ≠ k) → idxOf (pre ++ t) k j = idxOf t k (j + pre.length)
  | [], j, _ => by simp
  | q :: pre, j, h => by
    rw [List.cons_append, idxOf, if_neg (h q (List.mem_cons_self ..)), idx_app t k pre (j + 1) fun x hx => h x (List.mem_cons_of_mem _ hx)]
    simp only [List.length_cons]
    congr 1; omega
theorem idx_none (k : Int) : ∀ (F : List (Int × UInt8)) (j : Int), (∀ q ∈ F, q.1 ≠ k) → idxOf F k j = -1
  | [], j, _ => rfl
  | q :: F, j, h => by rw [idxOf, if_neg (h q (List.mem_cons_self ..))]; exact idx_none k F _ fun x hx => h x (List.mem_cons_of_mem _ hx)
theorem runOf_cons (a k : Nat) : runOf a (k + 1) = ((a : Int), 0) :: runOf (a + 1) k := rfl
theorem run_mem {a k : Nat} {q : Int × UInt8} (h : q ∈ runOf a k) : (a : Int) ≤ q.1 ∧ q.1 < a + k := by
  obtain ⟨i, hi, rfl⟩ := List.mem_map.1 h
  have := List.mem_range'_1.1 hi
  simp only; omega
theorem idx_run (t : List (Int × UInt8)) : ∀ (m a i : Nat) (j : Int), i < m → idxOf (runOf a m ++ t) (a + i : Nat) j = j + i
  | 0, _, _, _, h => absurd h (Nat.not_lt_zero _)
  | m + 1, a, 0, j, _ => by rw [runOf_cons, List.cons_append, idxOf, if_pos (by simp)]; simp
  | m + 1, a, i + 1, j, h => by
    rw [runOf_cons, List.cons_append, idxOf, if_neg (by simp only; omega), show a + (i + 1) = a + 1 + i by omega, idx_run t m (a + 1) i (j + 1) (by omega)]
    omega
theorem flow_ge (n : Nat) : ∀ (l : List Ed) (a : Nat) (B : Int), (B = a ∨ (B = -1 ∧ a = 0)) → scan n B l = 0 → ∀ q ∈ flowFrom n a l, q.1 = -1 ∨ (a : Int) ≤ q.1
  | [], a, B, _, _, q, hq => .inr (run_mem hq).1
  | e :: r, a, B, hB, h, q, hq => by
    obtain ⟨c1, c2, c3, c4, c5, c6⟩ := scan_cons h
    simp only [flowFrom, List.mem_append] at hq
    rcases hq with (hq | hq) | hq
    · exact .inr (run_mem hq).1
    · obtain ⟨c, _, rfl⟩ := List.mem_map.1 hq
      exact .inl rfl
    · rcases flow_ge n r (e.at_ + e.cut).toNat (e.at_ + e.cut) (.inl (by omega)) c6 q hq with h | h
      · exact .inl h
      · exact .inr (by omega)

theorem map_numb (x : List UInt8) (f : Nat → Int) : ∀ (m a : Nat) (p : Int), a + m ≤ x.length → (∀ i, i < m → f (a + i) = p + i) → (List.range' a m).map (fun k => (f k, x.getD k 0)) = numb p ((x.drop a).take m)
  | 0, a, p, _, _ => by simp [numb]
  | m + 1, a, p, h, hf => by
    have ha : a < x.length := by omega
    rw [List.range'_succ, List.map_cons, List.drop_eq_getElem_cons ha, List.take_succ_cons, numb]
    have h0 := hf 0 (by omega)
    rw [Nat.add_zero] at h0
    congr 1
    · rw [h0, List.getD_eq_getElem?_getD, List.getElem?_eq_getElem ha]; simp
    · exact map_numb x f m (a + 1) (p + 1) (by omega) fun i hi => by rw [show a + 1 + i = a + (i + 1) by omega, hf (i + 1) (by omega)]; omega
theorem map_neg (x : List UInt8) (f : Nat → Int) : ∀ (m a : Nat), a + m ≤ x.length → (∀ i, i < m → f (a + i) = -1) → (List.range' a m).map (fun k => (f k, x.getD k 0)) = negL ((x.drop a).take m)
  | 0, a, _, _ => by simp [negL]
  | m + 1, a, h, hf => by
    have ha : a < x.length := by omega
    rw [List.range'_succ, List.map_cons, List.drop_eq_getElem_cons ha, List.take_succ_cons, negL, List.map_cons]
    have h0 := hf 0 (by omega)
    rw [Nat.add_zero] at h0
    congr 1
    · rw [h0, List.getD_eq_getElem?_getD, List.getElem?_eq_getElem ha]; simp
    · exact map_neg x f m (a + 1) (by omega) fun i hi => by rw [show a + 1 + i = a + (i + 1) by omega, hf (i + 1) (by omega)]

theorem back_flow (x : List UInt8) : ∀ (l : List Ed) (a : Nat) (B : Int) (pre : List (Int × UInt8)), (B = a ∨ (B = -1 ∧ a = 0)) → a ≤ x.length → scan x.length B l = 0 → (∀ q ∈ pre, q.1 < a) →
    (List.range' a (x.length - a)).map (fun k : Nat => (idxOf (pre ++ flowFrom x.length a l) (k : Nat) 0, x.getD k 0)) = backL x pre.length a l
  | [], a, B, pre, hB, ha, _, hpre => by
    rw [backL, flowFrom, map_numb x (fun k : Nat => idxOf (pre ++ runOf a (x.length - a)) (k : Nat) 0) (x.length - a) a pre.length (by omega)]
    · rw [List.take_of_length_le (by simp)]
    · intro i hi
      rw [idx_app _ _ _ _ (fun q hq => by have := hpre q hq; omega)]
      have := idx_run [] (x.length - a) a i (0 + pre.length) hi
      rw [List.append_nil] at this
      rw [this]; omega
  | e :: r, a, B, pre, hB, ha, hs, hpre => by
    obtain ⟨c1, c2, c3, c4, c5, c6⟩ := scan_cons hs
    have hea : a ≤ e.at_.toNat := by omega
    have hge := flow_ge x.length r (e.at_ + e.cut).toNat (e.at_ + e.cut) (.inl (by omega)) c6
    have ih := back_flow x r (e.at_ + e.cut).toNat (e.at_ + e.cut) (pre ++ (runOf a (e.at_.toNat - a) ++ e.new.map fun c => ((-1 : Int), c))) (.inl (by omega)) (by omega) c6 (by
      intro q hq
      rcases List.mem_append.1 hq with hq | hq
      · have := hpre q hq; omega
      · rcases List.mem_append.1 hq with hq | hq
        · have := run_mem hq; omega
        · obtain ⟨c, _, rfl⟩ := List.mem_map.1 hq
          simp only; omega)
    have hF : pre ++ flowFrom x.length a (e :: r) = pre ++ (runOf a (e.at_.toNat - a) ++ e.new.map fun c => ((-1 : Int), c)) ++ flowFrom x.length (e.at_ + e.cut).toNat r := by
      simp only [flowFrom, List.append_assoc]
    have hsplit : List.range' a (x.length - a) = List.range' a (e.at_.toNat - a) ++ (List.range' e.at_.toNat ((e.at_ + e.cut).toNat - e.at_.toNat) ++ List.range' (e.at_ + e.cut).toNat (x.length - (e.at_ + e.cut).toNat)) := by
      have h1 := List.range'_append_1 (s := e.at_.toNat) (m := (e.at_ + e.cut).toNat - e.at_.toNat) (n := x.length - (e.at_ + e.cut).toNat)
      rw [show e.at_.toNat + ((e.at_ + e.cut).toNat - e.at_.toNat) = (e.at_ + e.cut).toNat by omega] at h1
      rw [h1]
      have h2 := List.range'_append_1 (s := a) (m := e.at_.toNat - a) (n := (e.at_ + e.cut).toNat - e.at_.toNat + (x.length - (e.at_ + e.cut).toNat))
      rw [show a + (e.at_.toNat - a) = e.at_.toNat by omega] at h2
      rw [h2]
      congr 1; omega
    rw [hF, hsplit, List.map_append, List.map_append, ih, backL]
    congr 1
    · refine map_numb x (fun k : Nat => idxOf _ (k : Nat) 0) _ a pre.length (by omega) ?_
      intro i hi
      rw [List.append_assoc, idx_app _ _ _ _ (fun q hq => by have := hpre q hq; omega), List.append_assoc, idx_run _ _ a i _ hi]
      omega
    · congr 1
      · refine map_neg x (fun k : Nat => idxOf _ (k : Nat) 0) _ _ (by omega) ?_
        intro i hi
        refine idx_none _ _ _ ?_
        intro q hq
        rcases List.mem_append.1 hq with hq | hq
        · rcases List.mem_append.1 hq with hq | hq
          · have := hpre q hq; omega
          · rcases List.mem_append.1 hq with hq | hq
            · have := run_mem hq; omega
            · obtain ⟨c, _, rfl⟩ := List.mem_map.1 hq
              simp only; omega
        · have := hge q hq; omega
      · congr 1
        simp only [List.length_append, run_len, List.length_map]
        omega

theorem inverse_law (x : List UInt8) (l : List Ed) (hs : scan x.length (-1) l = 0) : edGo (flowFrom x.length 0 l).length 0 [] (backTo x (flowFrom x.length 0 l) x.length) = invFrom x 0 l := by
  have h1 := back_flow x l 0 (-1) [] (.inr ⟨rfl, rfl⟩) (by omega) hs (by simp)
  rw [List.nil_append, Nat.sub_zero, ← List.range_eq_range'] at h1
  rw [backTo, h1]
  have h2 := flow_dl x.length l 0 (-1) (.inr ⟨rfl, rfl⟩) (by omega) hs
  have h3 := ed_back x l 0 (-1) 0 0 (flowFrom x.length 0 l).length [] (.inr ⟨rfl, rfl⟩) (by omega) hs (by omega) (by omega) (.inl ⟨rfl, rfl⟩)
  rw [push_same, List.nil_append] at h3
  exact h3
end Go.S1N
end
section
set_option linter.unusedVariables false
set_option linter.unusedSimpArgs false
namespace Go.S1N
open Go Go.Am Go.Proofs Go.S1
set_option maxRecDepth 100000
set_option linter.unusedSimpArgs false
attribute [local irreducible] lopsB lvb lstepB lfunG lcondB lguardB ldrawB ldrunB ldstepB ldguardB lmem lval ldmem ldval ldfun lexit ldloadB ldlenB lpostB athen ablock

theorem ints_cells {v : AV} {l : List Int} (h : IsInts v l) : v.cells = [v] := by rcases h with ⟨f, rfl⟩ | ⟨rfl, rfl⟩ <;> rfl
theorem ints_israw {v : AV} {l : List Int} (h : IsInts v l) : v.israw = false := by rcases h with ⟨f, rfl⟩ | ⟨rfl, rfl⟩ <;> rfl
/-- edit.Apply -/
def applyVal (x : List UInt8) (l : List Ed) : List UInt8 × Int := if textFault x l ≠ 0 then ([], textFault x l) else (applyFrom x 0 l, 0)
theorem apply21_ok (x : List UInt8) (v : AV) (l : List Ed) (hv : SlE v l) (hl : l.length < 4611686018427387904) (hnew : ∀ e ∈ l, e.new.length ≤ 100000) (s : AHeap) :
    ACall Try.prog 21 [.str x, v] s fun r t => r = .tuple [.str (applyVal x l).1, .int .i64 (applyVal x l).2] ∧ t = s := by
  refine gob21 (by simp) ?_
  intro tm hlen harg
  simp (config := { contextual := true }) only [go_sem, L21, hlen, harg, lcondB_decide, lcondB_not, lguardB_decide_true, lguardB_decide_false, ldguardB_decide, Nat.reduceLT, Nat.reduceEqDiff, Nat.reduceAdd, Nat.reduceLeDiff, reduceIte, reduceCtorEq]
  refine lfunG_eq (checkTextE x v l hv hl _) ?_
  simp (config := { contextual := true }) only [go_sem, hlen, harg, lcondB_decide, lcondB_not, lguardB_decide_true, lguardB_decide_false, ldguardB_decide, Nat.reduceLT, Nat.reduceEqDiff, Nat.reduceAdd, Nat.reduceLeDiff, reduceIte, reduceCtorEq]
  refine ⟨fun c => ?_, fun c => ?_⟩
  · refine lexit_pure (.refl s) (by simp only [low, lowL, and_self]) ⟨?_, rfl⟩
    rw [applyVal, if_pos c]
  · obtain ⟨hx, hl2, hsc⟩ := textFault_zero c
    have hval : applyVal x l = (applyFrom x 0 l, 0) := by rw [applyVal, if_neg (by simpa using c)]
    rw [hval]
    refine lfunG_eq (exact_of (by simp only [Pu, low]) (apply_ok x v l hv hl2 hx (fun e he => by have := hnew e he; omega) hsc _)) ?_
    simp (config := { contextual := true }) only [go_sem, hlen, harg, lcondB_decide, lcondB_not, lguardB_decide_true, lguardB_decide_false, ldguardB_decide, Nat.reduceLT, Nat.reduceEqDiff, Nat.reduceAdd, Nat.reduceLeDiff, reduceIte, reduceCtorEq]
    exact lexit_pure (.refl s) (by simp only [low, lowL, and_self]) ⟨rfl, rfl⟩

theorem faultOf_zero {n : Int} {l : List Ed} (h : faultOf n l = 0) : 0 ≤ n ∧ n ≤ 20000 ∧ l.length ≤ 2000 ∧ scan n (-1) l = 0 := by
  rw [faultOf] at h
  split at h
  · cases h
  · rename_i h1
    have h1 := Classical.not_not.1 h1
    split at h
    · cases h
    · split at h
      · rename_i h3; exact absurd h h3
      · rename_i h2 h3
        exact ⟨h1.1, h1.2, by omega, Classical.not_not.1 h3⟩
theorem inverse_len (x : List UInt8) (l : List Ed) : (inverseVal x l).1.length ≤ l.length := by
  have : ∀ (l : List Ed) (sh : Int), (invFrom x sh l).length = l.length := by
    intro l
    induction l with
    | nil => intro sh; rfl
    | cons e l ih => intro sh; rw [invFrom, List.length_cons, ih, List.length_cons]
  rw [inverseVal]
  split
  · simp
  · simp only [this]; exact Nat.le_refl _
theorem squeezed_len (x : List UInt8) (l : List Ed) : (squeezedVal x l).1.length ≤ l.length := by
  have : ∀ (l : List Ed), (sqz x l).length ≤ l.length := by
    intro l
    induction l with
    | nil => exact Nat.le_refl _
    | cons e l ih =>
      rw [sqz_cons, List.length_append, List.length_cons]
      have : (sq1 x e).length ≤ 1 := by
        unfold sq1
        simp only
        split <;> simp
      omega
  rw [squeezedVal]
  split
  · simp
  · exact this l

theorem same33 (l : List Ed) (h : l.length < 4611686018427387904) (s : AHeap) : ACall Try.prog 33 [edv l, edv l] s fun r t => r = .bool true ∧ t = s := by
  classical
  have := equalEds_ok (edv_sl l) (edv_sl l) h s
  simpa using this

set_option maxHeartbeats 1000000 in
theorem changesMade_ok (v : AV) (L : List Int) (hv : IsInts v L) (hL : L.length < 4611686018427387904) (s : AHeap) :
    ACall Try.prog 4 [v] s fun r t => r = .bool true ∧ t = s := by
  refine gob4 (by simp) ?_
  intro tm hlen harg
  simp (config := { contextual := true }) only [go_sem, L4, hlen, harg, ints_cells hv, ints_israw hv, lcondB_decide, lcondB_not, lguardB_decide_true, lguardB_decide_false, ldguardB_decide, Nat.reduceLT, Nat.reduceEqDiff, Nat.reduceAdd, Nat.reduceLeDiff, reduceIte, reduceCtorEq]
  have h0 : Sm (loc s 1 [(0, some (strm v 0))]) (nm s.nx 0) v L 0 := ⟨hv, hL, by omega, by omega, by rw [nx_loc, nm_lt]; omega, by simp only [go_sem, lcondB_decide, lcondB_not, lguardB_decide_true, lguardB_decide_false, ldguardB_decide, Nat.reduceLT, Nat.reduceEqDiff, Nat.reduceAdd, Nat.reduceLeDiff, reduceIte, reduceCtorEq]⟩
  refine lfunG_of (lettersS h0 (by omega) 10 (by omega) (by omega)) ?_
  rintro _ _ ⟨x, k1, rfl, hx, hk1, rfl⟩
  have hxl : (x.length : Int) ≤ 10 := hx
  simp (config := { contextual := true }) only [go_sem, hlen, harg, ints_cells hv, ints_israw hv, lcondB_decide, lcondB_not, lguardB_decide_true, lguardB_decide_false, ldguardB_decide, Nat.reduceLT, Nat.reduceEqDiff, Nat.reduceAdd, Nat.reduceLeDiff, reduceIte, reduceCtorEq]
  have hS : ∀ (a : Int) (n : Nat) (l : List (Nat × Option AObj)), 0 ≤ a → a < 4000000000000000000 → Sm (loc s (n + 1) ((0, some (strm v a)) :: l)) (nm s.nx 0) v L a := fun a n l h1 h2 =>
    ⟨hv, hL, h1, h2, by rw [nx_loc, nm_lt]; omega, by simp only [go_sem, lcondB_decide, lcondB_not, lguardB_decide_true, lguardB_decide_false, ldguardB_decide, Nat.reduceLT, Nat.reduceEqDiff, Nat.reduceAdd, Nat.reduceLeDiff, reduceIte, reduceCtorEq]⟩
  refine lfunG_eq (pickS (hS _ _ _ (by omega) (by omega)) (nm s.nx 1) [x.length, x.length, 5, 0, -1, 20000, 20001] (some 3) (by simp) (by simp) (by simp only [go_sem, List.map_cons, lcondB_decide, lcondB_not, lguardB_decide_true, lguardB_decide_false, ldguardB_decide, Nat.reduceLT, Nat.reduceEqDiff, Nat.reduceAdd, Nat.reduceLeDiff, reduceIte, reduceCtorEq]) (by simp only [ne_eq, nm]; omega) (by simp only [go_sem, nx_loc, nm]; omega)) ?_
  have hq := getI_le (l := [(x.length : Int), x.length, 5, 0, -1, 20000, 20001]) (lo := -1) (hi := 20001) (by omega) (by simp only [List.forall_mem_cons]; simp; omega) (nextOf L (0 + (k1 : Int)) (([(x.length : Int), x.length, 5, 0, -1, 20000, 20001] : List Int).length)).toNat
  generalize ([(x.length : Int), x.length, 5, 0, -1, 20000, 20001] : List Int).getD _ 0 = q at hq ⊢
  simp (config := { contextual := true }) only [go_sem, hlen, harg, ints_cells hv, ints_israw hv, lcondB_decide, lcondB_not, lguardB_decide_true, lguardB_decide_false, ldguardB_decide, Nat.reduceLT, Nat.reduceEqDiff, Nat.reduceAdd, Nat.reduceLeDiff, reduceIte, reduceCtorEq]
  refine lfunG_of (changeS (hS _ _ _ (by omega) (by omega)) (by omega) _) ?_
  rintro _ _ ⟨l, k2, rfl, hl, hnew, hk2, rfl⟩
  simp (config := { contextual := true }) only [go_sem, hlen, harg, lcondB_decide, lcondB_not, lguardB_decide_true, lguardB_decide_false, ldguardB_decide, Nat.reduceLT, Nat.reduceEqDiff, Nat.reduceAdd, Nat.reduceLeDiff, reduceIte, reduceCtorEq]
  refine lfunG_of (changeS (hS _ _ _ (by omega) (by omega)) (by omega) _) ?_
  rintro _ _ ⟨m, k3, rfl, hm, hnew2, hk3, rfl⟩
  simp (config := { contextual := true }) only [go_sem, hlen, harg, lcondB_decide, lcondB_not, lguardB_decide_true, lguardB_decide_false, ldguardB_decide, Nat.reduceLT, Nat.reduceEqDiff, Nat.reduceAdd, Nat.reduceLeDiff, reduceIte, reduceCtorEq]
  have hsl := edv_sl l
  have hsm := edv_sl m
  have hnewl : ∀ e ∈ l, e.new.length ≤ 100000 := fun e he => by have := hnew e he; omega
  have hnewm : ∀ e ∈ m, e.new.length ≤ 100000 := fun e he => by have := hnew2 e he; omega
  refine lfunG_eq (apply21_ok x _ l hsl (by omega) hnewl _) ?_
  simp (config := { contextual := true }) only [go_sem, hlen, harg, lcondB_decide, lcondB_not, lguardB_decide_true, lguardB_decide_false, ldguardB_decide, Nat.reduceLT, Nat.reduceEqDiff, Nat.reduceAdd, Nat.reduceLeDiff, reduceIte, reduceCtorEq]
  refine lfunG_eq (length_ok q _ m hsm (by omega) _) ?_
  simp (config := { contextual := true }) only [go_sem, hlen, harg, lcondB_decide, lcondB_not, lguardB_decide_true, lguardB_decide_false, ldguardB_decide, Nat.reduceLT, Nat.reduceEqDiff, Nat.reduceAdd, Nat.reduceLeDiff, reduceIte, reduceCtorEq]
  refine lfunG_eq (origin_ok x.length _ l hsl (by omega) hnewl _) ?_
  simp (config := { contextual := true }) only [go_sem, hlen, harg, lcondB_decide, lcondB_not, lguardB_decide_true, lguardB_decide_false, ldguardB_decide, Nat.reduceLT, Nat.reduceEqDiff, Nat.reduceAdd, Nat.reduceLeDiff, reduceIte, reduceCtorEq]
  refine lfunG_eq (inverse_ok x _ l hsl (by omega) hnewl _) ?_
  simp (config := { contextual := true }) only [go_sem, hlen, harg, lcondB_decide, lcondB_not, lguardB_decide_true, lguardB_decide_false, ldguardB_decide, Nat.reduceLT, Nat.reduceEqDiff, Nat.reduceAdd, Nat.reduceLeDiff, reduceIte, reduceCtorEq]
  refine lfunG_eq (squeezed_ok x _ l hsl (by omega) hnewl _) ?_
  simp (config := { contextual := true }) only [go_sem, hlen, harg, lcondB_decide, lcondB_not, lguardB_decide_true, lguardB_decide_false, ldguardB_decide, Nat.reduceLT, Nat.reduceEqDiff, Nat.reduceAdd, Nat.reduceLeDiff, reduceIte, reduceCtorEq]
  refine lfunG_eq (exact_of (by simp only [Pu, low, lowL, and_self]) (fault_ok _ _ l hsl (by omega) _)) ?_
  simp (config := { contextual := true }) only [go_sem, hlen, harg, lcondB_decide, lcondB_not, lguardB_decide_true, lguardB_decide_false, ldguardB_decide, Nat.reduceLT, Nat.reduceEqDiff, Nat.reduceAdd, Nat.reduceLeDiff, reduceIte, reduceCtorEq]
  refine lfunG_eq (exact_of (by simp only [Pu, low, lowL, and_self]) (fault_ok _ _ m hsm (by omega) _)) ?_
  simp (config := { contextual := true }) only [go_sem, hlen, harg, Nat.reduceLT, Nat.reduceEqDiff, Nat.reduceAdd, Nat.reduceLeDiff, reduceIte, reduceCtorEq]
  have htf : textFault x l = faultOf x.length l := by rw [textFault, if_neg (by omega)]
  generalize hstr : 0 + (k1 : Int) + 1 + k2 + k3 = str
  have base : ∀ c1 : faultOf x.length l = 0, x.length ≤ 20000 ∧ l.length ≤ 2000 ∧ scan x.length (-1) l = 0 := fun c1 => textFault_zero (htf.trans c1)
  refine lcondB_cut 162 (fun _ : Unit => [(5, .int .i64 q), (7, edv m), (18, .int .i64 (faultOf x.length l)), (19, .int .i64 (faultOf q m)), (8, .str (applyVal x l).1), (9, .int .i64 (applyVal x l).2),
    (10, .int .i64 (lengthVal q m).1), (11, .int .i64 (lengthVal q m).2), (12, intv (originVal x.length l).1), (13, .int .i64 (originVal x.length l).2), (14, edv (inverseVal x l).1), (15, .int .i64 (inverseVal x l).2),
    (16, edv (squeezedVal x l).1), (17, .int .i64 (squeezedVal x l).2), (20, .str (applyVal x l).1), (21, .int .i64 0), (22, intv (originVal x.length l).1), (23, edv (inverseVal x l).1), (24, edv (squeezedVal x l).1)])
    (fun _ => loc s 2 [(0, some (strm v str)), (1, some (.cells [.int .i64 x.length, .int .i64 x.length, .int .i64 5, .int .i64 0, .int .i64 (-1), .int .i64 20000, .int .i64 20001] (some 3)))]) (fun _ => True) ?_ ?_
  · simp (config := { contextual := true }) only [go_sem, hlen, harg, lcondB_decide, lcondB_not, lguardB_decide_true, lguardB_decide_false, ldguardB_decide, Nat.reduceLT, Nat.reduceEqDiff, Nat.reduceAdd, Nat.reduceLeDiff, reduceIte, reduceCtorEq]
    refine ⟨fun c1 => ?_, fun c1 => ?_⟩
    · obtain ⟨hx2, hl2, hsc⟩ := base c1
      have e1 : applyVal x l = (applyFrom x 0 l, 0) := by rw [applyVal, htf, c1]; rfl
      have e2 : originVal x.length l = ((flowFrom x.length 0 l).map (·.1), 0) := by
        rw [originVal, c1, if_neg (by simp)]
        have := origin_flow x.length l 0 (-1) (.inr ⟨rfl, rfl⟩) (by omega) hsc
        rw [← this]; rfl
      have e3 : inverseVal x l = (invFrom x 0 l, 0) := by rw [inverseVal, htf, c1]; rfl
      have e4 : squeezedVal x l = (sqz x l, 0) := by rw [squeezedVal, htf, c1]; rfl
      rw [e1, e2, e3, e4]
      refine lfunG_eq (applyOf_exact x _ l hsl hl2 hx2 hnewl hsc _) ?_
      simp (config := { contextual := true }) only [go_sem, hlen, harg, lcondB_decide, lcondB_not, lguardB_decide_true, lguardB_decide_false, ldguardB_decide, Nat.reduceLT, Nat.reduceEqDiff, Nat.reduceAdd, Nat.reduceLeDiff, reduceIte, reduceCtorEq]
      refine lfunG_eq (originRef_ok x.length _ l hsl hl2 hx2 hnewl hsc _) ?_
      simp (config := { contextual := true }) only [go_sem, hlen, harg, lcondB_decide, lcondB_not, lguardB_decide_true, lguardB_decide_false, ldguardB_decide, Nat.reduceLT, Nat.reduceEqDiff, Nat.reduceAdd, Nat.reduceLeDiff, reduceIte, reduceCtorEq]
      refine lfunG_eq (inverseOf_ok x _ l hsl hl2 hx2 hnewl hsc _) ?_
      rw [inverse_law x l hsc]
      simp (config := { contextual := true }) only [go_sem, hlen, harg, lcondB_decide, lcondB_not, lguardB_decide_true, lguardB_decide_false, ldguardB_decide, Nat.reduceLT, Nat.reduceEqDiff, Nat.reduceAdd, Nat.reduceLeDiff, reduceIte, reduceCtorEq]
      refine lfunG_eq (squeezedOf_ok x _ l hsl hl2 hx2 hnewl hsc _) ?_
      simp (config := { contextual := true }) only [go_sem, hlen, harg, lcondB_decide, lcondB_not, lguardB_decide_true, lguardB_decide_false, ldguardB_decide, Nat.reduceLT, Nat.reduceEqDiff, Nat.reduceAdd, Nat.reduceLeDiff, reduceIte, reduceCtorEq]
      refine ⟨by simp only [go_sem, hlen], (), trivial, rfl, ?_⟩
      simp only [go_sem, hlen, harg, c1, e1, e2, e3, e4, lcondB_decide, lcondB_not, lguardB_decide_true, lguardB_decide_false, ldguardB_decide, Nat.reduceLT, Nat.reduceEqDiff, Nat.reduceAdd, Nat.reduceLeDiff, reduceIte, reduceCtorEq]
    · have e1 : applyVal x l = ([], faultOf x.length l) := by rw [applyVal, htf, if_pos c1]
      have e2 : originVal x.length l = ([], faultOf x.length l) := by rw [originVal, if_pos c1]
      have e3 : inverseVal x l = ([], faultOf x.length l) := by rw [inverseVal, htf, if_pos c1]
      have e4 : squeezedVal x l = ([], faultOf x.length l) := by rw [squeezedVal, htf, if_pos c1]
      rw [e1, e2, e3, e4]
      refine ⟨by simp only [go_sem, hlen], (), trivial, rfl, ?_⟩
      simp only [go_sem, hlen, harg, e1, e2, e3, e4, lcondB_decide, lcondB_not, lguardB_decide_true, lguardB_decide_false, ldguardB_decide, Nat.reduceLT, Nat.reduceEqDiff, Nat.reduceAdd, Nat.reduceLeDiff, reduceIte, reduceCtorEq]
      exact ⟨rfl, rfl⟩
  rintro _ tm1 - hlen1 hlv
  simp only [go_sem, lcondB_decide, lcondB_not, lguardB_decide_true, lguardB_decide_false, ldguardB_decide, Nat.reduceLT, Nat.reduceEqDiff, Nat.reduceAdd, Nat.reduceLeDiff, reduceIte, reduceCtorEq] at hlv
  simp (config := { contextual := true }) only [go_sem, hlen1, hlv, Nat.reduceLT, Nat.reduceEqDiff, Nat.reduceAdd, Nat.reduceLeDiff, reduceIte, reduceCtorEq]
  refine lcondB_cut 162 (fun _ : Unit => [(5, .int .i64 q), (7, edv m), (18, .int .i64 (faultOf x.length l)), (19, .int .i64 (faultOf q m)), (8, .str (applyVal x l).1), (9, .int .i64 (applyVal x l).2),
    (10, .int .i64 (lengthVal q m).1), (11, .int .i64 (lengthVal q m).2), (12, intv (originVal x.length l).1), (13, .int .i64 (originVal x.length l).2), (14, edv (inverseVal x l).1), (15, .int .i64 (inverseVal x l).2),
    (16, edv (squeezedVal x l).1), (17, .int .i64 (squeezedVal x l).2), (20, .str (applyVal x l).1), (21, .int .i64 (lengthVal q m).1), (22, intv (originVal x.length l).1), (23, edv (inverseVal x l).1), (24, edv (squeezedVal x l).1)])
    (fun _ => loc s 2 [(0, some (strm v str)), (1, some (.cells [.int .i64 x.length, .int .i64 x.length, .int .i64 5, .int .i64 0, .int .i64 (-1), .int .i64 20000, .int .i64 20001] (some 3)))]) (fun _ => True) ?_ ?_
  · simp (config := { contextual := true }) only [go_sem, hlen1, hlv, lcondB_decide, lcondB_not, lguardB_decide_true, lguardB_decide_false, ldguardB_decide, Nat.reduceLT, Nat.reduceEqDiff, Nat.reduceAdd, Nat.reduceLeDiff, reduceIte, reduceCtorEq]
    refine ⟨fun c2 => ?_, fun c2 => ?_⟩
    · obtain ⟨hq0, hq1, hm2, hsc⟩ := faultOf_zero c2
      obtain ⟨n, rfl⟩ : ∃ n : Nat, q = n := ⟨q.toNat, by omega⟩
      refine lfunG_eq (lengthOf_ok n _ m hsm (by omega) (by omega) hnewm hsc _) ?_
      simp (config := { contextual := true }) only [go_sem, hlen1, hlv, lcondB_decide, lcondB_not, lguardB_decide_true, lguardB_decide_false, ldguardB_decide, Nat.reduceLT, Nat.reduceEqDiff, Nat.reduceAdd, Nat.reduceLeDiff, reduceIte, reduceCtorEq]
      refine ⟨by simp only [go_sem, hlen1], (), trivial, rfl, ?_⟩
      have h1 := flow_dl n m 0 (-1) (.inr ⟨rfl, rfl⟩) (by omega) hsc
      have h2 := long_dl m n (fun e he => ⟨hnewm e he, by have := scan_range m _ hsc e he; omega⟩) (by omega) (by omega)
      have e1 : lengthVal n m = (((flowFrom n 0 m).length : Int), 0) := by
        rw [lengthVal, c2, if_neg (by simp), h2]
        congr 1; omega
      rw [e1] at hlv
      simp only [go_sem, hlen1, hlv, e1, c2, lcondB_decide, lcondB_not, lguardB_decide_true, lguardB_decide_false, ldguardB_decide, Nat.reduceLT, Nat.reduceEqDiff, Nat.reduceAdd, Nat.reduceLeDiff, reduceIte, reduceCtorEq]
    · refine ⟨by simp only [go_sem, hlen1], (), trivial, rfl, ?_⟩
      have e1 : lengthVal q m = (0, faultOf q m) := by rw [lengthVal, if_pos c2]
      rw [e1] at hlv
      simp only [go_sem, hlen1, hlv, e1, lcondB_decide, lcondB_not, lguardB_decide_true, lguardB_decide_false, ldguardB_decide, Nat.reduceLT, Nat.reduceEqDiff, Nat.reduceAdd, Nat.reduceLeDiff, reduceIte, reduceCtorEq]
  rintro _ tm2 - hlen2 hlv2
  simp only [go_sem, lcondB_decide, lcondB_not, lguardB_decide_true, lguardB_decide_false, ldguardB_decide, Nat.reduceLT, Nat.reduceEqDiff, Nat.reduceAdd, Nat.reduceLeDiff, reduceIte, reduceCtorEq] at hlv2
  have f1 : (applyVal x l).2 = faultOf x.length l := by
    rw [applyVal, htf]; split
    · rfl
    · rename_i h; exact (Classical.not_not.1 h).symm
  have f2 : (lengthVal q m).2 = faultOf q m := by
    rw [lengthVal]; split
    · rfl
    · rename_i h; exact (Classical.not_not.1 h).symm
  have f3 : (originVal x.length l).2 = faultOf x.length l := by
    rw [originVal]; split
    · rfl
    · rename_i h; exact (Classical.not_not.1 h).symm
  have f4 : (inverseVal x l).2 = faultOf x.length l := by
    rw [inverseVal, htf]; split
    · rfl
    · rename_i h; exact (Classical.not_not.1 h).symm
  have f5 : (squeezedVal x l).2 = faultOf x.length l := by
    rw [squeezedVal, htf]; split
    · rfl
    · rename_i h; exact (Classical.not_not.1 h).symm
  have g3 : (originVal x.length l).1.length ≤ 300000000 := by
    rw [originVal]
    split
    · simp
    · rename_i c1
      obtain ⟨hx2, hl2, hsc⟩ := base (by simpa using c1)
      have h1 := origin_flow x.length l 0 (-1) (.inr ⟨rfl, rfl⟩) (by omega) hsc
      have h2 := flow_len x.length l 0 hnewl (fun e he => (scan_range l _ hsc e he).2.2.1)
      have h3 : l.length * (x.length + 100000) ≤ 2000 * (20000 + 100000) := Nat.mul_le_mul hl2 (by omega)
      have h4 : (originOf (runsFrom x.length 0 l)).length = (flowFrom x.length 0 l).length := by
        have := congrArg List.length h1
        rw [List.length_map] at this
        exact this
      simp only [h4]; omega
  have g4 := inverse_len x l
  have g5 := squeezed_len x l
  simp (config := { contextual := true }) only [go_sem, hlen2, hlv2, lcondB_decide, lcondB_not, lguardB_decide_true, lguardB_decide_false, ldguardB_decide, Nat.reduceLT, Nat.reduceEqDiff, Nat.reduceAdd, Nat.reduceLeDiff, reduceIte, reduceCtorEq]
  refine lfunG_eq (checkE q _ m hsm (by omega) _) ?_
  simp (config := { contextual := true }) only [go_sem, hlen2, hlv2, f1, f2, f3, f4, f5, lcondB_decide, lcondB_not, lguardB_decide_true, lguardB_decide_false, ldguardB_decide, Nat.reduceLT, Nat.reduceEqDiff, Nat.reduceAdd, Nat.reduceLeDiff, reduceIte, reduceCtorEq]
  refine lfunG_eq (equalInts_ok (intv_ints _) (intv_ints _) (by omega) _) ?_
  simp (config := { contextual := true }) only [go_sem, hlen2, hlv2, f1, f2, f3, f4, f5, decide_true, lcondB_decide, lcondB_not, lguardB_decide_true, lguardB_decide_false, ldguardB_decide, Nat.reduceLT, Nat.reduceEqDiff, Nat.reduceAdd, Nat.reduceLeDiff, reduceIte, reduceCtorEq]
  refine lfunG_eq (same33 _ (by omega) _) ?_
  simp (config := { contextual := true }) only [go_sem, hlen2, hlv2, f1, f2, f3, f4, f5, decide_true, lcondB_decide, lcondB_not, lguardB_decide_true, lguardB_decide_false, ldguardB_decide, Nat.reduceLT, Nat.reduceEqDiff, Nat.reduceAdd, Nat.reduceLeDiff, reduceIte, reduceCtorEq]
  refine lfunG_eq (same33 _ (by omega) _) ?_
  simp (config := { contextual := true }) only [go_sem, hlen2, hlv2, f1, f2, f3, f4, f5, decide_true, lcondB_decide, lcondB_not, lguardB_decide_true, lguardB_decide_false, ldguardB_decide, Nat.reduceLT, Nat.reduceEqDiff, Nat.reduceAdd, Nat.reduceLeDiff, reduceIte, reduceCtorEq]
  refine lfunG_eq (edited_ok _) ?_
  simp only [go_sem, hlen2, hlv2, lcondB_decide, lcondB_not, lguardB_decide_true, lguardB_decide_false, ldguardB_decide, Nat.reduceLT, Nat.reduceEqDiff, Nat.reduceAdd, Nat.reduceLeDiff, reduceIte, reduceCtorEq]
  exact lexit_pure (.refl s) (by simp only [low]) ⟨rfl, rfl⟩
end Go.S1N
end
