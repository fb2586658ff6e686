/- Part 2 of a proof: texts of this work, put together. -/
import Derived.Test.YtbbmffefhocmdaaV1
import Derived.KernelRfl
section
set_option linter.unusedVariables false
set_option linter.unusedSimpArgs false
namespace Go.S1N
open Go Go.Am Go.Proofs Go.S1
set_option maxRecDepth 100000
set_option linter.unusedSimpArgs false
theorem build118 {n : Int} : abuild tab 118 [(0, .int .i64 n)] = some (.agg [.int .i64 n, .nils]) := by
  simp [abuild, ty118, Tab.size, ty3, ty116, AV.ofV, AV.ofOne, afill, AV.israw, AV.cells, splice]
theorem lfunG_of' {P : Program} {s0 s : AHeap} {N : List AV → AHeap → Prop} {f : Operand} {args : List Operand} {d : Option Nat} {tm : List AV} {g : FuncId} {av fi ca av' : List AV} {R : AV → AHeap → Prop} (he : fi ++ av ++ ca = av') (h : ACall P g av' s R) (k : ∀ v t, R v t → N (aput tm d v) t) :
    lfunG P s0 N f args d tm s (.func (.func g) fi ca) av := lfunG_eqc' he h k
attribute [local irreducible] lopsB lvb lstepB lfunG lcondB lguardB ldrawB ldrunB ldstepB ldguardB lmem lval ldmem ldval ldfun lexit ldloadB ldlenB lpostB athen ablock

/-- is a letter's origin this? -/
theorem isOrigin_ok {s : AHeap} {b : Nat} {i : Int} (hb : s.get b = some (.cells [.int .i64 i] (some 3))) (hlt : b < s.nx) (k c : Int) :
    ACall Try.prog 78 [.agg [.int .i64 k, .int .u8 c], .ptr b 0] s fun r t => r = .bool (decide (k = i)) ∧ t = s := by
  refine gob78 (by simp) ?_
  intro tm hlen harg
  simp (config := { contextual := true }) only [go_sem, L78, hlen, harg, hb, hlt, lcondB_decide, lcondB_not, lguardB_decide_true, lguardB_decide_false, ldguardB_decide, Nat.reduceLT, Nat.reduceEqDiff, Nat.reduceAdd, Nat.reduceLeDiff, reduceIte, reduceCtorEq]
  exact lexit_pure (.refl s) (by simp only [low]) ⟨rfl, rfl⟩

/-- where a letter comes to lie -/
def idxOf : List (Int × UInt8) → Int → Int → Int
  | [], _, _ => -1
  | p :: r, i, j => if p.1 = i then j else idxOf r i (j + 1)

theorem idx_ok {s : AHeap} {b : Nat} {i : Int} (hb : s.get b = some (.cells [.int .i64 i] (some 3))) (hlt : b < s.nx) (F : List (Int × UInt8)) (hF : F.length ≤ 1000000000) :
    ACall Try.prog 77 [fsv 2 (ltv F), .func (.func 78) [] [.ptr b 0]] s fun r t => r = .int .i64 (idxOf F i 0) ∧ t = s := by
  refine gob77 (by simp) ?_
  intro tm hlen harg
  have hpu : Pu (fsv 2 (ltv F)) := pu_fsv (ltv_pu F)
  simp (config := { contextual := true }) only [go_sem, L77, hlen, harg, flow_len', lcondB_decide, lcondB_not, lguardB_decide_true, lguardB_decide_false, ldguardB_decide, Nat.reduceLT, Nat.reduceEqDiff, Nat.reduceAdd, Nat.reduceLeDiff, reduceIte, reduceCtorEq]
  refine ⟨Nat, fun j => [(0, fsv 2 (ltv F)), (1, .func (.func 78) [] [.ptr b 0]), (7, .int .i64 F.length), (8, .int .i64 j)], fun j => loc s 0 [], fun j => j ≤ F.length ∧ idxOf (F.drop j) i j = idxOf F i 0, fun j => F.length - j, 0, by simp, ?_, ?_⟩
  · refine To.go [] [] rfl (.refl s) (by decide) (by simp) ?_ trivial
    simp (config := { contextual := true }) only [go_sem, hlen, harg, pu_ren hpu, rnm_low hlt, lcondB_decide, lcondB_not, lguardB_decide_true, lguardB_decide_false, ldguardB_decide, Nat.reduceLT, Nat.reduceEqDiff, Nat.reduceAdd, Nat.reduceLeDiff, reduceIte, reduceCtorEq]
    simp
  · rintro j tm1 ⟨hj, hE⟩ hlen1 hlv
    simp only [go_sem, hlen, lcondB_decide, lcondB_not, lguardB_decide_true, lguardB_decide_false, ldguardB_decide, Nat.reduceLT, Nat.reduceEqDiff, Nat.reduceAdd, Nat.reduceLeDiff, reduceIte, reduceCtorEq] at hlen1 hlv
    simp (config := { contextual := true }) only [go_sem, hlen, hlen1, hlv, lcondB_decide, lcondB_not, lguardB_decide_true, lguardB_decide_false, ldguardB_decide, Nat.reduceLT, Nat.reduceEqDiff, Nat.reduceAdd, Nat.reduceLeDiff, reduceIte, reduceCtorEq]
    refine ⟨fun hl => ?_, fun hge => ?_⟩
    · have hj2 : j < F.length := by omega
      have he := List.getElem?_eq_getElem hj2
      have hdrop := List.drop_eq_getElem_cons hj2
      generalize F[j] = p at he hdrop
      rw [hdrop, idxOf] at hE
      have hw3 : IntKind.i64.wrap ((j : Int) + 1) = ((j + 1 : Nat) : Int) := by rw [wrap_id (by omega)]; rfl
      simp (config := { contextual := true }) only [go_sem, hlen1, hlv, flow_at F he, lcondB_decide, lcondB_not, lguardB_decide_true, lguardB_decide_false, ldguardB_decide, Nat.reduceLT, Nat.reduceEqDiff, Nat.reduceAdd, Nat.reduceLeDiff, reduceIte, reduceCtorEq]
      refine lfunG_eqc rfl (isOrigin_ok (s := loc s 0 []) (i := i) (by rw [get_loc, if_pos hlt]; exact hb) (Nat.lt_of_lt_of_le hlt (Nat.le_refl _)) _ _) ?_
      simp (config := { contextual := true }) only [go_sem, hlen1, hlv, hw3, lcondB_decide, lcondB_not, lguardB_decide_true, lguardB_decide_false, ldguardB_decide, Nat.reduceLT, Nat.reduceEqDiff, Nat.reduceAdd, Nat.reduceLeDiff, reduceIte, reduceCtorEq]
      refine ⟨fun hc => ?_, fun hc => ?_⟩
      · refine lexit_pure (.refl s) (by simp only [low]) ⟨?_, rfl⟩
        rw [← hE, if_pos hc]
      · rw [if_neg hc] at hE
        refine ⟨j + 1, ⟨by omega, hE⟩, by omega, ?_⟩
        refine To.go [] [] rfl (.refl s) (by decide) (by simp) ?_ trivial
        simp (config := { contextual := true }) only [go_sem, hlen1, hlv, pu_ren hpu, rnm_low hlt, lcondB_decide, lcondB_not, lguardB_decide_true, lguardB_decide_false, ldguardB_decide, Nat.reduceLT, Nat.reduceEqDiff, Nat.reduceAdd, Nat.reduceLeDiff, reduceIte, reduceCtorEq]
    · have hj2 : j = F.length := by omega
      rw [hj2, List.drop_length, idxOf] at hE
      refine lexit_pure (.refl s) (by simp only [low]) ⟨?_, rfl⟩
      rw [← hE]

/-- the letters of the flow that leads back -/
def backTo (x : List UInt8) (F : List (Int × UInt8)) (i : Nat) : List (Int × UInt8) := (List.range i).map fun k => (idxOf F (k : Nat) 0, x.getD k 0)
theorem backTo_succ (x : List UInt8) (F : List (Int × UInt8)) (i : Nat) : backTo x F (i + 1) = backTo x F i ++ [(idxOf F (i : Nat) 0, x.getD i 0)] := by
  unfold backTo; rw [List.range_succ, List.map_append]; rfl
theorem backTo_len (x : List UInt8) (F : List (Int × UInt8)) (i : Nat) : (backTo x F i).length = i := by simp [backTo]
theorem letters_pul (L : List (Int × UInt8)) : PuL (letters L) := by
  rw [← ltv_letters]
  have := ltv_pu L
  simp only [PuL, lowL_iff] at this ⊢
  intro c hc
  obtain ⟨v, hv, hcv⟩ := List.mem_flatMap.1 hc
  obtain ⟨p, _, rfl⟩ := List.mem_map.1 hv
  simp only [AV.cells, List.mem_cons, List.not_mem_nil, or_false] at hcv
  rcases hcv with rfl | rfl <;> simp only [low]
theorem letters_snoc (L : List (Int × UInt8)) (a : Int) (c : UInt8) : letters (L ++ [(a, c)]) = letters L ++ [.int .i64 a, .int .u8 c.toNat] := by rw [letters_append]; rfl
theorem gso_let {O : List (Int × UInt8)} {z : Int × UInt8} : gso 121 (letters (O ++ [z])) = some (.cells (letters (O ++ [z])) (some 121)) := gso_pos (by simp [letters])
theorem idxOf_range : ∀ (F : List (Int × UInt8)) (i j : Int), 0 ≤ j → -1 ≤ idxOf F i j ∧ idxOf F i j < j + F.length + 1
  | [], i, j, h => by simp only [idxOf, List.length_nil]; omega
  | p :: F, i, j, h => by
    rw [idxOf]
    split
    · simp only [List.length_cons]; omega
    · have := idxOf_range F i (j + 1) (by omega)
      simp only [List.length_cons]; omega

theorem inverseOf_ok (x : List UInt8) (v : AV) (l : List Ed) (hv : SlE v l) (hl : l.length ≤ 2000) (hx : x.length ≤ 20000) (hnew : ∀ e ∈ l, e.new.length ≤ 100000) (hsc : scan x.length (-1) l = 0) (s : AHeap) :
    ACall Try.prog 28 [.str x, v] s fun r t => r = edv (edGo (flowFrom x.length 0 l).length 0 [] (backTo x (flowFrom x.length 0 l) x.length)) ∧ t = s := by
  refine gob28 (by simp) ?_
  intro tm hlen harg
  simp (config := { contextual := true }) only [go_sem, L28, hlen, harg, lcondB_decide, lcondB_not, lguardB_decide_true, lguardB_decide_false, ldguardB_decide, Nat.reduceLT, Nat.reduceEqDiff, Nat.reduceAdd, Nat.reduceLeDiff, reduceIte, reduceCtorEq]
  refine lfunG_eq (flowOfE x.length v l hv hl hx hnew hsc _) ?_
  have hlenb : (flowFrom x.length 0 l).length ≤ 300000000 := by
    have h1 := flow_len x.length l 0 hnew (fun e he => (scan_range l _ hsc e he).2.2.1)
    have h2 : l.length * (x.length + 100000) ≤ 2000 * (20000 + 100000) := Nat.mul_le_mul hl (by omega)
    omega
  generalize flowFrom x.length 0 l = F at *
  have hpu : Pu (fsv 2 (ltv F)) := pu_fsv (ltv_pu F)
  simp (config := { contextual := true }) only [go_sem, hlen, harg, flv, flow_len', build118, lcondB_decide, lcondB_not, lguardB_decide_true, lguardB_decide_false, ldguardB_decide, Nat.reduceLT, Nat.reduceEqDiff, Nat.reduceAdd, Nat.reduceLeDiff, reduceIte, reduceCtorEq]
  refine ⟨Nat, fun i => [(0, .str x), (5, .ptr (nm s.nx 0) 0), (6, .ptr (nm s.nx 1) 0), (18, .int .i64 x.length), (19, .int .i64 i)],
    fun i => loc s 3 [(0, some (.cells [.int .i64 x.length, fsv 2 (ltv F)] (some 118))), (1, some (.cells [.int .i64 F.length, gsv 2 (nm s.nx 2) (backTo x F i).length] (some 118))), (2, gso 121 (letters (backTo x F i)))], fun i => i ≤ x.length, fun i => x.length - i, 0, by simp, ?_, ?_⟩
  · refine To.go [0, 1, 9] [(0, some (.cells [.int .i64 x.length, fsv 2 (ltv F)] (some 118))), (1, some (.cells [.int .i64 F.length, .nils] (some 118))), (2, none)] rfl (.refl s) (by decide) (by simp) ?_ ?_
    · simp (config := { contextual := true }) only [go_sem, hlen, harg, gsv_zero, lcondB_decide, lcondB_not, lguardB_decide_true, lguardB_decide_false, ldguardB_decide, Nat.reduceLT, Nat.reduceEqDiff, Nat.reduceAdd, Nat.reduceLeDiff, reduceIte, reduceCtorEq]
      rfl
    · simp only [go_sem, pu_ren hpu, lcondB_decide, lcondB_not, lguardB_decide_true, lguardB_decide_false, ldguardB_decide, Nat.reduceLT, Nat.reduceEqDiff, Nat.reduceAdd, Nat.reduceLeDiff, reduceIte, reduceCtorEq]
  · intro i tm1 hi hlen1 hlv
    simp only [go_sem, hlen, lcondB_decide, lcondB_not, lguardB_decide_true, lguardB_decide_false, ldguardB_decide, Nat.reduceLT, Nat.reduceEqDiff, Nat.reduceAdd, Nat.reduceLeDiff, reduceIte, reduceCtorEq] at hlen1 hlv
    simp (config := { contextual := true }) only [go_sem, hlen, hlen1, hlv, lcondB_decide, lcondB_not, lguardB_decide_true, lguardB_decide_false, ldguardB_decide, Nat.reduceLT, Nat.reduceEqDiff, Nat.reduceAdd, Nat.reduceLeDiff, reduceIte, reduceCtorEq]
    refine ⟨fun hlt => ?_, fun hge => ?_⟩
    · have hi2 : i < x.length := by omega
      have hw3 : IntKind.i64.wrap ((i : Int) + 1) = ((i + 1 : Nat) : Int) := by rw [wrap_id (by omega)]; rfl
      refine lfunG_eq (idx_ok (i := i) (by simp only [go_sem, lcondB_decide, lcondB_not, lguardB_decide_true, lguardB_decide_false, ldguardB_decide, Nat.reduceLT, Nat.reduceEqDiff, Nat.reduceAdd, Nat.reduceLeDiff, reduceIte, reduceCtorEq]) (by simp only [go_sem, nx_loc, nm]; omega) F (by omega)) ?_
      have hix : aindex tab 9 (.str x) (.int .i64 i) = some (.int .u8 (x.getD i 0).toNat) := by simp [aindex, ty9, hi2, List.getD_eq_getElem?_getD]
      simp (config := { contextual := true }) only [go_sem, hlen1, hlv, lcondB_decide, lcondB_not, lguardB_decide_true, lguardB_decide_false, ldguardB_decide, Nat.reduceLT, Nat.reduceEqDiff, Nat.reduceAdd, Nat.reduceLeDiff, reduceIte, reduceCtorEq]
      refine ldrawB_go [] [(1, 1)] 8 (by decide) ?_
      simp (config := { contextual := true }) only [go_sem, hlen1, hlv, hix, build121_2, lcondB_decide, lcondB_not, lguardB_decide_true, lguardB_decide_false, ldguardB_decide, Nat.reduceLT, Nat.reduceEqDiff, Nat.reduceAdd, Nat.reduceLeDiff, reduceIte, reduceCtorEq]
      refine ⟨by kernel_rfl, ?_⟩
      refine lmem_eq (app116 (acellsOf_rs (by simp only [go_sem, lcondB_decide, lcondB_not, lguardB_decide_true, lguardB_decide_false, ldguardB_decide, Nat.reduceLT, Nat.reduceEqDiff, Nat.reduceAdd, Nat.reduceLeDiff, reduceIte, reduceCtorEq]; rfl) (by rfl) rfl) (by decide) (by simp only [go_sem, lcondB_decide, lcondB_not, lguardB_decide_true, lguardB_decide_false, ldguardB_decide, Nat.reduceLT, Nat.reduceEqDiff, Nat.reduceAdd, Nat.reduceLeDiff, reduceIte, reduceCtorEq]) (by simp only [go_sem, lcondB_decide, lcondB_not, lguardB_decide_true, lguardB_decide_false, ldguardB_decide, Nat.reduceLT, Nat.reduceEqDiff, Nat.reduceAdd, Nat.reduceLeDiff, reduceIte, reduceCtorEq]) (letters_length _) (by rw [backTo_len]; omega) rfl) ?_
      simp (config := { contextual := true }) only [go_sem, hlen1, hlv, hw3, lcondB_decide, lcondB_not, lguardB_decide_true, lguardB_decide_false, ldguardB_decide, Nat.reduceLT, Nat.reduceEqDiff, Nat.reduceAdd, Nat.reduceLeDiff, reduceIte, reduceCtorEq]
      refine ⟨i + 1, by omega, by omega, ?_⟩
      refine To.go [0, 1, 13] _ rfl (.refl s) (by decide) (by simp) ?_ ?_
      · simp (config := { contextual := true }) only [go_sem, hlen1, hlv, lcondB_decide, lcondB_not, lguardB_decide_true, lguardB_decide_false, ldguardB_decide, Nat.reduceLT, Nat.reduceEqDiff, Nat.reduceAdd, Nat.reduceLeDiff, reduceIte, reduceCtorEq]
      · simp only [go_sem, pu_ren hpu, map_gso_pu (letters_pul _), lcondB_decide, lcondB_not, lguardB_decide_true, lguardB_decide_false, ldguardB_decide, Nat.reduceLT, Nat.reduceEqDiff, Nat.reduceAdd, Nat.reduceLeDiff, reduceIte, reduceCtorEq]
        rw [backTo_succ, gso_let, letters_snoc, List.length_append, List.length_singleton, gsv_pos (Nat.succ_ne_zero _)]
        exact ⟨rfl, rfl⟩
    · have hi2 : i = x.length := by omega
      subst hi2
      refine lfunG_freezeG 2 2 (ltv (backTo x F x.length)) (by rw [ltv_letters]; simp only [go_sem, lcondB_decide, lcondB_not, lguardB_decide_true, lguardB_decide_false, ldguardB_decide, Nat.reduceLT, Nat.reduceEqDiff, Nat.reduceAdd, Nat.reduceLeDiff, reduceIte, reduceCtorEq]; rfl) (ltv_len _) (by decide) ?_
      have hfz : fz (nm s.nx 2) 2 (ltv (backTo x F x.length)) (gsv 2 (nm s.nx 2) (backTo x F x.length).length) = fsv 2 (ltv (backTo x F x.length)) := by
        rw [show (backTo x F x.length).length = (ltv (backTo x F x.length)).length from (List.length_map ..).symm, fz_gsv]
      simp only [go_sem, hfz, lcondB_decide, lcondB_not, lguardB_decide_true, lguardB_decide_false, ldguardB_decide, Nat.reduceLT, Nat.reduceEqDiff, Nat.reduceAdd, Nat.reduceLeDiff, reduceIte, reduceCtorEq]
      refine lfunG_eq (edits_ok F.length (backTo x F x.length) (by omega) (by
        intro p hp
        obtain ⟨k, _, rfl⟩ := List.mem_map.1 hp
        have := idxOf_range F (k : Nat) 0 (by omega)
        simp only; omega) (by rw [backTo_len]; omega) _) ?_
      simp (config := { contextual := true }) only [go_sem, fzL_length, hlen1, lcondB_decide, lcondB_not, lguardB_decide_true, lguardB_decide_false, ldguardB_decide, Nat.reduceLT, Nat.reduceEqDiff, Nat.reduceAdd, Nat.reduceLeDiff, reduceIte, reduceCtorEq]
      exact lexit_pure (.refl s) (low.mono (Nat.zero_le _) (edv_pu _)) ⟨rfl, rfl⟩
end Go.S1N
end
section
set_option linter.unusedVariables false
set_option linter.unusedSimpArgs false
namespace Go.S1N
open Go Go.Am Go.Proofs Go.S1
set_option maxRecDepth 100000
set_option linter.unusedSimpArgs false

/-! ## the length -/
def dl : List Ed → Int
  | [] => 0
  | e :: r => (e.new.length - e.cut) + dl r
theorem long_dl : ∀ (l : List Ed) (m : Int), (∀ e ∈ l, e.new.length ≤ 100000 ∧ 0 ≤ e.cut ∧ e.cut ≤ 100000) → -1000000000000 ≤ m - 100000 * (l.length : Int) → m + 100000 * (l.length : Int) ≤ 1000000000000 → longOf m l = m + dl l
  | [], m, _, _, _ => by simp [longOf, dl]
  | e :: r, m, h, h1, h2 => by
    have he := h e (List.mem_cons_self ..)
    simp only [List.length_cons] at h1 h2
    have hw1 : IntKind.i64.wrap ((e.new.length : Int) - e.cut) = (e.new.length : Int) - e.cut := wrap_id (by omega)
    have hw2 : IntKind.i64.wrap (m + ((e.new.length : Int) - e.cut)) = m + ((e.new.length : Int) - e.cut) := wrap_id (by omega)
    have := long_dl r (m + ((e.new.length : Int) - e.cut)) (fun x hx => h x (List.mem_cons_of_mem _ hx)) (by omega) (by omega)
    rw [longOf, List.foldl_cons, hw1, hw2]
    rw [longOf] at this
    rw [this, dl]
    omega
theorem run_len (a k : Nat) : (runOf a k).length = k := by simp [runOf]
theorem flow_dl (n : Nat) : ∀ (l : List Ed) (a : Nat) (B : Int), (B = a ∨ (B = -1 ∧ a = 0)) → a ≤ n → scan n B l = 0 → ((flowFrom n a l).length : Int) = (n - a) + dl l
  | [], a, B, _, ha, _ => by simp only [flowFrom, run_len, dl]; omega
  | e :: r, a, B, hB, ha, h => by
    obtain ⟨c1, c2, c3, c4, c5, c6⟩ := scan_cons h
    have := flow_dl n r (e.at_ + e.cut).toNat (e.at_ + e.cut) (.inl (by omega)) (by omega) c6
    simp only [flowFrom, List.length_append, run_len, List.length_map, dl]
    omega

/-! ## the way back -/
def numb : Int → List UInt8 → List (Int × UInt8)
  | _, [] => []
  | p, c :: w => (p, c) :: numb (p + 1) w
def negL (w : List UInt8) : List (Int × UInt8) := w.map fun c => ((-1 : Int), c)
def backL (x : List UInt8) : Int → Nat → List Ed → List (Int × UInt8)
  | p, a, [] => numb p (x.drop a)
  | p, a, e :: r => numb p ((x.drop a).take (e.at_.toNat - a)) ++ (negL ((x.drop e.at_.toNat).take ((e.at_ + e.cut).toNat - e.at_.toNat)) ++ backL x (p + (e.at_.toNat - a : Nat) + e.new.length) (e.at_ + e.cut).toNat r)

theorem push_same {p : Int} : pushE p [] p = [] := if_neg (by rintro (h | h); omega; exact h rfl)
theorem ed_numb (N : Int) : ∀ (u : List UInt8) (p q : Int) (w : List UInt8) (t : List (Int × UInt8)), 0 ≤ p → u ≠ [] → edGo N q w (numb p u ++ t) = pushE q w p ++ edGo N (p + u.length) [] t
  | [], _, _, _, _, _, h => absurd rfl h
  | [c], p, q, w, t, hp, _ => by
    simp only [numb, List.cons_append, List.nil_append, edGo]
    rw [if_neg (by omega)]; rfl
  | c :: d :: u, p, q, w, t, hp, _ => by
    have ih := ed_numb N (d :: u) (p + 1) (p + 1) [] t (by omega) (by simp)
    simp only [numb, List.cons_append, List.nil_append] at ih ⊢
    rw [edGo, if_neg (by simp only; omega), ih, push_same, List.nil_append]
    congr 2
    simp only [List.length_cons]; omega
theorem ed_neg (N : Int) : ∀ (u : List UInt8) (q : Int) (w : List UInt8) (t : List (Int × UInt8)), edGo N q w (negL u ++ t) = edGo N q (w ++ u) t
  | [], q, w, t => by simp [negL]
  | c :: u, q, w, t => by
    have ih := ed_neg N u q (w ++ [c]) t
    simp only [negL, List.map_cons, List.cons_append] at ih ⊢
    rw [edGo, if_pos (by simp only; omega), ih, List.append_assoc]; rfl

theorem scan_ne {n B : Int} {e : Ed} {r : List Ed} (h : scan n B (e :: r) = 0) : ¬ (e.cut = 0 ∧ e.new = []) := by
  intro hh
  rw [scan] at h
  split at h
  · cases h
  · split at h
    · cases h
    · first | cases h | (rw [if_pos hh] at h; cases h)

theorem ed_back (x : List UInt8) : ∀ (l : List Ed) (a : Nat) (B p q N : Int) (w : List UInt8), (B = a ∨ (B = -1 ∧ a = 0)) → a ≤ x.length → scan x.length B l = 0 → 0 ≤ p → N = p + (x.length - a) + dl l →
    ((w = [] ∧ q = p) ∨ B = a) → edGo N q w (backL x p a l) = pushE q w p ++ invFrom x (p - a) l
  | [], a, B, p, q, N, w, hB, ha, _, hp, hN, _ => by
    simp only [backL, invFrom, List.append_nil]
    simp only [dl] at hN
    by_cases hu : x.drop a = []
    · have : x.length ≤ a := by simpa using hu
      rw [hu, numb, edGo, show N = p by omega]
    · have h := ed_numb N (x.drop a) p q w [] hp hu
      rw [List.append_nil] at h
      rw [h, edGo, show N = p + (x.drop a).length by simp; omega, push_same, List.append_nil]
  | e :: r, a, B, p, q, N, w, hB, ha, hs, hp, hN, hH => by
    obtain ⟨c1, c2, c3, c4, c5, c6⟩ := scan_cons hs
    have hne := scan_ne hs
    simp only [dl] at hN
    have hea : a ≤ e.at_.toNat := by omega
    have hcl : (((x.drop e.at_.toNat).take ((e.at_ + e.cut).toNat - e.at_.toNat)).length : Int) = e.cut := by simp; omega
    have ih := ed_back x r (e.at_ + e.cut).toNat (e.at_ + e.cut) (p + (e.at_.toNat - a : Nat) + e.new.length) (p + (e.at_.toNat - a : Nat)) N ((x.drop e.at_.toNat).take ((e.at_ + e.cut).toNat - e.at_.toNat)) (.inl (by omega)) (by omega) c6 (by omega) (by omega) (.inr (by omega))
    have hpush : pushE (p + (e.at_.toNat - a : Nat)) ((x.drop e.at_.toNat).take ((e.at_ + e.cut).toNat - e.at_.toNat)) (p + (e.at_.toNat - a : Nat) + e.new.length) = [⟨e.at_ + (p - a), e.new.length, (x.drop e.at_.toNat).take ((e.at_ + e.cut).toNat - e.at_.toNat)⟩] := by
      unfold pushE
      rw [if_pos]
      · congr 2 <;> omega
      · by_cases hn : e.new = []
        · refine .inr fun h => hne ⟨?_, hn⟩
          rw [h] at hcl
          simpa using hcl.symm
        · have : 0 < e.new.length := List.length_pos_iff.2 hn
          exact .inl (by omega)
    have hinv : invFrom x (p - a) (e :: r) = ⟨e.at_ + (p - a), e.new.length, (x.drop e.at_.toNat).take ((e.at_ + e.cut).toNat - e.at_.toNat)⟩ :: invFrom x (p + (e.at_.toNat - a : Nat) + e.new.length - (e.at_ + e.cut).toNat) r := by
      rw [invFrom]; congr 2; omega
    rw [hpush] at ih
    by_cases hu : (x.drop a).take (e.at_.toNat - a) = []
    · have h0 : e.at_.toNat = a := by
        have h := congrArg List.length hu
        simp only [List.length_take, List.length_drop, List.length_nil] at h
        omega
      rcases hH with ⟨rfl, rfl⟩ | h
      · rw [backL, hu, numb, List.nil_append, ed_neg, List.nil_append, push_same, List.nil_append]
        have e0 : q + ((e.at_.toNat - a : Nat) : Int) = q := by omega
        rw [hinv]
        simp only [e0] at ih ⊢
        rw [ih]
        rfl
      · omega
    · rw [backL, ed_numb N _ p q w _ hp hu, ed_neg, List.nil_append, hinv]
      rw [show (((x.drop a).take (e.at_.toNat - a)).length : Int) = (e.at_.toNat - a : Nat) by simp; omega, ih]
      rfl

theorem idx_app (t : List (Int × UInt8)) (k : Int) : ∀ (pre : List (Int × UInt8)) (j : Int), (∀ q ∈ pre, q.1 ≠ k) → idxOf (pre ++ t) k j = idxOf t k (j + pre.length)
  | [], j, _ => by simp
  | q :: pre, j, h => by
    rw [List.cons_append, idxOf, if_neg (h q (List.mem_cons_self ..)), idx_app t k pre (j + 1) fun x hx => h x (List.mem_cons_of_mem _ hx)]
    simp only [List.length_cons]
    congr 1; omega
theorem idx_none (k : Int) : ∀ (F : List (Int × UInt8)) (j : Int), (∀ q ∈ F, q.1 ≠ k) → idxOf F k j = -1
  | [], j, _ => rfl
  | q :: F, j, h => by rw [idxOf, if_neg (h q (List.mem_cons_self ..))]; exact idx_none k F _ fun x hx => h x (List.mem_cons_of_mem _ hx)
theorem runOf_cons (a k : Nat) : runOf a (k + 1) = ((a : Int), 0) :: runOf (a + 1) k := rfl
theorem run_mem {a k : Nat} {q : Int × UInt8} (h : q ∈ runOf a k) : (a : Int) ≤ q.1 ∧ q.1 < a + k := by
  obtain ⟨i, hi, rfl⟩ := List.mem_map.1 h
  have := List.mem_range'_1.1 hi
  simp only; omega
theorem idx_run (t : List (Int × UInt8)) : ∀ (m a i : Nat) (j : Int), i < m → idxOf (runOf a m ++ t) (a + i : Nat) j = j + i
  | 0, _, _, _, h => absurd h (Nat.not_lt_zero _)
  | m + 1, a, 0, j, _ => by rw [runOf_cons, List.cons_append, idxOf, if_pos (by simp)]; simp
  | m + 1, a, i + 1, j, h => by
    rw [runOf_cons, List.cons_append, idxOf, if_neg (by simp only; omega), show a + (i + 1) = a + 1 + i by omega, idx_run t m (a + 1) i (j + 1) (by omega)]
    omega
theorem flow_ge (n : Nat) : ∀ (l : List Ed) (a : Nat) (B : Int), (B = a ∨ (B = -1 ∧ a = 0)) → scan n B l = 0 → ∀ q ∈ flowFrom n a l, q.1 = -1 ∨ (a : Int) ≤ q.1
  | [], a, B, _, _, q, hq => .inr (run_mem hq).1
  | e :: r, a, B, hB, h, q, hq => by
    obtain ⟨c1, c2, c3, c4, c5, c6⟩ := scan_cons h
    simp only [flowFrom, List.mem_append] at hq
    rcases hq with (hq | hq) | hq
    · exact .inr (run_mem hq).1
    · obtain ⟨c, _, rfl⟩ := List.mem_map.1 hq
      exact .inl rfl
    · rcases flow_ge n r (e.at_ + e.cut).toNat (e.at_ + e.cut) (.inl (by omega)) c6 q hq with h | h
      · exact .inl h
      · exact .inr (by omega)

theorem map_numb (x : List UInt8) (f : Nat → Int) : ∀ (m a : Nat) (p : Int), a + m ≤ x.length → (∀ i, i < m → f (a + i) = p + i) → (List.range' a m).map (fun k => (f k, x.getD k 0)) = numb p ((x.drop a).take m)
  | 0, a, p, _, _ => by simp [numb]
  | m + 1, a, p, h, hf => by
    have ha : a < x.length := by omega
    rw [List.range'_succ, List.map_cons, List.drop_eq_getElem_cons ha, List.take_succ_cons, numb]
    have h0 := hf 0 (by omega)
    rw [Nat.add_zero] at h0
    congr 1
    · rw [h0, List.getD_eq_getElem?_getD, List.getElem?_eq_getElem ha]; simp
    · exact map_numb x f m (a + 1) (p + 1) (by omega) fun i hi => by rw [show a + 1 + i = a + (i + 1) by omega, hf (i + 1) (by omega)]; omega
theorem map_neg (x : List UInt8) (f : Nat → Int) : ∀ (m a : Nat), a + m ≤ x.length → (∀ i, i < m → f (a + i) = -1) → (List.range' a m).map (fun k => (f k, x.getD k 0)) = negL ((x.drop a).take m)
  | 0, a, _, _ => by simp [negL]
  | m + 1, a, h, hf => by
    have ha : a < x.length := by omega
    rw [List.range'_succ, List.map_cons, List.drop_eq_getElem_cons ha, List.take_succ_cons, negL, List.map_cons]
    have h0 := hf 0 (by omega)
    rw [Nat.add_zero] at h0
    congr 1
    · rw [h0, List.getD_eq_getElem?_getD, List.getElem?_eq_getElem ha]; simp
    · exact map_neg x f m (a + 1) (by omega) fun i hi => by rw [show a + 1 + i = a + (i + 1) by omega, hf (i + 1) (by omega)]

theorem back_flow (x : List UInt8) : ∀ (l : List Ed) (a : Nat) (B : Int) (pre : List (Int × UInt8)), (B = a ∨ (B = -1 ∧ a = 0)) → a ≤ x.length → scan x.length B l = 0 → (∀ q ∈ pre, q.1 < a) →
    (List.range' a (x.length - a)).map (fun k : Nat => (idxOf (pre ++ flowFrom x.length a l) (k : Nat) 0, x.getD k 0)) = backL x pre.length a l
  | [], a, B, pre, hB, ha, _, hpre => by
    rw [backL, flowFrom, map_numb x (fun k : Nat => idxOf (pre ++ runOf a (x.length - a)) (k : Nat) 0) (x.length - a) a pre.length (by omega)]
    · rw [List.take_of_length_le (by simp)]
    · intro i hi
      rw [idx_app _ _ _ _ (fun q hq => by have := hpre q hq; omega)]
      have := idx_run [] (x.length - a) a i (0 + pre.length) hi
      rw [List.append_nil] at this
      rw [this]; omega
  | e :: r, a, B, pre, hB, ha, hs, hpre => by
    obtain ⟨c1, c2, c3, c4, c5, c6⟩ := scan_cons hs
    have hea : a ≤ e.at_.toNat := by omega
    have hge := flow_ge x.length r (e.at_ + e.cut).toNat (e.at_ + e.cut) (.inl (by omega)) c6
    have ih := back_flow x r (e.at_ + e.cut).toNat (e.at_ + e.cut) (pre ++ (runOf a (e.at_.toNat - a) ++ e.new.map fun c => ((-1 : Int), c))) (.inl (by omega)) (by omega) c6 (by
      intro q hq
      rcases List.mem_append.1 hq with hq | hq
      · have := hpre q hq; omega
      · rcases List.mem_append.1 hq with hq | hq
        · have := run_mem hq; omega
        · obtain ⟨c, _, rfl⟩ := List.mem_map.1 hq
          simp only; omega)
    have hF : pre ++ flowFrom x.length a (e :: r) = pre ++ (runOf a (e.at_.toNat - a) ++ e.new.map fun c => ((-1 : Int), c)) ++ flowFrom x.length (e.at_ + e.cut).toNat r := by
      simp only [flowFrom, List.append_assoc]
    have hsplit : List.range' a (x.length - a) = List.range' a (e.at_.toNat - a) ++ (List.range' e.at_.toNat ((e.at_ + e.cut).toNat - e.at_.toNat) ++ List.range' (e.at_ + e.cut).toNat (x.length - (e.at_ + e.cut).toNat)) := by
      have h1 := List.range'_append_1 (s := e.at_.toNat) (m := (e.at_ + e.cut).toNat - e.at_.toNat) (n := x.length - (e.at_ + e.cut).toNat)
      rw [show e.at_.toNat + ((e.at_ + e.cut).toNat - e.at_.toNat) = (e.at_ + e.cut).toNat by omega] at h1
      rw [h1]
      have h2 := List.range'_append_1 (s := a) (m := e.at_.toNat - a) (n := (e.at_ + e.cut).toNat - e.at_.toNat + (x.length - (e.at_ + e.cut).toNat))
      rw [show a + (e.at_.toNat - a) = e.at_.toNat by omega] at h2
      rw [h2]
      congr 1; omega
    rw [hF, hsplit, List.map_append, List.map_append, ih, backL]
    congr 1
    · refine map_numb x (fun k : Nat => idxOf _ (k : Nat) 0) _ a pre.length (by omega) ?_
      intro i hi
      rw [List.append_assoc, idx_app _ _ _ _ (fun q hq => by have := hpre q hq; omega), List.append_assoc, idx_run _ _ a i _ hi]
      omega
    · congr 1
      · refine map_neg x (fun k : Nat => idxOf _ (k : Nat) 0) _ _ (by omega) ?_
        intro i hi
        refine idx_none _ _ _ ?_
        intro q hq
        rcases List.mem_append.1 hq with hq | hq
        · rcases List.mem_append.1 hq with hq | hq
          · have := hpre q hq; omega
          · rcases List.mem_append.1 hq with hq | hq
            · have := run_mem hq; omega
            · obtain ⟨c, _, rfl⟩ := List.mem_map.1 hq
              simp only; omega
        · have := hge q hq; omega
      · congr 1
        simp only [List.length_append, run_len, List.length_map]
        omega

theorem inverse_law (x : List UInt8) (l : List Ed) (hs : scan x.length (-1) l = 0) : edGo (flowFrom x.length 0 l).length 0 [] (backTo x (flowFrom x.length 0 l) x.length) = invFrom x 0 l := by
  have h1 := back_flow x l 0 (-1) [] (.inr ⟨rfl, rfl⟩) (by omega) hs (by simp)
  rw [List.nil_append, Nat.sub_zero, ← List.range_eq_range'] at h1
  rw [backTo, h1]
  have h2 := flow_dl x.length l 0 (-1) (.inr ⟨rfl, rfl⟩) (by omega) hs
  have h3 := ed_back x l 0 (-1) 0 0 (flowFrom x.length 0 l).length [] (.inr ⟨rfl, rfl⟩) (by omega) hs (by omega) (by omega) (.inl ⟨rfl, rfl⟩)
  rw [push_same, List.nil_append] at h3
  exact h3
end Go.S1N
end
section
set_option linter.unusedVariables false
set_option linter.unusedSimpArgs false
namespace Go.S1N
open Go Go.Am Go.Proofs Go.S1
set_option maxRecDepth 100000
set_option linter.unusedSimpArgs false
attribute [local irreducible] lopsB lvb lstepB lfunG lcondB lguardB ldrawB ldrunB ldstepB ldguardB lmem lval ldmem ldval ldfun lexit ldloadB ldlenB lpostB athen ablock

theorem ints_cells {v : AV} {l : List Int} (h : IsInts v l) : v.cells = [v] := by rcases h with ⟨f, rfl⟩ | ⟨rfl, rfl⟩ <;> rfl
theorem ints_israw {v : AV} {l : List Int} (h : IsInts v l) : v.israw = false := by rcases h with ⟨f, rfl⟩ | ⟨rfl, rfl⟩ <;> rfl
theorem faultOf_zero {n : Int} {l : List Ed} (h : faultOf n l = 0) : 0 ≤ n ∧ n ≤ 20000 ∧ l.length ≤ 2000 ∧ scan n (-1) l = 0 := by
  rw [faultOf] at h
  split at h
  · cases h
  · rename_i h1
    have h1 := Classical.not_not.1 h1
    split at h
    · cases h
    · split at h
      · rename_i h3; exact absurd h h3
      · rename_i h2 h3
        exact ⟨h1.1, h1.2, by omega, Classical.not_not.1 h3⟩
theorem same33 (l : List Ed) (h : l.length < 4611686018427387904) (s : AHeap) : ACall Try.prog 33 [edv l, edv l] s fun r t => r = .bool true ∧ t = s := by
  classical
  have := equalEds_ok (edv_sl l) (edv_sl l) h s
  simpa using this

end Go.S1N
end
section
set_option linter.unusedVariables false
set_option linter.unusedSimpArgs false
/- The light forms of the bodies: written by light.py, a program of this session, out of what Lean printed. -/
namespace Go.S1
open Go Go.Am Go.Proofs
set_option maxRecDepth 100000

noncomputable def L5 : LCode := LCode.seq (LCode.ops [⟨Op.assign (Operand.const (Value.bool false)), some 2, none⟩]) (LCode.seq (LCode.ops [⟨Op.move (Operand.tmp 0), some 17, none⟩, ⟨Op.build 25 { toList := [(0, Operand.tmp 17)] }, some 18, none⟩, ⟨Op.box 25 (Operand.tmp 18), some 19, none⟩, ⟨Op.assign (Operand.tmp 19), some 3, none⟩]) (LCode.seq (LCode.ops [⟨Op.move (Operand.tmp 3), some 20, none⟩, ⟨Op.call { callee := Callee.value (Operand.func 10), args := { toList := [Operand.tmp 20, Operand.const (Value.int IntKind.i64 0), Operand.const (Value.int IntKind.i64 10)] }, argTypes := { toList := [23, 3, 3] } }, some 21, none⟩, ⟨Op.assign (Operand.tmp 21), some 4, none⟩]) (LCode.seq (LCode.ops [⟨Op.move (Operand.tmp 3), some 22, none⟩, ⟨Op.move (Operand.tmp 4), some 23, none⟩, ⟨Op.call { callee := Callee.value (Operand.func 9), args := { toList := [Operand.tmp 22, Operand.tmp 23] }, argTypes := { toList := [23, 3] } }, some 24, none⟩, ⟨Op.assign (Operand.tmp 24), some 5, none⟩]) (LCode.seq (LCode.ops [⟨Op.move (Operand.tmp 4), some 25, none⟩, ⟨Op.assign (Operand.tmp 25), some 6, none⟩]) (LCode.seq (LCode.seq (LCode.ops [⟨Op.move (Operand.tmp 4), some 26, none⟩, ⟨Op.move (Operand.tmp 5), some 27, none⟩, ⟨Op.call { callee := Callee.value (Operand.func 14), args := { toList := [Operand.tmp 26, Operand.tmp 27] }, argTypes := { toList := [3, 27] } }, some 28, none⟩, ⟨Op.binOp BinOp.eql 31 (Operand.tmp 28) (Operand.const (Value.int IntKind.i64 0)) 31, some 29, none⟩]) (LCode.cond (Operand.tmp 29) (LCode.ops [⟨Op.move (Operand.tmp 4), some 30, none⟩, ⟨Op.move (Operand.tmp 5), some 31, none⟩, ⟨Op.call { callee := Callee.value (Operand.func 30), args := { toList := [Operand.tmp 30, Operand.tmp 31] }, argTypes := { toList := [3, 27] } }, some 32, none⟩, ⟨Op.assign (Operand.tmp 32), some 6, none⟩]) LCode.skip)) (LCode.seq (LCode.ops [⟨Op.move (Operand.tmp 3), some 33, none⟩, ⟨Op.move (Operand.tmp 6), some 34, none⟩, ⟨Op.call { callee := Callee.value (Operand.func 9), args := { toList := [Operand.tmp 33, Operand.tmp 34] }, argTypes := { toList := [23, 3] } }, some 35, none⟩, ⟨Op.assign (Operand.tmp 35), some 7, none⟩]) (LCode.seq (LCode.ops [⟨Op.move (Operand.tmp 5), some 36, none⟩, ⟨Op.move (Operand.tmp 7), some 37, none⟩, ⟨Op.buildSlice 60 2 { toList := [(0, Operand.tmp 36), (1, Operand.tmp 37)] }, some 38, none⟩, ⟨Op.assign (Operand.tmp 38), some 8, none⟩]) (LCode.seq (LCode.seq (LCode.ops [⟨Op.move (Operand.tmp 6), some 39, none⟩, ⟨Op.move (Operand.tmp 7), some 40, none⟩, ⟨Op.call { callee := Callee.value (Operand.func 14), args := { toList := [Operand.tmp 39, Operand.tmp 40] }, argTypes := { toList := [3, 27] } }, some 41, none⟩, ⟨Op.binOp BinOp.eql 31 (Operand.tmp 41) (Operand.const (Value.int IntKind.i64 0)) 31, some 42, none⟩, ⟨Op.move (Operand.tmp 42), some 43, none⟩, ⟨Op.move (Operand.tmp 3), some 44, some (43, true)⟩, ⟨Op.call { callee := Callee.value (Operand.func 11), args := { toList := [Operand.tmp 44, Operand.const (Value.int IntKind.i64 2)] }, argTypes := { toList := [23, 3] } }, some 45, some (43, true)⟩, ⟨Op.pick (Operand.tmp 43) (Operand.tmp 45) (Operand.const (Value.bool false)), some 46, none⟩]) (LCode.cond (Operand.tmp 46) (LCode.ops [⟨Op.move (Operand.tmp 8), some 47, none⟩, ⟨Op.move (Operand.tmp 3), some 48, none⟩, ⟨Op.move (Operand.tmp 6), some 49, none⟩, ⟨Op.move (Operand.tmp 7), some 50, none⟩, ⟨Op.call { callee := Callee.value (Operand.func 30), args := { toList := [Operand.tmp 49, Operand.tmp 50] }, argTypes := { toList := [3, 27] } }, some 51, none⟩, ⟨Op.call { callee := Callee.value (Operand.func 9), args := { toList := [Operand.tmp 48, Operand.tmp 51] }, argTypes := { toList := [23, 3] } }, some 52, none⟩, ⟨Op.buildSlice 60 1 { toList := [(0, Operand.tmp 52)] }, some 53, none⟩, ⟨Op.call { callee := Callee.builtin Builtin.append, args := { toList := [Operand.tmp 47, Operand.tmp 53] }, argTypes := { toList := [60, 60] } }, some 54, none⟩, ⟨Op.assign (Operand.tmp 54), some 8, none⟩]) LCode.skip)) (LCode.seq (LCode.ops [⟨Op.move (Operand.tmp 8), some 55, none⟩, ⟨Op.move (Operand.tmp 3), some 56, none⟩, ⟨Op.move (Operand.tmp 8), some 57, none⟩, ⟨Op.call { callee := Callee.builtin Builtin.len, args := { toList := [Operand.tmp 57] }, argTypes := { toList := [60] } }, some 58, none⟩, ⟨Op.call { callee := Callee.value (Operand.func 10), args := { toList := [Operand.tmp 56, Operand.const (Value.int IntKind.i64 0), Operand.tmp 58] }, argTypes := { toList := [23, 3, 3] } }, some 59, none⟩, ⟨Op.slice 60 (Operand.tmp 55) none (some (Operand.tmp 59)) none, some 60, none⟩, ⟨Op.assign (Operand.tmp 60), some 8, none⟩]) (LCode.seq (LCode.ops [⟨Op.move (Operand.tmp 4), some 62, none⟩, ⟨Op.move (Operand.tmp 5), some 63, none⟩, ⟨Op.move (Operand.tmp 7), some 64, none⟩, ⟨Op.call { callee := Callee.value (Operand.func 34), args := { toList := [Operand.tmp 62, Operand.tmp 63, Operand.tmp 64] }, argTypes := { toList := [3, 27, 27] } }, some 65, none⟩, ⟨Op.move (Operand.tmp 65), some 61, none⟩, ⟨Op.extract (Operand.tmp 61) 0, some 66, none⟩, ⟨Op.extract (Operand.tmp 61) 1, some 67, none⟩, ⟨Op.assign (Operand.tmp 66), some 9, none⟩, ⟨Op.assign (Operand.tmp 67), some 10, none⟩]) (LCode.seq (LCode.ops [⟨Op.move (Operand.tmp 4), some 69, none⟩, ⟨Op.move (Operand.tmp 8), some 70, none⟩, ⟨Op.call { callee := Callee.value (Operand.func 35), args := { toList := [Operand.tmp 69, Operand.tmp 70] }, argTypes := { toList := [3, 60] } }, some 71, none⟩, ⟨Op.move (Operand.tmp 71), some 68, none⟩, ⟨Op.extract (Operand.tmp 68) 0, some 72, none⟩, ⟨Op.extract (Operand.tmp 68) 1, some 73, none⟩, ⟨Op.assign (Operand.tmp 72), some 11, none⟩, ⟨Op.assign (Operand.tmp 73), some 12, none⟩]) (LCode.seq (LCode.ops [⟨Op.move (Operand.tmp 4), some 75, none⟩, ⟨Op.move (Operand.tmp 5), some 76, none⟩, ⟨Op.move (Operand.tmp 7), some 77, none⟩, ⟨Op.call { callee := Callee.value (Operand.func 36), args := { toList := [Operand.tmp 75, Operand.tmp 76, Operand.tmp 77] }, argTypes := { toList := [3, 27, 27] } }, some 78, none⟩, ⟨Op.move (Operand.tmp 78), some 74, none⟩, ⟨Op.extract (Operand.tmp 74) 0, some 79, none⟩, ⟨Op.extract (Operand.tmp 74) 1, some 80, none⟩, ⟨Op.assign (Operand.tmp 79), some 13, none⟩, ⟨Op.assign (Operand.tmp 80), some 14, none⟩]) (LCode.seq (LCode.ops [⟨Op.move (Operand.tmp 4), some 82, none⟩, ⟨Op.move (Operand.tmp 8), some 83, none⟩, ⟨Op.call { callee := Callee.value (Operand.func 37), args := { toList := [Operand.tmp 82, Operand.tmp 83] }, argTypes := { toList := [3, 60] } }, some 84, none⟩, ⟨Op.move (Operand.tmp 84), some 81, none⟩, ⟨Op.extract (Operand.tmp 81) 0, some 85, none⟩, ⟨Op.extract (Operand.tmp 81) 1, some 86, none⟩, ⟨Op.assign (Operand.tmp 85), some 15, none⟩, ⟨Op.assign (Operand.tmp 86), some 16, none⟩]) (LCode.seq (LCode.ops [⟨Op.move (Operand.tmp 10), some 87, none⟩, ⟨Op.move (Operand.tmp 14), some 88, none⟩, ⟨Op.binOp BinOp.eql 31 (Operand.tmp 87) (Operand.tmp 88) 31, some 89, none⟩, ⟨Op.move (Operand.tmp 89), some 90, none⟩, ⟨Op.move (Operand.tmp 9), some 91, some (90, true)⟩, ⟨Op.move (Operand.tmp 13), some 92, some (90, true)⟩, ⟨Op.call { callee := Callee.value (Operand.func 33), args := { toList := [Operand.tmp 91, Operand.tmp 92] }, argTypes := { toList := [27, 27] } }, some 93, some (90, true)⟩, ⟨Op.pick (Operand.tmp 90) (Operand.tmp 93) (Operand.const (Value.bool false)), some 94, none⟩, ⟨Op.move (Operand.tmp 94), some 95, none⟩, ⟨Op.move (Operand.tmp 12), some 96, some (95, true)⟩, ⟨Op.move (Operand.tmp 16), some 97, some (95, true)⟩, ⟨Op.binOp BinOp.eql 31 (Operand.tmp 96) (Operand.tmp 97) 31, some 98, some (95, true)⟩, ⟨Op.pick (Operand.tmp 95) (Operand.tmp 98) (Operand.const (Value.bool false)), some 99, none⟩, ⟨Op.move (Operand.tmp 99), some 100, none⟩, ⟨Op.move (Operand.tmp 11), some 101, some (100, true)⟩, ⟨Op.move (Operand.tmp 15), some 102, some (100, true)⟩, ⟨Op.call { callee := Callee.value (Operand.func 33), args := { toList := [Operand.tmp 101, Operand.tmp 102] }, argTypes := { toList := [27, 27] } }, some 103, some (100, true)⟩, ⟨Op.pick (Operand.tmp 100) (Operand.tmp 103) (Operand.const (Value.bool false)), some 104, none⟩, ⟨Op.move (Operand.tmp 104), some 105, none⟩, ⟨Op.call { callee := Callee.value (Operand.func 19), args := { toList := [] }, argTypes := { toList := [] } }, some 106, some (105, true)⟩, ⟨Op.pick (Operand.tmp 105) (Operand.tmp 106) (Operand.const (Value.bool false)), some 107, none⟩, ⟨Op.assign (Operand.tmp 107), some 2, none⟩]) LCode.ret))))))))))))))
theorem l5 : Try.f5.body.map lighten = some L5 := by kernel_rfl
theorem rs5 : Try.f5.results.toList = [ResultVar.tmp 2] := by kernel_rfl
theorem nt5 : Try.f5.ntmps = 108 := by kernel_rfl
theorem gob5 {args : List AV} {s : AHeap} {R : AV → AHeap → Prop} (hl : args.length ≤ 108) (h : ∀ tm, tm.length = 108 → (∀ i, aev tm (.tmp i) = args.getD i aundef) → lvb Try.prog tab s L5 (lpostB tab s [ResultVar.tmp 2] R) tm (loc s 0 [])) : ACall Try.prog 5 args s R := ACall.goB tab_ok mixed Try.func5 l5 nm5 rs5 nt5 hl h
noncomputable def L34 : LCode := LCode.seq (LCode.ops [⟨Op.assign (Operand.const (Value.slice none 0 0)), some 6, none⟩, ⟨Op.assign (Operand.const (Value.int IntKind.i64 0)), some 7, none⟩]) (LCode.seq (LCode.seq (LCode.ops [⟨Op.move (Operand.tmp 0), some 11, none⟩, ⟨Op.move (Operand.tmp 1), some 12, none⟩, ⟨Op.call { callee := Callee.value (Operand.func 31), args := { toList := [Operand.tmp 11, Operand.tmp 12] }, argTypes := { toList := [3, 27] } }, some 13, none⟩, ⟨Op.assign (Operand.tmp 13), some 8, none⟩]) (LCode.seq (LCode.ops [⟨Op.move (Operand.tmp 8), some 14, none⟩, ⟨Op.binOp BinOp.neq 31 (Operand.tmp 14) (Operand.const (Value.int IntKind.i64 0)) 31, some 15, none⟩]) (LCode.cond (Operand.tmp 15) (LCode.seq (LCode.ops [⟨Op.move (Operand.tmp 8), some 16, none⟩, ⟨Op.assign (Operand.const (Value.slice none 0 0)), some 6, none⟩, ⟨Op.assign (Operand.tmp 16), some 7, none⟩]) LCode.ret) LCode.skip))) (LCode.seq (LCode.seq (LCode.ops [⟨Op.move (Operand.tmp 0), some 17, none⟩, ⟨Op.move (Operand.tmp 1), some 18, none⟩, ⟨Op.call { callee := Callee.value (Operand.func 72), args := { toList := [Operand.tmp 17, Operand.tmp 18] }, argTypes := { toList := [3, 27] } }, some 19, none⟩, ⟨Op.move (Operand.tmp 2), some 20, none⟩, ⟨Op.call { callee := Callee.value (Operand.func 31), args := { toList := [Operand.tmp 19, Operand.tmp 20] }, argTypes := { toList := [3, 27] } }, some 21, none⟩, ⟨Op.assign (Operand.tmp 21), some 9, none⟩]) (LCode.seq (LCode.ops [⟨Op.move (Operand.tmp 9), some 22, none⟩, ⟨Op.binOp BinOp.neq 31 (Operand.tmp 22) (Operand.const (Value.int IntKind.i64 0)) 31, some 23, none⟩]) (LCode.cond (Operand.tmp 23) (LCode.seq (LCode.ops [⟨Op.move (Operand.tmp 9), some 24, none⟩, ⟨Op.assign (Operand.const (Value.slice none 0 0)), some 6, none⟩, ⟨Op.assign (Operand.tmp 24), some 7, none⟩]) LCode.ret) LCode.skip))) (LCode.seq (LCode.ops [⟨Op.move (Operand.tmp 0), some 25, none⟩, ⟨Op.move (Operand.tmp 1), some 26, none⟩, ⟨Op.move (Operand.tmp 2), some 27, none⟩, ⟨Op.call { callee := Callee.value (Operand.func 81), args := { toList := [Operand.tmp 25, Operand.tmp 26, Operand.tmp 27] }, argTypes := { toList := [3, 27, 27] } }, some 28, none⟩, ⟨Op.assign (Operand.tmp 28), some 10, none⟩]) (LCode.seq (LCode.seq (LCode.ops [⟨Op.move (Operand.tmp 10), some 29, none⟩, ⟨Op.call { callee := Callee.builtin Builtin.len, args := { toList := [Operand.tmp 29] }, argTypes := { toList := [27] } }, some 30, none⟩, ⟨Op.binOp BinOp.gtr 3 (Operand.tmp 30) (Operand.const (Value.int IntKind.i64 2000)) 3, some 31, none⟩]) (LCode.cond (Operand.tmp 31) (LCode.seq (LCode.ops [⟨Op.assign (Operand.const (Value.slice none 0 0)), some 6, none⟩, ⟨Op.assign (Operand.const (Value.int IntKind.i64 2)), some 7, none⟩]) LCode.ret) LCode.skip)) (LCode.seq (LCode.ops [⟨Op.move (Operand.tmp 10), some 32, none⟩, ⟨Op.assign (Operand.tmp 32), some 6, none⟩, ⟨Op.assign (Operand.const (Value.int IntKind.i64 0)), some 7, none⟩]) LCode.ret)))))
theorem l34 : Try.f34.body.map lighten = some L34 := by kernel_rfl
theorem rs34 : Try.f34.results.toList = [ResultVar.tmp 6, ResultVar.tmp 7] := by kernel_rfl
theorem nt34 : Try.f34.ntmps = 33 := by kernel_rfl
theorem gob34 {args : List AV} {s : AHeap} {R : AV → AHeap → Prop} (hl : args.length ≤ 33) (h : ∀ tm, tm.length = 33 → (∀ i, aev tm (.tmp i) = args.getD i aundef) → lvb Try.prog tab s L34 (lpostB tab s [ResultVar.tmp 6, ResultVar.tmp 7] R) tm (loc s 0 [])) : ACall Try.prog 34 args s R := ACall.goB tab_ok mixed Try.func34 l34 nm34 rs34 nt34 hl h
noncomputable def L35 : LCode := LCode.seq (LCode.ops [⟨Op.assign (Operand.const (Value.slice none 0 0)), some 4, none⟩, ⟨Op.assign (Operand.const (Value.int IntKind.i64 0)), some 5, none⟩]) (LCode.seq (LCode.seq (LCode.ops [⟨Op.move (Operand.tmp 0), some 13, none⟩, ⟨Op.call { callee := Callee.value (Operand.func 80), args := { toList := [Operand.tmp 13, Operand.const (Value.int IntKind.i64 0), Operand.const (Value.int IntKind.i64 20000)] }, argTypes := { toList := [3, 3, 3] } }, some 14, none⟩, ⟨Op.unOp UnOp.not 4 (Operand.tmp 14), some 15, none⟩]) (LCode.cond (Operand.tmp 15) (LCode.seq (LCode.ops [⟨Op.assign (Operand.const (Value.slice none 0 0)), some 4, none⟩, ⟨Op.assign (Operand.const (Value.int IntKind.i64 1)), some 5, none⟩]) LCode.ret) LCode.skip)) (LCode.seq (LCode.ops [⟨Op.move (Operand.tmp 0), some 16, none⟩, ⟨Op.assign (Operand.tmp 16), some 6, none⟩]) (LCode.seq (LCode.seq (LCode.ops [⟨Op.move (Operand.tmp 1), some 17, none⟩, ⟨Op.call { callee := Callee.builtin Builtin.len, args := { toList := [Operand.tmp 17] }, argTypes := { toList := [60] } }, some 18, none⟩, ⟨Op.move (Operand.const (Value.int IntKind.i64 0)), some 19, none⟩]) (LCode.block 0 (LCode.loop (LCode.seq (LCode.ops [⟨Op.binOp BinOp.lss 3 (Operand.tmp 19) (Operand.tmp 18) 3, some 20, none⟩]) (LCode.seq (LCode.cond (Operand.tmp 20) LCode.skip (LCode.exit 0)) (LCode.seq (LCode.block 1 (LCode.seq (LCode.ops [⟨Op.indexAddr 60 (Operand.tmp 17) (Operand.tmp 19), some 21, none⟩, ⟨Op.load 27 (Operand.tmp 21), some 22, none⟩, ⟨Op.assign (Operand.tmp 22), some 8, none⟩]) (LCode.seq (LCode.seq (LCode.ops [⟨Op.move (Operand.tmp 6), some 23, none⟩, ⟨Op.move (Operand.tmp 8), some 24, none⟩, ⟨Op.call { callee := Callee.value (Operand.func 31), args := { toList := [Operand.tmp 23, Operand.tmp 24] }, argTypes := { toList := [3, 27] } }, some 25, none⟩, ⟨Op.assign (Operand.tmp 25), some 9, none⟩]) (LCode.seq (LCode.ops [⟨Op.move (Operand.tmp 9), some 26, none⟩, ⟨Op.binOp BinOp.neq 31 (Operand.tmp 26) (Operand.const (Value.int IntKind.i64 0)) 31, some 27, none⟩]) (LCode.cond (Operand.tmp 27) (LCode.seq (LCode.ops [⟨Op.move (Operand.tmp 9), some 28, none⟩, ⟨Op.assign (Operand.const (Value.slice none 0 0)), some 4, none⟩, ⟨Op.assign (Operand.tmp 28), some 5, none⟩]) LCode.ret) LCode.skip))) (LCode.ops [⟨Op.move (Operand.tmp 6), some 29, none⟩, ⟨Op.move (Operand.tmp 8), some 30, none⟩, ⟨Op.call { callee := Callee.value (Operand.func 72), args := { toList := [Operand.tmp 29, Operand.tmp 30] }, argTypes := { toList := [3, 27] } }, some 31, none⟩, ⟨Op.assign (Operand.tmp 31), some 6, none⟩])))) (LCode.ops [⟨Op.binOp BinOp.add 3 (Operand.tmp 19) (Operand.const (Value.int IntKind.i64 1)) 3, some 32, none⟩, ⟨Op.move (Operand.tmp 32), some 19, none⟩]))))))) (LCode.seq (LCode.ops [⟨Op.assign (Operand.const (Value.slice none 0 0)), some 10, none⟩]) (LCode.seq (LCode.seq (LCode.ops [⟨Op.move (Operand.tmp 1), some 33, none⟩, ⟨Op.call { callee := Callee.builtin Builtin.len, args := { toList := [Operand.tmp 33] }, argTypes := { toList := [60] } }, some 34, none⟩, ⟨Op.move (Operand.const (Value.int IntKind.i64 0)), some 35, none⟩]) (LCode.block 2 (LCode.loop (LCode.seq (LCode.ops [⟨Op.binOp BinOp.lss 3 (Operand.tmp 35) (Operand.tmp 34) 3, some 36, none⟩]) (LCode.seq (LCode.cond (Operand.tmp 36) LCode.skip (LCode.exit 2)) (LCode.seq (LCode.block 3 (LCode.seq (LCode.ops [⟨Op.indexAddr 60 (Operand.tmp 33) (Operand.tmp 35), some 37, none⟩, ⟨Op.load 27 (Operand.tmp 37), some 38, none⟩, ⟨Op.assign (Operand.tmp 38), some 12, none⟩]) (LCode.seq (LCode.ops [⟨Op.move (Operand.tmp 0), some 39, none⟩, ⟨Op.move (Operand.tmp 10), some 40, none⟩, ⟨Op.move (Operand.tmp 12), some 41, none⟩, ⟨Op.call { callee := Callee.value (Operand.func 81), args := { toList := [Operand.tmp 39, Operand.tmp 40, Operand.tmp 41] }, argTypes := { toList := [3, 27, 27] } }, some 42, none⟩, ⟨Op.assign (Operand.tmp 42), some 10, none⟩]) (LCode.seq (LCode.ops [⟨Op.move (Operand.tmp 10), some 43, none⟩, ⟨Op.call { callee := Callee.builtin Builtin.len, args := { toList := [Operand.tmp 43] }, argTypes := { toList := [27] } }, some 44, none⟩, ⟨Op.binOp BinOp.gtr 3 (Operand.tmp 44) (Operand.const (Value.int IntKind.i64 2000)) 3, some 45, none⟩]) (LCode.cond (Operand.tmp 45) (LCode.seq (LCode.ops [⟨Op.assign (Operand.const (Value.slice none 0 0)), some 4, none⟩, ⟨Op.assign (Operand.const (Value.int IntKind.i64 2)), some 5, none⟩]) LCode.ret) LCode.skip))))) (LCode.ops [⟨Op.binOp BinOp.add 3 (Operand.tmp 35) (Operand.const (Value.int IntKind.i64 1)) 3, some 46, none⟩, ⟨Op.move (Operand.tmp 46), some 35, none⟩]))))))) (LCode.seq (LCode.ops [⟨Op.move (Operand.tmp 10), some 47, none⟩, ⟨Op.assign (Operand.tmp 47), some 4, none⟩, ⟨Op.assign (Operand.const (Value.int IntKind.i64 0)), some 5, none⟩]) LCode.ret))))))
theorem l35 : Try.f35.body.map lighten = some L35 := by kernel_rfl
theorem rs35 : Try.f35.results.toList = [ResultVar.tmp 4, ResultVar.tmp 5] := by kernel_rfl
theorem nt35 : Try.f35.ntmps = 48 := by kernel_rfl
theorem gob35 {args : List AV} {s : AHeap} {R : AV → AHeap → Prop} (hl : args.length ≤ 48) (h : ∀ tm, tm.length = 48 → (∀ i, aev tm (.tmp i) = args.getD i aundef) → lvb Try.prog tab s L35 (lpostB tab s [ResultVar.tmp 4, ResultVar.tmp 5] R) tm (loc s 0 [])) : ACall Try.prog 35 args s R := ACall.goB tab_ok mixed Try.func35 l35 nm35 rs35 nt35 hl h
noncomputable def L36 : LCode := LCode.seq (LCode.ops [⟨Op.assign (Operand.const (Value.slice none 0 0)), some 6, none⟩, ⟨Op.assign (Operand.const (Value.int IntKind.i64 0)), some 7, none⟩]) (LCode.seq (LCode.seq (LCode.ops [⟨Op.move (Operand.tmp 0), some 12, none⟩, ⟨Op.move (Operand.tmp 1), some 13, none⟩, ⟨Op.call { callee := Callee.value (Operand.func 14), args := { toList := [Operand.tmp 12, Operand.tmp 13] }, argTypes := { toList := [3, 27] } }, some 14, none⟩, ⟨Op.assign (Operand.tmp 14), some 8, none⟩]) (LCode.seq (LCode.ops [⟨Op.move (Operand.tmp 8), some 15, none⟩, ⟨Op.binOp BinOp.neq 31 (Operand.tmp 15) (Operand.const (Value.int IntKind.i64 0)) 31, some 16, none⟩]) (LCode.cond (Operand.tmp 16) (LCode.seq (LCode.ops [⟨Op.move (Operand.tmp 8), some 17, none⟩, ⟨Op.assign (Operand.const (Value.slice none 0 0)), some 6, none⟩, ⟨Op.assign (Operand.tmp 17), some 7, none⟩]) LCode.ret) LCode.skip))) (LCode.seq (LCode.seq (LCode.ops [⟨Op.move (Operand.tmp 0), some 18, none⟩, ⟨Op.move (Operand.tmp 1), some 19, none⟩, ⟨Op.call { callee := Callee.value (Operand.func 30), args := { toList := [Operand.tmp 18, Operand.tmp 19] }, argTypes := { toList := [3, 27] } }, some 20, none⟩, ⟨Op.move (Operand.tmp 2), some 21, none⟩, ⟨Op.call { callee := Callee.value (Operand.func 14), args := { toList := [Operand.tmp 20, Operand.tmp 21] }, argTypes := { toList := [3, 27] } }, some 22, none⟩, ⟨Op.assign (Operand.tmp 22), some 9, none⟩]) (LCode.seq (LCode.ops [⟨Op.move (Operand.tmp 9), some 23, none⟩, ⟨Op.binOp BinOp.neq 31 (Operand.tmp 23) (Operand.const (Value.int IntKind.i64 0)) 31, some 24, none⟩]) (LCode.cond (Operand.tmp 24) (LCode.seq (LCode.ops [⟨Op.move (Operand.tmp 9), some 25, none⟩, ⟨Op.assign (Operand.const (Value.slice none 0 0)), some 6, none⟩, ⟨Op.assign (Operand.tmp 25), some 7, none⟩]) LCode.ret) LCode.skip))) (LCode.seq (LCode.ops [⟨Op.move (Operand.tmp 0), some 26, none⟩, ⟨Op.move (Operand.tmp 1), some 27, none⟩, ⟨Op.call { callee := Callee.value (Operand.func 74), args := { toList := [Operand.tmp 26, Operand.tmp 27] }, argTypes := { toList := [3, 27] } }, some 28, none⟩, ⟨Op.move (Operand.tmp 0), some 29, none⟩, ⟨Op.move (Operand.tmp 1), some 30, none⟩, ⟨Op.call { callee := Callee.value (Operand.func 30), args := { toList := [Operand.tmp 29, Operand.tmp 30] }, argTypes := { toList := [3, 27] } }, some 31, none⟩, ⟨Op.move (Operand.tmp 2), some 32, none⟩, ⟨Op.call { callee := Callee.value (Operand.func 74), args := { toList := [Operand.tmp 31, Operand.tmp 32] }, argTypes := { toList := [3, 27] } }, some 33, none⟩, ⟨Op.call { callee := Callee.value (Operand.func 82), args := { toList := [Operand.tmp 28, Operand.tmp 33] }, argTypes := { toList := [118, 118] } }, some 34, none⟩, ⟨Op.call { callee := Callee.value (Operand.func 79), args := { toList := [Operand.tmp 34] }, argTypes := { toList := [118] } }, some 35, none⟩, ⟨Op.assign (Operand.tmp 35), some 10, none⟩]) (LCode.seq (LCode.seq (LCode.ops [⟨Op.move (Operand.tmp 10), some 36, none⟩, ⟨Op.call { callee := Callee.value (Operand.func 83), args := { toList := [Operand.tmp 36] }, argTypes := { toList := [27] } }, some 37, none⟩, ⟨Op.assign (Operand.tmp 37), some 11, none⟩]) (LCode.seq (LCode.ops [⟨Op.move (Operand.tmp 11), some 38, none⟩, ⟨Op.binOp BinOp.neq 31 (Operand.tmp 38) (Operand.const (Value.int IntKind.i64 0)) 31, some 39, none⟩]) (LCode.cond (Operand.tmp 39) (LCode.seq (LCode.ops [⟨Op.move (Operand.tmp 11), some 40, none⟩, ⟨Op.assign (Operand.const (Value.slice none 0 0)), some 6, none⟩, ⟨Op.assign (Operand.tmp 40), some 7, none⟩]) LCode.ret) LCode.skip))) (LCode.seq (LCode.ops [⟨Op.move (Operand.tmp 10), some 41, none⟩, ⟨Op.assign (Operand.tmp 41), some 6, none⟩, ⟨Op.assign (Operand.const (Value.int IntKind.i64 0)), some 7, none⟩]) LCode.ret)))))
theorem l36 : Try.f36.body.map lighten = some L36 := by kernel_rfl
theorem rs36 : Try.f36.results.toList = [ResultVar.tmp 6, ResultVar.tmp 7] := by kernel_rfl
theorem nt36 : Try.f36.ntmps = 42 := by kernel_rfl
theorem gob36 {args : List AV} {s : AHeap} {R : AV → AHeap → Prop} (hl : args.length ≤ 42) (h : ∀ tm, tm.length = 42 → (∀ i, aev tm (.tmp i) = args.getD i aundef) → lvb Try.prog tab s L36 (lpostB tab s [ResultVar.tmp 6, ResultVar.tmp 7] R) tm (loc s 0 [])) : ACall Try.prog 36 args s R := ACall.goB tab_ok mixed Try.func36 l36 nm36 rs36 nt36 hl h
noncomputable def L37 : LCode := LCode.seq (LCode.ops [⟨Op.assign (Operand.const (Value.slice none 0 0)), some 4, none⟩, ⟨Op.assign (Operand.const (Value.int IntKind.i64 0)), some 5, none⟩]) (LCode.seq (LCode.seq (LCode.ops [⟨Op.move (Operand.tmp 0), some 15, none⟩, ⟨Op.call { callee := Callee.value (Operand.func 71), args := { toList := [Operand.tmp 15, Operand.const (Value.int IntKind.i64 0), Operand.const (Value.int IntKind.i64 20000)] }, argTypes := { toList := [3, 3, 3] } }, some 16, none⟩, ⟨Op.unOp UnOp.not 4 (Operand.tmp 16), some 17, none⟩]) (LCode.cond (Operand.tmp 17) (LCode.seq (LCode.ops [⟨Op.assign (Operand.const (Value.slice none 0 0)), some 4, none⟩, ⟨Op.assign (Operand.const (Value.int IntKind.i64 1)), some 5, none⟩]) LCode.ret) LCode.skip)) (LCode.seq (LCode.ops [⟨Op.move (Operand.tmp 0), some 18, none⟩, ⟨Op.assign (Operand.tmp 18), some 6, none⟩]) (LCode.seq (LCode.seq (LCode.ops [⟨Op.move (Operand.tmp 1), some 19, none⟩, ⟨Op.call { callee := Callee.builtin Builtin.len, args := { toList := [Operand.tmp 19] }, argTypes := { toList := [60] } }, some 20, none⟩, ⟨Op.move (Operand.const (Value.int IntKind.i64 0)), some 21, none⟩]) (LCode.block 0 (LCode.loop (LCode.seq (LCode.ops [⟨Op.binOp BinOp.lss 3 (Operand.tmp 21) (Operand.tmp 20) 3, some 22, none⟩]) (LCode.seq (LCode.cond (Operand.tmp 22) LCode.skip (LCode.exit 0)) (LCode.seq (LCode.block 1 (LCode.seq (LCode.ops [⟨Op.indexAddr 60 (Operand.tmp 19) (Operand.tmp 21), some 23, none⟩, ⟨Op.load 27 (Operand.tmp 23), some 24, none⟩, ⟨Op.assign (Operand.tmp 24), some 8, none⟩]) (LCode.seq (LCode.seq (LCode.ops [⟨Op.move (Operand.tmp 6), some 25, none⟩, ⟨Op.move (Operand.tmp 8), some 26, none⟩, ⟨Op.call { callee := Callee.value (Operand.func 14), args := { toList := [Operand.tmp 25, Operand.tmp 26] }, argTypes := { toList := [3, 27] } }, some 27, none⟩, ⟨Op.assign (Operand.tmp 27), some 9, none⟩]) (LCode.seq (LCode.ops [⟨Op.move (Operand.tmp 9), some 28, none⟩, ⟨Op.binOp BinOp.neq 31 (Operand.tmp 28) (Operand.const (Value.int IntKind.i64 0)) 31, some 29, none⟩]) (LCode.cond (Operand.tmp 29) (LCode.seq (LCode.ops [⟨Op.move (Operand.tmp 9), some 30, none⟩, ⟨Op.assign (Operand.const (Value.slice none 0 0)), some 4, none⟩, ⟨Op.assign (Operand.tmp 30), some 5, none⟩]) LCode.ret) LCode.skip))) (LCode.ops [⟨Op.move (Operand.tmp 6), some 31, none⟩, ⟨Op.move (Operand.tmp 8), some 32, none⟩, ⟨Op.call { callee := Callee.value (Operand.func 30), args := { toList := [Operand.tmp 31, Operand.tmp 32] }, argTypes := { toList := [3, 27] } }, some 33, none⟩, ⟨Op.assign (Operand.tmp 33), some 6, none⟩])))) (LCode.ops [⟨Op.binOp BinOp.add 3 (Operand.tmp 21) (Operand.const (Value.int IntKind.i64 1)) 3, some 34, none⟩, ⟨Op.move (Operand.tmp 34), some 21, none⟩]))))))) (LCode.seq (LCode.ops [⟨Op.assign (Operand.const (Value.slice none 0 0)), some 10, none⟩]) (LCode.seq (LCode.seq (LCode.ops [⟨Op.move (Operand.tmp 1), some 35, none⟩, ⟨Op.call { callee := Callee.builtin Builtin.len, args := { toList := [Operand.tmp 35] }, argTypes := { toList := [60] } }, some 36, none⟩, ⟨Op.move (Operand.const (Value.int IntKind.i64 0)), some 37, none⟩]) (LCode.block 2 (LCode.loop (LCode.seq (LCode.ops [⟨Op.binOp BinOp.lss 3 (Operand.tmp 37) (Operand.tmp 36) 3, some 38, none⟩]) (LCode.seq (LCode.cond (Operand.tmp 38) LCode.skip (LCode.exit 2)) (LCode.seq (LCode.block 3 (LCode.seq (LCode.ops [⟨Op.indexAddr 60 (Operand.tmp 35) (Operand.tmp 37), some 39, none⟩, ⟨Op.load 27 (Operand.tmp 39), some 40, none⟩, ⟨Op.assign (Operand.tmp 40), some 12, none⟩]) (LCode.seq (LCode.ops [⟨Op.move (Operand.tmp 0), some 42, none⟩, ⟨Op.move (Operand.tmp 10), some 43, none⟩, ⟨Op.move (Operand.tmp 12), some 44, none⟩, ⟨Op.call { callee := Callee.value (Operand.func 36), args := { toList := [Operand.tmp 42, Operand.tmp 43, Operand.tmp 44] }, argTypes := { toList := [3, 27, 27] } }, some 45, none⟩, ⟨Op.move (Operand.tmp 45), some 41, none⟩, ⟨Op.extract (Operand.tmp 41) 0, some 46, none⟩, ⟨Op.extract (Operand.tmp 41) 1, some 47, none⟩, ⟨Op.assign (Operand.tmp 46), some 13, none⟩, ⟨Op.assign (Operand.tmp 47), some 14, none⟩]) (LCode.seq (LCode.seq (LCode.ops [⟨Op.move (Operand.tmp 14), some 48, none⟩, ⟨Op.binOp BinOp.neq 31 (Operand.tmp 48) (Operand.const (Value.int IntKind.i64 0)) 31, some 49, none⟩]) (LCode.cond (Operand.tmp 49) (LCode.seq (LCode.ops [⟨Op.move (Operand.tmp 14), some 50, none⟩, ⟨Op.assign (Operand.const (Value.slice none 0 0)), some 4, none⟩, ⟨Op.assign (Operand.tmp 50), some 5, none⟩]) LCode.ret) LCode.skip)) (LCode.ops [⟨Op.move (Operand.tmp 13), some 51, none⟩, ⟨Op.assign (Operand.tmp 51), some 10, none⟩]))))) (LCode.ops [⟨Op.binOp BinOp.add 3 (Operand.tmp 37) (Operand.const (Value.int IntKind.i64 1)) 3, some 52, none⟩, ⟨Op.move (Operand.tmp 52), some 37, none⟩]))))))) (LCode.seq (LCode.ops [⟨Op.move (Operand.tmp 10), some 53, none⟩, ⟨Op.assign (Operand.tmp 53), some 4, none⟩, ⟨Op.assign (Operand.const (Value.int IntKind.i64 0)), some 5, none⟩]) LCode.ret))))))
theorem l37 : Try.f37.body.map lighten = some L37 := by kernel_rfl
theorem rs37 : Try.f37.results.toList = [ResultVar.tmp 4, ResultVar.tmp 5] := by kernel_rfl
theorem nt37 : Try.f37.ntmps = 54 := by kernel_rfl
theorem gob37 {args : List AV} {s : AHeap} {R : AV → AHeap → Prop} (hl : args.length ≤ 54) (h : ∀ tm, tm.length = 54 → (∀ i, aev tm (.tmp i) = args.getD i aundef) → lvb Try.prog tab s L37 (lpostB tab s [ResultVar.tmp 4, ResultVar.tmp 5] R) tm (loc s 0 [])) : ACall Try.prog 37 args s R := ACall.goB tab_ok mixed Try.func37 l37 nm37 rs37 nt37 hl h
noncomputable def L81 : LCode := LCode.seq (LCode.ops [⟨Op.assign (Operand.const (Value.slice none 0 0)), some 6, none⟩]) (LCode.seq (LCode.ops [⟨Op.move (Operand.tmp 0), some 11, none⟩, ⟨Op.move (Operand.tmp 1), some 12, none⟩, ⟨Op.call { callee := Callee.value (Operand.func 73), args := { toList := [Operand.tmp 11, Operand.tmp 12] }, argTypes := { toList := [3, 27] } }, some 13, none⟩, ⟨Op.call { callee := Callee.value (Operand.func 122), args := { toList := [Operand.tmp 13, Operand.func 123] }, argTypes := { toList := [108, 177] } }, some 14, none⟩, ⟨Op.build 179 { toList := [(0, Operand.tmp 14)] }, some 15, none⟩, ⟨Op.box 179 (Operand.tmp 15), some 16, none⟩, ⟨Op.assign (Operand.tmp 16), some 7, none⟩]) (LCode.seq (LCode.ops [⟨Op.assign (Operand.const (Value.int IntKind.i64 0)), some 8, none⟩]) (LCode.seq (LCode.seq (LCode.ops [⟨Op.move (Operand.tmp 2), some 17, none⟩, ⟨Op.call { callee := Callee.builtin Builtin.len, args := { toList := [Operand.tmp 17] }, argTypes := { toList := [27] } }, some 18, none⟩, ⟨Op.move (Operand.const (Value.int IntKind.i64 0)), some 19, none⟩]) (LCode.block 0 (LCode.loop (LCode.seq (LCode.ops [⟨Op.binOp BinOp.lss 3 (Operand.tmp 19) (Operand.tmp 18) 3, some 20, none⟩]) (LCode.seq (LCode.cond (Operand.tmp 20) LCode.skip (LCode.exit 0)) (LCode.seq (LCode.block 1 (LCode.seq (LCode.ops [⟨Op.indexAddr 27 (Operand.tmp 17) (Operand.tmp 19), some 21, none⟩, ⟨Op.load 35 (Operand.tmp 21), some 22, none⟩, ⟨Op.alloc 35, some 10, none⟩, ⟨Op.store 35 (Operand.tmp 10) (Operand.tmp 22), none, none⟩]) (LCode.seq (LCode.ops [⟨Op.move (Operand.tmp 7), some 23, none⟩, ⟨Op.fieldAddr 35 (Operand.tmp 10) 0, some 24, none⟩, ⟨Op.load 3 (Operand.tmp 24), some 25, none⟩, ⟨Op.move (Operand.tmp 8), some 26, none⟩, ⟨Op.binOp BinOp.sub 3 (Operand.tmp 25) (Operand.tmp 26) 3, some 27, none⟩, ⟨Op.call { callee := Callee.value (Operand.func 124), args := { toList := [Operand.tmp 23, Operand.tmp 27, Operand.const (Value.bool true)] }, argTypes := { toList := [175, 3, 4] } }, some 28, none⟩]) (LCode.seq (LCode.ops [⟨Op.move (Operand.tmp 7), some 29, none⟩, ⟨Op.fieldAddr 35 (Operand.tmp 10) 1, some 30, none⟩, ⟨Op.load 3 (Operand.tmp 30), some 31, none⟩, ⟨Op.call { callee := Callee.value (Operand.func 124), args := { toList := [Operand.tmp 29, Operand.tmp 31, Operand.const (Value.bool false)] }, argTypes := { toList := [175, 3, 4] } }, some 32, none⟩]) (LCode.seq (LCode.draw [0, 0, 2, 6, 14, 0, 32, 96, 224, 510, 1023, 2047, 4095] [⟨Op.move (Operand.tmp 7), some 33, none⟩, ⟨Op.move (Operand.tmp 7), some 34, none⟩, ⟨Op.nilCheck (Operand.tmp 34), some 35, none⟩, ⟨Op.fieldAddr 179 (Operand.tmp 35) 1, some 36, none⟩, ⟨Op.load 108 (Operand.tmp 36), some 37, none⟩, ⟨Op.fieldAddr 35 (Operand.tmp 10) 2, some 38, none⟩, ⟨Op.load 9 (Operand.tmp 38), some 39, none⟩, ⟨Op.call { callee := Callee.value (Operand.func 118), args := { toList := [Operand.tmp 39] }, argTypes := { toList := [9] } }, some 40, none⟩, ⟨Op.buildSlice 108 1 { toList := [(0, Operand.tmp 40)] }, some 41, none⟩, ⟨Op.call { callee := Callee.builtin Builtin.append, args := { toList := [Operand.tmp 37, Operand.tmp 41] }, argTypes := { toList := [108, 108] } }, some 42, none⟩, ⟨Op.nilCheck (Operand.tmp 33), some 43, none⟩, ⟨Op.fieldAddr 179 (Operand.tmp 43) 1, some 44, none⟩, ⟨Op.store 108 (Operand.tmp 44) (Operand.tmp 42), none, none⟩]) (LCode.ops [⟨Op.fieldAddr 35 (Operand.tmp 10) 0, some 45, none⟩, ⟨Op.load 3 (Operand.tmp 45), some 46, none⟩, ⟨Op.fieldAddr 35 (Operand.tmp 10) 1, some 47, none⟩, ⟨Op.load 3 (Operand.tmp 47), some 48, none⟩, ⟨Op.binOp BinOp.add 3 (Operand.tmp 46) (Operand.tmp 48) 3, some 49, none⟩, ⟨Op.assign (Operand.tmp 49), some 8, none⟩])))))) (LCode.ops [⟨Op.binOp BinOp.add 3 (Operand.tmp 19) (Operand.const (Value.int IntKind.i64 1)) 3, some 50, none⟩, ⟨Op.move (Operand.tmp 50), some 19, none⟩]))))))) (LCode.seq (LCode.ops [⟨Op.move (Operand.tmp 7), some 51, none⟩, ⟨Op.move (Operand.tmp 0), some 52, none⟩, ⟨Op.move (Operand.tmp 1), some 53, none⟩, ⟨Op.call { callee := Callee.value (Operand.func 72), args := { toList := [Operand.tmp 52, Operand.tmp 53] }, argTypes := { toList := [3, 27] } }, some 54, none⟩, ⟨Op.move (Operand.tmp 8), some 55, none⟩, ⟨Op.binOp BinOp.sub 3 (Operand.tmp 54) (Operand.tmp 55) 3, some 56, none⟩, ⟨Op.call { callee := Callee.value (Operand.func 124), args := { toList := [Operand.tmp 51, Operand.tmp 56, Operand.const (Value.bool true)] }, argTypes := { toList := [175, 3, 4] } }, some 57, none⟩]) (LCode.seq (LCode.ops [⟨Op.move (Operand.tmp 0), some 58, none⟩, ⟨Op.move (Operand.tmp 7), some 59, none⟩, ⟨Op.nilCheck (Operand.tmp 59), some 60, none⟩, ⟨Op.fieldAddr 179 (Operand.tmp 60) 1, some 61, none⟩, ⟨Op.load 108 (Operand.tmp 61), some 62, none⟩, ⟨Op.call { callee := Callee.value (Operand.func 112), args := { toList := [Operand.tmp 58, Operand.tmp 62] }, argTypes := { toList := [3, 108] } }, some 63, none⟩, ⟨Op.assign (Operand.tmp 63), some 6, none⟩]) LCode.ret)))))
theorem l81 : Try.f81.body.map lighten = some L81 := by kernel_rfl
theorem rs81 : Try.f81.results.toList = [ResultVar.tmp 6] := by kernel_rfl
theorem nt81 : Try.f81.ntmps = 64 := by kernel_rfl
theorem gob81 {args : List AV} {s : AHeap} {R : AV → AHeap → Prop} (hl : args.length ≤ 64) (h : ∀ tm, tm.length = 64 → (∀ i, aev tm (.tmp i) = args.getD i aundef) → lvb Try.prog tab s L81 (lpostB tab s [ResultVar.tmp 6] R) tm (loc s 0 [])) : ACall Try.prog 81 args s R := ACall.goB tab_ok mixed Try.func81 l81 nm81 rs81 nt81 hl h
noncomputable def L82 : LCode := LCode.seq (LCode.ops [⟨Op.box 118 (Operand.tmp 0), some 2, none⟩, ⟨Op.box 118 (Operand.tmp 1), some 3, none⟩, ⟨Op.alloc 118, some 4, none⟩]) (LCode.seq (LCode.ops [⟨Op.fieldAddr 118 (Operand.tmp 2) 0, some 8, none⟩, ⟨Op.load 3 (Operand.tmp 8), some 9, none⟩, ⟨Op.build 118 { toList := [(0, Operand.tmp 9)] }, some 10, none⟩, ⟨Op.alloc 118, some 5, none⟩, ⟨Op.store 118 (Operand.tmp 5) (Operand.tmp 10), none, none⟩]) (LCode.seq (LCode.seq (LCode.ops [⟨Op.fieldAddr 118 (Operand.tmp 3) 1, some 11, none⟩, ⟨Op.load 116 (Operand.tmp 11), some 12, none⟩, ⟨Op.call { callee := Callee.builtin Builtin.len, args := { toList := [Operand.tmp 12] }, argTypes := { toList := [116] } }, some 13, none⟩, ⟨Op.move (Operand.const (Value.int IntKind.i64 0)), some 14, none⟩]) (LCode.block 0 (LCode.loop (LCode.seq (LCode.ops [⟨Op.binOp BinOp.lss 3 (Operand.tmp 14) (Operand.tmp 13) 3, some 15, none⟩]) (LCode.seq (LCode.cond (Operand.tmp 15) LCode.skip (LCode.exit 0)) (LCode.seq (LCode.block 1 (LCode.seq (LCode.ops [⟨Op.indexAddr 116 (Operand.tmp 12) (Operand.tmp 14), some 16, none⟩, ⟨Op.load 121 (Operand.tmp 16), some 17, none⟩, ⟨Op.alloc 121, some 7, none⟩, ⟨Op.store 121 (Operand.tmp 7) (Operand.tmp 17), none, none⟩]) (LCode.seq (LCode.seq (LCode.ops [⟨Op.fieldAddr 121 (Operand.tmp 7) 0, some 18, none⟩, ⟨Op.load 3 (Operand.tmp 18), some 19, none⟩, ⟨Op.binOp BinOp.geq 3 (Operand.tmp 19) (Operand.const (Value.int IntKind.i64 0)) 3, some 20, none⟩]) (LCode.cond (Operand.tmp 20) (LCode.ops [⟨Op.fieldAddr 118 (Operand.tmp 2) 1, some 21, none⟩, ⟨Op.load 116 (Operand.tmp 21), some 22, none⟩, ⟨Op.fieldAddr 121 (Operand.tmp 7) 0, some 23, none⟩, ⟨Op.load 3 (Operand.tmp 23), some 24, none⟩, ⟨Op.indexAddr 116 (Operand.tmp 22) (Operand.tmp 24), some 25, none⟩, ⟨Op.load 121 (Operand.tmp 25), some 26, none⟩, ⟨Op.store 121 (Operand.tmp 7) (Operand.tmp 26), none, none⟩]) LCode.skip)) (LCode.ops [⟨Op.fieldAddr 118 (Operand.tmp 5) 1, some 27, none⟩, ⟨Op.load 116 (Operand.tmp 27), some 28, none⟩, ⟨Op.load 121 (Operand.tmp 7), some 29, none⟩, ⟨Op.buildSlice 116 1 { toList := [(0, Operand.tmp 29)] }, some 30, none⟩, ⟨Op.call { callee := Callee.builtin Builtin.append, args := { toList := [Operand.tmp 28, Operand.tmp 30] }, argTypes := { toList := [116, 116] } }, some 31, none⟩, ⟨Op.fieldAddr 118 (Operand.tmp 5) 1, some 32, none⟩, ⟨Op.store 116 (Operand.tmp 32) (Operand.tmp 31), none, none⟩])))) (LCode.ops [⟨Op.binOp BinOp.add 3 (Operand.tmp 14) (Operand.const (Value.int IntKind.i64 1)) 3, some 33, none⟩, ⟨Op.move (Operand.tmp 33), some 14, none⟩]))))))) (LCode.seq (LCode.ops [⟨Op.load 118 (Operand.tmp 5), some 34, none⟩, ⟨Op.store 118 (Operand.tmp 4) (Operand.tmp 34), none, none⟩]) LCode.ret)))
theorem l82 : Try.f82.body.map lighten = some L82 := by kernel_rfl
theorem rs82 : Try.f82.results.toList = [ResultVar.cell 4 118] := by kernel_rfl
theorem nt82 : Try.f82.ntmps = 35 := by kernel_rfl
theorem gob82 {args : List AV} {s : AHeap} {R : AV → AHeap → Prop} (hl : args.length ≤ 35) (h : ∀ tm, tm.length = 35 → (∀ i, aev tm (.tmp i) = args.getD i aundef) → lvb Try.prog tab s L82 (lpostB tab s [ResultVar.cell 4 118] R) tm (loc s 0 [])) : ACall Try.prog 82 args s R := ACall.goB tab_ok mixed Try.func82 l82 nm82 rs82 nt82 hl h
noncomputable def L83 : LCode := LCode.seq (LCode.ops [⟨Op.assign (Operand.const (Value.int IntKind.i64 0)), some 2, none⟩]) (LCode.seq (LCode.seq (LCode.ops [⟨Op.move (Operand.tmp 0), some 3, none⟩, ⟨Op.call { callee := Callee.builtin Builtin.len, args := { toList := [Operand.tmp 3] }, argTypes := { toList := [27] } }, some 4, none⟩, ⟨Op.binOp BinOp.gtr 3 (Operand.tmp 4) (Operand.const (Value.int IntKind.i64 2000)) 3, some 5, none⟩]) (LCode.cond (Operand.tmp 5) (LCode.seq (LCode.ops [⟨Op.assign (Operand.const (Value.int IntKind.i64 2)), some 2, none⟩]) LCode.ret) LCode.skip)) (LCode.seq (LCode.ops [⟨Op.assign (Operand.const (Value.int IntKind.i64 0)), some 2, none⟩]) LCode.ret))
theorem l83 : Try.f83.body.map lighten = some L83 := by kernel_rfl
theorem rs83 : Try.f83.results.toList = [ResultVar.tmp 2] := by kernel_rfl
theorem nt83 : Try.f83.ntmps = 6 := by kernel_rfl
theorem gob83 {args : List AV} {s : AHeap} {R : AV → AHeap → Prop} (hl : args.length ≤ 6) (h : ∀ tm, tm.length = 6 → (∀ i, aev tm (.tmp i) = args.getD i aundef) → lvb Try.prog tab s L83 (lpostB tab s [ResultVar.tmp 2] R) tm (loc s 0 [])) : ACall Try.prog 83 args s R := ACall.goB tab_ok mixed Try.func83 l83 nm83 rs83 nt83 hl h
noncomputable def L112 : LCode := LCode.seq (LCode.ops [⟨Op.assign (Operand.const (Value.slice none 0 0)), some 4, none⟩]) (LCode.seq (LCode.ops [⟨Op.alloc 27, some 5, none⟩]) (LCode.seq (LCode.ops [⟨Op.alloc 3, some 6, none⟩, ⟨Op.alloc 9, some 7, none⟩, ⟨Op.store 3 (Operand.tmp 6) (Operand.const (Value.int IntKind.i64 0)), none, none⟩, ⟨Op.store 9 (Operand.tmp 7) (Operand.const (Value.string { data := { toList := [] } })), none, none⟩]) (LCode.seq (LCode.ops [⟨Op.makeFunc (Fn.func 144) { toList := [] } { toList := [Operand.tmp 6, Operand.tmp 7, Operand.tmp 5] }, some 11, none⟩, ⟨Op.assign (Operand.tmp 11), some 8, none⟩]) (LCode.seq (LCode.seq (LCode.ops [⟨Op.move (Operand.tmp 1), some 12, none⟩, ⟨Op.call { callee := Callee.builtin Builtin.len, args := { toList := [Operand.tmp 12] }, argTypes := { toList := [108] } }, some 13, none⟩, ⟨Op.move (Operand.const (Value.int IntKind.i64 0)), some 14, none⟩]) (LCode.block 0 (LCode.loop (LCode.seq (LCode.ops [⟨Op.binOp BinOp.lss 3 (Operand.tmp 14) (Operand.tmp 13) 3, some 15, none⟩]) (LCode.seq (LCode.cond (Operand.tmp 15) LCode.skip (LCode.exit 0)) (LCode.seq (LCode.block 1 (LCode.seq (LCode.ops [⟨Op.indexAddr 108 (Operand.tmp 12) (Operand.tmp 14), some 16, none⟩, ⟨Op.load 111 (Operand.tmp 16), some 17, none⟩, ⟨Op.alloc 111, some 10, none⟩, ⟨Op.store 111 (Operand.tmp 10) (Operand.tmp 17), none, none⟩]) (LCode.block 2 (LCode.seq (LCode.ops [⟨Op.fieldAddr 111 (Operand.tmp 10) 2, some 19, none⟩, ⟨Op.load 9 (Operand.tmp 19), some 20, none⟩, ⟨Op.binOp BinOp.neq 9 (Operand.tmp 20) (Operand.const (Value.string { data := { toList := [] } })) 9, some 21, none⟩, ⟨Op.assign (Operand.tmp 21), some 18, none⟩]) (LCode.cond (Operand.tmp 18) (LCode.ops [⟨Op.load 9 (Operand.tmp 7), some 22, none⟩, ⟨Op.fieldAddr 111 (Operand.tmp 10) 2, some 23, none⟩, ⟨Op.load 9 (Operand.tmp 23), some 24, none⟩, ⟨Op.binOp BinOp.add 9 (Operand.tmp 22) (Operand.tmp 24) 9, some 25, none⟩, ⟨Op.store 9 (Operand.tmp 7) (Operand.tmp 25), none, none⟩]) (LCode.seq (LCode.ops [⟨Op.fieldAddr 111 (Operand.tmp 10) 1, some 27, none⟩, ⟨Op.load 3 (Operand.tmp 27), some 28, none⟩, ⟨Op.binOp BinOp.gtr 3 (Operand.tmp 28) (Operand.const (Value.int IntKind.i64 0)) 3, some 29, none⟩, ⟨Op.assign (Operand.tmp 29), some 26, none⟩]) (LCode.cond (Operand.tmp 26) (LCode.seq (LCode.ops [⟨Op.move (Operand.tmp 8), some 30, none⟩, ⟨Op.fieldAddr 111 (Operand.tmp 10) 0, some 31, none⟩, ⟨Op.load 3 (Operand.tmp 31), some 32, none⟩, ⟨Op.call { callee := Callee.value (Operand.tmp 30), args := { toList := [Operand.tmp 32] }, argTypes := { toList := [3] } }, some 33, none⟩]) (LCode.ops [⟨Op.fieldAddr 111 (Operand.tmp 10) 0, some 34, none⟩, ⟨Op.load 3 (Operand.tmp 34), some 35, none⟩, ⟨Op.fieldAddr 111 (Operand.tmp 10) 1, some 36, none⟩, ⟨Op.load 3 (Operand.tmp 36), some 37, none⟩, ⟨Op.binOp BinOp.add 3 (Operand.tmp 35) (Operand.tmp 37) 3, some 38, none⟩, ⟨Op.store 3 (Operand.tmp 6) (Operand.tmp 38), none, none⟩, ⟨Op.store 9 (Operand.tmp 7) (Operand.const (Value.string { data := { toList := [] } })), none, none⟩])) LCode.skip))))))) (LCode.ops [⟨Op.binOp BinOp.add 3 (Operand.tmp 14) (Operand.const (Value.int IntKind.i64 1)) 3, some 39, none⟩, ⟨Op.move (Operand.tmp 39), some 14, none⟩]))))))) (LCode.seq (LCode.ops [⟨Op.move (Operand.tmp 8), some 40, none⟩, ⟨Op.move (Operand.tmp 0), some 41, none⟩, ⟨Op.call { callee := Callee.value (Operand.tmp 40), args := { toList := [Operand.tmp 41] }, argTypes := { toList := [3] } }, some 42, none⟩]) (LCode.seq (LCode.ops [⟨Op.load 27 (Operand.tmp 5), some 43, none⟩, ⟨Op.assign (Operand.tmp 43), some 4, none⟩]) LCode.ret))))))
theorem l112 : Try.f112.body.map lighten = some L112 := by kernel_rfl
theorem rs112 : Try.f112.results.toList = [ResultVar.tmp 4] := by kernel_rfl
theorem nt112 : Try.f112.ntmps = 44 := by kernel_rfl
theorem gob112 {args : List AV} {s : AHeap} {R : AV → AHeap → Prop} (hl : args.length ≤ 44) (h : ∀ tm, tm.length = 44 → (∀ i, aev tm (.tmp i) = args.getD i aundef) → lvb Try.prog tab s L112 (lpostB tab s [ResultVar.tmp 4] R) tm (loc s 0 [])) : ACall Try.prog 112 args s R := ACall.goB tab_ok mixed Try.func112 l112 nm112 rs112 nt112 hl h
noncomputable def L122 : LCode := LCode.seq (LCode.ops [⟨Op.assign (Operand.const (Value.slice none 0 0)), some 4, none⟩]) (LCode.seq (LCode.ops [⟨Op.move (Operand.tmp 0), some 8, none⟩, ⟨Op.move (Operand.tmp 1), some 9, none⟩, ⟨Op.call { callee := Callee.value (Operand.func 151), args := { toList := [Operand.tmp 8, Operand.tmp 9] }, argTypes := { toList := [108, 177] } }, some 10, none⟩, ⟨Op.assign (Operand.tmp 10), some 5, none⟩]) (LCode.seq (LCode.seq (LCode.ops [⟨Op.move (Operand.tmp 5), some 11, none⟩, ⟨Op.binOp BinOp.eql 3 (Operand.tmp 11) (Operand.const (Value.int IntKind.i64 (-1))) 3, some 12, none⟩]) (LCode.cond (Operand.tmp 12) (LCode.seq (LCode.ops [⟨Op.move (Operand.tmp 0), some 13, none⟩, ⟨Op.assign (Operand.tmp 13), some 4, none⟩]) LCode.ret) LCode.skip)) (LCode.seq (LCode.seq (LCode.ops [⟨Op.move (Operand.tmp 5), some 14, none⟩, ⟨Op.binOp BinOp.add 3 (Operand.tmp 14) (Operand.const (Value.int IntKind.i64 1)) 3, some 15, none⟩, ⟨Op.assign (Operand.tmp 15), some 6, none⟩]) (LCode.block 0 (LCode.loop (LCode.seq (LCode.seq (LCode.ops [⟨Op.move (Operand.tmp 6), some 16, none⟩, ⟨Op.move (Operand.tmp 0), some 17, none⟩, ⟨Op.call { callee := Callee.builtin Builtin.len, args := { toList := [Operand.tmp 17] }, argTypes := { toList := [108] } }, some 18, none⟩, ⟨Op.binOp BinOp.lss 3 (Operand.tmp 16) (Operand.tmp 18) 3, some 19, none⟩]) (LCode.cond (Operand.tmp 19) LCode.skip (LCode.exit 0))) (LCode.seq (LCode.block 1 (LCode.seq (LCode.ops [⟨Op.move (Operand.tmp 0), some 22, none⟩, ⟨Op.move (Operand.tmp 6), some 23, none⟩, ⟨Op.indexAddr 108 (Operand.tmp 22) (Operand.tmp 23), some 24, none⟩, ⟨Op.load 111 (Operand.tmp 24), some 25, none⟩, ⟨Op.alloc 111, some 7, none⟩, ⟨Op.store 111 (Operand.tmp 7) (Operand.tmp 25), none, none⟩]) (LCode.seq (LCode.ops [⟨Op.move (Operand.tmp 1), some 26, none⟩, ⟨Op.load 111 (Operand.tmp 7), some 27, none⟩, ⟨Op.call { callee := Callee.value (Operand.tmp 26), args := { toList := [Operand.tmp 27] }, argTypes := { toList := [111] } }, some 28, none⟩, ⟨Op.unOp UnOp.not 4 (Operand.tmp 28), some 29, none⟩]) (LCode.cond (Operand.tmp 29) (LCode.seq (LCode.ops [⟨Op.move (Operand.tmp 0), some 30, none⟩, ⟨Op.move (Operand.tmp 5), some 31, none⟩, ⟨Op.load 111 (Operand.tmp 7), some 32, none⟩, ⟨Op.indexAddr 108 (Operand.tmp 30) (Operand.tmp 31), some 33, none⟩, ⟨Op.store 111 (Operand.tmp 33) (Operand.tmp 32), none, none⟩]) (LCode.ops [⟨Op.move (Operand.tmp 5), some 34, none⟩, ⟨Op.binOp BinOp.add 3 (Operand.tmp 34) (Operand.const (Value.int IntKind.i64 1)) 3, some 35, none⟩, ⟨Op.assign (Operand.tmp 35), some 5, none⟩])) LCode.skip)))) (LCode.ops [⟨Op.move (Operand.tmp 6), some 20, none⟩, ⟨Op.binOp BinOp.add 3 (Operand.tmp 20) (Operand.const (Value.int IntKind.i64 1)) 3, some 21, none⟩, ⟨Op.assign (Operand.tmp 21), some 6, none⟩])))))) (LCode.seq (LCode.ops [⟨Op.move (Operand.tmp 0), some 36, none⟩, ⟨Op.move (Operand.tmp 5), some 37, none⟩, ⟨Op.slice 108 (Operand.tmp 36) (some (Operand.tmp 37)) none none, some 38, none⟩, ⟨Op.call { callee := Callee.builtin Builtin.clear, args := { toList := [Operand.tmp 38] }, argTypes := { toList := [108] } }, none, none⟩]) (LCode.seq (LCode.ops [⟨Op.move (Operand.tmp 0), some 39, none⟩, ⟨Op.move (Operand.tmp 5), some 40, none⟩, ⟨Op.slice 108 (Operand.tmp 39) none (some (Operand.tmp 40)) none, some 41, none⟩, ⟨Op.assign (Operand.tmp 41), some 4, none⟩]) LCode.ret)))))
theorem l122 : Try.f122.body.map lighten = some L122 := by kernel_rfl
theorem rs122 : Try.f122.results.toList = [ResultVar.tmp 4] := by kernel_rfl
theorem nt122 : Try.f122.ntmps = 42 := by kernel_rfl
theorem gob122 {args : List AV} {s : AHeap} {R : AV → AHeap → Prop} (hl : args.length ≤ 42) (h : ∀ tm, tm.length = 42 → (∀ i, aev tm (.tmp i) = args.getD i aundef) → lvb Try.prog tab s L122 (lpostB tab s [ResultVar.tmp 4] R) tm (loc s 0 [])) : ACall Try.prog 122 args s R := ACall.goB tab_ok mixed Try.func122 l122 nm122 rs122 nt122 hl h
noncomputable def L123 : LCode := LCode.seq (LCode.ops [⟨Op.box 111 (Operand.tmp 0), some 1, none⟩, ⟨Op.assign (Operand.const (Value.bool false)), some 2, none⟩]) (LCode.seq (LCode.ops [⟨Op.fieldAddr 111 (Operand.tmp 1) 1, some 3, none⟩, ⟨Op.load 3 (Operand.tmp 3), some 4, none⟩, ⟨Op.binOp BinOp.eql 3 (Operand.tmp 4) (Operand.const (Value.int IntKind.i64 0)) 3, some 5, none⟩, ⟨Op.move (Operand.tmp 5), some 6, none⟩, ⟨Op.fieldAddr 111 (Operand.tmp 1) 2, some 7, some (6, true)⟩, ⟨Op.load 9 (Operand.tmp 7), some 8, some (6, true)⟩, ⟨Op.binOp BinOp.eql 9 (Operand.tmp 8) (Operand.const (Value.string { data := { toList := [] } })) 9, some 9, some (6, true)⟩, ⟨Op.pick (Operand.tmp 6) (Operand.tmp 9) (Operand.const (Value.bool false)), some 10, none⟩, ⟨Op.assign (Operand.tmp 10), some 2, none⟩]) LCode.ret)
theorem l123 : Try.f123.body.map lighten = some L123 := by kernel_rfl
theorem rs123 : Try.f123.results.toList = [ResultVar.tmp 2] := by kernel_rfl
theorem nt123 : Try.f123.ntmps = 11 := by kernel_rfl
theorem gob123 {args : List AV} {s : AHeap} {R : AV → AHeap → Prop} (hl : args.length ≤ 11) (h : ∀ tm, tm.length = 11 → (∀ i, aev tm (.tmp i) = args.getD i aundef) → lvb Try.prog tab s L123 (lpostB tab s [ResultVar.tmp 2] R) tm (loc s 0 [])) : ACall Try.prog 123 args s R := ACall.goB tab_ok mixed Try.func123 l123 nm123 rs123 nt123 hl h
noncomputable def L124 : LCode := LCode.block 0 (LCode.loop (LCode.seq (LCode.seq (LCode.ops [⟨Op.move (Operand.tmp 1), some 9, none⟩, ⟨Op.binOp BinOp.gtr 3 (Operand.tmp 9) (Operand.const (Value.int IntKind.i64 0)) 3, some 10, none⟩]) (LCode.cond (Operand.tmp 10) LCode.skip (LCode.exit 0))) (LCode.block 1 (LCode.seq (LCode.ops [⟨Op.move (Operand.tmp 0), some 11, none⟩, ⟨Op.nilCheck (Operand.tmp 11), some 12, none⟩, ⟨Op.fieldAddr 179 (Operand.tmp 12) 0, some 13, none⟩, ⟨Op.load 108 (Operand.tmp 13), some 14, none⟩, ⟨Op.indexAddr 108 (Operand.tmp 14) (Operand.const (Value.int IntKind.i64 0)), some 15, none⟩, ⟨Op.load 111 (Operand.tmp 15), some 16, none⟩, ⟨Op.alloc 111, some 6, none⟩, ⟨Op.store 111 (Operand.tmp 6) (Operand.tmp 16), none, none⟩]) (LCode.seq (LCode.ops [⟨Op.fieldAddr 111 (Operand.tmp 6) 1, some 17, none⟩, ⟨Op.load 3 (Operand.tmp 17), some 18, none⟩, ⟨Op.fieldAddr 111 (Operand.tmp 6) 2, some 19, none⟩, ⟨Op.load 9 (Operand.tmp 19), some 20, none⟩, ⟨Op.call { callee := Callee.builtin Builtin.len, args := { toList := [Operand.tmp 20] }, argTypes := { toList := [9] } }, some 21, none⟩, ⟨Op.call { callee := Callee.builtin Builtin.max, args := { toList := [Operand.tmp 18, Operand.tmp 21] }, argTypes := { toList := [3, 3] } }, some 22, none⟩, ⟨Op.assign (Operand.tmp 22), some 7, none⟩]) (LCode.seq (LCode.ops [⟨Op.move (Operand.tmp 1), some 23, none⟩, ⟨Op.move (Operand.tmp 7), some 24, none⟩, ⟨Op.call { callee := Callee.builtin Builtin.min, args := { toList := [Operand.tmp 23, Operand.tmp 24] }, argTypes := { toList := [3, 3] } }, some 25, none⟩, ⟨Op.assign (Operand.tmp 25), some 8, none⟩]) (LCode.seq (LCode.seq (LCode.ops [⟨Op.move (Operand.tmp 2), some 26, none⟩, ⟨Op.move (Operand.tmp 26), some 27, none⟩, ⟨Op.fieldAddr 111 (Operand.tmp 6) 2, some 28, some (27, true)⟩, ⟨Op.load 9 (Operand.tmp 28), some 29, some (27, true)⟩, ⟨Op.binOp BinOp.neq 9 (Operand.tmp 29) (Operand.const (Value.string { data := { toList := [] } })) 9, some 30, some (27, true)⟩, ⟨Op.pick (Operand.tmp 27) (Operand.tmp 30) (Operand.const (Value.bool false)), some 31, none⟩]) (LCode.cond (Operand.tmp 31) (LCode.draw [0, 0, 2, 6, 14, 0, 32, 0, 224, 480, 992, 2046, 4095, 8191, 16383] [⟨Op.move (Operand.tmp 0), some 32, none⟩, ⟨Op.move (Operand.tmp 0), some 33, none⟩, ⟨Op.nilCheck (Operand.tmp 33), some 34, none⟩, ⟨Op.fieldAddr 179 (Operand.tmp 34) 1, some 35, none⟩, ⟨Op.load 108 (Operand.tmp 35), some 36, none⟩, ⟨Op.fieldAddr 111 (Operand.tmp 6) 2, some 37, none⟩, ⟨Op.load 9 (Operand.tmp 37), some 38, none⟩, ⟨Op.move (Operand.tmp 8), some 39, none⟩, ⟨Op.slice 9 (Operand.tmp 38) none (some (Operand.tmp 39)) none, some 40, none⟩, ⟨Op.call { callee := Callee.value (Operand.func 118), args := { toList := [Operand.tmp 40] }, argTypes := { toList := [9] } }, some 41, none⟩, ⟨Op.buildSlice 108 1 { toList := [(0, Operand.tmp 41)] }, some 42, none⟩, ⟨Op.call { callee := Callee.builtin Builtin.append, args := { toList := [Operand.tmp 36, Operand.tmp 42] }, argTypes := { toList := [108, 108] } }, some 43, none⟩, ⟨Op.nilCheck (Operand.tmp 32), some 44, none⟩, ⟨Op.fieldAddr 179 (Operand.tmp 44) 1, some 45, none⟩, ⟨Op.store 108 (Operand.tmp 45) (Operand.tmp 43), none, none⟩]) (LCode.seq (LCode.ops [⟨Op.move (Operand.tmp 2), some 46, none⟩]) (LCode.cond (Operand.tmp 46) (LCode.draw [0, 0, 2, 6, 14, 0, 32, 0, 224, 480, 1022, 2047, 4095, 8191] [⟨Op.move (Operand.tmp 0), some 47, none⟩, ⟨Op.move (Operand.tmp 0), some 48, none⟩, ⟨Op.nilCheck (Operand.tmp 48), some 49, none⟩, ⟨Op.fieldAddr 179 (Operand.tmp 49) 1, some 50, none⟩, ⟨Op.load 108 (Operand.tmp 50), some 51, none⟩, ⟨Op.fieldAddr 111 (Operand.tmp 6) 0, some 52, none⟩, ⟨Op.load 3 (Operand.tmp 52), some 53, none⟩, ⟨Op.move (Operand.tmp 8), some 54, none⟩, ⟨Op.call { callee := Callee.value (Operand.func 117), args := { toList := [Operand.tmp 53, Operand.tmp 54] }, argTypes := { toList := [3, 3] } }, some 55, none⟩, ⟨Op.buildSlice 108 1 { toList := [(0, Operand.tmp 55)] }, some 56, none⟩, ⟨Op.call { callee := Callee.builtin Builtin.append, args := { toList := [Operand.tmp 51, Operand.tmp 56] }, argTypes := { toList := [108, 108] } }, some 57, none⟩, ⟨Op.nilCheck (Operand.tmp 47), some 58, none⟩, ⟨Op.fieldAddr 179 (Operand.tmp 58) 1, some 59, none⟩, ⟨Op.store 108 (Operand.tmp 59) (Operand.tmp 57), none, none⟩]) LCode.skip)))) (LCode.seq (LCode.block 2 (LCode.seq (LCode.ops [⟨Op.move (Operand.tmp 8), some 75, none⟩, ⟨Op.move (Operand.tmp 7), some 76, none⟩, ⟨Op.binOp BinOp.eql 3 (Operand.tmp 75) (Operand.tmp 76) 3, some 77, none⟩, ⟨Op.assign (Operand.tmp 77), some 74, none⟩]) (LCode.cond (Operand.tmp 74) (LCode.ops [⟨Op.move (Operand.tmp 0), some 78, none⟩, ⟨Op.move (Operand.tmp 0), some 79, none⟩, ⟨Op.nilCheck (Operand.tmp 79), some 80, none⟩, ⟨Op.fieldAddr 179 (Operand.tmp 80) 0, some 81, none⟩, ⟨Op.load 108 (Operand.tmp 81), some 82, none⟩, ⟨Op.slice 108 (Operand.tmp 82) (some (Operand.const (Value.int IntKind.i64 1))) none none, some 83, none⟩, ⟨Op.nilCheck (Operand.tmp 78), some 84, none⟩, ⟨Op.fieldAddr 179 (Operand.tmp 84) 0, some 85, none⟩, ⟨Op.store 108 (Operand.tmp 85) (Operand.tmp 83), none, none⟩]) (LCode.seq (LCode.ops [⟨Op.fieldAddr 111 (Operand.tmp 6) 2, some 87, none⟩, ⟨Op.load 9 (Operand.tmp 87), some 88, none⟩, ⟨Op.binOp BinOp.neq 9 (Operand.tmp 88) (Operand.const (Value.string { data := { toList := [] } })) 9, some 89, none⟩, ⟨Op.assign (Operand.tmp 89), some 86, none⟩]) (LCode.cond (Operand.tmp 86) (LCode.draw [0, 1, 3, 7, 0, 16, 0, 112, 255, 511, 1023] [⟨Op.move (Operand.tmp 0), some 90, none⟩, ⟨Op.nilCheck (Operand.tmp 90), some 91, none⟩, ⟨Op.fieldAddr 179 (Operand.tmp 91) 0, some 92, none⟩, ⟨Op.load 108 (Operand.tmp 92), some 93, none⟩, ⟨Op.fieldAddr 111 (Operand.tmp 6) 2, some 94, none⟩, ⟨Op.load 9 (Operand.tmp 94), some 95, none⟩, ⟨Op.move (Operand.tmp 8), some 96, none⟩, ⟨Op.slice 9 (Operand.tmp 95) (some (Operand.tmp 96)) none none, some 97, none⟩, ⟨Op.indexAddr 108 (Operand.tmp 93) (Operand.const (Value.int IntKind.i64 0)), some 98, none⟩, ⟨Op.fieldAddr 111 (Operand.tmp 98) 2, some 99, none⟩, ⟨Op.store 9 (Operand.tmp 99) (Operand.tmp 97), none, none⟩]) (LCode.draw [0, 1, 3, 7, 0, 16, 0, 112, 0, 256, 0, 1792, 4080, 8191, 16383] [⟨Op.move (Operand.tmp 0), some 60, none⟩, ⟨Op.nilCheck (Operand.tmp 60), some 61, none⟩, ⟨Op.fieldAddr 179 (Operand.tmp 61) 0, some 62, none⟩, ⟨Op.load 108 (Operand.tmp 62), some 63, none⟩, ⟨Op.fieldAddr 111 (Operand.tmp 6) 0, some 64, none⟩, ⟨Op.load 3 (Operand.tmp 64), some 65, none⟩, ⟨Op.move (Operand.tmp 8), some 66, none⟩, ⟨Op.binOp BinOp.add 3 (Operand.tmp 65) (Operand.tmp 66) 3, some 67, none⟩, ⟨Op.fieldAddr 111 (Operand.tmp 6) 1, some 68, none⟩, ⟨Op.load 3 (Operand.tmp 68), some 69, none⟩, ⟨Op.move (Operand.tmp 8), some 70, none⟩, ⟨Op.binOp BinOp.sub 3 (Operand.tmp 69) (Operand.tmp 70) 3, some 71, none⟩, ⟨Op.call { callee := Callee.value (Operand.func 117), args := { toList := [Operand.tmp 67, Operand.tmp 71] }, argTypes := { toList := [3, 3] } }, some 72, none⟩, ⟨Op.indexAddr 108 (Operand.tmp 63) (Operand.const (Value.int IntKind.i64 0)), some 73, none⟩, ⟨Op.store 111 (Operand.tmp 73) (Operand.tmp 72), none, none⟩])))))) (LCode.ops [⟨Op.move (Operand.tmp 1), some 100, none⟩, ⟨Op.move (Operand.tmp 8), some 101, none⟩, ⟨Op.binOp BinOp.sub 3 (Operand.tmp 100) (Operand.tmp 101) 3, some 102, none⟩, ⟨Op.assign (Operand.tmp 102), some 1, none⟩])))))))))
theorem l124 : Try.f124.body.map lighten = some L124 := by kernel_rfl
theorem rs124 : Try.f124.results.toList = [] := by kernel_rfl
theorem nt124 : Try.f124.ntmps = 103 := by kernel_rfl
theorem gob124 {args : List AV} {s : AHeap} {R : AV → AHeap → Prop} (hl : args.length ≤ 103) (h : ∀ tm, tm.length = 103 → (∀ i, aev tm (.tmp i) = args.getD i aundef) → lvb Try.prog tab s L124 (lpostB tab s [] R) tm (loc s 0 [])) : ACall Try.prog 124 args s R := ACall.goB tab_ok mixed Try.func124 l124 nm124 rs124 nt124 hl h
noncomputable def L144 : LCode := LCode.seq (LCode.ops [⟨Op.move (Operand.tmp 0), some 5, none⟩, ⟨Op.load 3 (Operand.tmp 1), some 6, none⟩, ⟨Op.binOp BinOp.gtr 3 (Operand.tmp 5) (Operand.tmp 6) 3, some 7, none⟩, ⟨Op.move (Operand.tmp 7), some 8, none⟩, ⟨Op.load 9 (Operand.tmp 2), some 9, some (8, false)⟩, ⟨Op.binOp BinOp.neq 9 (Operand.tmp 9) (Operand.const (Value.string { data := { toList := [] } })) 9, some 10, some (8, false)⟩, ⟨Op.pick (Operand.tmp 8) (Operand.const (Value.bool true)) (Operand.tmp 10), some 11, none⟩]) (LCode.cond (Operand.tmp 11) (LCode.ops [⟨Op.load 27 (Operand.tmp 3), some 12, none⟩, ⟨Op.load 3 (Operand.tmp 1), some 13, none⟩, ⟨Op.move (Operand.tmp 0), some 14, none⟩, ⟨Op.load 3 (Operand.tmp 1), some 15, none⟩, ⟨Op.binOp BinOp.sub 3 (Operand.tmp 14) (Operand.tmp 15) 3, some 16, none⟩, ⟨Op.load 9 (Operand.tmp 2), some 17, none⟩, ⟨Op.build 35 { toList := [(0, Operand.tmp 13), (1, Operand.tmp 16), (2, Operand.tmp 17)] }, some 18, none⟩, ⟨Op.buildSlice 27 1 { toList := [(0, Operand.tmp 18)] }, some 19, none⟩, ⟨Op.call { callee := Callee.builtin Builtin.append, args := { toList := [Operand.tmp 12, Operand.tmp 19] }, argTypes := { toList := [27, 27] } }, some 20, none⟩, ⟨Op.store 27 (Operand.tmp 3) (Operand.tmp 20), none, none⟩]) LCode.skip)
theorem l144 : Try.f144.body.map lighten = some L144 := by kernel_rfl
theorem rs144 : Try.f144.results.toList = [] := by kernel_rfl
theorem nt144 : Try.f144.ntmps = 21 := by kernel_rfl
theorem gob144 {args : List AV} {s : AHeap} {R : AV → AHeap → Prop} (hl : args.length ≤ 21) (h : ∀ tm, tm.length = 21 → (∀ i, aev tm (.tmp i) = args.getD i aundef) → lvb Try.prog tab s L144 (lpostB tab s [] R) tm (loc s 0 [])) : ACall Try.prog 144 args s R := ACall.goB tab_ok mixed Try.func144 l144 nm144 rs144 nt144 hl h
noncomputable def L151 : LCode := LCode.seq (LCode.ops [⟨Op.assign (Operand.const (Value.int IntKind.i64 0)), some 4, none⟩]) (LCode.seq (LCode.seq (LCode.ops [⟨Op.move (Operand.tmp 0), some 6, none⟩, ⟨Op.call { callee := Callee.builtin Builtin.len, args := { toList := [Operand.tmp 6] }, argTypes := { toList := [108] } }, some 7, none⟩, ⟨Op.move (Operand.const (Value.int IntKind.i64 0)), some 8, none⟩]) (LCode.block 0 (LCode.loop (LCode.seq (LCode.ops [⟨Op.binOp BinOp.lss 3 (Operand.tmp 8) (Operand.tmp 7) 3, some 9, none⟩]) (LCode.seq (LCode.cond (Operand.tmp 9) LCode.skip (LCode.exit 0)) (LCode.seq (LCode.block 1 (LCode.seq (LCode.ops [⟨Op.move (Operand.tmp 8), some 10, none⟩, ⟨Op.assign (Operand.tmp 10), some 5, none⟩]) (LCode.seq (LCode.ops [⟨Op.move (Operand.tmp 1), some 11, none⟩, ⟨Op.move (Operand.tmp 0), some 12, none⟩, ⟨Op.move (Operand.tmp 5), some 13, none⟩, ⟨Op.indexAddr 108 (Operand.tmp 12) (Operand.tmp 13), some 14, none⟩, ⟨Op.load 111 (Operand.tmp 14), some 15, none⟩, ⟨Op.call { callee := Callee.value (Operand.tmp 11), args := { toList := [Operand.tmp 15] }, argTypes := { toList := [111] } }, some 16, none⟩]) (LCode.cond (Operand.tmp 16) (LCode.seq (LCode.ops [⟨Op.move (Operand.tmp 5), some 17, none⟩, ⟨Op.assign (Operand.tmp 17), some 4, none⟩]) LCode.ret) LCode.skip)))) (LCode.ops [⟨Op.binOp BinOp.add 3 (Operand.tmp 8) (Operand.const (Value.int IntKind.i64 1)) 3, some 18, none⟩, ⟨Op.move (Operand.tmp 18), some 8, none⟩]))))))) (LCode.seq (LCode.ops [⟨Op.assign (Operand.const (Value.int IntKind.i64 (-1))), some 4, none⟩]) LCode.ret))
theorem l151 : Try.f151.body.map lighten = some L151 := by kernel_rfl
theorem rs151 : Try.f151.results.toList = [ResultVar.tmp 4] := by kernel_rfl
theorem nt151 : Try.f151.ntmps = 19 := by kernel_rfl
theorem gob151 {args : List AV} {s : AHeap} {R : AV → AHeap → Prop} (hl : args.length ≤ 19) (h : ∀ tm, tm.length = 19 → (∀ i, aev tm (.tmp i) = args.getD i aundef) → lvb Try.prog tab s L151 (lpostB tab s [ResultVar.tmp 4] R) tm (loc s 0 [])) : ACall Try.prog 151 args s R := ACall.goB tab_ok mixed Try.func151 l151 nm151 rs151 nt151 hl h
end Go.S1
end
section
set_option linter.unusedVariables false
set_option linter.unusedSimpArgs false
/- What the table says of single types: written by gentyb.py, a program of this work. -/
namespace Go.S1N
open Go Go.Am Go.Proofs Go.S1
set_option maxRecDepth 100000
set_option linter.unusedSimpArgs false
set_option linter.unusedVariables false

theorem ty175 : tab.ty 175 = some { td := .ptr 179, size := 1, bytes := 8, zero := .pointer none, eqok := false } := by kernel_rfl
theorem ty177 : tab.ty 177 = some { td := .func, size := 1, bytes := 8, zero := .nilFunc, eqok := false } := by kernel_rfl
theorem ty179 : tab.ty 179 = some { td := .struct [(108, 0, true), (108, 1, true)], size := 2, bytes := 48, zero := .agg #[.slice none 0 0, .slice none 0 0], eqok := false } := by kernel_rfl
@[go_sem] theorem al175 {P : Program} {s0 : AHeap} {N : List AV → AHeap → Prop} {d : Option Nat} {tm : List AV} {s : AHeap} : lstepB P tab s0 N (.alloc 175) d tm s = N (aput tm d (.ptr s.nx 0)) (s.new (.cells [.nilp] (some 175))) := by rw [lstepB_alloc, ty175]; rfl
@[go_sem] theorem da175 {P : Program} {eal : Nat → Bool} {nx0 i : Nat} {N : DSt → AHeap → Prop} {d : Option Nat} {tm : List AV} {co : List AHeap} {re : List AV} {ki : List DKind} {s : AHeap} (he : eal i = false) : ldstepB P tab eal nx0 i false N (.alloc 175) d ⟨tm, co, re, ki⟩ s = N ⟨aput tm d (.ptr (nx0 + i) 0), co, re ++ [.ptr (nx0 + i) 0], ki ++ [.alloc 175]⟩ s := ldstepB_alA ty175 rfl he
@[go_sem] theorem de175 {P : Program} {eal : Nat → Bool} {nx0 i : Nat} {g : Bool} {N : DSt → AHeap → Prop} {d : Option Nat} {tm : List AV} {co : List AHeap} {re : List AV} {ki : List DKind} {s : AHeap} (he : eal i = true) : ldstepB P tab eal nx0 i g N (.alloc 175) d ⟨tm, co, re, ki⟩ s = N ⟨aput tm d (.ptr s.nx 0), co ++ [s.new (.cells [.nilp] (some 175))], re ++ [.ptr s.nx 0], ki ++ [.eff]⟩ (s.new (.cells [.nilp] (some 175))) := ldstepB_alE ty175 rfl he
@[go_sem] theorem zc175 : zcells tab 175 = [.nilp] := by unfold zcells; rw [ty175]; rfl
@[go_sem] theorem al177 {P : Program} {s0 : AHeap} {N : List AV → AHeap → Prop} {d : Option Nat} {tm : List AV} {s : AHeap} : lstepB P tab s0 N (.alloc 177) d tm s = N (aput tm d (.ptr s.nx 0)) (s.new (.cells [.nilf] (some 177))) := by rw [lstepB_alloc, ty177]; rfl
@[go_sem] theorem da177 {P : Program} {eal : Nat → Bool} {nx0 i : Nat} {N : DSt → AHeap → Prop} {d : Option Nat} {tm : List AV} {co : List AHeap} {re : List AV} {ki : List DKind} {s : AHeap} (he : eal i = false) : ldstepB P tab eal nx0 i false N (.alloc 177) d ⟨tm, co, re, ki⟩ s = N ⟨aput tm d (.ptr (nx0 + i) 0), co, re ++ [.ptr (nx0 + i) 0], ki ++ [.alloc 177]⟩ s := ldstepB_alA ty177 rfl he
@[go_sem] theorem de177 {P : Program} {eal : Nat → Bool} {nx0 i : Nat} {g : Bool} {N : DSt → AHeap → Prop} {d : Option Nat} {tm : List AV} {co : List AHeap} {re : List AV} {ki : List DKind} {s : AHeap} (he : eal i = true) : ldstepB P tab eal nx0 i g N (.alloc 177) d ⟨tm, co, re, ki⟩ s = N ⟨aput tm d (.ptr s.nx 0), co ++ [s.new (.cells [.nilf] (some 177))], re ++ [.ptr s.nx 0], ki ++ [.eff]⟩ (s.new (.cells [.nilf] (some 177))) := ldstepB_alE ty177 rfl he
@[go_sem] theorem zc177 : zcells tab 177 = [.nilf] := by unfold zcells; rw [ty177]; rfl
@[go_sem] theorem al179 {P : Program} {s0 : AHeap} {N : List AV → AHeap → Prop} {d : Option Nat} {tm : List AV} {s : AHeap} : lstepB P tab s0 N (.alloc 179) d tm s = N (aput tm d (.ptr s.nx 0)) (s.new (.cells [.nils, .nils] (some 179))) := by rw [lstepB_alloc, ty179]; rfl
@[go_sem] theorem da179 {P : Program} {eal : Nat → Bool} {nx0 i : Nat} {N : DSt → AHeap → Prop} {d : Option Nat} {tm : List AV} {co : List AHeap} {re : List AV} {ki : List DKind} {s : AHeap} (he : eal i = false) : ldstepB P tab eal nx0 i false N (.alloc 179) d ⟨tm, co, re, ki⟩ s = N ⟨aput tm d (.ptr (nx0 + i) 0), co, re ++ [.ptr (nx0 + i) 0], ki ++ [.alloc 179]⟩ s := ldstepB_alA ty179 rfl he
@[go_sem] theorem de179 {P : Program} {eal : Nat → Bool} {nx0 i : Nat} {g : Bool} {N : DSt → AHeap → Prop} {d : Option Nat} {tm : List AV} {co : List AHeap} {re : List AV} {ki : List DKind} {s : AHeap} (he : eal i = true) : ldstepB P tab eal nx0 i g N (.alloc 179) d ⟨tm, co, re, ki⟩ s = N ⟨aput tm d (.ptr s.nx 0), co ++ [s.new (.cells [.nils, .nils] (some 179))], re ++ [.ptr s.nx 0], ki ++ [.eff]⟩ (s.new (.cells [.nils, .nils] (some 179))) := ldstepB_alE ty179 rfl he
@[go_sem] theorem zc179 : zcells tab 179 = [.nils, .nils] := by unfold zcells; rw [ty179]; rfl
@[go_sem] theorem ld175 {x : AV} {s : AHeap} : aload tab 175 x s = (acellsAt s x).bind fun cs => cs[0]? := by rw [aload_one ty175 rfl]
@[go_sem] theorem st175 {b o : Nat} {v : AV} {s : AHeap} : astore tab 175 (.ptr b o) v s = astoreAt s b o 1 v := by rw [astore_ptr ty175]
@[go_sem] theorem ld177 {x : AV} {s : AHeap} : aload tab 177 x s = (acellsAt s x).bind fun cs => cs[0]? := by rw [aload_one ty177 rfl]
@[go_sem] theorem st177 {b o : Nat} {v : AV} {s : AHeap} : astore tab 177 (.ptr b o) v s = astoreAt s b o 1 v := by rw [astore_ptr ty177]
@[go_sem] theorem fa179_0p {b o : Nat} : afieldAddr tab 179 (.ptr b o) 0 = some (.ptr b (o + 0)) := by simp [afieldAddr, ty179, Tab.size, ty108]
@[go_sem] theorem fa179_0r {l : List AV} : afieldAddr tab 179 (.rptr l) 0 = some (.rptr (l.drop 0)) := by simp [afieldAddr, ty179, Tab.size, ty108]
@[go_sem] theorem fa179_1p {b o : Nat} : afieldAddr tab 179 (.ptr b o) 1 = some (.ptr b (o + 1)) := by simp [afieldAddr, ty179, Tab.size, ty108]
@[go_sem] theorem fa179_1r {l : List AV} : afieldAddr tab 179 (.rptr l) 1 = some (.rptr (l.drop 1)) := by simp [afieldAddr, ty179, Tab.size, ty108]
@[go_sem] theorem fd179_0 {a0 a1 : AV} : afield tab 179 (.agg [a0, a1]) 0 = some (a0) := by simp [afield, ty179, ty108, apart, TD.isAgg]
@[go_sem] theorem fd179_1 {a0 a1 : AV} : afield tab 179 (.agg [a0, a1]) 1 = some (a1) := by simp [afield, ty179, ty108, apart, TD.isAgg]
@[go_sem] theorem bd179 {parts : List (Nat × AV)} : abuild tab 179 parts = if parts.any (·.2.israw) = true then none else (afill (fun i => ([(0, 1), (1, 1)] : List (Nat × Nat))[i]?) [.nils, .nils] parts).map .agg := abuild_struct ty179 rfl rfl (by simp [Tab.size, ty108])
@[go_sem] theorem ld179 {x : AV} {s : AHeap} : aload tab 179 x s = (acellsAt s x).bind fun cs => if 2 ≤ cs.length then some (.agg (cs.take 2)) else none := by rw [aload_agg ty179 rfl]
@[go_sem] theorem st179 {b o : Nat} {v : AV} {s : AHeap} : astore tab 179 (.ptr b o) v s = astoreAt s b o 2 v := by rw [astore_ptr ty179]
end Go.S1N
end
section
set_option linter.unusedVariables false
set_option linter.unusedSimpArgs false
namespace Go.S1N
open Go Go.Am Go.Proofs Go.S1
set_option maxRecDepth 100000
set_option linter.unusedSimpArgs false
attribute [local irreducible] lopsB lvb lstepB lfunG lcondB lguardB ldrawB ldrunB ldstepB ldguardB lmem lval ldmem ldval ldfun lexit ldloadB ldlenB lpostB athen ablock

/-- a letter of a flow over another one -/
def overL (F : List (Int × UInt8)) (p : Int × UInt8) : Int × UInt8 := if 0 ≤ p.1 then F.getD p.1.toNat (0, 0) else p
def overF (F G : List (Int × UInt8)) : List (Int × UInt8) := G.map (overL F)

theorem thenFlow_ok (n m : Int) (F G : List (Int × UInt8)) (hG : G.length ≤ 1000000000) (h : ∀ p ∈ G, p.1 < F.length) (s : AHeap) :
    ACall Try.prog 82 [flv n F, flv m G] s fun r t => r = flv n (overF F G) ∧ t = s := by
  refine gob82 (by simp) ?_
  intro tm hlen harg
  have hpu : Pu (fsv 2 (ltv F)) := pu_fsv (ltv_pu F)
  have hpu2 : Pu (fsv 2 (ltv G)) := pu_fsv (ltv_pu G)
  simp (config := { contextual := true }) only [go_sem, L82, hlen, harg, flv, flow_len', build118, lcondB_decide, lcondB_not, lguardB_decide_true, lguardB_decide_false, ldguardB_decide, Nat.reduceLT, Nat.reduceEqDiff, Nat.reduceAdd, Nat.reduceLeDiff, reduceIte, reduceCtorEq]
  refine ⟨Nat, fun j => [(2, .ptr (nm s.nx 0) 0), (4, .ptr (nm s.nx 2) 0), (5, .ptr (nm s.nx 3) 0), (12, fsv 2 (ltv G)), (13, .int .i64 G.length), (14, .int .i64 j)],
    fun j => loc s 5 [(0, some (.cells [.int .i64 n, fsv 2 (ltv F)] (some 118))), (1, some (.cells [.int .i64 m, fsv 2 (ltv G)] (some 118))), (2, some (.cells [.int .i64 0, .nils] (some 118))), (3, some (.cells [.int .i64 n, gsv 2 (nm s.nx 4) ((overF F G).take j).length] (some 118))), (4, gso 121 (letters ((overF F G).take j)))],
    fun j => j ≤ G.length, fun j => G.length - j, 0, by simp, ?_, ?_⟩
  · refine To.go [0, 1, 2, 3, 9] [(0, some (.cells [.int .i64 n, fsv 2 (ltv F)] (some 118))), (1, some (.cells [.int .i64 m, fsv 2 (ltv G)] (some 118))), (2, some (.cells [.int .i64 0, .nils] (some 118))), (3, some (.cells [.int .i64 n, .nils] (some 118))), (4, none)] rfl (.refl s) (by decide) (by simp) ?_ ?_
    · simp (config := { contextual := true }) only [go_sem, hlen, harg, pu_ren hpu2, gsv_zero, lcondB_decide, lcondB_not, lguardB_decide_true, lguardB_decide_false, ldguardB_decide, Nat.reduceLT, Nat.reduceEqDiff, Nat.reduceAdd, Nat.reduceLeDiff, reduceIte, reduceCtorEq]
      rfl
    · simp only [go_sem, pu_ren hpu, pu_ren hpu2, lcondB_decide, lcondB_not, lguardB_decide_true, lguardB_decide_false, ldguardB_decide, Nat.reduceLT, Nat.reduceEqDiff, Nat.reduceAdd, Nat.reduceLeDiff, reduceIte, reduceCtorEq]
  · intro j tm1 hj hlen1 hlv
    simp only [go_sem, hlen, lcondB_decide, lcondB_not, lguardB_decide_true, lguardB_decide_false, ldguardB_decide, Nat.reduceLT, Nat.reduceEqDiff, Nat.reduceAdd, Nat.reduceLeDiff, reduceIte, reduceCtorEq] at hlen1 hlv
    simp (config := { contextual := true }) only [go_sem, hlen, hlen1, hlv, lcondB_decide, lcondB_not, lguardB_decide_true, lguardB_decide_false, ldguardB_decide, Nat.reduceLT, Nat.reduceEqDiff, Nat.reduceAdd, Nat.reduceLeDiff, reduceIte, reduceCtorEq]
    refine ⟨fun hl => ?_, fun hge => ?_⟩
    · have hj2 : j < G.length := by omega
      have he := List.getElem?_eq_getElem hj2
      have hmem : G[j] ∈ G := List.getElem_mem hj2
      have htake : (overF F G).take (j + 1) = (overF F G).take j ++ [overL F G[j]] := by
        rw [overF, List.take_succ_eq_append_getElem (by simpa using hj2), List.getElem_map]
      generalize G[j] = p at he hmem htake
      have hp := h p hmem
      have hw3 : IntKind.i64.wrap ((j : Int) + 1) = ((j + 1 : Nat) : Int) := by rw [wrap_id (by omega)]; rfl
      have htl : ((overF F G).take j).length ≤ 1000000000 := by simp [overF]; omega
      simp (config := { contextual := true }) only [go_sem, hlen1, hlv, flow_at G he, lcondB_decide, lcondB_not, lguardB_decide_true, lguardB_decide_false, ldguardB_decide, Nat.reduceLT, Nat.reduceEqDiff, Nat.reduceAdd, Nat.reduceLeDiff, reduceIte, reduceCtorEq]
      refine ⟨fun hc => ?_, fun hc => ?_⟩
      · have hf : F[p.1.toNat]? = some (overL F p) := by
          rw [overL, if_pos hc, List.getD_eq_getElem?_getD, List.getElem?_eq_getElem (by omega)]; rfl
        have hat : aindexAddr tab 116 (fsv 2 (ltv F)) (.int .i64 p.1) = some (.rptr [.int .i64 (overL F p).1, .int .u8 (overL F p).2.toNat]) := by
          have := flow_at F hf
          rwa [show ((p.1.toNat : Nat) : Int) = p.1 by omega] at this
        simp (config := { contextual := true }) only [go_sem, hlen1, hlv, hat, lcondB_decide, lcondB_not, lguardB_decide_true, lguardB_decide_false, ldguardB_decide, Nat.reduceLT, Nat.reduceEqDiff, Nat.reduceAdd, Nat.reduceLeDiff, reduceIte, reduceCtorEq]
        refine lmem_eq (app116 (acellsOf_rs (by simp only [go_sem, lcondB_decide, lcondB_not, lguardB_decide_true, lguardB_decide_false, ldguardB_decide, Nat.reduceLT, Nat.reduceEqDiff, Nat.reduceAdd, Nat.reduceLeDiff, reduceIte, reduceCtorEq]; rfl) (by rfl) rfl) (by decide) (by simp only [go_sem, lcondB_decide, lcondB_not, lguardB_decide_true, lguardB_decide_false, ldguardB_decide, Nat.reduceLT, Nat.reduceEqDiff, Nat.reduceAdd, Nat.reduceLeDiff, reduceIte, reduceCtorEq]) (by simp only [go_sem, lcondB_decide, lcondB_not, lguardB_decide_true, lguardB_decide_false, ldguardB_decide, Nat.reduceLT, Nat.reduceEqDiff, Nat.reduceAdd, Nat.reduceLeDiff, reduceIte, reduceCtorEq]) (letters_length _) (by omega) rfl) ?_
        simp (config := { contextual := true }) only [go_sem, hlen1, hlv, hw3, lcondB_decide, lcondB_not, lguardB_decide_true, lguardB_decide_false, ldguardB_decide, Nat.reduceLT, Nat.reduceEqDiff, Nat.reduceAdd, Nat.reduceLeDiff, reduceIte, reduceCtorEq]
        refine ⟨j + 1, by omega, by omega, ?_⟩
        refine To.go [0, 1, 2, 3, 7] _ rfl (.refl s) (by decide) (by simp) ?_ ?_
        · simp (config := { contextual := true }) only [go_sem, hlen1, hlv, pu_ren hpu2, lcondB_decide, lcondB_not, lguardB_decide_true, lguardB_decide_false, ldguardB_decide, Nat.reduceLT, Nat.reduceEqDiff, Nat.reduceAdd, Nat.reduceLeDiff, reduceIte, reduceCtorEq]
        · simp only [go_sem, pu_ren hpu, pu_ren hpu2, map_gso_pu (letters_pul _), lcondB_decide, lcondB_not, lguardB_decide_true, lguardB_decide_false, ldguardB_decide, Nat.reduceLT, Nat.reduceEqDiff, Nat.reduceAdd, Nat.reduceLeDiff, reduceIte, reduceCtorEq]
          rw [htake, gso_let, letters_snoc, List.length_append, List.length_singleton, gsv_pos (Nat.succ_ne_zero _)]
          exact ⟨rfl, rfl⟩
      · have hov : overL F p = p := by rw [overL, if_neg hc]
        rw [hov] at htake
        refine lmem_eq (app116 (acellsOf_rs (by simp only [go_sem, lcondB_decide, lcondB_not, lguardB_decide_true, lguardB_decide_false, ldguardB_decide, Nat.reduceLT, Nat.reduceEqDiff, Nat.reduceAdd, Nat.reduceLeDiff, reduceIte, reduceCtorEq]; rfl) (by rfl) rfl) (by decide) (by simp only [go_sem, lcondB_decide, lcondB_not, lguardB_decide_true, lguardB_decide_false, ldguardB_decide, Nat.reduceLT, Nat.reduceEqDiff, Nat.reduceAdd, Nat.reduceLeDiff, reduceIte, reduceCtorEq]) (by simp only [go_sem, lcondB_decide, lcondB_not, lguardB_decide_true, lguardB_decide_false, ldguardB_decide, Nat.reduceLT, Nat.reduceEqDiff, Nat.reduceAdd, Nat.reduceLeDiff, reduceIte, reduceCtorEq]) (letters_length _) (by omega) rfl) ?_
        simp (config := { contextual := true }) only [go_sem, hlen1, hlv, hw3, lcondB_decide, lcondB_not, lguardB_decide_true, lguardB_decide_false, ldguardB_decide, Nat.reduceLT, Nat.reduceEqDiff, Nat.reduceAdd, Nat.reduceLeDiff, reduceIte, reduceCtorEq]
        refine ⟨j + 1, by omega, by omega, ?_⟩
        refine To.go [0, 1, 2, 3, 7] _ rfl (.refl s) (by decide) (by simp) ?_ ?_
        · simp (config := { contextual := true }) only [go_sem, hlen1, hlv, pu_ren hpu2, lcondB_decide, lcondB_not, lguardB_decide_true, lguardB_decide_false, ldguardB_decide, Nat.reduceLT, Nat.reduceEqDiff, Nat.reduceAdd, Nat.reduceLeDiff, reduceIte, reduceCtorEq]
        · simp only [go_sem, pu_ren hpu, pu_ren hpu2, map_gso_pu (letters_pul _), lcondB_decide, lcondB_not, lguardB_decide_true, lguardB_decide_false, ldguardB_decide, Nat.reduceLT, Nat.reduceEqDiff, Nat.reduceAdd, Nat.reduceLeDiff, reduceIte, reduceCtorEq]
          rw [htake, gso_let, letters_snoc, List.length_append, List.length_singleton, gsv_pos (Nat.succ_ne_zero _)]
          exact ⟨rfl, rfl⟩
    · have hj2 : j = G.length := by omega
      subst hj2
      rw [show (overF F G).take G.length = overF F G from List.take_of_length_le (by simp [overF])] at *
      refine lexit_freezeG 4 2 (ltv (overF F G)) (by rw [ltv_letters]; simp only [go_sem, lcondB_decide, lcondB_not, lguardB_decide_true, lguardB_decide_false, ldguardB_decide, Nat.reduceLT, Nat.reduceEqDiff, Nat.reduceAdd, Nat.reduceLeDiff, reduceIte, reduceCtorEq]; rfl) (ltv_len _) (by decide) ?_
      have hfz : fz (nm s.nx 4) 2 (ltv (overF F G)) (gsv 2 (nm s.nx 4) (overF F G).length) = fsv 2 (ltv (overF F G)) := by
        rw [show (overF F G).length = (ltv (overF F G)).length from (List.length_map ..).symm, fz_gsv]
      simp only [go_sem, hfz, lcondB_decide, lcondB_not, lguardB_decide_true, lguardB_decide_false, ldguardB_decide, Nat.reduceLT, Nat.reduceEqDiff, Nat.reduceAdd, Nat.reduceLeDiff, reduceIte, reduceCtorEq]
      exact lexit_pure (.refl s) (low.mono (Nat.zero_le _) (flv_pu _ _)) ⟨rfl, rfl⟩

theorem many_ok (v : AV) (l : List Ed) (hv : SlE v l) (s : AHeap) : ACall Try.prog 83 [v] s fun r t => r = .int .i64 (if 2000 < l.length then 2 else 0 : Int) ∧ t = s := by
  refine gob83 (by simp) ?_
  intro tm hlen harg
  simp (config := { contextual := true }) only [go_sem, L83, hlen, harg, hv.len, lcondB_decide, lcondB_not, lguardB_decide_true, lguardB_decide_false, ldguardB_decide, Nat.reduceLT, Nat.reduceEqDiff, Nat.reduceAdd, Nat.reduceLeDiff, reduceIte, reduceCtorEq]
  refine ⟨fun c => ?_, fun c => ?_⟩
  · refine lexit_pure (.refl s) (by simp only [low]) ⟨?_, rfl⟩
    rw [if_pos (by omega)]
  · refine lexit_pure (.refl s) (by simp only [low]) ⟨?_, rfl⟩
    rw [if_neg (by omega)]

/-- hgref2.ThenOf -/
def thenVal (n : Nat) (a b : List Ed) : List Ed × Int :=
  if faultOf n a ≠ 0 then ([], faultOf n a)
  else if faultOf (flowFrom n 0 a).length b ≠ 0 then ([], faultOf (flowFrom n 0 a).length b)
  else if 2000 < (edGo n 0 [] (overF (flowFrom n 0 a) (flowFrom (flowFrom n 0 a).length 0 b))).length then ([], 2)
  else (edGo n 0 [] (overF (flowFrom n 0 a) (flowFrom (flowFrom n 0 a).length 0 b)), 0)

theorem flow_lo (n : Nat) : ∀ (l : List Ed) (a : Nat), ∀ q ∈ flowFrom n a l, -1 ≤ q.1
  | [], a, q, hq => by have := run_mem hq; omega
  | e :: r, a, q, hq => by
    simp only [flowFrom, List.mem_append] at hq
    rcases hq with (hq | hq) | hq
    · have := run_mem hq; omega
    · obtain ⟨c, _, rfl⟩ := List.mem_map.1 hq
      simp only; omega
    · exact flow_lo n r _ q hq

theorem thenOf_ok (n : Nat) (v w : AV) (a b : List Ed) (hv : SlE v a) (hw : SlE w b) (hal : a.length < 4611686018427387904) (hbl : b.length < 4611686018427387904) (hna : ∀ e ∈ a, e.new.length ≤ 100000) (hnb : ∀ e ∈ b, e.new.length ≤ 100000) (hn : n ≤ 20000) (s : AHeap) :
    ACall Try.prog 36 [.int .i64 n, v, w] s fun r t => r = .tuple [edv (thenVal n a b).1, .int .i64 (thenVal n a b).2] ∧ t = s := by
  refine gob36 (by simp) ?_
  intro tm hlen harg
  simp (config := { contextual := true }) only [go_sem, L36, hlen, harg, lcondB_decide, lcondB_not, lguardB_decide_true, lguardB_decide_false, ldguardB_decide, Nat.reduceLT, Nat.reduceEqDiff, Nat.reduceAdd, Nat.reduceLeDiff, reduceIte, reduceCtorEq]
  refine lfunG_eq (exact_of (by simp only [Pu, low]) (fault_ok _ _ a hv hal _)) ?_
  simp (config := { contextual := true }) only [go_sem, hlen, harg, lcondB_decide, lcondB_not, lguardB_decide_true, lguardB_decide_false, ldguardB_decide, Nat.reduceLT, Nat.reduceEqDiff, Nat.reduceAdd, Nat.reduceLeDiff, reduceIte, reduceCtorEq]
  refine ⟨fun c => ?_, fun c => ?_⟩
  · refine lexit_pure (.refl s) (by simp only [low, lowL, and_self]) ⟨?_, rfl⟩
    rw [thenVal, if_pos c]; rfl
  have c : faultOf n a = 0 := by simpa using c
  obtain ⟨_, _, ha2, hsa⟩ := faultOf_zero c
  refine lfunG_eq (lengthOf_ok n _ a hv ha2 hn hna hsa _) ?_
  simp (config := { contextual := true }) only [go_sem, hlen, harg, lcondB_decide, lcondB_not, lguardB_decide_true, lguardB_decide_false, ldguardB_decide, Nat.reduceLT, Nat.reduceEqDiff, Nat.reduceAdd, Nat.reduceLeDiff, reduceIte, reduceCtorEq]
  refine lfunG_eq (exact_of (by simp only [Pu, low]) (fault_ok _ _ b hw hbl _)) ?_
  simp (config := { contextual := true }) only [go_sem, hlen, harg, lcondB_decide, lcondB_not, lguardB_decide_true, lguardB_decide_false, ldguardB_decide, Nat.reduceLT, Nat.reduceEqDiff, Nat.reduceAdd, Nat.reduceLeDiff, reduceIte, reduceCtorEq]
  refine ⟨fun d => ?_, fun d => ?_⟩
  · refine lexit_pure (.refl s) (by simp only [low, lowL, and_self]) ⟨?_, rfl⟩
    rw [thenVal, if_neg (by simpa using c), if_pos d]; rfl
  have d : faultOf (flowFrom n 0 a).length b = 0 := by simpa using d
  obtain ⟨_, hL, hb2, hsb⟩ := faultOf_zero d
  refine lfunG_eq (flowOfE n _ a hv ha2 hn hna hsa _) ?_
  simp (config := { contextual := true }) only [go_sem, hlen, harg, lcondB_decide, lcondB_not, lguardB_decide_true, lguardB_decide_false, ldguardB_decide, Nat.reduceLT, Nat.reduceEqDiff, Nat.reduceAdd, Nat.reduceLeDiff, reduceIte, reduceCtorEq]
  refine lfunG_eq (lengthOf_ok n _ a hv ha2 hn hna hsa _) ?_
  simp (config := { contextual := true }) only [go_sem, hlen, harg, lcondB_decide, lcondB_not, lguardB_decide_true, lguardB_decide_false, ldguardB_decide, Nat.reduceLT, Nat.reduceEqDiff, Nat.reduceAdd, Nat.reduceLeDiff, reduceIte, reduceCtorEq]
  refine lfunG_eq (flowOfE (flowFrom n 0 a).length _ b hw hb2 (by omega) hnb hsb _) ?_
  simp (config := { contextual := true }) only [go_sem, hlen, harg, lcondB_decide, lcondB_not, lguardB_decide_true, lguardB_decide_false, ldguardB_decide, Nat.reduceLT, Nat.reduceEqDiff, Nat.reduceAdd, Nat.reduceLeDiff, reduceIte, reduceCtorEq]
  have hlenb : (flowFrom (flowFrom n 0 a).length 0 b).length ≤ 300000000 := by
    have h1 := flow_len (flowFrom n 0 a).length b 0 hnb (fun e he => (scan_range b _ hsb e he).2.2.1)
    have h2 : b.length * ((flowFrom n 0 a).length + 100000) ≤ 2000 * (20000 + 100000) := Nat.mul_le_mul hb2 (by omega)
    omega
  have hrb := flow_range (flowFrom n 0 a).length b 0 (-1) (.inr ⟨rfl, rfl⟩) (by omega) hsb
  have hra := flow_range n a 0 (-1) (.inr ⟨rfl, rfl⟩) (by omega) hsa
  refine lfunG_eq (thenFlow_ok n _ (flowFrom n 0 a) (flowFrom (flowFrom n 0 a).length 0 b) (by omega) hrb _) ?_
  simp (config := { contextual := true }) only [go_sem, hlen, harg, lcondB_decide, lcondB_not, lguardB_decide_true, lguardB_decide_false, ldguardB_decide, Nat.reduceLT, Nat.reduceEqDiff, Nat.reduceAdd, Nat.reduceLeDiff, reduceIte, reduceCtorEq]
  refine lfunG_eq (edits_ok n _ (by omega) ?_ (by simp only [overF, List.length_map]; omega) _) ?_
  · intro p hp
    obtain ⟨q, hq, rfl⟩ := List.mem_map.1 hp
    have h1 := hrb q hq
    have h2 := flow_lo _ b 0 q hq
    rw [overL]
    split
    · rw [List.getD_eq_getElem?_getD, List.getElem?_eq_getElem (by omega)]
      have h3 := hra _ (List.getElem_mem (show q.1.toNat < (flowFrom n 0 a).length by omega))
      have h4 := flow_lo _ a 0 _ (List.getElem_mem (show q.1.toNat < (flowFrom n 0 a).length by omega))
      simp only [Option.getD_some]; omega
    · omega
  simp (config := { contextual := true }) only [go_sem, hlen, harg, lcondB_decide, lcondB_not, lguardB_decide_true, lguardB_decide_false, ldguardB_decide, Nat.reduceLT, Nat.reduceEqDiff, Nat.reduceAdd, Nat.reduceLeDiff, reduceIte, reduceCtorEq]
  refine lfunG_eq (many_ok _ _ (edv_sl _) _) ?_
  simp (config := { contextual := true }) only [go_sem, hlen, harg, lcondB_decide, lcondB_not, lguardB_decide_true, lguardB_decide_false, ldguardB_decide, Nat.reduceLT, Nat.reduceEqDiff, Nat.reduceAdd, Nat.reduceLeDiff, reduceIte, reduceCtorEq]
  have hV : thenVal n a b = if 2000 < (edGo n 0 [] (overF (flowFrom n 0 a) (flowFrom (flowFrom n 0 a).length 0 b))).length then ([], 2) else (edGo n 0 [] (overF (flowFrom n 0 a) (flowFrom (flowFrom n 0 a).length 0 b)), 0) := by
    rw [thenVal, if_neg (by simpa using c), if_neg (by simpa using d)]
  rw [hV]
  by_cases hm : 2000 < (edGo n 0 [] (overF (flowFrom n 0 a) (flowFrom (flowFrom n 0 a).length 0 b))).length
  · simp only [if_pos hm]
    simp (config := { contextual := true }) only [go_sem, hlen, harg, lcondB_decide, lcondB_not, lguardB_decide_true, lguardB_decide_false, ldguardB_decide, Nat.reduceLT, Nat.reduceEqDiff, Nat.reduceAdd, Nat.reduceLeDiff, reduceIte, reduceCtorEq]
    refine ⟨fun _ => ?_, fun h => absurd h (by omega)⟩
    exact lexit_pure (.refl s) (by simp only [low, lowL, and_self]) ⟨rfl, rfl⟩
  · simp only [if_neg hm]
    simp (config := { contextual := true }) only [go_sem, hlen, harg, lcondB_decide, lcondB_not, lguardB_decide_true, lguardB_decide_false, ldguardB_decide, Nat.reduceLT, Nat.reduceEqDiff, Nat.reduceAdd, Nat.reduceLeDiff, reduceIte, reduceCtorEq]
    refine ⟨fun h => h.elim, fun _ => ?_⟩
    exact lexit_pure (.refl s) (by simp only [low, lowL, and_self, and_true]; exact low.mono (Nat.zero_le _) (edv_pu _)) ⟨rfl, rfl⟩
end Go.S1N
end
section
set_option linter.unusedVariables false
set_option linter.unusedSimpArgs false
namespace Go.S1N
open Go Go.Am Go.Proofs Go.S1
set_option maxRecDepth 100000
set_option linter.unusedSimpArgs false

/-! ## runs as flows -/
/-- the letters of a run -/
def rfl1 (r : Rn) : List (Int × UInt8) := if r.text ≠ [] then negL r.text else (List.range r.long.toNat).map fun (i : Nat) => (r.at_ + (i : Int), (0 : UInt8))
def rflow (l : List Rn) : List (Int × UInt8) := l.flatMap rfl1
/-- edit.edits -/
def rGo (n : Int) : Int → List UInt8 → List Rn → List Ed
  | a, w, [] => pushE a w n
  | a, w, r :: l => if r.text ≠ [] then rGo n a (w ++ r.text) l else if 0 < r.long then pushE a w r.at_ ++ rGo n (r.at_ + r.long) [] l else rGo n a w l

theorem ed_kept (N : Int) (t : List (Int × UInt8)) : ∀ (k : Nat) (o q : Int) (w : List UInt8), 0 ≤ o → edGo N q w ((List.range (k + 1)).map (fun (i : Nat) => (o + (i : Int), (0 : UInt8))) ++ t) = pushE q w o ++ edGo N (o + (k + 1 : Nat)) [] t
  | 0, o, q, w, h => by
    simp only [List.range_succ, List.range_zero, List.nil_append, List.map_cons, List.map_nil, List.cons_append, edGo]
    rw [if_neg (by omega)]
    simp
  | k + 1, o, q, w, h => by
    have ih := ed_kept N t k (o + 1) (o + 1) [] (by omega)
    rw [List.range_succ_eq_map, List.map_cons, List.map_map, List.cons_append, edGo, if_neg (by simp only; omega)]
    have e : (List.range (k + 1)).map ((fun (i : Nat) => (o + (i : Int), (0 : UInt8))) ∘ Nat.succ) = (List.range (k + 1)).map (fun (i : Nat) => (o + 1 + (i : Int), (0 : UInt8))) := by
      refine List.map_congr_left fun i _ => ?_
      simp only [Function.comp_apply, Nat.succ_eq_add_one, Prod.mk.injEq, and_true]
      omega
    rw [e]
    simp only [Int.natCast_zero, Int.add_zero] at ih ⊢
    rw [ih, push_same, List.nil_append]
    congr 2; omega

theorem rGo_flow (n : Int) : ∀ (l : List Rn) (a : Int) (w : List UInt8), (∀ r ∈ l, 0 ≤ r.at_) → rGo n a w l = edGo n a w (rflow l)
  | [], a, w, _ => rfl
  | r :: l, a, w, h => by
    have ih := fun a w => rGo_flow n l a w fun x hx => h x (List.mem_cons_of_mem _ hx)
    have hr := h r (List.mem_cons_self ..)
    have hf : rflow (r :: l) = rfl1 r ++ rflow l := List.flatMap_cons
    rw [rGo, hf, rfl1]
    split
    · rw [ed_neg, ih]
    · split
      · rename_i h0
        obtain ⟨k, hk⟩ : ∃ k, r.long.toNat = k + 1 := ⟨r.long.toNat - 1, by omega⟩
        rw [hk, ed_kept _ _ _ _ _ _ hr, ih]
        congr 2; omega
      · rename_i h0
        rw [show r.long.toNat = 0 by omega, ih]; rfl

theorem rflow_app (a b : List Rn) : rflow (a ++ b) = rflow a ++ rflow b := List.flatMap_append
theorem rfl1_kept {a k : Nat} : rfl1 ⟨a, k, []⟩ = runOf a k := by
  simp only [rfl1, ne_eq, not_true_eq_false, if_false, runOf, Int.toNat_natCast]
  rw [List.range'_eq_map_range, List.map_map]
  refine List.map_congr_left fun i _ => ?_
  simp
theorem rfl1_fresh {w : List UInt8} : rfl1 ⟨0, 0, w⟩ = negL w := by
  unfold rfl1
  split
  · rfl
  · rename_i h
    have : w = [] := Classical.not_not.1 h
    subst this; rfl

/-- the runs of a change are its flow -/
theorem runs_flow (n : Nat) : ∀ (l : List Ed) (a : Nat) (B : Int), (B = a ∨ (B = -1 ∧ a = 0)) → a ≤ n → scan n B l = 0 → rflow (runsFrom n a l) = flowFrom n a l
  | [], a, B, _, ha, _ => by
    rw [runsFrom, flowFrom]
    rw [show ((n : Int) - (a : Int)) = ((n - a : Nat) : Int) by omega]
    simp only [rflow, List.flatMap_cons, List.flatMap_nil, List.append_nil]
    exact rfl1_kept
  | e :: r, a, B, hB, ha, hs => by
    obtain ⟨c1, c2, c3, c4, c5, c6⟩ := scan_cons hs
    have ih := runs_flow n r (e.at_ + e.cut).toNat (e.at_ + e.cut) (.inl (by omega)) (by omega) c6
    rw [show (((e.at_ + e.cut).toNat : Nat) : Int) = e.at_ + e.cut by omega] at ih
    rw [runsFrom, flowFrom, show e.at_ - (a : Int) = ((e.at_.toNat - a : Nat) : Int) by omega]
    simp only [rflow, List.flatMap_cons] at ih ⊢
    rw [ih, rfl1_kept, rfl1_fresh, List.append_assoc]
    rfl

/-! ## bytes off the front of runs -/
def rsize (r : Rn) : Nat := max r.long.toNat r.text.length
def cutR (r : Rn) (k : Nat) : Rn := if r.text ≠ [] then ⟨0, 0, r.text.take k⟩ else ⟨r.at_, k, []⟩
def restR (r : Rn) (k : Nat) : Rn := if r.text ≠ [] then ⟨r.at_, r.long, r.text.drop k⟩ else ⟨r.at_ + k, r.long - k, []⟩
def takeO : Nat → List Rn → List Rn
  | _, [] => []
  | n, r :: l => if n = 0 then [] else if n < rsize r then [cutR r n] else cutR r (rsize r) :: takeO (n - rsize r) l
def restO : Nat → List Rn → List Rn
  | _, [] => []
  | n, r :: l => if n = 0 then r :: l else if n < rsize r then restR r n :: l else restO (n - rsize r) l
/-- a run as it should be -/
def okR (r : Rn) : Prop := 0 ≤ r.at_ ∧ 0 ≤ r.long ∧ (r.text = [] ∨ r.long = 0)

theorem rfl1_len {r : Rn} (h : okR r) : (rfl1 r).length = rsize r := by
  obtain ⟨h1, h2, h3⟩ := h
  unfold rfl1 rsize
  split
  · rename_i ht
    rcases h3 with h3 | h3
    · exact absurd h3 ht
    · rw [h3]; simp [negL]
  · rename_i ht
    have : r.text = [] := Classical.not_not.1 ht
    rw [this]; simp
theorem rfl1_cut {r : Rn} (h : okR r) {k : Nat} (hk : k ≤ rsize r) : rfl1 (cutR r k) = (rfl1 r).take k := by
  obtain ⟨h1, h2, h3⟩ := h
  unfold cutR
  by_cases ht : r.text = []
  · rw [if_neg (by simpa using ht)]
    simp only [rfl1, ht, ne_eq, not_true_eq_false, if_false, Int.toNat_natCast]
    rw [← List.map_take, List.take_range]
    congr 2
    unfold rsize at hk
    rw [ht] at hk
    simp at hk
    omega
  · rw [if_pos ht, rfl1_fresh]
    simp only [rfl1, ne_eq, ht, not_false_eq_true, if_true, negL, List.map_take]
theorem rfl1_rest {r : Rn} (h : okR r) {k : Nat} (hk : k < rsize r) : rfl1 (restR r k) = (rfl1 r).drop k ∧ okR (restR r k) := by
  obtain ⟨h1, h2, h3⟩ := h
  unfold restR
  by_cases ht : r.text = []
  · rw [if_neg (by simpa using ht)]
    unfold rsize at hk
    rw [ht] at hk
    simp at hk
    refine ⟨?_, by simp only; omega, by simp only; omega, .inl rfl⟩
    simp only [rfl1, ht, ne_eq, not_true_eq_false, if_false]
    rw [← List.map_drop]
    apply List.ext_getElem
    · simp <;> omega
    · intro i g1 g2
      simp at g1 g2 ⊢
      omega
  · rw [if_pos ht]
    have hl : r.long = 0 := by rcases h3 with h3 | h3; exact absurd h3 ht; exact h3
    refine ⟨?_, h1, h2, .inr hl⟩
    unfold rsize at hk
    rw [hl] at hk
    simp at hk
    have hd : r.text.drop k ≠ [] := by simp; omega
    simp only [rfl1, ne_eq, ht, hd, not_false_eq_true, if_true, negL, List.map_drop]
theorem take_flow : ∀ (l : List Rn) (n : Nat), (∀ r ∈ l, okR r) → rflow (takeO n l) = (rflow l).take n ∧ rflow (restO n l) = (rflow l).drop n ∧ ∀ r ∈ restO n l, okR r
  | [], n, _ => ⟨by simp [takeO, rflow], by simp [restO, rflow], fun r hr => by simp [restO] at hr⟩
  | r :: l, n, h => by
    have hr := h r (List.mem_cons_self ..)
    have hl := fun x hx => h x (List.mem_cons_of_mem r hx)
    have hf : ∀ (r : Rn) l, rflow (r :: l) = rfl1 r ++ rflow l := fun r l => List.flatMap_cons
    have hlen := rfl1_len hr
    rw [takeO, restO, hf]
    by_cases h0 : n = 0
    · subst h0
      simp only [if_true, List.take_zero, List.drop_zero]
      exact ⟨rfl, hf r l, h⟩
    · rw [if_neg h0, if_neg h0]
      by_cases h1 : n < rsize r
      · rw [if_pos h1, if_pos h1, hf, hf]
        have q := rfl1_rest hr h1
        refine ⟨?_, ?_, ?_⟩
        · rw [rfl1_cut hr (by omega), List.take_append_of_le_length (by omega)]
          simp [rflow]
        · rw [q.1, List.drop_append_of_le_length (by omega)]
        · intro x hx
          rcases List.mem_cons.1 hx with rfl | hx
          · exact q.2
          · exact hl x hx
      · rw [if_neg h1, if_neg h1, hf]
        have ih := take_flow l (n - rsize r) hl
        refine ⟨?_, ?_, ih.2.2⟩
        · rw [rfl1_cut hr (Nat.le_refl _), ih.1, List.take_append, hlen, List.take_of_length_le (l := rfl1 r) (i := rsize r) (by omega), List.take_of_length_le (l := rfl1 r) (i := n) (by omega)]
        · rw [ih.2.1, List.drop_append, hlen, List.drop_of_length_le (l := rfl1 r) (i := n) (by omega), List.nil_append]
end Go.S1N
end
section
set_option linter.unusedVariables false
set_option linter.unusedSimpArgs false
namespace Go.S1N
open Go Go.Am Go.Proofs Go.S1
set_option maxRecDepth 100000
set_option linter.unusedSimpArgs false

/-! ## a right flow and its edits -/
def okF (n : Nat) : Nat → List (Int × UInt8) → Prop
  | _, [] => True
  | a, p :: F => (p.1 = -1 ∧ okF n a F) ∨ ∃ o : Nat, p = ((o : Int), 0) ∧ a ≤ o ∧ o < n ∧ okF n (o + 1) F

theorem scan_one {n B : Int} {e : Ed} {r : List Ed} (h1 : 0 ≤ e.at_ ∧ e.at_ ≤ n) (h2 : 0 ≤ e.cut ∧ e.cut ≤ n - e.at_) (h3 : ¬ (e.cut = 0 ∧ e.new = [])) (h4 : B < e.at_) : scan n B (e :: r) = scan n (e.at_ + e.cut) r := by
  rw [scan, if_neg (Classical.not_not.2 h1), if_neg (Classical.not_not.2 h2), if_neg h3, if_neg (by omega)]

theorem ed_scan (n : Nat) : ∀ (F : List (Int × UInt8)) (a : Nat) (w : List UInt8) (B : Int), B < a → a ≤ n → okF n a F → scan n B (edGo n a w F) = 0
  | [], a, w, B, hB, ha, _ => by
    rw [edGo, pushE]
    split
    · rename_i h
      rw [scan_one (by simp only; omega) (by simp only; omega) (by
        simp only; rintro ⟨q1, q2⟩
        rcases h with h | h
        · omega
        · exact h q2) (by simp only; omega)]
      rfl
    · rfl
  | p :: F, a, w, B, hB, ha, h => by
    rcases h with ⟨hp, h⟩ | ⟨o, rfl, h1, h2, h3⟩
    · rw [edGo, if_pos (by omega)]
      exact ed_scan n F a _ B hB ha h
    · rw [edGo, if_neg (by simp only; omega)]
      have ih := fun B hB => ed_scan n F (o + 1) [] B hB (by omega) h3
      rw [show (((o + 1 : Nat) : Int)) = (o : Int) + 1 by omega] at ih
      simp only
      rw [pushE]
      split
      · rename_i h
        rw [List.cons_append, List.nil_append, scan_one (by simp only; omega) (by simp only; omega) (by
          simp only; rintro ⟨q1, q2⟩
          rcases h with h | h
          · omega
          · exact h q2) (by simp only; omega)]
        exact ih _ (by simp only; omega)
      · rw [List.nil_append]
        exact ih _ (by omega)

theorem ed_head (n : Nat) : ∀ (F : List (Int × UInt8)) (a : Nat) (w : List UInt8), okF n a F → ∀ e r, edGo n a w F = e :: r → (a : Int) ≤ e.at_
  | [], a, w, _, e, r, he => by
    rw [edGo, pushE] at he
    split at he
    · cases he; exact Int.le_refl _
    · cases he
  | p :: F, a, w, h, e, r, he => by
    rcases h with ⟨hp, h⟩ | ⟨o, rfl, h1, h2, h3⟩
    · rw [edGo, if_pos (by omega)] at he
      exact ed_head n F a _ h e r he
    · rw [edGo, if_neg (by simp only; omega)] at he
      simp only at he
      rw [pushE] at he
      split at he
      · cases he; exact Int.le_refl _
      · rw [List.nil_append, show (o : Int) + 1 = ((o + 1 : Nat) : Int) by omega] at he
        have := ed_head n F (o + 1) [] h3 e r he
        omega

theorem flow_step (n o : Nat) (E : List Ed) (ho : o < n) (h : ∀ e r, E = e :: r → ((o + 1 : Nat) : Int) ≤ e.at_) : flowFrom n o E = ((o : Int), 0) :: flowFrom n (o + 1) E := by
  cases E with
  | nil =>
    rw [flowFrom, flowFrom, show n - o = (n - (o + 1)) + 1 by omega, runOf_cons]
  | cons e r =>
    have := h e r rfl
    rw [flowFrom, flowFrom, show e.at_.toNat - o = (e.at_.toNat - (o + 1)) + 1 by omega, runOf_cons]
    rfl

theorem ed_round (n : Nat) : ∀ (F : List (Int × UInt8)) (a : Nat) (w : List UInt8), a ≤ n → okF n a F → flowFrom n a (edGo n a w F) = negL w ++ F
  | [], a, w, ha, _ => by
    rw [edGo, pushE]
    split
    · simp only [flowFrom]
      rw [show ((a : Int) + ((n : Int) - (a : Int))).toNat = n by omega]
      simp [runOf, negL]
    · rename_i h
      have hw : w = [] := by
        apply Classical.byContradiction; intro q; exact h (.inr q)
      have hn : ¬ (a : Int) < n := fun q => h (.inl q)
      subst hw
      rw [flowFrom, show n - a = 0 by omega]; rfl
  | p :: F, a, w, ha, h => by
    rcases h with ⟨hp, h⟩ | ⟨o, rfl, h1, h2, h3⟩
    · rw [edGo, if_pos (by omega), ed_round n F a _ ha h]
      simp only [negL, List.map_append, List.map_cons, List.map_nil, List.append_assoc, List.cons_append, List.nil_append]
      rw [← hp]
    · rw [edGo, if_neg (by simp only; omega)]
      simp only
      have ih := ed_round n F (o + 1) [] (by omega) h3
      have hh := ed_head n F (o + 1) [] h3
      rw [show (((o + 1 : Nat) : Int)) = (o : Int) + 1 by omega] at ih
      have hs := flow_step n o (edGo n ((o : Int) + 1) [] F) h2 (by
        intro e r he
        rw [show (o : Int) + 1 = ((o + 1 : Nat) : Int) by omega] at he
        exact hh e r he)
      rw [pushE]
      split
      · rw [List.cons_append, List.nil_append, flowFrom]
        simp only
        rw [show ((a : Int) + ((o : Int) - (a : Int))).toNat = o by omega, hs, ih]
        simp [runOf, negL]
      · rename_i h
        have hw : w = [] := by
          apply Classical.byContradiction; intro q; exact h (.inr q)
        have hn : ¬ (a : Int) < o := fun q => h (.inl q)
        have hao : a = o := by omega
        subst hw
        rw [List.nil_append, hao, hs, ih]
        rfl

theorem okF_mono {n : Nat} : ∀ {F : List (Int × UInt8)} {a b : Nat}, b ≤ a → okF n a F → okF n b F
  | [], _, _, _, _ => trivial
  | p :: F, a, b, hb, h => by
    rcases h with ⟨hp, h⟩ | ⟨o, hp, h1, h2, h3⟩
    · exact .inl ⟨hp, okF_mono hb h⟩
    · exact .inr ⟨o, hp, by omega, h2, h3⟩
theorem okF_tail {n a : Nat} {p : Int × UInt8} {F : List (Int × UInt8)} (h : okF n a (p :: F)) : okF n a F := by
  rcases h with ⟨hp, h⟩ | ⟨o, hp, h1, h2, h3⟩
  · exact h
  · exact okF_mono (by omega) h3
theorem okF_drop {n a : Nat} : ∀ (k : Nat) {F : List (Int × UInt8)}, okF n a F → okF n a (F.drop k)
  | 0, F, h => h
  | k + 1, [], h => h
  | k + 1, p :: F, h => okF_drop k (okF_tail h)

theorem ok_run {n : Nat} {F : List (Int × UInt8)} : ∀ (k a : Nat), a + k ≤ n → okF n (a + k) F → okF n a (runOf a k ++ F)
  | 0, a, _, h => h
  | k + 1, a, hk, h => by
    rw [runOf_cons, List.cons_append]
    exact .inr ⟨a, rfl, Nat.le_refl _, by omega, ok_run k (a + 1) (by omega) (by rwa [show a + 1 + k = a + (k + 1) by omega])⟩
theorem ok_neg {n a : Nat} {F : List (Int × UInt8)} (h : okF n a F) : ∀ w : List UInt8, okF n a (negL w ++ F)
  | [] => h
  | c :: w => .inl ⟨rfl, ok_neg h w⟩
theorem ok_flow (n : Nat) : ∀ (l : List Ed) (a : Nat) (B : Int), (B = a ∨ (B = -1 ∧ a = 0)) → a ≤ n → scan n B l = 0 → okF n a (flowFrom n a l)
  | [], a, B, _, ha, _ => by
    have := ok_run (n := n) (F := []) (n - a) a (by omega) trivial
    rwa [List.append_nil] at this
  | e :: r, a, B, hB, ha, hs => by
    obtain ⟨c1, c2, c3, c4, c5, c6⟩ := scan_cons hs
    have ih := ok_flow n r (e.at_ + e.cut).toNat (e.at_ + e.cut) (.inl (by omega)) (by omega) c6
    rw [flowFrom, List.append_assoc]
    refine ok_run _ _ (by omega) (ok_neg (okF_mono (by omega) ih) e.new)

theorem ok_over (n : Nat) (F : List (Int × UInt8)) : ∀ (G : List (Int × UInt8)) (b c : Nat), okF F.length b G → okF n c (F.drop b) → okF n c (overF F G)
  | [], _, _, _, _ => trivial
  | p :: G, b, c, hG, hF => by
    rcases hG with ⟨hp, hG⟩ | ⟨o, rfl, h1, h2, h3⟩
    · have : overL F p = p := by rw [overL, if_neg (by omega)]
      rw [overF, List.map_cons, this]
      exact .inl ⟨hp, ok_over n F G b c hG hF⟩
    · have hd : okF n c (F.drop o) := by
        have := okF_drop (o - b) hF
        rwa [List.drop_drop, show b + (o - b) = o by omega] at this
      rw [List.drop_eq_getElem_cons h2] at hd
      have hv : overL F ((o : Int), 0) = F[o] := by
        rw [overL, if_pos (by simp only; omega)]
        simp [List.getD_eq_getElem?_getD, h2]
      rw [overF, List.map_cons, hv]
      rcases hd with ⟨hp, hd⟩ | ⟨q, hp, q1, q2, q3⟩
      · exact .inl ⟨hp, ok_over n F G (o + 1) c h3 hd⟩
      · exact .inr ⟨q, hp, q1, q2, ok_over n F G (o + 1) (q + 1) h3 q3⟩

/-- what two changes make is a change, and its flow is the one over the other -/
theorem over_right (n : Nat) (a b : List Ed) (ha : scan n (-1) a = 0) (hb : scan (flowFrom n 0 a).length (-1) b = 0) :
    scan n (-1) (edGo n 0 [] (overF (flowFrom n 0 a) (flowFrom (flowFrom n 0 a).length 0 b))) = 0 ∧
    flowFrom n 0 (edGo n 0 [] (overF (flowFrom n 0 a) (flowFrom (flowFrom n 0 a).length 0 b))) = overF (flowFrom n 0 a) (flowFrom (flowFrom n 0 a).length 0 b) := by
  have h1 := ok_flow n a 0 (-1) (.inr ⟨rfl, rfl⟩) (by omega) ha
  have h2 := ok_flow (flowFrom n 0 a).length b 0 (-1) (.inr ⟨rfl, rfl⟩) (by omega) hb
  have h3 := ok_over n (flowFrom n 0 a) _ 0 0 h2 h1
  refine ⟨ed_scan n _ 0 [] (-1) (by omega) (by omega) h3, ?_⟩
  have := ed_round n _ 0 [] (by omega) h3
  exact this
end Go.S1N
end
section
set_option linter.unusedVariables false
set_option linter.unusedSimpArgs false
namespace Go.S1N
open Go Go.Am Go.Proofs Go.S1
set_option maxRecDepth 100000
set_option linter.unusedSimpArgs false

/-! ## FoldOf: what it says -/
def chkF : Nat → List (List Ed) → Int
  | _, [] => 0
  | m, c :: r => if faultOf m c ≠ 0 then faultOf m c else chkF (flowFrom m 0 c).length r
def foldR (n : Nat) : List Ed → List (List Ed) → List Ed × Int
  | out, [] => (out, 0)
  | out, c :: r => if (thenVal n out c).2 ≠ 0 then ([], (thenVal n out c).2) else foldR n (thenVal n out c).1 r
/-- hgref2.FoldOf -/
def foldVal (n : Nat) (l : List (List Ed)) : List Ed × Int := if 20000 < n then ([], 1) else if chkF n l ≠ 0 then ([], chkF n l) else foldR n [] l

theorem push_new {a to : Int} {w : List UInt8} {e : Ed} (h : e ∈ pushE a w to) : e.new.length = w.length := by
  rw [pushE] at h
  split at h
  · rw [List.mem_singleton.1 h]
  · cases h
theorem ed_new (n : Int) : ∀ (F : List (Int × UInt8)) (a : Int) (w : List UInt8), ∀ e ∈ edGo n a w F, e.new.length ≤ w.length + F.length
  | [], a, w, e, h => by rw [edGo] at h; rw [push_new h]; exact Nat.le_add_right _ _
  | p :: F, a, w, e, h => by
    rw [edGo] at h
    split at h
    · have := ed_new n F a _ e h
      simp only [List.length_append, List.length_cons, List.length_nil] at this ⊢
      omega
    · rcases List.mem_append.1 h with h | h
      · rw [push_new h]; exact Nat.le_add_right _ _
      · have := ed_new n F _ _ e h
        simp only [List.length_nil, List.length_cons] at this ⊢
        omega

theorem faultOf_long {n : Int} {l : List Ed} (h : faultOf n l = 0) : longOf n l ≤ 20000 := by
  rw [faultOf] at h
  split at h
  · cases h
  · split at h
    · cases h
    · split at h
      · rename_i h3; exact absurd h h3
      · split at h
        · cases h
        · omega
theorem flow_short {n : Nat} {l : List Ed} (h : faultOf n l = 0) (hnew : ∀ e ∈ l, e.new.length ≤ 100000) : (flowFrom n 0 l).length ≤ 20000 ∧ longOf n l = (flowFrom n 0 l).length := by
  obtain ⟨h0, h1, h2, hs⟩ := faultOf_zero h
  have q1 := flow_dl n l 0 (-1) (.inr ⟨rfl, rfl⟩) (by omega) hs
  have q2 := long_dl l n (fun e he => ⟨hnew e he, by have := scan_range l _ hs e he; omega⟩) (by omega) (by omega)
  have q3 := faultOf_long h
  omega
/-- what ThenOf hands over is a right change again -/
theorem then_right {n : Nat} {a b : List Ed} (hnb : ∀ e ∈ b, e.new.length ≤ 100000) (h : (thenVal n a b).2 = 0) :
    faultOf n a = 0 ∧ faultOf (flowFrom n 0 a).length b = 0 ∧ (thenVal n a b).1 = edGo n 0 [] (overF (flowFrom n 0 a) (flowFrom (flowFrom n 0 a).length 0 b)) ∧ (thenVal n a b).1.length ≤ 2000 ∧ ∀ e ∈ (thenVal n a b).1, e.new.length ≤ 20000 := by
  unfold thenVal at h ⊢
  split at h
  · rename_i q; exact absurd h q
  · rename_i q1
    split at h
    · rename_i q; exact absurd h q
    · rename_i q2
      split at h
      · cases h
      · rename_i q3
        have c := Classical.not_not.1 q1
        have d := Classical.not_not.1 q2
        rw [if_neg q1, if_neg q2, if_neg q3]
        refine ⟨c, d, rfl, by simp only; omega, fun e he => ?_⟩
        have := ed_new n _ 0 [] e he
        have hs := (flow_short d hnb).1
        simp only [overF, List.length_map, List.length_nil] at this
        omega
end Go.S1N
end
section
set_option linter.unusedVariables false
set_option linter.unusedSimpArgs false
namespace Go.S1N
open Go Go.Am Go.Proofs Go.S1
set_option maxRecDepth 100000
set_option linter.unusedSimpArgs false
attribute [local irreducible] lopsB lvb lstepB lfunG lcondB lguardB ldrawB ldrunB ldstepB ldguardB lmem lval ldmem ldval ldfun lexit ldloadB ldlenB lpostB athen ablock

/-- a list of changes as a value -/
def edsv (l : List (List Ed)) : AV := fsv 1 (l.map edv)
theorem edsv_len (l : List (List Ed)) : alen tab 60 (edsv l) = some (.int .i64 l.length) := by rw [edsv, len60f, List.length_map]
theorem edsv_at {l : List (List Ed)} {j : Nat} {c : List Ed} (h : l[j]? = some c) : aindexAddr tab 60 (edsv l) (.int .i64 j) = some (.rptr [edv c]) := by
  have hc : (edv c).cells = [edv c] := by rcases edv_sl c with ⟨f, h⟩ | ⟨h, _⟩ <;> rw [h] <;> rfl
  have hr : (edv c).israw = false := by rcases edv_sl c with ⟨f, h⟩ | ⟨h, _⟩ <;> rw [h] <;> rfl
  have := ix60f (xs := l.map edv) (n := j) (v := edv c) (by omega) (by rw [List.getElem?_map, Int.toNat_natCast, h]; rfl) hr
  rw [hc] at this
  exact this

theorem edsv_pu (l : List (List Ed)) : Pu (edsv l) := pu_fsv (by
  simp only [PuL, lowL_iff]
  intro x hx
  obtain ⟨c, _, rfl⟩ := List.mem_map.1 hx
  exact edv_pu c)
/-- a value that is a list of changes -/
structure IsEds (v : AV) (l : List (List Ed)) : Prop where
  len : alen tab 60 v = some (.int .i64 l.length)
  at_ : ∀ {j : Nat} {c : List Ed}, l[j]? = some c → aindexAddr tab 60 v (.int .i64 j) = some (.rptr [edv c])
  pu : Pu v
theorem edsv_is (l : List (List Ed)) : IsEds (edsv l) l := ⟨edsv_len l, edsv_at, edsv_pu l⟩
theorem eds_is (l : List (List Ed)) : IsEds (.vs 1 false (l.map edv)) l := by
  by_cases h : l = []
  · subst h
    refine ⟨by rw [List.map_nil, len60v]; rfl, fun h => by simp at h, by simp only [List.map_nil, Pu, low, lowL]⟩
  · have : (.vs 1 false (l.map edv) : AV) = edsv l := by rw [edsv, fsv_pos (by simpa using h)]
    rw [this]; exact edsv_is l
theorem ld27r {c : List Ed} {s : AHeap} : aload tab 27 (.rptr [edv c]) s = some (edv c) := by rw [ld27]; rfl

theorem foldOf_ok (n : Nat) (v : AV) (l : List (List Ed)) (hv : IsEds v l) (hl : l.length ≤ 1000) (hnew : ∀ c ∈ l, c.length ≤ 2000 ∧ ∀ e ∈ c, e.new.length ≤ 100000) (s : AHeap) :
    ACall Try.prog 37 [.int .i64 n, v] s fun r t => r = .tuple [edv (foldVal n l).1, .int .i64 (foldVal n l).2] ∧ t = s := by
  refine gob37 (by simp) ?_
  intro tm hlen harg
  have hpu := hv.pu
  simp (config := { contextual := true }) only [go_sem, L37, hlen, harg, lcondB_decide, lcondB_not, lguardB_decide_true, lguardB_decide_false, ldguardB_decide, Nat.reduceLT, Nat.reduceEqDiff, Nat.reduceAdd, Nat.reduceLeDiff, reduceIte, reduceCtorEq]
  refine lfunG_eq (refin_ok n 0 20000 _) ?_
  simp (config := { contextual := true }) only [go_sem, hlen, harg, hv.len, lcondB_decide, lcondB_not, lguardB_decide_true, lguardB_decide_false, ldguardB_decide, Nat.reduceLT, Nat.reduceEqDiff, Nat.reduceAdd, Nat.reduceLeDiff, reduceIte, reduceCtorEq]
  refine ⟨fun hc => ?_, fun hc => ?_⟩
  · refine lexit_pure (.refl s) (by simp only [low, lowL, and_self]) ⟨?_, rfl⟩
    rw [foldVal, if_pos (by omega)]; rfl
  refine ⟨Nat × Nat, fun a => [(0, .int .i64 n), (1, v), (6, .int .i64 a.2), (19, v), (20, .int .i64 l.length), (21, .int .i64 a.1)], fun a => loc s 0 [], fun a => a.1 ≤ l.length ∧ a.2 ≤ 20000 ∧ chkF a.2 (l.drop a.1) = chkF n l, fun a => l.length - a.1, (0, n), ⟨by simp, by simp only; omega, by simp⟩, ?_, ?_⟩
  · refine To.go [] [] rfl (.refl s) (by decide) (by simp) ?_ trivial
    simp (config := { contextual := true }) only [go_sem, hlen, harg, pu_ren hpu, lcondB_decide, lcondB_not, lguardB_decide_true, lguardB_decide_false, ldguardB_decide, Nat.reduceLT, Nat.reduceEqDiff, Nat.reduceAdd, Nat.reduceLeDiff, reduceIte, reduceCtorEq]
    simp
  · rintro ⟨j, m⟩ tm1 ⟨hj, hm, hE⟩ hlen1 hlv
    simp only [go_sem, hlen, lcondB_decide, lcondB_not, lguardB_decide_true, lguardB_decide_false, ldguardB_decide, Nat.reduceLT, Nat.reduceEqDiff, Nat.reduceAdd, Nat.reduceLeDiff, reduceIte, reduceCtorEq] at hlen1 hlv hj hm hE
    simp (config := { contextual := true }) only [go_sem, hlen, hlen1, hlv, hv.len, lcondB_decide, lcondB_not, lguardB_decide_true, lguardB_decide_false, ldguardB_decide, Nat.reduceLT, Nat.reduceEqDiff, Nat.reduceAdd, Nat.reduceLeDiff, reduceIte, reduceCtorEq]
    refine ⟨fun hlt => ?_, fun hge => ?_⟩
    · have hj2 : j < l.length := by omega
      have he := List.getElem?_eq_getElem hj2
      have hmem : l[j] ∈ l := List.getElem_mem hj2
      have hdrop := List.drop_eq_getElem_cons hj2
      generalize l[j] = c at he hmem hdrop
      obtain ⟨hcl, hcn⟩ := hnew c hmem
      rw [hdrop, chkF] at hE
      have hw3 : IntKind.i64.wrap ((j : Int) + 1) = ((j + 1 : Nat) : Int) := by rw [wrap_id (by omega)]; rfl
      simp (config := { contextual := true }) only [go_sem, hlen1, hlv, hv.at_ he, ld27r, lcondB_decide, lcondB_not, lguardB_decide_true, lguardB_decide_false, ldguardB_decide, Nat.reduceLT, Nat.reduceEqDiff, Nat.reduceAdd, Nat.reduceLeDiff, reduceIte, reduceCtorEq]
      refine lfunG_eq (exact_of (by simp only [Pu, low]) (fault_ok m _ c (edv_sl c) (by omega) _)) ?_
      simp (config := { contextual := true }) only [go_sem, hlen1, hlv, lcondB_decide, lcondB_not, lguardB_decide_true, lguardB_decide_false, ldguardB_decide, Nat.reduceLT, Nat.reduceEqDiff, Nat.reduceAdd, Nat.reduceLeDiff, reduceIte, reduceCtorEq]
      refine ⟨fun hf => ?_, fun hf => ?_⟩
      · rw [if_pos hf] at hE
        refine lexit_pure (.refl s) (by simp only [low, lowL, and_self]) ⟨?_, rfl⟩
        rw [foldVal, if_neg (by omega), if_pos (by rw [← hE]; exact hf), ← hE]; rfl
      · have hf : faultOf m c = 0 := by simpa using hf
        rw [if_neg (by simpa using hf)] at hE
        obtain ⟨_, _, _, hsc⟩ := faultOf_zero hf
        have hsh := (flow_short hf hcn).1
        refine lfunG_eq (lengthOf_ok m _ c (edv_sl c) hcl hm hcn hsc _) ?_
        simp (config := { contextual := true }) only [go_sem, hlen1, hlv, hw3, lcondB_decide, lcondB_not, lguardB_decide_true, lguardB_decide_false, ldguardB_decide, Nat.reduceLT, Nat.reduceEqDiff, Nat.reduceAdd, Nat.reduceLeDiff, reduceIte, reduceCtorEq]
        refine ⟨(j + 1, (flowFrom m 0 c).length), ⟨by simp only; omega, hsh, hE⟩, by simp only; omega, ?_⟩
        refine To.go [] [] rfl (.refl s) (by decide) (by simp) ?_ trivial
        simp (config := { contextual := true }) only [go_sem, hlen1, hlv, pu_ren hpu, lcondB_decide, lcondB_not, lguardB_decide_true, lguardB_decide_false, ldguardB_decide, Nat.reduceLT, Nat.reduceEqDiff, Nat.reduceAdd, Nat.reduceLeDiff, reduceIte, reduceCtorEq]
    · have hj2 : j = l.length := by omega
      rw [hj2, List.drop_length, chkF] at hE
      have hval : foldVal n l = foldR n [] l := by rw [foldVal, if_neg (by omega), if_neg (by rw [← hE]; simp)]
      rw [hval]
      refine ⟨Nat × List Ed, fun a => [(0, .int .i64 n), (10, edv a.2), (35, v), (36, .int .i64 l.length), (37, .int .i64 a.1)], fun a => loc s 0 [], fun a => a.1 ≤ l.length ∧ a.2.length ≤ 2000 ∧ (∀ e ∈ a.2, e.new.length ≤ 100000) ∧ foldR n a.2 (l.drop a.1) = foldR n [] l, fun a => l.length - a.1, (0, []), ⟨by simp, by simp, by simp, by simp⟩, ?_, ?_⟩
      · refine To.go [] [] rfl (.refl s) (by decide) (by simp) ?_ trivial
        simp (config := { contextual := true }) only [go_sem, hlen1, hlv, pu_ren hpu, lcondB_decide, lcondB_not, lguardB_decide_true, lguardB_decide_false, ldguardB_decide, Nat.reduceLT, Nat.reduceEqDiff, Nat.reduceAdd, Nat.reduceLeDiff, reduceIte, reduceCtorEq]
        exact ⟨rfl, rfl⟩
      · rintro ⟨i, out⟩ tm2 ⟨hi, ho, hon, hR⟩ hlen2 hlv2
        simp only [go_sem, hlen1, lcondB_decide, lcondB_not, lguardB_decide_true, lguardB_decide_false, ldguardB_decide, Nat.reduceLT, Nat.reduceEqDiff, Nat.reduceAdd, Nat.reduceLeDiff, reduceIte, reduceCtorEq] at hlen2 hlv2 hi ho hon hR
        simp (config := { contextual := true }) only [go_sem, hlen2, hlv2, lcondB_decide, lcondB_not, lguardB_decide_true, lguardB_decide_false, ldguardB_decide, Nat.reduceLT, Nat.reduceEqDiff, Nat.reduceAdd, Nat.reduceLeDiff, reduceIte, reduceCtorEq]
        refine ⟨fun hlt => ?_, fun hge => ?_⟩
        · have hi2 : i < l.length := by omega
          have he := List.getElem?_eq_getElem hi2
          have hmem : l[i] ∈ l := List.getElem_mem hi2
          have hdrop := List.drop_eq_getElem_cons hi2
          generalize l[i] = c at he hmem hdrop
          obtain ⟨hcl, hcn⟩ := hnew c hmem
          rw [hdrop, foldR] at hR
          have hw3 : IntKind.i64.wrap ((i : Int) + 1) = ((i + 1 : Nat) : Int) := by rw [wrap_id (by omega)]; rfl
          simp (config := { contextual := true }) only [go_sem, hlen2, hlv2, hv.at_ he, ld27r, lcondB_decide, lcondB_not, lguardB_decide_true, lguardB_decide_false, ldguardB_decide, Nat.reduceLT, Nat.reduceEqDiff, Nat.reduceAdd, Nat.reduceLeDiff, reduceIte, reduceCtorEq]
          refine lfunG_eq (thenOf_ok n _ _ out c (edv_sl out) (edv_sl c) (by omega) (by omega) hon hcn (by omega) _) ?_
          simp (config := { contextual := true }) only [go_sem, hlen2, hlv2, hw3, lcondB_decide, lcondB_not, lguardB_decide_true, lguardB_decide_false, ldguardB_decide, Nat.reduceLT, Nat.reduceEqDiff, Nat.reduceAdd, Nat.reduceLeDiff, reduceIte, reduceCtorEq]
          refine ⟨fun hf => ?_, fun hf => ?_⟩
          · rw [if_pos hf] at hR
            refine lexit_pure (.refl s) (by simp only [low, lowL, and_self]) ⟨?_, rfl⟩
            rw [← hR]; rfl
          · have hf : (thenVal n out c).2 = 0 := by simpa using hf
            rw [if_neg (by simpa using hf)] at hR
            obtain ⟨_, _, _, q1, q2⟩ := then_right hcn hf
            refine ⟨hlen1.symm, (i + 1, (thenVal n out c).1), ⟨by simp only; omega, q1, fun e he => by have := q2 e he; omega, hR⟩, by simp only; omega, ?_⟩
            refine To.go [] [] rfl (.refl s) (by decide) (by simp) ?_ trivial
            simp (config := { contextual := true }) only [go_sem, hlen2, hlv2, pu_ren hpu, pu_ren (edv_pu _), lcondB_decide, lcondB_not, lguardB_decide_true, lguardB_decide_false, ldguardB_decide, Nat.reduceLT, Nat.reduceEqDiff, Nat.reduceAdd, Nat.reduceLeDiff, reduceIte, reduceCtorEq]
        · have hi2 : i = l.length := by omega
          rw [hi2, List.drop_length, foldR] at hR
          refine lexit_pure (.refl s) (by simp only [low, lowL, and_self, and_true]; exact low.mono (Nat.zero_le _) (edv_pu _)) ⟨?_, rfl⟩
          rw [← hR]
end Go.S1N
end
section
set_option linter.unusedVariables false
set_option linter.unusedSimpArgs false
namespace Go.S1N
open Go Go.Am Go.Proofs Go.S1
set_option maxRecDepth 100000
set_option linter.unusedSimpArgs false
attribute [local irreducible] lopsB lvb lstepB lfunG lcondB lguardB ldrawB ldrunB ldstepB ldguardB lmem lval ldmem ldval ldfun lexit ldloadB ldlenB lpostB athen ablock

theorem runs_own (n : Int) (v : AV) (l : List Ed) (hv : SlE v l) (hl : l.length ≤ 2000) (hn0 : 0 ≤ n) (hn : n ≤ 20000) (hsc : scan n (-1) l = 0) (s : AHeap) :
    ACall Try.prog 73 [.int .i64 n, v] s fun r t => r = .rs 3 (nm s.nx 0) 0 (runsFrom n 0 l).length ∧ t = loc s 1 [(0, some (.cells (rnc (runsFrom n 0 l)) (some 111)))] := by
  refine gob73 (by simp) ?_
  intro tm hlen harg
  simp (config := { contextual := true }) only [go_sem, L73, hlen, harg, hv.len, lcondB_decide, lcondB_not, lguardB_decide_true, lguardB_decide_false, ldguardB_decide, Nat.reduceLT, Nat.reduceEqDiff, Nat.reduceAdd, Nat.reduceLeDiff, reduceIte, reduceCtorEq]
  refine ⟨Nat × Int × Int × List Rn, fun a => [(0, .int .i64 n), (5, gsv 3 (nm s.nx 0) a.2.2.2.length), (6, .int .i64 a.2.1), (9, v), (10, .int .i64 l.length), (11, .int .i64 a.1)],
    fun a => loc s 1 [(0, gso 111 (rnc a.2.2.2))], fun a => a.1 ≤ l.length ∧ a.2.2.2.length ≤ 2 * a.1 ∧ 0 ≤ a.2.1 ∧ a.2.1 ≤ n ∧ (a.2.2.1 = a.2.1 ∨ (a.2.2.1 = -1 ∧ a.2.1 = 0)) ∧ scan n a.2.2.1 (l.drop a.1) = 0 ∧ a.2.2.2 ++ runsFrom n a.2.1 (l.drop a.1) = runsFrom n 0 l,
    fun a => l.length - a.1, (0, 0, -1, []), ⟨by simp, by simp, by simp, hn0, by simp, by simpa using hsc, by simp⟩, ?_, ?_⟩
  · refine To.go [9] [(0, none)] (by simp only [rnc, List.map_nil, List.flatMap_nil, gso_nil]; rfl) (.refl s) (by decide) (by simp) ?_ ?_
    · simp (config := { contextual := true }) only [go_sem, hlen, harg, hv.pu, pu_ren hv.pu, List.length_nil, gsv_zero, lcondB_decide, lcondB_not, lguardB_decide_true, lguardB_decide_false, ldguardB_decide, Nat.reduceLT, Nat.reduceEqDiff, Nat.reduceAdd, Nat.reduceLeDiff, reduceIte, reduceCtorEq]
      simp
    · simp only [go_sem, lcondB_decide, lcondB_not, lguardB_decide_true, lguardB_decide_false, ldguardB_decide, Nat.reduceLT, Nat.reduceEqDiff, Nat.reduceAdd, Nat.reduceLeDiff, reduceIte, reduceCtorEq]
  · rintro ⟨i, a, B, R⟩ tm1 ⟨hi, hR, ha0, ha, hB, hs, hL⟩ hlen1 hlv
    simp only [go_sem, hlen, lcondB_decide, lcondB_not, lguardB_decide_true, lguardB_decide_false, ldguardB_decide, Nat.reduceLT, Nat.reduceEqDiff, Nat.reduceAdd, Nat.reduceLeDiff, reduceIte, reduceCtorEq] at hlen1 hlv hi hR ha0 ha hB hs hL
    simp (config := { contextual := true }) only [go_sem, hlen, hlen1, hlv, lcondB_decide, lcondB_not, lguardB_decide_true, lguardB_decide_false, ldguardB_decide, Nat.reduceLT, Nat.reduceEqDiff, Nat.reduceAdd, Nat.reduceLeDiff, reduceIte, reduceCtorEq]
    refine ⟨fun hlt => ?_, fun hge => ?_⟩
    · have hi2 : i < l.length := by omega
      have he := List.getElem?_eq_getElem hi2
      have hdrop := List.drop_eq_getElem_cons hi2
      generalize l[i] = e at he hdrop
      rw [hdrop] at hs hL
      obtain ⟨c1, c2, c3, c4, c5, c6⟩ := scan_cons hs
      have hw1 : IntKind.i64.wrap (e.at_ - a) = e.at_ - a := wrap_id (by omega)
      have hw2 : IntKind.i64.wrap (e.at_ + e.cut) = e.at_ + e.cut := wrap_id (by omega)
      have hw3 : IntKind.i64.wrap ((i : Int) + 1) = ((i + 1 : Nat) : Int) := by rw [wrap_id (by omega)]; rfl
      simp (config := { contextual := true }) only [go_sem, hlen, hlen1, hlv, hv.at he, lcondB_decide, lcondB_not, lguardB_decide_true, lguardB_decide_false, ldguardB_decide, Nat.reduceLT, Nat.reduceEqDiff, Nat.reduceAdd, Nat.reduceLeDiff, reduceIte, reduceCtorEq]
      refine ldrawB_go [] [] 11 (by decide) ?_
      simp (config := { contextual := true }) only [go_sem, hlen1, hlv, hw1, lcondB_decide, lcondB_not, lguardB_decide_true, lguardB_decide_false, ldguardB_decide, Nat.reduceLT, Nat.reduceEqDiff, Nat.reduceAdd, Nat.reduceLeDiff, reduceIte, reduceCtorEq]
      refine ldfun_pure _ (kept_ok _ _) ?_
      simp (config := { contextual := true }) only [go_sem, hlen1, hlv, lcondB_decide, lcondB_not, lguardB_decide_true, lguardB_decide_false, ldguardB_decide, Nat.reduceLT, Nat.reduceEqDiff, Nat.reduceAdd, Nat.reduceLeDiff, reduceIte, reduceCtorEq]
      refine ldfun_pure _ (fresh_ok _) ?_
      simp (config := { contextual := true }) only [go_sem, hlen1, hlv, Rn.enc, lcondB_decide, lcondB_not, lguardB_decide_true, lguardB_decide_false, ldguardB_decide, Nat.reduceLT, Nat.reduceEqDiff, Nat.reduceAdd, Nat.reduceLeDiff, reduceIte, reduceCtorEq]
      refine ⟨by kernel_rfl, ?_⟩
      refine lmem_eq (app108 (acellsOf_rs (by simp only [go_sem, lcondB_decide, lcondB_not, lguardB_decide_true, lguardB_decide_false, ldguardB_decide, Nat.reduceLT, Nat.reduceEqDiff, Nat.reduceAdd, Nat.reduceLeDiff, reduceIte, reduceCtorEq]; rfl) (by rfl) rfl) (by decide) (by simp only [go_sem, lcondB_decide, lcondB_not, lguardB_decide_true, lguardB_decide_false, ldguardB_decide, Nat.reduceLT, Nat.reduceEqDiff, Nat.reduceAdd, Nat.reduceLeDiff, reduceIte, reduceCtorEq]) (by simp only [go_sem, lcondB_decide, lcondB_not, lguardB_decide_true, lguardB_decide_false, ldguardB_decide, Nat.reduceLT, Nat.reduceEqDiff, Nat.reduceAdd, Nat.reduceLeDiff, reduceIte, reduceCtorEq]) (rnc_len R) (by omega) rfl) ?_
      simp (config := { contextual := true }) only [go_sem, hlen1, hlv, hw2, hw3, lcondB_decide, lcondB_not, lguardB_decide_true, lguardB_decide_false, ldguardB_decide, Nat.reduceLT, Nat.reduceEqDiff, Nat.reduceAdd, Nat.reduceLeDiff, reduceIte, reduceCtorEq]
      refine ⟨(i + 1, e.at_ + e.cut, e.at_ + e.cut, R ++ [⟨a, e.at_ - a, []⟩, ⟨0, 0, e.new⟩]), ⟨by simp only; omega, by simp only [List.length_append, List.length_cons, List.length_nil]; omega, by simp only; omega, by simp only; omega, .inl rfl, c6, ?_⟩, by simp only; omega, ?_⟩
      · rw [← hL]
        simp only [runsFrom, List.append_assoc, List.cons_append, List.nil_append]
      · refine To.go [14] [(0, gso 111 (rnc (R ++ [⟨a, e.at_ - a, []⟩, ⟨0, 0, e.new⟩])))] rfl (.refl s) (by decide) (by simp) ?_ ?_
        · simp (config := { contextual := true }) only [go_sem, hlen1, hlv, pu_ren hv.pu, List.length_append, gsv_pos (Nat.succ_ne_zero (R.length + 1)), lcondB_decide, lcondB_not, lguardB_decide_true, lguardB_decide_false, ldguardB_decide, Nat.reduceLT, Nat.reduceEqDiff, Nat.reduceAdd, Nat.reduceLeDiff, reduceIte, reduceCtorEq]
        · simp only [go_sem, map_gso_pu (rnc_pul _), lcondB_decide, lcondB_not, lguardB_decide_true, lguardB_decide_false, ldguardB_decide, Nat.reduceLT, Nat.reduceEqDiff, Nat.reduceAdd, Nat.reduceLeDiff, reduceIte, reduceCtorEq]
          rw [show R ++ [⟨a, e.at_ - a, []⟩, ⟨0, 0, e.new⟩] = (R ++ [⟨a, e.at_ - a, []⟩]) ++ [⟨0, 0, e.new⟩] from by simp, rnc_snoc, rnc_snoc, List.append_assoc]
          exact (gso_pos (by simp)).symm
    · have hi2 : i = l.length := by omega
      have hw1 : IntKind.i64.wrap (n - a) = n - a := wrap_id (by omega)
      rw [hi2, List.drop_length, runsFrom] at hL
      simp (config := { contextual := true }) only [go_sem, hlen1, hlv, hw1, lcondB_decide, lcondB_not, lguardB_decide_true, lguardB_decide_false, ldguardB_decide, Nat.reduceLT, Nat.reduceEqDiff, Nat.reduceAdd, Nat.reduceLeDiff, reduceIte, reduceCtorEq]
      refine lfunG_eq (kept_ok _ _ _) ?_
      simp (config := { contextual := true }) only [go_sem, hlen1, hlv, Rn.enc, lcondB_decide, lcondB_not, lguardB_decide_true, lguardB_decide_false, ldguardB_decide, Nat.reduceLT, Nat.reduceEqDiff, Nat.reduceAdd, Nat.reduceLeDiff, reduceIte, reduceCtorEq]
      refine lmem_eq (app108 (acellsOf_rs (by simp only [go_sem, lcondB_decide, lcondB_not, lguardB_decide_true, lguardB_decide_false, ldguardB_decide, Nat.reduceLT, Nat.reduceEqDiff, Nat.reduceAdd, Nat.reduceLeDiff, reduceIte, reduceCtorEq]; rfl) (by rfl) rfl) (by decide) (by simp only [go_sem, lcondB_decide, lcondB_not, lguardB_decide_true, lguardB_decide_false, ldguardB_decide, Nat.reduceLT, Nat.reduceEqDiff, Nat.reduceAdd, Nat.reduceLeDiff, reduceIte, reduceCtorEq]) (by simp only [go_sem, lcondB_decide, lcondB_not, lguardB_decide_true, lguardB_decide_false, ldguardB_decide, Nat.reduceLT, Nat.reduceEqDiff, Nat.reduceAdd, Nat.reduceLeDiff, reduceIte, reduceCtorEq]) (rnc_len R) (by omega) rfl) ?_
      simp (config := { contextual := true }) only [go_sem, hlen1, hlv, lcondB_decide, lcondB_not, lguardB_decide_true, lguardB_decide_false, ldguardB_decide, Nat.reduceLT, Nat.reduceEqDiff, Nat.reduceAdd, Nat.reduceLeDiff, reduceIte, reduceCtorEq]
      refine lexit_ren [2] (.refl s) (by decide) (v' := .rs 3 (nm s.nx 0) 0 (runsFrom n 0 l).length) (l' := [(0, some (.cells (rnc (runsFrom n 0 l)) (some 111)))]) ?_ ?_ ⟨rfl, rfl⟩
      · simp only [go_sem, lcondB_decide, lcondB_not, lguardB_decide_true, lguardB_decide_false, ldguardB_decide, Nat.reduceLT, Nat.reduceEqDiff, Nat.reduceAdd, Nat.reduceLeDiff, reduceIte, reduceCtorEq]
        rw [← hL, List.length_append]; rfl
      · simp only [go_sem, pul_ren (rnc_pul _), lcondB_decide, lcondB_not, lguardB_decide_true, lguardB_decide_false, ldguardB_decide, Nat.reduceLT, Nat.reduceEqDiff, Nat.reduceAdd, Nat.reduceLeDiff, reduceIte, reduceCtorEq]
        rw [← hL, rnc_snoc]

theorem loc_loc0 {s : AHeap} {n : Nat} {l : List (Nat × Option AObj)} : loc (loc s 0 []) n l = loc s n l := by
  have h2 : ∀ b, b < s.nx → (loc s 0 []).get b = s.get b := fun b hb => get_loc_out hb
  show AHeap.mk ((loc s 0 []).nx + n) true .nil (fun b => if b < (loc s 0 []).nx then (loc s 0 []).get b else lget l (b - (loc s 0 []).nx)) = AHeap.mk (s.nx + n) true .nil (fun b => if b < s.nx then s.get b else lget l (b - s.nx))
  congr 1
  funext b
  show (if b < s.nx then (loc s 0 []).get b else lget l (b - s.nx)) = if b < s.nx then s.get b else lget l (b - s.nx)
  by_cases hb : b < s.nx
  · rw [if_pos hb, if_pos hb, h2 b hb]
  · rw [if_neg hb, if_neg hb]
theorem runs_own' (n : Int) (v : AV) (l : List Ed) (hv : SlE v l) (hl : l.length ≤ 2000) (hn0 : 0 ≤ n) (hn : n ≤ 20000) (hsc : scan n (-1) l = 0) (s : AHeap) :
    ACall Try.prog 73 [.int .i64 n, v] (loc s 0 []) fun r t => r = .rs 3 (nm s.nx 0) 0 (runsFrom n 0 l).length ∧ t = loc s 1 [(0, some (.cells (rnc (runsFrom n 0 l)) (some 111)))] := by
  refine (runs_own n v l hv hl hn0 hn hsc (loc s 0 [])).mono ?_
  rintro r t ⟨rfl, rfl⟩
  exact ⟨rfl, loc_loc0⟩

/-! ## the runs that are empty -/
def Rn.emp (r : Rn) : Prop := r.long = 0 ∧ r.text = []
instance (r : Rn) : Decidable r.emp := inferInstanceAs (Decidable (_ ∧ _))
theorem emp_ok (r : Rn) (s : AHeap) : ACall Try.prog 123 [Rn.enc r] s fun v t => v = .bool (decide r.emp) ∧ t = s := by
  refine gob123 (by simp) ?_
  intro tm hlen harg
  simp (config := { contextual := true }) only [go_sem, L123, hlen, harg, Rn.enc, lcondB_decide, lcondB_not, lguardB_decide_true, lguardB_decide_false, ldguardB_decide, Nat.reduceLT, Nat.reduceEqDiff, Nat.reduceAdd, Nat.reduceLeDiff, reduceIte, reduceCtorEq]
  refine ⟨fun h => ?_, fun h => ?_⟩
  · exact lexit_pure (.refl s) (by simp only [low]) ⟨by simp only [Rn.emp, h, true_and], rfl⟩
  · exact lexit_pure (.refl s) (by simp only [low]) ⟨by simp only [Rn.emp, h, false_and, decide_false], rfl⟩

/-! ## runs in a block -/
theorem rnc_cons (r : Rn) (l : List Rn) : rnc (r :: l) = .int .i64 r.at_ :: .int .i64 r.long :: .str r.text :: rnc l := rfl
theorem rnc_app (a b : List Rn) : rnc (a ++ b) = rnc a ++ rnc b := by simp [rnc]
theorem rnc_drop : ∀ (j : Nat) (l : List Rn), (rnc l).drop (j * 3) = rnc (l.drop j)
  | 0, l => by simp
  | j + 1, [] => by simp [rnc]
  | j + 1, r :: l => by
    rw [rnc_cons, show (j + 1) * 3 = j * 3 + 1 + 1 + 1 by omega, List.drop_succ_cons, List.drop_succ_cons, List.drop_succ_cons, List.drop_succ_cons]
    exact rnc_drop j l

theorem index_ok {s : AHeap} {b : Nat} {L : List Rn} (hb : s.get b = some (.cells (rnc L) (some 111))) (hlt : b < s.nx) (hL : L.length ≤ 1000000000) :
    ACall Try.prog 151 [.rs 3 b 0 L.length, .func (.func 123) [] []] s fun r t => ((r = .int .i64 (-1) ∧ ∀ x ∈ L, ¬ x.emp) ∨ ∃ k : Nat, r = .int .i64 k ∧ k < L.length ∧ (∀ x ∈ L.take k, ¬ x.emp) ∧ ∃ x, L[k]? = some x ∧ x.emp) ∧ t = s := by
  refine gob151 (by simp) ?_
  intro tm hlen harg
  simp (config := { contextual := true }) only [go_sem, L151, hlen, harg, lcondB_decide, lcondB_not, lguardB_decide_true, lguardB_decide_false, ldguardB_decide, Nat.reduceLT, Nat.reduceEqDiff, Nat.reduceAdd, Nat.reduceLeDiff, reduceIte, reduceCtorEq]
  refine ⟨Nat, fun j => [(0, .rs 3 b 0 L.length), (1, .func (.func 123) [] []), (7, .int .i64 L.length), (8, .int .i64 j)], fun j => loc s 0 [], fun j => j ≤ L.length ∧ ∀ x ∈ L.take j, ¬ x.emp, fun j => L.length - j, 0, by simp, ?_, ?_⟩
  · refine To.go [] [] rfl (.refl s) (by decide) (by simp) ?_ trivial
    simp (config := { contextual := true }) only [go_sem, hlen, harg, rnm_low hlt, lcondB_decide, lcondB_not, lguardB_decide_true, lguardB_decide_false, ldguardB_decide, Nat.reduceLT, Nat.reduceEqDiff, Nat.reduceAdd, Nat.reduceLeDiff, reduceIte, reduceCtorEq]
    simp
  · rintro j tm1 ⟨hj, hx⟩ hlen1 hlv
    simp only [go_sem, hlen, lcondB_decide, lcondB_not, lguardB_decide_true, lguardB_decide_false, ldguardB_decide, Nat.reduceLT, Nat.reduceEqDiff, Nat.reduceAdd, Nat.reduceLeDiff, reduceIte, reduceCtorEq] at hlen1 hlv
    simp (config := { contextual := true }) only [go_sem, hlen, hlen1, hlv, lcondB_decide, lcondB_not, lguardB_decide_true, lguardB_decide_false, ldguardB_decide, Nat.reduceLT, Nat.reduceEqDiff, Nat.reduceAdd, Nat.reduceLeDiff, reduceIte, reduceCtorEq]
    refine ⟨fun hl => ?_, fun hge => ?_⟩
    · have hj2 : j < L.length := by omega
      have he := List.getElem?_eq_getElem hj2
      have hdrop := List.drop_eq_getElem_cons hj2
      generalize L[j] = r at he hdrop
      have hd : (rnc L).drop (j * 3) = .int .i64 r.at_ :: .int .i64 r.long :: .str r.text :: rnc (L.drop (j + 1)) := by rw [rnc_drop, hdrop, rnc_cons]
      have hw3 : IntKind.i64.wrap ((j : Int) + 1) = ((j + 1 : Nat) : Int) := by rw [wrap_id (by omega)]; rfl
      have hix : aindexAddr tab 108 (.rs 3 b 0 L.length) (.int .i64 j) = some (.ptr b (j * 3)) := by
        have := ix108r (b := b) (o := 0) (m := L.length) (n := j) (by omega) (by omega)
        simpa using this
      simp (config := { contextual := true }) only [go_sem, hlen1, hlv, hix, hb, hlt, hd, lcondB_decide, lcondB_not, lguardB_decide_true, lguardB_decide_false, ldguardB_decide, Nat.reduceLT, Nat.reduceEqDiff, Nat.reduceAdd, Nat.reduceLeDiff, reduceIte, reduceCtorEq]
      refine lfunG_eq (emp_ok r _) ?_
      simp (config := { contextual := true }) only [go_sem, hlen1, hlv, hw3, lcondB_decide, lcondB_not, lguardB_decide_true, lguardB_decide_false, ldguardB_decide, Nat.reduceLT, Nat.reduceEqDiff, Nat.reduceAdd, Nat.reduceLeDiff, reduceIte, reduceCtorEq]
      refine ⟨fun hemp => ?_, fun hemp => ?_⟩
      · exact lexit_pure (.refl s) (by simp only [low]) ⟨.inr ⟨j, rfl, hj2, hx, r, he, hemp⟩, rfl⟩
      · refine ⟨j + 1, ⟨by omega, ?_⟩, by omega, ?_⟩
        · intro x hm
          rw [List.take_add_one, he] at hm
          rcases List.mem_append.1 hm with q | q
          · exact hx x q
          · have : x = r := by simpa using q
            rw [this]; exact hemp
        · refine To.go [] [] rfl (.refl s) (by decide) (by simp) ?_ trivial
          simp (config := { contextual := true }) only [go_sem, hlen1, hlv, rnm_low hlt, lcondB_decide, lcondB_not, lguardB_decide_true, lguardB_decide_false, ldguardB_decide, Nat.reduceLT, Nat.reduceEqDiff, Nat.reduceAdd, Nat.reduceLeDiff, reduceIte, reduceCtorEq]
    · have hj2 : j = L.length := by omega
      rw [hj2, List.take_length] at hx
      exact lexit_pure (.refl s) (by simp only [low]) ⟨.inl ⟨rfl, hx⟩, rfl⟩
/-- a block with runs from a place on -/
structure LB (C : List AV) (off : Nat) (R : List Rn) : Prop where
  pu : PuL C
  rest : ∃ J, C.drop off = rnc R ++ J

theorem LB.head {C : List AV} {off : Nat} {r : Rn} {R : List Rn} (h : LB C off (r :: R)) : ∃ T, C.drop off = .int .i64 r.at_ :: .int .i64 r.long :: .str r.text :: T := by
  obtain ⟨J, hJ⟩ := h.rest
  exact ⟨rnc R ++ J, by rw [hJ, rnc_cons]; rfl⟩
theorem LB.le {C : List AV} {off : Nat} {r : Rn} {R : List Rn} (h : LB C off (r :: R)) : off + 3 ≤ C.length := by
  obtain ⟨T, hT⟩ := h.head
  have := congrArg List.length hT
  simp only [List.length_drop, List.length_cons] at this
  omega
theorem LB.tail {C : List AV} {off : Nat} {r : Rn} {R : List Rn} (h : LB C off (r :: R)) : LB C (off + 3) R := by
  obtain ⟨J, hJ⟩ := h.rest
  refine ⟨h.pu, J, ?_⟩
  rw [show off + 3 = off + 3 from rfl, ← List.drop_drop, hJ, rnc_cons]
  rfl
theorem pul_set {C : List AV} (h : PuL C) (i : Nat) {v : AV} (hv : low 0 v) : PuL (C.set i v) := by
  unfold PuL at *
  rw [lowL_iff] at *
  intro x hx
  rcases List.mem_or_eq_of_mem_set hx with q | rfl
  · exact h x q
  · exact hv
theorem drop_set_at {C : List AV} (off k : Nat) (v : AV) : (C.set (off + k) v).drop off = (C.drop off).set k v := by
  rw [List.drop_set, if_neg (by omega), Nat.add_sub_cancel_left]
theorem LB.text {C : List AV} {off : Nat} {r : Rn} {R : List Rn} (h : LB C off (r :: R)) (x : List UInt8) : LB (C.set (off + 2) (.str x)) off (⟨r.at_, r.long, x⟩ :: R) := by
  obtain ⟨J, hJ⟩ := h.rest
  refine ⟨pul_set h.pu _ (by simp only [low]), J, ?_⟩
  rw [drop_set_at, hJ, rnc_cons, rnc_cons]
  rfl
theorem LB.set {C : List AV} {off : Nat} {r : Rn} {R : List Rn} (h : LB C off (r :: R)) (a b : Int) (x : List UInt8) : LB (((C.set off (.int .i64 a)).set (off + 1) (.int .i64 b)).set (off + 1 + 1) (.str x)) off (⟨a, b, x⟩ :: R) := by
  obtain ⟨J, hJ⟩ := h.rest
  refine ⟨pul_set (pul_set (pul_set h.pu _ (by simp only [low])) _ (by simp only [low])) _ (by simp only [low]), J, ?_⟩
  rw [show off + 1 + 1 = off + 2 from rfl, drop_set_at, drop_set_at, show C.set off (.int .i64 a) = C.set (off + 0) (.int .i64 a) from rfl, drop_set_at, hJ, rnc_cons, rnc_cons]
  rfl

end Go.S1N
end
section
set_option linter.unusedVariables false
set_option linter.unusedSimpArgs false
namespace Go.S1N
open Go Go.Am Go.Proofs Go.S1
set_option maxRecDepth 100000
set_option linter.unusedSimpArgs false
attribute [local irreducible] lopsB lvb lstepB lfunG lcondB lguardB ldrawB ldrunB ldstepB ldguardB lmem lval ldmem ldval ldfun lexit ldloadB ldlenB lpostB athen ablock

theorem splice_take : ∀ (vs c : List AV) (off : Nat), (splice c off vs).take off = c.take off
  | [], c, off => rfl
  | v :: vs, c, off => by
    rw [splice]
    have ih := splice_take vs (c.set off v) (off + 1)
    have := congrArg (List.take off) ih
    rw [List.take_take, List.take_take, Nat.min_eq_left (by omega)] at this
    rw [this, List.take_set_of_le (Nat.le_refl _)]
theorem splice_pul : ∀ (vs c : List AV) (off : Nat), PuL c → PuL vs → PuL (splice c off vs)
  | [], c, off, h, _ => h
  | v :: vs, c, off, h, hv => by
    rw [splice]
    simp only [PuL, lowL] at hv
    exact splice_pul vs _ _ (pul_set h _ hv.1) hv.2

theorem set3 {D : List AV} {i : Nat} (h : i + 3 ≤ D.length) (a b c : AV) : ((D.set i a).set (i + 1) b).set (i + 1 + 1) c = D.take i ++ a :: b :: c :: D.drop (i + 3) := by
  obtain ⟨X, y0, y1, y2, Z, rfl, rfl⟩ : ∃ X y0 y1 y2 Z, D = X ++ y0 :: y1 :: y2 :: Z ∧ i = X.length := by
    have h1 := List.take_append_drop i D
    have hl : (D.drop i).length = D.length - i := List.length_drop ..
    match hd : D.drop i with
    | [] => rw [hd] at hl; simp at hl; omega
    | [_] => rw [hd] at hl; simp at hl; omega
    | [_, _] => rw [hd] at hl; simp at hl; omega
    | y0 :: y1 :: y2 :: Z => exact ⟨D.take i, y0, y1, y2, Z, by rw [← hd, h1], by rw [List.length_take]; omega⟩
  simp [List.set_append]
  rw [if_neg (by omega), show X.length + 1 + 1 - X.length = 2 by omega]; rfl

theorem sl108_lo {b m i : Nat} (h : i ≤ m) : aslice tab 108 (.rs 3 b 0 m) (some (.int .i64 i)) none none = some (.rs 3 b (i * 3) (m - i)) := by
  simp [aslice, ty108, Tab.size, ty111, abounds, aidx, h]
theorem sl108_hi {b m i : Nat} (h : i ≤ m) : aslice tab 108 (.rs 3 b 0 m) none (some (.int .i64 i)) none = some (.rs 3 b 0 i) := by
  simp [aslice, ty108, Tab.size, ty111, abounds, aidx, h]
theorem clear108 {s : AHeap} {n k i m : Nat} {l : List (Nat × Option AObj)} {D : List AV} (hl : lget l k = some (.cells D (some 111))) (h : i * 3 + m * 3 ≤ D.length) (hm : m ≠ 0) :
    lclear tab 108 (.rs 3 (nm s.nx k) (i * 3) m) (loc s n l) = some (.tuple [], loc s n (lput l k (.cells (splice D (i * 3) (List.replicate m [.int .i64 0, .int .i64 0, .str []]).flatten) (some 111)))) := by
  simp only [lclear, ty108, aclear, ty111]
  have hz : (AV.ofV (Value.agg #[Value.int IntKind.i64 0, Value.int IntKind.i64 0, Value.string { data := #[] }])).cells = [.int .i64 0, .int .i64 0, .str []] := rfl
  rw [if_neg (by decide), if_neg hm, get_loc_nm, hl]
  simp only [AObj.cells?, hz]
  rw [if_pos ⟨trivial, h, rfl⟩, upd_loc_nm]

def live (L : List Rn) : List Rn := L.filter fun x => !decide x.emp

theorem del_ok {s : AHeap} {L : List Rn} (hL : L.length ≤ 1000000000) : ACall Try.prog 122 [.rs 3 (nm s.nx 0) 0 L.length, .func (.func 123) [] []] (loc s 1 [(0, some (.cells (rnc L) (some 111)))])
    fun r t => ∃ C, LB C 0 (live L) ∧ r = .rs 3 (nm s.nx 0) 0 (live L).length ∧ t = loc s 1 [(0, some (.cells C (some 111)))] := by
  refine gob122 (by simp) ?_
  intro tm hlen harg
  rw [loc_flat (by intro j hj; simp only [lget]; rw [if_neg (by omega)])]
  simp (config := { contextual := true }) only [go_sem, L122, hlen, harg, lcondB_decide, lcondB_not, lguardB_decide_true, lguardB_decide_false, ldguardB_decide, Nat.reduceLT, Nat.reduceEqDiff, Nat.reduceAdd, Nat.reduceLeDiff, reduceIte, reduceCtorEq]
  refine lfunG_of (index_ok (L := L) (by simp only [go_sem, lcondB_decide, lcondB_not, lguardB_decide_true, lguardB_decide_false, ldguardB_decide, Nat.reduceLT, Nat.reduceEqDiff, Nat.reduceAdd, Nat.reduceLeDiff, reduceIte, reduceCtorEq]) (by simp only [go_sem, lcondB_decide, lcondB_not, lguardB_decide_true, lguardB_decide_false, ldguardB_decide, Nat.reduceLT, Nat.reduceEqDiff, Nat.reduceAdd, Nat.reduceLeDiff, reduceIte, reduceCtorEq]) hL) ?_
  rintro v t ⟨⟨rfl, hno⟩ | ⟨k, rfl, hk, hno, x, hx, hemp⟩, rfl⟩
  · simp (config := { contextual := true }) only [go_sem, hlen, harg, lcondB_decide, lcondB_not, lguardB_decide_true, lguardB_decide_false, ldguardB_decide, Nat.reduceLT, Nat.reduceEqDiff, Nat.reduceAdd, Nat.reduceLeDiff, reduceIte, reduceCtorEq]
    have hf : live L = L := List.filter_eq_self.2 fun x hx => by simp [hno x hx]
    refine lexit_now ⟨rnc L, ⟨rnc_pul L, [], by rw [hf]; simp⟩, by rw [hf], rfl⟩
  · have hw1 : IntKind.i64.wrap ((k : Int) + 1) = ((k + 1 : Nat) : Int) := by rw [wrap_id (by omega)]; rfl
    simp (config := { contextual := true }) only [go_sem, hlen, harg, hw1, lcondB_decide, lcondB_not, lguardB_decide_true, lguardB_decide_false, ldguardB_decide, Nat.reduceLT, Nat.reduceEqDiff, Nat.reduceAdd, Nat.reduceLeDiff, reduceIte, reduceCtorEq]
    have hxs := List.drop_eq_getElem_cons hk
    rw [List.getElem?_eq_getElem hk] at hx
    cases hx
    have hlive : L.take k ++ (L.drop (k + 1)).filter (fun x => !decide x.emp) = live L := by
      unfold live
      have hft : (L.take k).filter (fun x => !decide x.emp) = L.take k := List.filter_eq_self.2 fun x hx => by simp [hno x hx]
      conv => rhs; rw [← List.take_append_drop k L, hxs, List.filter_append, List.filter_cons]
      rw [if_neg (by simp [hemp]), hft]
    have hwi : IntKind.i64.wrap ((k : Int)) = (k : Int) := wrap_id (by omega)
    refine ⟨Nat × List Rn × List AV, fun a => [(0, .rs 3 (nm s.nx 0) 0 L.length), (1, .func (.func 123) [] []), (5, .int .i64 a.2.1.length), (6, .int .i64 a.1)], fun a => loc s 1 [(0, some (.cells a.2.2 (some 111)))],
      fun a => a.1 ≤ L.length ∧ a.2.1.length < a.1 ∧ a.2.1 ++ (L.drop a.1).filter (fun x => !decide x.emp) = live L ∧ a.2.2.length = L.length * 3 ∧ a.2.2.take (a.2.1.length * 3) = rnc a.2.1 ∧ a.2.2.drop (a.1 * 3) = rnc (L.drop a.1) ∧ PuL a.2.2,
      fun a => L.length - a.1, (k + 1, L.take k, rnc L), ⟨by simp only; omega, by simp only [List.length_take]; omega, hlive, rnc_len L, ?_, rnc_drop _ _, rnc_pul L⟩, ?_, ?_⟩
    · simp only [List.length_take, Nat.min_eq_left (Nat.le_of_lt hk)]
      conv => lhs; rw [← List.take_append_drop k L, rnc_app]
      rw [List.take_append_of_le_length (by rw [rnc_len, List.length_take]; omega), List.take_of_length_le (by rw [rnc_len, List.length_take]; omega)]
    · refine To.goK [0] _ rfl rfl (.refl s) (by decide) (by decide) (by simp) ?_ ?_
      · simp (config := { contextual := true }) only [go_sem, hlen, harg, List.length_take, Nat.min_eq_left (Nat.le_of_lt hk), lcondB_decide, lcondB_not, lguardB_decide_true, lguardB_decide_false, ldguardB_decide, Nat.reduceLT, Nat.reduceEqDiff, Nat.reduceAdd, Nat.reduceLeDiff, reduceIte, reduceCtorEq]
      · simp only [go_sem, pul_ren (rnc_pul _), lcondB_decide, lcondB_not, lguardB_decide_true, lguardB_decide_false, ldguardB_decide, Nat.reduceLT, Nat.reduceEqDiff, Nat.reduceAdd, Nat.reduceLeDiff, reduceIte, reduceCtorEq]
    · rintro ⟨j, F, D⟩ tm1 ⟨hj, hF, hl, hDl, hDt, hDd, hDp⟩ hlen1 hlv
      simp only [go_sem, hlen, lcondB_decide, lcondB_not, lguardB_decide_true, lguardB_decide_false, ldguardB_decide, Nat.reduceLT, Nat.reduceEqDiff, Nat.reduceAdd, Nat.reduceLeDiff, reduceIte, reduceCtorEq] at hlen1 hlv hj hF hl hDl hDt hDd hDp
      simp (config := { contextual := true }) only [go_sem, hlen, hlen1, hlv, lcondB_decide, lcondB_not, lguardB_decide_true, lguardB_decide_false, ldguardB_decide, Nat.reduceLT, Nat.reduceEqDiff, Nat.reduceAdd, Nat.reduceLeDiff, reduceIte, reduceCtorEq]
      refine ⟨fun hlt => ?_, fun hge => ?_⟩
      · have hj2 : j < L.length := by omega
        have he := List.getElem?_eq_getElem hj2
        have hdrop := List.drop_eq_getElem_cons hj2
        generalize L[j] = r at he hdrop
        rw [hdrop] at hl hDd
        have hd : D.drop (j * 3) = .int .i64 r.at_ :: .int .i64 r.long :: .str r.text :: rnc (L.drop (j + 1)) := by rw [hDd, rnc_cons]
        have hd1 : D.drop ((j + 1) * 3) = rnc (L.drop (j + 1)) := by
          rw [show (j + 1) * 3 = j * 3 + 3 by omega, ← List.drop_drop, hd]; rfl
        have hw3 : IntKind.i64.wrap ((j : Int) + 1) = ((j + 1 : Nat) : Int) := by rw [wrap_id (by omega)]; rfl
        have hw4 : IntKind.i64.wrap ((F.length : Int) + 1) = ((F.length + 1 : Nat) : Int) := by rw [wrap_id (by omega)]; rfl
        have hix : ∀ i : Nat, i < L.length → aindexAddr tab 108 (.rs 3 (nm s.nx 0) 0 L.length) (.int .i64 i) = some (.ptr (nm s.nx 0) (i * 3)) := by
          intro i hi
          have := ix108r (b := nm s.nx 0) (o := 0) (m := L.length) (n := i) (by omega) (by omega)
          simpa using this
        simp (config := { contextual := true }) only [go_sem, hlen1, hlv, hix j hj2, hd, lcondB_decide, lcondB_not, lguardB_decide_true, lguardB_decide_false, ldguardB_decide, Nat.reduceLT, Nat.reduceEqDiff, Nat.reduceAdd, Nat.reduceLeDiff, reduceIte, reduceCtorEq]
        refine lfunG_eq (emp_ok r _) ?_
        simp (config := { contextual := true }) only [go_sem, hlen1, hlv, hw3, hw4, hix F.length (by omega), show F.length * 3 + 3 ≤ D.length by omega, lcondB_decide, lcondB_not, lguardB_decide_true, lguardB_decide_false, ldguardB_decide, Nat.reduceLT, Nat.reduceEqDiff, Nat.reduceAdd, Nat.reduceLeDiff, reduceIte, reduceCtorEq]
        refine ⟨fun hemp => ?_, fun hemp => ?_⟩
        · obtain ⟨D', hD', g1, g2, g3, g4⟩ : ∃ D', ((D.set (F.length * 3) (.int .i64 r.at_)).set (F.length * 3 + 1) (.int .i64 r.long)).set (F.length * 3 + 1 + 1) (.str r.text) = D' ∧ D'.length = L.length * 3 ∧
              D'.take ((F ++ [r]).length * 3) = rnc (F ++ [r]) ∧ D'.drop ((j + 1) * 3) = rnc (L.drop (j + 1)) ∧ PuL D' := by
            refine ⟨_, rfl, ?_, ?_, ?_, ?_⟩
            · simp only [List.length_set, hDl]
            · rw [set3 (by omega), hDt, rnc_snoc, show ∀ a b c Z, rnc F ++ a :: b :: c :: Z = (rnc F ++ [a, b, c]) ++ Z from fun a b c Z => by simp, List.take_left' (by simp [rnc_len]; omega)]
            · rw [List.drop_set, if_pos (by omega), List.drop_set, if_pos (by omega), List.drop_set, if_pos (by omega), hd1]
            · exact pul_set (pul_set (pul_set hDp _ (by simp only [low])) _ (by simp only [low])) _ (by simp only [low])
          rw [hD']
          refine ⟨(j + 1, F ++ [r], D'), ⟨by simp only; omega, by simp only [List.length_append, List.length_singleton]; omega, ?_, g1, g2, g3, g4⟩, by simp only; omega, ?_⟩
          · rw [← hl, List.filter_cons, if_pos (by simp [hemp])]
            simp
          · refine To.goK [0] [(0, some (.cells D' (some 111)))] rfl rfl (.refl s) (by decide) (by decide) (by simp) ?_ ?_
            · simp (config := { contextual := true }) only [go_sem, hlen1, hlv, List.length_append, lcondB_decide, lcondB_not, lguardB_decide_true, lguardB_decide_false, ldguardB_decide, Nat.reduceLT, Nat.reduceEqDiff, Nat.reduceAdd, Nat.reduceLeDiff, reduceIte, reduceCtorEq]
            · simp only [go_sem, pul_ren g4, lcondB_decide, lcondB_not, lguardB_decide_true, lguardB_decide_false, ldguardB_decide, Nat.reduceLT, Nat.reduceEqDiff, Nat.reduceAdd, Nat.reduceLeDiff, reduceIte, reduceCtorEq]
        · refine ⟨(j + 1, F, D), ⟨by simp only; omega, by simp only; omega, ?_, hDl, hDt, hd1, hDp⟩, by simp only; omega, ?_⟩
          · rw [← hl, List.filter_cons, if_neg (by simp [hemp])]
          · refine To.goK [0] [(0, some (.cells D (some 111)))] rfl rfl (.refl s) (by decide) (by decide) (by simp) ?_ ?_
            · simp (config := { contextual := true }) only [go_sem, hlen1, hlv, lcondB_decide, lcondB_not, lguardB_decide_true, lguardB_decide_false, ldguardB_decide, Nat.reduceLT, Nat.reduceEqDiff, Nat.reduceAdd, Nat.reduceLeDiff, reduceIte, reduceCtorEq]
            · simp only [go_sem, pul_ren hDp, lcondB_decide, lcondB_not, lguardB_decide_true, lguardB_decide_false, ldguardB_decide, Nat.reduceLT, Nat.reduceEqDiff, Nat.reduceAdd, Nat.reduceLeDiff, reduceIte, reduceCtorEq]
      · have hj2 : j = L.length := by omega
        rw [hj2, List.drop_length, List.filter_nil, List.append_nil] at hl
        simp (config := { contextual := true }) only [go_sem, hlen1, hlv, sl108_lo (show F.length ≤ L.length by omega), lcondB_decide, lcondB_not, lguardB_decide_true, lguardB_decide_false, ldguardB_decide, Nat.reduceLT, Nat.reduceEqDiff, Nat.reduceAdd, Nat.reduceLeDiff, reduceIte, reduceCtorEq]
        refine lmem_eq (clear108 (l := [(0, some (.cells D (some 111)))]) rfl (by omega) (by omega)) ?_
        simp (config := { contextual := true }) only [go_sem, hlen1, hlv, sl108_hi (show F.length ≤ L.length by omega), lcondB_decide, lcondB_not, lguardB_decide_true, lguardB_decide_false, ldguardB_decide, Nat.reduceLT, Nat.reduceEqDiff, Nat.reduceAdd, Nat.reduceLeDiff, reduceIte, reduceCtorEq]
        refine lexit_now ⟨_, ⟨splice_pul _ _ _ hDp ?_, (splice D (F.length * 3) (List.replicate (L.length - F.length) [AV.int IntKind.i64 0, AV.int IntKind.i64 0, AV.str []]).flatten).drop (F.length * 3), ?_⟩, by rw [← hl], rfl⟩
        · unfold PuL
          rw [lowL_iff]
          intro x hx
          obtain ⟨y, hy, hx⟩ := List.mem_flatten.1 hx
          rw [(List.mem_replicate.1 hy).2] at hx
          simp only [List.mem_cons, List.not_mem_nil, or_false] at hx
          rcases hx with rfl | rfl | rfl <;> simp only [low]
        · rw [List.drop_zero, ← hl, ← hDt, ← splice_take (List.replicate (L.length - F.length) [AV.int IntKind.i64 0, AV.int IntKind.i64 0, AV.str []]).flatten, List.take_append_drop]
end Go.S1N
end
section
set_option linter.unusedVariables false
set_option linter.unusedSimpArgs false
namespace Go.S1N
open Go Go.Am Go.Proofs Go.S1
set_option maxRecDepth 100000
set_option linter.unusedSimpArgs false
attribute [local irreducible] lopsB lvb lstepB lfunG lcondB lguardB ldrawB ldrunB ldstepB ldguardB lmem lval ldmem ldval ldfun lexit ldloadB ldlenB lpostB athen ablock

theorem ix108z {b o m : Nat} : aindexAddr tab 108 (.rs 3 b o (m + 1)) (.int .i64 0) = some (.ptr b o) := by
  rw [ix108r (by omega) (by omega)]; rfl
theorem sl108_1 {b o m : Nat} : aslice tab 108 (.rs 3 b o (m + 1)) (some (.int .i64 1)) none none = some (.rs 3 b (o + 3) m) := by
  simp [aslice, ty108, Tab.size, ty111, abounds, aidx, show (1 : Int) ≤ (m : Int) + 1 by omega]

/-- bytes of runs -/
def tot : List Rn → Nat
  | [] => 0
  | r :: R => rsize r + tot R
/-- a run as it should be, within bounds -/
structure RB (r : Rn) : Prop where
  ok : okR r
  pos : 0 < rsize r
  lo : 0 ≤ r.at_
  hi : r.at_ + r.long ≤ 1000000000

theorem takeO_cons {n : Nat} {r : Rn} {R : List Rn} (h0 : n ≠ 0) (h : rsize r ≤ n) : takeO n (r :: R) = cutR r (rsize r) :: takeO (n - rsize r) R := by rw [takeO, if_neg h0, if_neg (by omega)]
theorem restO_cons {n : Nat} {r : Rn} {R : List Rn} (h0 : n ≠ 0) (h : rsize r ≤ n) : restO n (r :: R) = restO (n - rsize r) R := by rw [restO, if_neg h0, if_neg (by omega)]
theorem takeO_lt {n : Nat} {r : Rn} {R : List Rn} (h0 : n ≠ 0) (h : n < rsize r) : takeO n (r :: R) = [cutR r n] := by rw [takeO, if_neg h0, if_pos h]
theorem restO_lt {n : Nat} {r : Rn} {R : List Rn} (h0 : n ≠ 0) (h : n < rsize r) : restO n (r :: R) = restR r n :: R := by rw [restO, if_neg h0, if_pos h]
theorem takeO_zero (R : List Rn) : takeO 0 R = [] := by cases R <;> simp [takeO]
theorem restO_zero (R : List Rn) : restO 0 R = R := by cases R <;> simp [restO]

theorem RB.rest {r : Rn} (h : RB r) {m : Nat} (hm : m < rsize r) : RB (restR r m) := by
  obtain ⟨⟨a1, a2, a3⟩, a4, a5, a6⟩ := h
  refine ⟨(rfl1_rest ⟨a1, a2, a3⟩ hm).2, ?_, ?_, ?_⟩
  · unfold restR
    split
    · rename_i ht
      unfold rsize at hm ⊢
      rcases a3 with a3 | a3
      · exact absurd a3 ht
      · simp only [List.length_drop]; omega
    · rename_i ht
      have ht : r.text = [] := by simpa using ht
      unfold rsize at hm ⊢
      rw [ht] at hm
      simp at hm ⊢
      omega
  · unfold restR; split <;> simp only <;> omega
  · unfold restR; split <;> simp only <;> omega
theorem RB.restL {r : Rn} {R : List Rn} (h : ∀ x ∈ r :: R, RB x) {m : Nat} (hm : m < rsize r) {r' : Rn} (hr : restR r m = r') : ∀ x ∈ r' :: R, RB x := by
  intro x hx
  rcases List.mem_cons.1 hx with rfl | hx
  · rw [← hr]; exact (h r (List.mem_cons_self ..)).rest hm
  · exact h x (List.mem_cons_of_mem _ hx)

/-- taken.take, when what is taken is not kept -/
theorem drop_ok {s : AHeap} (n : Nat) (C : List AV) (off : Nat) (R O : List Rn) (o3 : Option AObj) (h3 : ∀ f, o3.map (renO f) = o3) (hC : LB C off R) (hR : ∀ r ∈ R, RB r) (hn : n ≤ tot R) (hn2 : n ≤ 1000000000) :
    ACall Try.prog 124 [.ptr (nm s.nx 0) 0, .int .i64 n, .bool false] (loc s 4 [(0, some (.cells [.rs 3 (nm s.nx 1) off R.length, gsv 3 (nm s.nx 2) O.length] (some 179))), (1, some (.cells C (some 111))), (2, gso 111 (rnc O)), (3, o3)])
      fun v t => v = .tuple [] ∧ ∃ C' off', LB C' off' (restO n R) ∧ t = loc s 4 [(0, some (.cells [.rs 3 (nm s.nx 1) off' (restO n R).length, gsv 3 (nm s.nx 2) O.length] (some 179))), (1, some (.cells C' (some 111))), (2, gso 111 (rnc O)), (3, o3)] := by
  refine gob124 (by simp) ?_
  intro tm hlen harg
  rw [loc_flat (by intro j hj; simp only [lget]; rw [if_neg (by omega), if_neg (by omega), if_neg (by omega), if_neg (by omega)])]
  simp (config := { contextual := true }) only [go_sem, L124, hlen, harg, lcondB_decide, lcondB_not, lguardB_decide_true, lguardB_decide_false, ldguardB_decide, Nat.reduceLT, Nat.reduceEqDiff, Nat.reduceAdd, Nat.reduceLeDiff, reduceIte, reduceCtorEq]
  refine ⟨Nat × List AV × Nat × List Rn, fun a => [(0, .ptr (nm s.nx 0) 0), (1, .int .i64 a.1), (2, .bool false)],
    fun a => loc s 4 [(0, some (.cells [.rs 3 (nm s.nx 1) a.2.2.1 a.2.2.2.length, gsv 3 (nm s.nx 2) O.length] (some 179))), (1, some (.cells a.2.1 (some 111))), (2, gso 111 (rnc O)), (3, o3)],
    fun a => a.1 ≤ n ∧ a.1 ≤ tot a.2.2.2 ∧ LB a.2.1 a.2.2.1 a.2.2.2 ∧ (∀ r ∈ a.2.2.2, RB r) ∧ restO a.1 a.2.2.2 = restO n R, fun a => a.1, (n, C, off, R), ⟨Nat.le_refl _, hn, hC, hR, rfl⟩, ?_, ?_⟩
  · refine To.goK [0, 1, 2, 3] _ rfl rfl (.refl s) (by decide) (by decide) (by simp) ?_ ?_
    · simp (config := { contextual := true }) only [go_sem, hlen, harg, lcondB_decide, lcondB_not, lguardB_decide_true, lguardB_decide_false, ldguardB_decide, Nat.reduceLT, Nat.reduceEqDiff, Nat.reduceAdd, Nat.reduceLeDiff, reduceIte, reduceCtorEq]
    · simp only [go_sem, map_gso_pu (rnc_pul _), pul_ren hC.pu, h3, lcondB_decide, lcondB_not, lguardB_decide_true, lguardB_decide_false, ldguardB_decide, Nat.reduceLT, Nat.reduceEqDiff, Nat.reduceAdd, Nat.reduceLeDiff, reduceIte, reduceCtorEq]
  · rintro ⟨m, D, q, Q⟩ tm1 ⟨hm, hmt, hD, hQ, hE⟩ hlen1 hlv
    simp only [go_sem, hlen, lcondB_decide, lcondB_not, lguardB_decide_true, lguardB_decide_false, ldguardB_decide, Nat.reduceLT, Nat.reduceEqDiff, Nat.reduceAdd, Nat.reduceLeDiff, reduceIte, reduceCtorEq] at hlen1 hlv hm hmt hD hQ hE
    simp (config := { contextual := true }) only [go_sem, hlen, hlen1, hlv, lcondB_decide, lcondB_not, lguardB_decide_true, lguardB_decide_false, ldguardB_decide, Nat.reduceLT, Nat.reduceEqDiff, Nat.reduceAdd, Nat.reduceLeDiff, reduceIte, reduceCtorEq]
    refine ⟨fun hpos => ?_, fun hge => ?_⟩
    · obtain ⟨r, Q', rfl⟩ : ∃ r Q', Q = r :: Q' := by
        cases Q with
        | nil => simp only [tot] at hmt; omega
        | cons r Q' => exact ⟨r, Q', rfl⟩
      obtain ⟨T, hT⟩ := hD.head
      have hle := hD.le
      obtain ⟨⟨a1, a2, a3⟩, a4, a5, a6⟩ := hQ r (List.mem_cons_self ..)
      have hQ' := fun x hx => hQ x (List.mem_cons_of_mem r hx)
      have hmx : (if (r.text.length : Int) > r.long then (r.text.length : Int) else r.long) = (rsize r : Nat) := by unfold rsize; split <;> omega
      have hmn : (if ((rsize r : Nat) : Int) < (m : Int) then ((rsize r : Nat) : Int) else (m : Int)) = ((min m (rsize r) : Nat) : Int) := by split <;> omega
      have hw : IntKind.i64.wrap ((m : Int) - ((min m (rsize r) : Nat) : Int)) = ((m - min m (rsize r) : Nat) : Int) := by rw [wrap_id (by omega)]; omega
      simp (config := { contextual := true }) only [go_sem, hlen1, hlv, ix108z, sl108_1, hT, hmx, hmn, hw, lcondB_decide, lcondB_not, lguardB_decide_true, lguardB_decide_false, ldguardB_decide, Nat.reduceLT, Nat.reduceEqDiff, Nat.reduceAdd, Nat.reduceLeDiff, reduceIte, reduceCtorEq]
      refine ⟨fun h => ?_, fun h => ⟨fun h2 => ?_, fun h2 => ?_⟩⟩
      · have hms : rsize r ≤ m := by omega
        have hw1 : IntKind.i64.wrap ((m : Int) - ((rsize r : Nat) : Int)) = ((m - rsize r : Nat) : Int) := by rw [wrap_id (by omega)]; omega
        refine ⟨(m - rsize r, D, q + 3, Q'), ⟨by simp only; omega, by simp only [tot] at hmt ⊢; omega, hD.tail, hQ', ?_⟩, by simp only; omega, ?_⟩
        · rw [← hE, restO_cons (by omega) hms]
        · refine To.goK [0, 1, 2, 3] _ rfl rfl (.refl s) (by decide) (by decide) (by simp) ?_ ?_
          · simp (config := { contextual := true }) only [go_sem, hlen1, hlv, Nat.min_eq_right hms, hw1, lcondB_decide, lcondB_not, lguardB_decide_true, lguardB_decide_false, ldguardB_decide, Nat.reduceLT, Nat.reduceEqDiff, Nat.reduceAdd, Nat.reduceLeDiff, reduceIte, reduceCtorEq]
          · simp only [go_sem, map_gso_pu (rnc_pul _), pul_ren hD.pu, h3, lcondB_decide, lcondB_not, lguardB_decide_true, lguardB_decide_false, ldguardB_decide, Nat.reduceLT, Nat.reduceEqDiff, Nat.reduceAdd, Nat.reduceLeDiff, reduceIte, reduceCtorEq]
      · have hmr : m < rsize r := by omega
        have hmt2 : m ≤ r.text.length := by unfold rsize at hmr; rcases a3 with a3 | a3; exact absurd a3 h2; omega
        have hmin : min m (rsize r) = m := Nat.min_eq_left (Nat.le_of_lt hmr)
        have hsl : aslice tab 9 (.str r.text) (some (.int .i64 (m : Int))) none none = some (.str (r.text.drop m)) := by rw [slice9a (by omega) (by omega)]; rfl
        have hw0 : IntKind.i64.wrap ((m : Int) - (m : Int)) = ((0 : Nat) : Int) := by rw [wrap_id (by omega)]; omega
        refine ldrawB_go [] [] 8 (by decide) ?_
        simp (config := { contextual := true }) only [go_sem, hlen1, hlv, hmin, hsl, lcondB_decide, lcondB_not, lguardB_decide_true, lguardB_decide_false, ldguardB_decide, Nat.reduceLT, Nat.reduceEqDiff, Nat.reduceAdd, Nat.reduceLeDiff, reduceIte, reduceCtorEq]
        refine ⟨by kernel_rfl, ?_⟩
        simp (config := { contextual := true }) only [go_sem, hlen1, hlv, ix108z, hw0, show q + 2 + 1 ≤ D.length by omega, lcondB_decide, lcondB_not, lguardB_decide_true, lguardB_decide_false, ldguardB_decide, Nat.reduceLT, Nat.reduceEqDiff, Nat.reduceAdd, Nat.reduceLeDiff, reduceIte, reduceCtorEq]
        have hD2 := hD.text (r.text.drop m)
        have hr2 : restR r m = ⟨r.at_, r.long, r.text.drop m⟩ := by rw [restR, if_pos h2]
        rw [restO_lt (by omega) hmr, hr2] at hE
        refine ⟨(0, D.set (q + 2) (.str (r.text.drop m)), q, ⟨r.at_, r.long, r.text.drop m⟩ :: Q'), ⟨by simp only; omega, by simp only; omega, hD2, ?_, by rw [restO_zero]; exact hE⟩, by simp only; omega, ?_⟩
        · exact RB.restL hQ hmr hr2
        · refine To.goK [0, 1, 2, 3] _ rfl rfl (.refl s) (by decide) (by decide) (by simp) ?_ ?_
          · simp (config := { contextual := true }) only [go_sem, hlen1, hlv, lcondB_decide, lcondB_not, lguardB_decide_true, lguardB_decide_false, ldguardB_decide, Nat.reduceLT, Nat.reduceEqDiff, Nat.reduceAdd, Nat.reduceLeDiff, reduceIte, reduceCtorEq]
          · simp only [go_sem, map_gso_pu (rnc_pul _), pul_ren hD2.pu, h3, lcondB_decide, lcondB_not, lguardB_decide_true, lguardB_decide_false, ldguardB_decide, Nat.reduceLT, Nat.reduceEqDiff, Nat.reduceAdd, Nat.reduceLeDiff, reduceIte, reduceCtorEq]
      · have hmr : m < rsize r := by omega
        have hlong : (rsize r : Int) = r.long := by unfold rsize; rw [h2]; simp; omega
        have hmin : min m (rsize r) = m := Nat.min_eq_left (Nat.le_of_lt hmr)
        have hw0 : IntKind.i64.wrap ((m : Int) - (m : Int)) = ((0 : Nat) : Int) := by rw [wrap_id (by omega)]; omega
        have hw1 : IntKind.i64.wrap (r.at_ + (m : Int)) = r.at_ + m := wrap_id (by omega)
        have hw2 : IntKind.i64.wrap (r.long - (m : Int)) = r.long - m := wrap_id (by omega)
        refine ldrawB_go [] [] 13 (by decide) ?_
        simp (config := { contextual := true }) only [go_sem, hlen1, hlv, hmin, hw1, hw2, lcondB_decide, lcondB_not, lguardB_decide_true, lguardB_decide_false, ldguardB_decide, Nat.reduceLT, Nat.reduceEqDiff, Nat.reduceAdd, Nat.reduceLeDiff, reduceIte, reduceCtorEq]
        refine ldfun_pure _ (kept_ok _ _) ?_
        simp (config := { contextual := true }) only [go_sem, hlen1, hlv, Rn.enc, lcondB_decide, lcondB_not, lguardB_decide_true, lguardB_decide_false, ldguardB_decide, Nat.reduceLT, Nat.reduceEqDiff, Nat.reduceAdd, Nat.reduceLeDiff, reduceIte, reduceCtorEq]
        refine ⟨by kernel_rfl, ?_⟩
        simp (config := { contextual := true }) only [go_sem, hlen1, hlv, ix108z, hw0, hle, lcondB_decide, lcondB_not, lguardB_decide_true, lguardB_decide_false, ldguardB_decide, Nat.reduceLT, Nat.reduceEqDiff, Nat.reduceAdd, Nat.reduceLeDiff, reduceIte, reduceCtorEq]
        have hD2 := hD.set (r.at_ + m) (r.long - m) []
        have hr2 : restR r m = ⟨r.at_ + m, r.long - m, []⟩ := by rw [restR, if_neg (by simpa using h2)]
        rw [restO_lt (by omega) hmr, hr2] at hE
        refine ⟨(0, _, q, ⟨r.at_ + m, r.long - m, []⟩ :: Q'), ⟨by simp only; omega, by simp only; omega, hD2, ?_, by rw [restO_zero]; exact hE⟩, by simp only; omega, ?_⟩
        · exact RB.restL hQ hmr hr2
        · refine To.goK [0, 1, 2, 3] _ rfl rfl (.refl s) (by decide) (by decide) (by simp) ?_ ?_
          · simp (config := { contextual := true }) only [go_sem, hlen1, hlv, lcondB_decide, lcondB_not, lguardB_decide_true, lguardB_decide_false, ldguardB_decide, Nat.reduceLT, Nat.reduceEqDiff, Nat.reduceAdd, Nat.reduceLeDiff, reduceIte, reduceCtorEq]
          · simp only [go_sem, map_gso_pu (rnc_pul _), pul_ren hD2.pu, h3, lcondB_decide, lcondB_not, lguardB_decide_true, lguardB_decide_false, ldguardB_decide, Nat.reduceLT, Nat.reduceEqDiff, Nat.reduceAdd, Nat.reduceLeDiff, reduceIte, reduceCtorEq]
    · have hm0 : m = 0 := by omega
      subst hm0
      rw [restO_zero] at hE
      subst hE
      exact lexit_now ⟨rfl, D, q, hD, rfl⟩
end Go.S1N
end
section
set_option linter.unusedVariables false
set_option linter.unusedSimpArgs false
namespace Go.S1N
open Go Go.Am Go.Proofs Go.S1
set_option maxRecDepth 100000
set_option linter.unusedSimpArgs false
attribute [local irreducible] lopsB lvb lstepB lfunG lcondB lguardB ldrawB ldrunB ldstepB ldguardB lmem lval ldmem ldval ldfun lexit ldloadB ldlenB lpostB athen ablock

theorem slice9b {x : List UInt8} {k : Nat} (h : k ≤ x.length) : aslice tab 9 (.str x) none (some (.int .i64 k)) none = some (.str (x.take k)) := by
  have hi : (0 : Int) ≤ (k : Int) ∧ (k : Int) ≤ x.length := by omega
  simp [aslice, ty9, abounds, aidx, h]

set_option maxHeartbeats 1000000 in
/-- taken.take, when what is taken is kept -/
theorem keep_ok {s : AHeap} (n : Nat) (C : List AV) (off : Nat) (R O : List Rn) (o3 : Option AObj) (h3 : ∀ f, o3.map (renO f) = o3) (hC : LB C off R) (hR : ∀ r ∈ R, RB r) (hn : n ≤ tot R) (hO : O.length + n ≤ 1000000000) :
    ACall Try.prog 124 [.ptr (nm s.nx 0) 0, .int .i64 n, .bool true] (loc s 4 [(0, some (.cells [.rs 3 (nm s.nx 1) off R.length, gsv 3 (nm s.nx 2) O.length] (some 179))), (1, some (.cells C (some 111))), (2, gso 111 (rnc O)), (3, o3)])
      fun v t => v = .tuple [] ∧ ∃ C' off' j, (j = 2 ∨ j = 4) ∧ LB C' off' (restO n R) ∧
        t = loc s 5 [(0, some (.cells [.rs 3 (nm s.nx 1) off' (restO n R).length, gsv 3 (nm s.nx j) (O ++ takeO n R).length] (some 179))), (1, some (.cells C' (some 111))), (3, o3), (j, gso 111 (rnc (O ++ takeO n R)))] := by
  refine gob124 (by simp) ?_
  intro tm hlen harg
  rw [loc_flat (by intro j hj; simp only [lget]; rw [if_neg (by omega), if_neg (by omega), if_neg (by omega), if_neg (by omega)])]
  simp (config := { contextual := true }) only [go_sem, L124, hlen, harg, lcondB_decide, lcondB_not, lguardB_decide_true, lguardB_decide_false, ldguardB_decide, Nat.reduceLT, Nat.reduceEqDiff, Nat.reduceAdd, Nat.reduceLeDiff, reduceIte, reduceCtorEq]
  refine ⟨Nat × List AV × Nat × List Rn × List Rn × Nat, fun a => [(0, .ptr (nm s.nx 0) 0), (1, .int .i64 a.1), (2, .bool true)],
    fun a => loc s 5 [(0, some (.cells [.rs 3 (nm s.nx 1) a.2.2.1 a.2.2.2.1.length, gsv 3 (nm s.nx a.2.2.2.2.2) a.2.2.2.2.1.length] (some 179))), (1, some (.cells a.2.1 (some 111))), (3, o3), (a.2.2.2.2.2, gso 111 (rnc a.2.2.2.2.1))],
    fun a => (a.2.2.2.2.2 = 2 ∨ a.2.2.2.2.2 = 4) ∧ a.1 ≤ n ∧ a.1 ≤ tot a.2.2.2.1 ∧ LB a.2.1 a.2.2.1 a.2.2.2.1 ∧ (∀ r ∈ a.2.2.2.1, RB r) ∧ restO a.1 a.2.2.2.1 = restO n R ∧ a.2.2.2.2.1 ++ takeO a.1 a.2.2.2.1 = O ++ takeO n R ∧ a.2.2.2.2.1.length + a.1 ≤ 1000000000, fun a => a.1, (n, C, off, R, O, 2),
    ⟨.inl rfl, Nat.le_refl _, hn, hC, hR, rfl, rfl, hO⟩, ?_, ?_⟩
  · refine To.goK [0, 1, 2, 3, 9] _ rfl rfl (.refl s) (by decide) (by decide) (by simp) ?_ ?_
    · simp (config := { contextual := true }) only [go_sem, hlen, harg, lcondB_decide, lcondB_not, lguardB_decide_true, lguardB_decide_false, ldguardB_decide, Nat.reduceLT, Nat.reduceEqDiff, Nat.reduceAdd, Nat.reduceLeDiff, reduceIte, reduceCtorEq]
    · simp only [go_sem, map_gso_pu (rnc_pul _), pul_ren hC.pu, ren_gsv, h3, lcondB_decide, lcondB_not, lguardB_decide_true, lguardB_decide_false, ldguardB_decide, Nat.reduceLT, Nat.reduceEqDiff, Nat.reduceAdd, Nat.reduceLeDiff, reduceIte, reduceCtorEq]
  · rintro ⟨m, D, q, Q, P, j⟩ tm1 ⟨hj, hm, hmt, hD, hQ, hE, hT, hP⟩ hlen1 hlv
    simp only at hj
    rcases hj with rfl | rfl
    all_goals simp only [go_sem, hlen, lcondB_decide, lcondB_not, lguardB_decide_true, lguardB_decide_false, ldguardB_decide, Nat.reduceLT, Nat.reduceEqDiff, Nat.reduceAdd, Nat.reduceLeDiff, reduceIte, reduceCtorEq] at hlen1 hlv hm hmt hD hQ hE hT hP
    all_goals simp (config := { contextual := true }) only [go_sem, hlen, hlen1, hlv, lcondB_decide, lcondB_not, lguardB_decide_true, lguardB_decide_false, ldguardB_decide, Nat.reduceLT, Nat.reduceEqDiff, Nat.reduceAdd, Nat.reduceLeDiff, reduceIte, reduceCtorEq]
    all_goals
      refine ⟨fun hpos => ?_, fun hge => ?_⟩
      · obtain ⟨r, Q', rfl⟩ : ∃ r Q', Q = r :: Q' := by
          cases Q with
          | nil => simp only [tot] at hmt; omega
          | cons r Q' => exact ⟨r, Q', rfl⟩
        obtain ⟨T, hdT⟩ := hD.head
        have hle := hD.le
        obtain ⟨⟨a1, a2, a3⟩, a4, a5, a6⟩ := hQ r (List.mem_cons_self ..)
        have hQ' := fun x hx => hQ x (List.mem_cons_of_mem r hx)
        have hmx : (if (r.text.length : Int) > r.long then (r.text.length : Int) else r.long) = (rsize r : Nat) := by unfold rsize; split <;> omega
        have hmn : (if ((rsize r : Nat) : Int) < (m : Int) then ((rsize r : Nat) : Int) else (m : Int)) = ((min m (rsize r) : Nat) : Int) := by split <;> omega
        have hw : IntKind.i64.wrap ((m : Int) - ((min m (rsize r) : Nat) : Int)) = ((m - min m (rsize r) : Nat) : Int) := by rw [wrap_id (by omega)]; omega
        by_cases ht : r.text = []
        · simp (config := { contextual := true }) only [go_sem, hlen1, hlv, ix108z, sl108_1, hdT, hmx, hmn, hw, ht, lcondB_decide, lcondB_not, lguardB_decide_true, lguardB_decide_false, ldguardB_decide, Nat.reduceLT, Nat.reduceEqDiff, Nat.reduceAdd, Nat.reduceLeDiff, reduceIte, reduceCtorEq]
          rw [ht, List.length_nil] at hmx
          simp (config := { contextual := true }) only [go_sem, hlen1, hlv, ix108z, sl108_1, hdT, hmx, hmn, hw, ht, lcondB_decide, lcondB_not, lguardB_decide_true, lguardB_decide_false, ldguardB_decide, Nat.reduceLT, Nat.reduceEqDiff, Nat.reduceAdd, Nat.reduceLeDiff, reduceIte, reduceCtorEq]
          refine ldrawB_go [] [(4, 1)] 11 (by decide) ?_
          simp (config := { contextual := true }) only [go_sem, hlen1, hlv, lcondB_decide, lcondB_not, lguardB_decide_true, lguardB_decide_false, ldguardB_decide, Nat.reduceLT, Nat.reduceEqDiff, Nat.reduceAdd, Nat.reduceLeDiff, reduceIte, reduceCtorEq]
          refine ldfun_pure _ (kept_ok _ _) ?_
          simp (config := { contextual := true }) only [go_sem, hlen1, hlv, Rn.enc, lcondB_decide, lcondB_not, lguardB_decide_true, lguardB_decide_false, ldguardB_decide, Nat.reduceLT, Nat.reduceEqDiff, Nat.reduceAdd, Nat.reduceLeDiff, reduceIte, reduceCtorEq]
          refine ldmem_eq (app108 (acellsOf_rs (by simp only [go_sem, lcondB_decide, lcondB_not, lguardB_decide_true, lguardB_decide_false, ldguardB_decide, Nat.reduceLT, Nat.reduceEqDiff, Nat.reduceAdd, Nat.reduceLeDiff, reduceIte, reduceCtorEq]; rfl) (by rfl) rfl) (by decide) (by simp only [go_sem, lcondB_decide, lcondB_not, lguardB_decide_true, lguardB_decide_false, ldguardB_decide, Nat.reduceLT, Nat.reduceEqDiff, Nat.reduceAdd, Nat.reduceLeDiff, reduceIte, reduceCtorEq]) (by simp only [go_sem, lcondB_decide, lcondB_not, lguardB_decide_true, lguardB_decide_false, ldguardB_decide, Nat.reduceLT, Nat.reduceEqDiff, Nat.reduceAdd, Nat.reduceLeDiff, reduceIte, reduceCtorEq]) (rnc_len P) (by omega) rfl) ?_
          simp (config := { contextual := true }) only [go_sem, hlen1, hlv, ht, ix108z, sl108_1, hw, lcondB_decide, lcondB_not, lguardB_decide_true, lguardB_decide_false, ldguardB_decide, Nat.reduceLT, Nat.reduceEqDiff, Nat.reduceAdd, Nat.reduceLeDiff, reduceIte, reduceCtorEq]
          refine ⟨by kernel_rfl, fun h => ?_, fun h => ?_⟩
          · have hms : rsize r ≤ m := by omega
            have hmin : min m (rsize r) = rsize r := Nat.min_eq_right hms
            have hw1 : IntKind.i64.wrap ((m : Int) - ((rsize r : Nat) : Int)) = ((m - rsize r : Nat) : Int) := by rw [wrap_id (by omega)]; omega
            have hcut : cutR r (rsize r) = ⟨r.at_, (rsize r : Nat), []⟩ := by rw [cutR, if_neg (by simpa using ht)]
            refine ⟨(m - rsize r, D, q + 3, Q', P ++ [⟨r.at_, (rsize r : Nat), []⟩], 4), ⟨.inr rfl, by simp only; omega, by simp only [tot] at hmt ⊢; omega, hD.tail, hQ', ?_, ?_, by simp only [List.length_append, List.length_singleton]; omega⟩, by simp only; omega, ?_⟩
            · rw [← hE, restO_cons (by omega) hms]
            · rw [← hT, takeO_cons (by omega) hms, hcut, List.append_assoc]; rfl
            · refine To.goK [0, 1, 2, 3, 18] _ rfl rfl (.refl s) (by decide) (by decide) (by simp) ?_ ?_
              · simp (config := { contextual := true }) only [go_sem, hlen1, hlv, hmin, hw1, lcondB_decide, lcondB_not, lguardB_decide_true, lguardB_decide_false, ldguardB_decide, Nat.reduceLT, Nat.reduceEqDiff, Nat.reduceAdd, Nat.reduceLeDiff, reduceIte, reduceCtorEq]
              · simp only [go_sem, map_gso_pu (rnc_pul _), pul_ren hD.pu, h3, hmin, ren_gsv, lcondB_decide, lcondB_not, lguardB_decide_true, lguardB_decide_false, ldguardB_decide, Nat.reduceLT, Nat.reduceEqDiff, Nat.reduceAdd, Nat.reduceLeDiff, reduceIte, reduceCtorEq]
                rw [List.length_append, List.length_singleton, gsv_pos (Nat.succ_ne_zero _), gso_pos (by rw [rnc_snoc]; simp), rnc_snoc]
                exact ⟨rfl, rfl⟩
          · have hmr : m < rsize r := by omega
            have hlong : (rsize r : Int) = r.long := by unfold rsize; rw [ht]; simp; omega
            have hmin : min m (rsize r) = m := Nat.min_eq_left (Nat.le_of_lt hmr)
            have hw0 : IntKind.i64.wrap ((m : Int) - (m : Int)) = ((0 : Nat) : Int) := by rw [wrap_id (by omega)]; omega
            have hw1 : IntKind.i64.wrap (r.at_ + (m : Int)) = r.at_ + m := wrap_id (by omega)
            have hw2 : IntKind.i64.wrap (r.long - (m : Int)) = r.long - m := wrap_id (by omega)
            have hcut : cutR r m = ⟨r.at_, m, []⟩ := by rw [cutR, if_neg (by simpa using ht)]
            refine ldrawB_go [] [] 13 (by decide) ?_
            simp (config := { contextual := true }) only [go_sem, hlen1, hlv, hmin, hw1, hw2, lcondB_decide, lcondB_not, lguardB_decide_true, lguardB_decide_false, ldguardB_decide, Nat.reduceLT, Nat.reduceEqDiff, Nat.reduceAdd, Nat.reduceLeDiff, reduceIte, reduceCtorEq]
            refine ldfun_pure _ (kept_ok _ _) ?_
            simp (config := { contextual := true }) only [go_sem, hlen1, hlv, Rn.enc, lcondB_decide, lcondB_not, lguardB_decide_true, lguardB_decide_false, ldguardB_decide, Nat.reduceLT, Nat.reduceEqDiff, Nat.reduceAdd, Nat.reduceLeDiff, reduceIte, reduceCtorEq]
            refine ⟨by kernel_rfl, ?_⟩
            simp (config := { contextual := true }) only [go_sem, hlen1, hlv, ix108z, hw0, hle, lcondB_decide, lcondB_not, lguardB_decide_true, lguardB_decide_false, ldguardB_decide, Nat.reduceLT, Nat.reduceEqDiff, Nat.reduceAdd, Nat.reduceLeDiff, reduceIte, reduceCtorEq]
            have hD2 := hD.set (r.at_ + m) (r.long - m) []
            have hr2 : restR r m = ⟨r.at_ + m, r.long - m, []⟩ := by rw [restR, if_neg (by simpa using ht)]
            rw [restO_lt (by omega) hmr, hr2] at hE
            rw [takeO_lt (by omega) hmr, hcut] at hT
            refine ⟨(0, _, q, ⟨r.at_ + m, r.long - m, []⟩ :: Q', P ++ [⟨r.at_, m, []⟩], 4), ⟨.inr rfl, by simp only; omega, by simp only; omega, hD2, RB.restL hQ hmr hr2, by rw [restO_zero]; exact hE, by rw [takeO_zero, List.append_nil]; exact hT, by simp only [List.length_append, List.length_singleton]; omega⟩, by simp only; omega, ?_⟩
            · refine To.goK [0, 1, 2, 3, 18] _ rfl rfl (.refl s) (by decide) (by decide) (by simp) ?_ ?_
              · simp (config := { contextual := true }) only [go_sem, hlen1, hlv, lcondB_decide, lcondB_not, lguardB_decide_true, lguardB_decide_false, ldguardB_decide, Nat.reduceLT, Nat.reduceEqDiff, Nat.reduceAdd, Nat.reduceLeDiff, reduceIte, reduceCtorEq]
              · simp only [go_sem, map_gso_pu (rnc_pul _), pul_ren hD2.pu, h3, ren_gsv, lcondB_decide, lcondB_not, lguardB_decide_true, lguardB_decide_false, ldguardB_decide, Nat.reduceLT, Nat.reduceEqDiff, Nat.reduceAdd, Nat.reduceLeDiff, reduceIte, reduceCtorEq]
                rw [List.length_append, List.length_singleton, gsv_pos (Nat.succ_ne_zero _), gso_pos (by rw [rnc_snoc]; simp), rnc_snoc]
                exact ⟨rfl, rfl⟩
        · have hkt : min m (rsize r) ≤ r.text.length := by
            have : rsize r = r.text.length := by unfold rsize; rcases a3 with a3 | a3; exact absurd a3 ht; omega
            omega
          have hsl := slice9b hkt
          simp (config := { contextual := true }) only [go_sem, hlen1, hlv, ix108z, sl108_1, hdT, hmx, hmn, hw, ht, lcondB_decide, lcondB_not, lguardB_decide_true, lguardB_decide_false, ldguardB_decide, Nat.reduceLT, Nat.reduceEqDiff, Nat.reduceAdd, Nat.reduceLeDiff, reduceIte, reduceCtorEq]
          refine ldrawB_go [] [(4, 1)] 12 (by decide) ?_
          simp (config := { contextual := true }) only [go_sem, hlen1, hlv, hsl, lcondB_decide, lcondB_not, lguardB_decide_true, lguardB_decide_false, ldguardB_decide, Nat.reduceLT, Nat.reduceEqDiff, Nat.reduceAdd, Nat.reduceLeDiff, reduceIte, reduceCtorEq]
          refine ldfun_pure _ (fresh_ok _) ?_
          simp (config := { contextual := true }) only [go_sem, hlen1, hlv, Rn.enc, lcondB_decide, lcondB_not, lguardB_decide_true, lguardB_decide_false, ldguardB_decide, Nat.reduceLT, Nat.reduceEqDiff, Nat.reduceAdd, Nat.reduceLeDiff, reduceIte, reduceCtorEq]
          refine ldmem_eq (app108 (acellsOf_rs (by simp only [go_sem, lcondB_decide, lcondB_not, lguardB_decide_true, lguardB_decide_false, ldguardB_decide, Nat.reduceLT, Nat.reduceEqDiff, Nat.reduceAdd, Nat.reduceLeDiff, reduceIte, reduceCtorEq]; rfl) (by rfl) rfl) (by decide) (by simp only [go_sem, lcondB_decide, lcondB_not, lguardB_decide_true, lguardB_decide_false, ldguardB_decide, Nat.reduceLT, Nat.reduceEqDiff, Nat.reduceAdd, Nat.reduceLeDiff, reduceIte, reduceCtorEq]) (by simp only [go_sem, lcondB_decide, lcondB_not, lguardB_decide_true, lguardB_decide_false, ldguardB_decide, Nat.reduceLT, Nat.reduceEqDiff, Nat.reduceAdd, Nat.reduceLeDiff, reduceIte, reduceCtorEq]) (rnc_len P) (by omega) rfl) ?_
          simp (config := { contextual := true }) only [go_sem, hlen1, hlv, ht, ix108z, sl108_1, hw, lcondB_decide, lcondB_not, lguardB_decide_true, lguardB_decide_false, ldguardB_decide, Nat.reduceLT, Nat.reduceEqDiff, Nat.reduceAdd, Nat.reduceLeDiff, reduceIte, reduceCtorEq]
          refine ⟨by kernel_rfl, fun h => ?_, fun h => ?_⟩
          · have hms : rsize r ≤ m := by omega
            have hmin : min m (rsize r) = rsize r := Nat.min_eq_right hms
            have hw1 : IntKind.i64.wrap ((m : Int) - ((rsize r : Nat) : Int)) = ((m - rsize r : Nat) : Int) := by rw [wrap_id (by omega)]; omega
            have hcut : cutR r (rsize r) = ⟨0, 0, r.text.take (rsize r)⟩ := by rw [cutR, if_pos ht]
            refine ⟨(m - rsize r, D, q + 3, Q', P ++ [⟨0, 0, r.text.take (rsize r)⟩], 4), ⟨.inr rfl, by simp only; omega, by simp only [tot] at hmt ⊢; omega, hD.tail, hQ', ?_, ?_, by simp only [List.length_append, List.length_singleton]; omega⟩, by simp only; omega, ?_⟩
            · rw [← hE, restO_cons (by omega) hms]
            · rw [← hT, takeO_cons (by omega) hms, hcut, List.append_assoc]; rfl
            · refine To.goK [0, 1, 2, 3, 19] _ rfl rfl (.refl s) (by decide) (by decide) (by simp) ?_ ?_
              · simp (config := { contextual := true }) only [go_sem, hlen1, hlv, hmin, hw1, lcondB_decide, lcondB_not, lguardB_decide_true, lguardB_decide_false, ldguardB_decide, Nat.reduceLT, Nat.reduceEqDiff, Nat.reduceAdd, Nat.reduceLeDiff, reduceIte, reduceCtorEq]
              · simp only [go_sem, map_gso_pu (rnc_pul _), pul_ren hD.pu, h3, hmin, ren_gsv, lcondB_decide, lcondB_not, lguardB_decide_true, lguardB_decide_false, ldguardB_decide, Nat.reduceLT, Nat.reduceEqDiff, Nat.reduceAdd, Nat.reduceLeDiff, reduceIte, reduceCtorEq]
                rw [List.length_append, List.length_singleton, gsv_pos (Nat.succ_ne_zero _), gso_pos (by rw [rnc_snoc]; simp), rnc_snoc]
                exact ⟨rfl, rfl⟩
          · have hmr : m < rsize r := by omega
            have hmin : min m (rsize r) = m := Nat.min_eq_left (Nat.le_of_lt hmr)
            have hsl2 : aslice tab 9 (.str r.text) (some (.int .i64 (m : Int))) none none = some (.str (r.text.drop m)) := by rw [slice9a (by omega) (by omega)]; rfl
            have hw0 : IntKind.i64.wrap ((m : Int) - (m : Int)) = ((0 : Nat) : Int) := by rw [wrap_id (by omega)]; omega
            have hcut : cutR r m = ⟨0, 0, r.text.take m⟩ := by rw [cutR, if_pos ht]
            refine ldrawB_go [] [] 8 (by decide) ?_
            simp (config := { contextual := true }) only [go_sem, hlen1, hlv, hmin, hsl2, lcondB_decide, lcondB_not, lguardB_decide_true, lguardB_decide_false, ldguardB_decide, Nat.reduceLT, Nat.reduceEqDiff, Nat.reduceAdd, Nat.reduceLeDiff, reduceIte, reduceCtorEq]
            refine ⟨by kernel_rfl, ?_⟩
            simp (config := { contextual := true }) only [go_sem, hlen1, hlv, ix108z, hw0, show q + 2 + 1 ≤ D.length by omega, lcondB_decide, lcondB_not, lguardB_decide_true, lguardB_decide_false, ldguardB_decide, Nat.reduceLT, Nat.reduceEqDiff, Nat.reduceAdd, Nat.reduceLeDiff, reduceIte, reduceCtorEq]
            have hD2 := hD.text (r.text.drop m)
            have hr2 : restR r m = ⟨r.at_, r.long, r.text.drop m⟩ := by rw [restR, if_pos ht]
            rw [restO_lt (by omega) hmr, hr2] at hE
            rw [takeO_lt (by omega) hmr, hcut] at hT
            refine ⟨(0, D.set (q + 2) (.str (r.text.drop m)), q, ⟨r.at_, r.long, r.text.drop m⟩ :: Q', P ++ [⟨0, 0, r.text.take m⟩], 4), ⟨.inr rfl, by simp only; omega, by simp only; omega, hD2, RB.restL hQ hmr hr2, by rw [restO_zero]; exact hE, by rw [takeO_zero, List.append_nil]; exact hT, by simp only [List.length_append, List.length_singleton]; omega⟩, by simp only; omega, ?_⟩
            · refine To.goK [0, 1, 2, 3, 19] _ rfl rfl (.refl s) (by decide) (by decide) (by simp) ?_ ?_
              · simp (config := { contextual := true }) only [go_sem, hlen1, hlv, lcondB_decide, lcondB_not, lguardB_decide_true, lguardB_decide_false, ldguardB_decide, Nat.reduceLT, Nat.reduceEqDiff, Nat.reduceAdd, Nat.reduceLeDiff, reduceIte, reduceCtorEq]
              · simp only [go_sem, map_gso_pu (rnc_pul _), pul_ren hD2.pu, h3, ren_gsv, lcondB_decide, lcondB_not, lguardB_decide_true, lguardB_decide_false, ldguardB_decide, Nat.reduceLT, Nat.reduceEqDiff, Nat.reduceAdd, Nat.reduceLeDiff, reduceIte, reduceCtorEq]
                rw [List.length_append, List.length_singleton, gsv_pos (Nat.succ_ne_zero _), gso_pos (by rw [rnc_snoc]; simp), rnc_snoc]
                exact ⟨rfl, rfl⟩
      · have hm0 : m = 0 := by omega
        subst hm0
        rw [restO_zero] at hE
        rw [takeO_zero, List.append_nil] at hT
        subst hE
        rw [hT]
        first
        | exact lexit_now ⟨rfl, D, q, 2, .inl rfl, hD, rfl⟩
        | exact lexit_now ⟨rfl, D, q, 4, .inr rfl, hD, rfl⟩
end Go.S1N
end
section
set_option linter.unusedVariables false
set_option linter.unusedSimpArgs false
namespace Go.S1N
open Go Go.Am Go.Proofs Go.S1
set_option maxRecDepth 100000
set_option linter.unusedSimpArgs false
attribute [local irreducible] lopsB lvb lstepB lfunG lcondB lguardB ldrawB ldrunB ldstepB ldguardB lmem lval ldmem ldval ldfun lexit ldloadB ldlenB lpostB athen ablock

theorem pushR {s : AHeap} {o4 : Option AObj} {a to : Int} {w : List UInt8} {L : List Ed} (ha : -1 ≤ a) (ha2 : a ≤ 1000000000000) (ht : -1 ≤ to) (ht2 : to ≤ 1000000000000) (hL : L.length ≤ 1000000000) :
    ACall Try.prog 144 [.int .i64 to, .ptr (nm s.nx 1) 0, .ptr (nm s.nx 2) 0, .ptr (nm s.nx 0) 0]
      (loc s 5 [(0, some (.cells [gsv 3 (nm s.nx 3) L.length] (some 27))), (1, some (.cells [.int .i64 a] (some 3))), (2, some (.cells [.str w] (some 9))), (3, gso 35 (edc L)), (4, o4)])
      fun v t => v = .tuple [] ∧ ((pushE a w to = [] ∧ t = loc s 5 [(0, some (.cells [gsv 3 (nm s.nx 3) L.length] (some 27))), (1, some (.cells [.int .i64 a] (some 3))), (2, some (.cells [.str w] (some 9))), (3, gso 35 (edc L)), (4, o4)]) ∨
        ∃ e, pushE a w to = [e] ∧ t = loc s 7 [(0, some (.cells [gsv 3 (nm s.nx 6) (L ++ [e]).length] (some 27))), (1, some (.cells [.int .i64 a] (some 3))), (2, some (.cells [.str w] (some 9))), (4, o4), (5, some (.cells [.int .i64 a, .int .i64 (to - a), .str w] (some 35))), (6, gso 35 (edc (L ++ [e])))]) := by
  refine gob144 (by simp) ?_
  intro tm hlen harg
  rw [loc_flat (by intro j hj; simp only [lget]; rw [if_neg (by omega), if_neg (by omega), if_neg (by omega), if_neg (by omega), if_neg (by omega)])]
  have hw : IntKind.i64.wrap (to - a) = to - a := wrap_id (by omega)
  have fin : ∀ e : Ed, e = ⟨a, to - a, w⟩ → pushE a w to = [e] →
      pushE a w to = [e] ∧ loc s 7 [(0, some (AObj.cells [AV.rs 3 (nm s.nx 6) 0 (L.length + 1)] (some 27))), (1, some (AObj.cells [AV.int IntKind.i64 a] (some 3))), (2, some (AObj.cells [AV.str w] (some 9))), (4, o4), (5, some (.cells [.int .i64 a, .int .i64 (to - a), .str w] (some 35))), (6, some (.cells (edc L ++ [.int .i64 a, .int .i64 (to - a), .str w]) (some 35)))] =
        loc s 7 [(0, some (.cells [gsv 3 (nm s.nx 6) (L ++ [e]).length] (some 27))), (1, some (.cells [.int .i64 a] (some 3))), (2, some (.cells [.str w] (some 9))), (4, o4), (5, some (.cells [.int .i64 a, .int .i64 (to - a), .str w] (some 35))), (6, gso 35 (edc (L ++ [e])))] := by
    rintro e rfl h
    refine ⟨h, ?_⟩
    rw [gso_ed, List.length_append, List.length_singleton, gsv_pos (Nat.succ_ne_zero _), edc_snoc]
  by_cases c : a < to
  · simp (config := { contextual := true }) only [go_sem, L144, hlen, harg, hw, build35_3, c, lcondB_decide, lcondB_not, lguardB_decide_true, lguardB_decide_false, ldguardB_decide, Nat.reduceLT, Nat.reduceEqDiff, Nat.reduceAdd, Nat.reduceLeDiff, reduceIte, reduceCtorEq]
    refine lmem_eq (app27 (acellsOf_rs (by simp only [go_sem, lcondB_decide, lcondB_not, lguardB_decide_true, lguardB_decide_false, ldguardB_decide, Nat.reduceLT, Nat.reduceEqDiff, Nat.reduceAdd, Nat.reduceLeDiff, reduceIte, reduceCtorEq]; rfl) (by rfl) rfl) (by decide) (by simp only [go_sem, lcondB_decide, lcondB_not, lguardB_decide_true, lguardB_decide_false, ldguardB_decide, Nat.reduceLT, Nat.reduceEqDiff, Nat.reduceAdd, Nat.reduceLeDiff, reduceIte, reduceCtorEq]) (by simp only [go_sem, lcondB_decide, lcondB_not, lguardB_decide_true, lguardB_decide_false, ldguardB_decide, Nat.reduceLT, Nat.reduceEqDiff, Nat.reduceAdd, Nat.reduceLeDiff, reduceIte, reduceCtorEq]) (edc_len L) (by omega) rfl) ?_
    simp (config := { contextual := true }) only [go_sem, hlen, harg, hw, lcondB_decide, lcondB_not, lguardB_decide_true, lguardB_decide_false, ldguardB_decide, Nat.reduceLT, Nat.reduceEqDiff, Nat.reduceAdd, Nat.reduceLeDiff, reduceIte, reduceCtorEq]
    exact lexit_now ⟨rfl, .inr ⟨_, fin _ rfl (if_pos (.inl c))⟩⟩
  · by_cases c2 : w = []
    · subst c2
      simp (config := { contextual := true }) only [go_sem, L144, hlen, harg, hw, c, lcondB_decide, lcondB_not, lguardB_decide_true, lguardB_decide_false, ldguardB_decide, Nat.reduceLT, Nat.reduceEqDiff, Nat.reduceAdd, Nat.reduceLeDiff, reduceIte, reduceCtorEq]
      exact lexit_now ⟨rfl, .inl ⟨if_neg (by rintro (h | h); exact c h; exact h rfl), rfl⟩⟩
    · simp (config := { contextual := true }) only [go_sem, L144, hlen, harg, hw, build35_3, c, c2, lcondB_decide, lcondB_not, lguardB_decide_true, lguardB_decide_false, ldguardB_decide, Nat.reduceLT, Nat.reduceEqDiff, Nat.reduceAdd, Nat.reduceLeDiff, reduceIte, reduceCtorEq]
      refine lmem_eq (app27 (acellsOf_rs (by simp only [go_sem, lcondB_decide, lcondB_not, lguardB_decide_true, lguardB_decide_false, ldguardB_decide, Nat.reduceLT, Nat.reduceEqDiff, Nat.reduceAdd, Nat.reduceLeDiff, reduceIte, reduceCtorEq]; rfl) (by rfl) rfl) (by decide) (by simp only [go_sem, lcondB_decide, lcondB_not, lguardB_decide_true, lguardB_decide_false, ldguardB_decide, Nat.reduceLT, Nat.reduceEqDiff, Nat.reduceAdd, Nat.reduceLeDiff, reduceIte, reduceCtorEq]) (by simp only [go_sem, lcondB_decide, lcondB_not, lguardB_decide_true, lguardB_decide_false, ldguardB_decide, Nat.reduceLT, Nat.reduceEqDiff, Nat.reduceAdd, Nat.reduceLeDiff, reduceIte, reduceCtorEq]) (edc_len L) (by omega) rfl) ?_
      simp (config := { contextual := true }) only [go_sem, hlen, harg, hw, lcondB_decide, lcondB_not, lguardB_decide_true, lguardB_decide_false, ldguardB_decide, Nat.reduceLT, Nat.reduceEqDiff, Nat.reduceAdd, Nat.reduceLeDiff, reduceIte, reduceCtorEq]
      exact lexit_now ⟨rfl, .inr ⟨_, fin _ rfl (if_pos (.inr c2))⟩⟩

theorem rnv_len (F : List Rn) : alen tab 108 (rnv F) = some (.int .i64 F.length) := by rw [rnv, len108f, List.length_map]

theorem editsR_ok (n : Int) (F : List Rn) (hn : 0 ≤ n ∧ n ≤ 1000000000000) (hF : ∀ r ∈ F, 0 ≤ r.at_ ∧ r.at_ ≤ 1000000000 ∧ r.at_ + r.long ≤ 1000000000 ∧ 0 ≤ r.long ∧ r.text.length ≤ 1000000) (hFl : F.length ≤ 1000000000) (s : AHeap) :
    ACall Try.prog 112 [.int .i64 n, rnv F] s fun r t => r = edv (rGo n 0 [] F) ∧ t = s := by
  refine gob112 (by simp) ?_
  intro tm hlen harg
  have hpu : Pu (rnv F) := rnv_pu F
  simp (config := { contextual := true }) only [go_sem, L112, hlen, harg, rnv_len, lcondB_decide, lcondB_not, lguardB_decide_true, lguardB_decide_false, ldguardB_decide, Nat.reduceLT, Nat.reduceEqDiff, Nat.reduceAdd, Nat.reduceLeDiff, reduceIte, reduceCtorEq]
  refine ⟨Nat × Int × List UInt8 × List Ed, fun a => [(0, .int .i64 n), (5, .ptr (nm s.nx 0) 0), (6, .ptr (nm s.nx 1) 0), (7, .ptr (nm s.nx 2) 0), (8, .func (.func 144) [] [.ptr (nm s.nx 1) 0, .ptr (nm s.nx 2) 0, .ptr (nm s.nx 0) 0]), (12, rnv F), (13, .int .i64 F.length), (14, .int .i64 a.1)],
    fun a => loc s 4 [(0, some (.cells [gsv 3 (nm s.nx 3) a.2.2.2.length] (some 27))), (1, some (.cells [.int .i64 a.2.1] (some 3))), (2, some (.cells [.str a.2.2.1] (some 9))), (3, gso 35 (edc a.2.2.2))],
    fun a => a.1 ≤ F.length ∧ a.2.2.2.length ≤ a.1 ∧ a.2.2.1.length ≤ a.1 * 1000000 ∧ 0 ≤ a.2.1 ∧ a.2.1 ≤ 1000000000 ∧ a.2.2.2 ++ rGo n a.2.1 a.2.2.1 (F.drop a.1) = rGo n 0 [] F, fun a => F.length - a.1, (0, 0, [], []), ⟨by simp, by simp, by simp, by simp, by simp, by simp⟩, ?_, ?_⟩
  · refine To.go [0, 1, 2, 9] [(0, some (.cells [.nils] (some 27))), (1, some (.cells [.int .i64 0] (some 3))), (2, some (.cells [.str []] (some 9))), (3, none)] (by simp only [edc, List.map_nil, List.flatMap_nil, gso_nil, List.length_nil, gsv_zero]; rfl) (.refl s) (by decide) (by simp) ?_ ?_
    · simp (config := { contextual := true }) only [go_sem, hlen, harg, pu_ren hpu, gsv_zero, lcondB_decide, lcondB_not, lguardB_decide_true, lguardB_decide_false, ldguardB_decide, Nat.reduceLT, Nat.reduceEqDiff, Nat.reduceAdd, Nat.reduceLeDiff, reduceIte, reduceCtorEq]
      rfl
    · simp only [go_sem, pu_ren hpu, lcondB_decide, lcondB_not, lguardB_decide_true, lguardB_decide_false, ldguardB_decide, Nat.reduceLT, Nat.reduceEqDiff, Nat.reduceAdd, Nat.reduceLeDiff, reduceIte, reduceCtorEq]
  · rintro ⟨j, a, w, L⟩ tm1 ⟨hj, hL, hw, ha0, ha1, hE⟩ hlen1 hlv
    simp only [go_sem, hlen, lcondB_decide, lcondB_not, lguardB_decide_true, lguardB_decide_false, ldguardB_decide, Nat.reduceLT, Nat.reduceEqDiff, Nat.reduceAdd, Nat.reduceLeDiff, reduceIte, reduceCtorEq] at hlen1 hlv hj hL hw ha0 ha1 hE
    simp (config := { contextual := true }) only [go_sem, hlen, hlen1, hlv, lcondB_decide, lcondB_not, lguardB_decide_true, lguardB_decide_false, ldguardB_decide, Nat.reduceLT, Nat.reduceEqDiff, Nat.reduceAdd, Nat.reduceLeDiff, reduceIte, reduceCtorEq]
    refine ⟨fun hlt => ?_, fun hge => ?_⟩
    · have hj2 : j < F.length := by omega
      have he := List.getElem?_eq_getElem hj2
      have hmem : F[j] ∈ F := List.getElem_mem hj2
      have hdrop := List.drop_eq_getElem_cons hj2
      generalize F[j] = r at he hmem hdrop
      obtain ⟨b1, b2, b3, b4, b5⟩ := hF r hmem
      rw [hdrop, rGo] at hE
      have hw3 : IntKind.i64.wrap ((j : Int) + 1) = ((j + 1 : Nat) : Int) := by rw [wrap_id (by omega)]; rfl
      have hw4 : IntKind.i64.wrap (r.at_ + r.long) = r.at_ + r.long := wrap_id (by omega)
      have hadd := abin_sadd (T := tab) (t := 9) (x := w) (y := r.text) (by omega)
      simp (config := { contextual := true }) only [go_sem, hlen1, hlv, rn_at F he, hadd, hw3, hw4, lcondB_decide, lcondB_not, lguardB_decide_true, lguardB_decide_false, ldguardB_decide, Nat.reduceLT, Nat.reduceEqDiff, Nat.reduceAdd, Nat.reduceLeDiff, reduceIte, reduceCtorEq]
      refine ⟨fun ht => ?_, fun ht => ⟨fun hl => ?_, fun hl => ?_⟩⟩
      · rw [if_pos ht] at hE
        refine ⟨(j + 1, a, w ++ r.text, L), ⟨by simp only; omega, by simp only; omega, by simp only [List.length_append]; omega, ha0, ha1, hE⟩, by simp only; omega, ?_⟩
        refine To.go [0, 1, 2, 3] _ rfl (.refl s) (by decide) (by simp) ?_ ?_
        · simp (config := { contextual := true }) only [go_sem, hlen1, hlv, pu_ren hpu, lcondB_decide, lcondB_not, lguardB_decide_true, lguardB_decide_false, ldguardB_decide, Nat.reduceLT, Nat.reduceEqDiff, Nat.reduceAdd, Nat.reduceLeDiff, reduceIte, reduceCtorEq]
        · simp only [go_sem, map_gso_pu (edc_pul _), ren_gsv, lcondB_decide, lcondB_not, lguardB_decide_true, lguardB_decide_false, ldguardB_decide, Nat.reduceLT, Nat.reduceEqDiff, Nat.reduceAdd, Nat.reduceLeDiff, reduceIte, reduceCtorEq]
      · rw [if_neg (by simpa using ht), if_pos hl] at hE
        refine lfunG_eqc' rfl (pushR (by omega) (by omega) (by omega) (by omega) (by omega)) ?_
        rintro _ t ⟨rfl, h | ⟨e, h⟩⟩
        · obtain ⟨hpe, rfl⟩ := h
          simp (config := { contextual := true }) only [go_sem, hlen1, hlv, hw3, hw4, lcondB_decide, lcondB_not, lguardB_decide_true, lguardB_decide_false, ldguardB_decide, Nat.reduceLT, Nat.reduceEqDiff, Nat.reduceAdd, Nat.reduceLeDiff, reduceIte, reduceCtorEq]
          refine ⟨(j + 1, r.at_ + r.long, [], L), ⟨by simp only; omega, by simp only; omega, Nat.zero_le _, by simp only; omega, by simp only; omega, ?_⟩, by simp only; omega, ?_⟩
          · rw [← hE, hpe, List.nil_append]
          · refine To.go [0, 1, 2, 3] _ rfl (.refl s) (by decide) (by simp) ?_ ?_
            · simp (config := { contextual := true }) only [go_sem, hlen1, hlv, pu_ren hpu, lcondB_decide, lcondB_not, lguardB_decide_true, lguardB_decide_false, ldguardB_decide, Nat.reduceLT, Nat.reduceEqDiff, Nat.reduceAdd, Nat.reduceLeDiff, reduceIte, reduceCtorEq]
            · simp only [go_sem, map_gso_pu (edc_pul _), ren_gsv, lcondB_decide, lcondB_not, lguardB_decide_true, lguardB_decide_false, ldguardB_decide, Nat.reduceLT, Nat.reduceEqDiff, Nat.reduceAdd, Nat.reduceLeDiff, reduceIte, reduceCtorEq]
        · obtain ⟨hpe, rfl⟩ := h
          simp (config := { contextual := true }) only [go_sem, hlen1, hlv, hw3, hw4, lcondB_decide, lcondB_not, lguardB_decide_true, lguardB_decide_false, ldguardB_decide, Nat.reduceLT, Nat.reduceEqDiff, Nat.reduceAdd, Nat.reduceLeDiff, reduceIte, reduceCtorEq]
          refine ⟨(j + 1, r.at_ + r.long, [], L ++ [e]), ⟨by simp only; omega, by simp only [List.length_append, List.length_singleton]; omega, Nat.zero_le _, by simp only; omega, by simp only; omega, ?_⟩, by simp only; omega, ?_⟩
          · rw [← hE, hpe, List.append_assoc]
          · refine To.go [0, 1, 2, 6] _ rfl (.refl s) (by decide) (by simp) ?_ ?_
            · simp (config := { contextual := true }) only [go_sem, hlen1, hlv, pu_ren hpu, lcondB_decide, lcondB_not, lguardB_decide_true, lguardB_decide_false, ldguardB_decide, Nat.reduceLT, Nat.reduceEqDiff, Nat.reduceAdd, Nat.reduceLeDiff, reduceIte, reduceCtorEq]
            · simp only [go_sem, map_gso_pu (edc_pul _), ren_gsv, lcondB_decide, lcondB_not, lguardB_decide_true, lguardB_decide_false, ldguardB_decide, Nat.reduceLT, Nat.reduceEqDiff, Nat.reduceAdd, Nat.reduceLeDiff, reduceIte, reduceCtorEq]
      · rw [if_neg (by simpa using ht), if_neg hl] at hE
        have hw1 : w.length ≤ (j + 1) * 1000000 := by
          rw [Nat.succ_mul]; exact Nat.le_trans hw (Nat.le_add_right _ _)
        refine ⟨(j + 1, a, w, L), ⟨by simp only; omega, by simp only; omega, hw1, ha0, ha1, hE⟩, by simp only; omega, ?_⟩
        refine To.go [0, 1, 2, 3] _ rfl (.refl s) (by decide) (by simp) ?_ ?_
        · simp (config := { contextual := true }) only [go_sem, hlen1, hlv, pu_ren hpu, lcondB_decide, lcondB_not, lguardB_decide_true, lguardB_decide_false, ldguardB_decide, Nat.reduceLT, Nat.reduceEqDiff, Nat.reduceAdd, Nat.reduceLeDiff, reduceIte, reduceCtorEq]
        · simp only [go_sem, map_gso_pu (edc_pul _), ren_gsv, lcondB_decide, lcondB_not, lguardB_decide_true, lguardB_decide_false, ldguardB_decide, Nat.reduceLT, Nat.reduceEqDiff, Nat.reduceAdd, Nat.reduceLeDiff, reduceIte, reduceCtorEq]
    · have hj2 : j = F.length := by omega
      rw [hj2, List.drop_length, rGo] at hE
      refine lfunG_to (lv := [(5, .ptr (nm s.nx 0) 0), (40, .func (.func 144) [] [.ptr (nm s.nx 1) 0, .ptr (nm s.nx 2) 0, .ptr (nm s.nx 0) 0]), (41, .int .i64 n)])
        (h := loc s 5 [(0, some (.cells [gsv 3 (nm s.nx 3) L.length] (some 27))), (1, some (.cells [.int .i64 a] (some 3))), (2, some (.cells [.str w] (some 9))), (3, gso 35 (edc L)), (4, none)]) (To.go [0, 1, 2, 3, 9] _ rfl (.refl s) (by decide) (by simp) ?_ ?_) ?_
      · simp (config := { contextual := true }) only [go_sem, hlen1, hlv, lcondB_decide, lcondB_not, lguardB_decide_true, lguardB_decide_false, ldguardB_decide, Nat.reduceLT, Nat.reduceEqDiff, Nat.reduceAdd, Nat.reduceLeDiff, reduceIte, reduceCtorEq]
      · simp only [go_sem, map_gso_pu (edc_pul _), ren_gsv, lcondB_decide, lcondB_not, lguardB_decide_true, lguardB_decide_false, ldguardB_decide, Nat.reduceLT, Nat.reduceEqDiff, Nat.reduceAdd, Nat.reduceLeDiff, reduceIte, reduceCtorEq]
      · intro tm2 hlen2 hlv2
        simp only [go_sem, hlen1, lcondB_decide, lcondB_not, lguardB_decide_true, lguardB_decide_false, ldguardB_decide, Nat.reduceLT, Nat.reduceEqDiff, Nat.reduceAdd, Nat.reduceLeDiff, reduceIte, reduceCtorEq] at hlen2 hlv2
        simp (config := { contextual := true }) only [go_sem, hlen2, hlv2, lcondB_decide, lcondB_not, lguardB_decide_true, lguardB_decide_false, ldguardB_decide, Nat.reduceLT, Nat.reduceEqDiff, Nat.reduceAdd, Nat.reduceLeDiff, reduceIte, reduceCtorEq]
        refine lfunG_eqc' rfl (pushR (by omega) (by omega) (by omega) (by omega) (by omega)) ?_
        rintro _ t ⟨rfl, h | ⟨e, h⟩⟩
        · obtain ⟨hpe, rfl⟩ := h
          rw [hpe, List.append_nil] at hE
          simp (config := { contextual := true }) only [go_sem, hlen2, hlv2, lcondB_decide, lcondB_not, lguardB_decide_true, lguardB_decide_false, ldguardB_decide, Nat.reduceLT, Nat.reduceEqDiff, Nat.reduceAdd, Nat.reduceLeDiff, reduceIte, reduceCtorEq]
          refine lexit_freezeG 3 3 (L.map Ed.enc) (by simp only [go_sem, lcondB_decide, lcondB_not, lguardB_decide_true, lguardB_decide_false, ldguardB_decide, Nat.reduceLT, Nat.reduceEqDiff, Nat.reduceAdd, Nat.reduceLeDiff, reduceIte, reduceCtorEq]; rfl) (enc_len L) (by decide) ?_
          simp only [go_sem, len_fz, hE, lcondB_decide, lcondB_not, lguardB_decide_true, lguardB_decide_false, ldguardB_decide, Nat.reduceLT, Nat.reduceEqDiff, Nat.reduceAdd, Nat.reduceLeDiff, reduceIte, reduceCtorEq]
          exact lexit_pure (.refl s) (low.mono (Nat.zero_le _) (edv_pu _)) ⟨rfl, rfl⟩
        · obtain ⟨hpe, rfl⟩ := h
          rw [hpe] at hE
          simp (config := { contextual := true }) only [go_sem, hlen2, hlv2, lcondB_decide, lcondB_not, lguardB_decide_true, lguardB_decide_false, ldguardB_decide, Nat.reduceLT, Nat.reduceEqDiff, Nat.reduceAdd, Nat.reduceLeDiff, reduceIte, reduceCtorEq]
          refine lexit_freezeG 6 3 ((L ++ [e]).map Ed.enc) (by simp only [go_sem, lcondB_decide, lcondB_not, lguardB_decide_true, lguardB_decide_false, ldguardB_decide, Nat.reduceLT, Nat.reduceEqDiff, Nat.reduceAdd, Nat.reduceLeDiff, reduceIte, reduceCtorEq]; rfl) (enc_len _) (by decide) ?_
          simp only [go_sem, len_fz, hE, lcondB_decide, lcondB_not, lguardB_decide_true, lguardB_decide_false, ldguardB_decide, Nat.reduceLT, Nat.reduceEqDiff, Nat.reduceAdd, Nat.reduceLeDiff, reduceIte, reduceCtorEq]
          exact lexit_pure (.refl s) (low.mono (Nat.zero_le _) (edv_pu _)) ⟨rfl, rfl⟩
end Go.S1N
end
section
set_option linter.unusedVariables false
set_option linter.unusedSimpArgs false
namespace Go.S1N
open Go Go.Am Go.Proofs Go.S1
set_option maxRecDepth 100000
set_option linter.unusedSimpArgs false
attribute [local irreducible] lopsB lvb lstepB lfunG lcondB lguardB ldrawB ldrunB ldstepB ldguardB lmem lval ldmem ldval ldfun lexit ldloadB ldlenB lpostB athen ablock

/-- what edit.then puts out -/
def outs (M : Nat) : Nat → List Rn → List Ed → List Rn
  | a, Q, [] => takeO (M - a) Q
  | a, Q, e :: r => takeO (e.at_ - a).toNat Q ++ ⟨0, 0, e.new⟩ :: outs M (e.at_ + e.cut).toNat (restO e.cut.toNat (restO (e.at_ - a).toNat Q)) r

theorem restO_ok : ∀ (R : List Rn) (n : Nat), (∀ r ∈ R, RB r) → n ≤ tot R → (∀ x ∈ restO n R, RB x) ∧ tot (restO n R) = tot R - n
  | [], n, _, h => ⟨by simp [restO], by simp [restO, tot]⟩
  | r :: R, n, hR, h => by
    have hr := hR r (List.mem_cons_self ..)
    have hR2 := fun x hx => hR x (List.mem_cons_of_mem r hx)
    rw [restO]
    split
    · rename_i h0; subst h0; exact ⟨hR, by omega⟩
    · split
      · rename_i h0 h1
        refine ⟨RB.restL hR h1 rfl, ?_⟩
        have e1 := rfl1_len hr.ok
        have e2 := rfl1_len (hr.rest h1).ok
        rw [(rfl1_rest hr.ok h1).1, List.length_drop, e1] at e2
        simp only [tot]
        omega
      · rename_i h0 h1
        simp only [tot] at h
        have ih := restO_ok R (n - rsize r) hR2 (by omega)
        refine ⟨ih.1, ?_⟩
        rw [ih.2]
        simp only [tot]
        omega
theorem takeO_len : ∀ (R : List Rn) (n : Nat), (∀ r ∈ R, RB r) → (takeO n R).length ≤ n
  | [], n, _ => by simp [takeO]
  | r :: R, n, hR => by
    have hr := hR r (List.mem_cons_self ..)
    have hR2 := fun x hx => hR x (List.mem_cons_of_mem r hx)
    rw [takeO]
    split
    · simp
    · split
      · simp; omega
      · have ih := takeO_len R (n - rsize r) hR2
        have := hr.pos
        simp only [List.length_cons]
        omega

theorem then_ok (n : Int) (av bv : AV) (a b : List Ed) (ha : SlE av a) (hb : SlE bv b) (hal : a.length ≤ 2000) (hbl : b.length ≤ 2000) (hn0 : 0 ≤ n) (hn : n ≤ 20000) (hsc : scan n (-1) a = 0) (M : Nat) (hM : longOf n a = M) (hM2 : M ≤ 20000)
    (hRB : ∀ r ∈ live (runsFrom n 0 a), RB r) (htot : tot (live (runsFrom n 0 a)) = M) (hsb : scan M (-1) b = 0) (hF : ∀ r ∈ outs M 0 (live (runsFrom n 0 a)) b, 0 ≤ r.at_ ∧ r.at_ ≤ 1000000000 ∧ r.at_ + r.long ≤ 1000000000 ∧ 0 ≤ r.long ∧ r.text.length ≤ 1000000)
    (hrl : (runsFrom n 0 a).length ≤ 1000000) (s : AHeap) :
    ACall Try.prog 81 [.int .i64 n, av, bv] s fun r t => r = edv (rGo n 0 [] (outs M 0 (live (runsFrom n 0 a)) b)) ∧ t = s := by
  refine gob81 (by simp) ?_
  intro tm hlen harg
  simp (config := { contextual := true }) only [go_sem, L81, hlen, harg, lcondB_decide, lcondB_not, lguardB_decide_true, lguardB_decide_false, ldguardB_decide, Nat.reduceLT, Nat.reduceEqDiff, Nat.reduceAdd, Nat.reduceLeDiff, reduceIte, reduceCtorEq]
  refine lfunG_eq (runs_own' n av a ha hal hn0 hn hsc s) ?_
  simp (config := { contextual := true }) only [go_sem, hlen, harg, lcondB_decide, lcondB_not, lguardB_decide_true, lguardB_decide_false, ldguardB_decide, Nat.reduceLT, Nat.reduceEqDiff, Nat.reduceAdd, Nat.reduceLeDiff, reduceIte, reduceCtorEq]
  generalize hL : runsFrom n 0 a = L at *
  refine lfunG_of (del_ok (by omega)) ?_
  rintro _ _ ⟨C, hC, rfl, rfl⟩
  generalize hL0 : live L = L0 at *
  simp (config := { contextual := true }) only [go_sem, hlen, harg, hb.len, lcondB_decide, lcondB_not, lguardB_decide_true, lguardB_decide_false, ldguardB_decide, Nat.reduceLT, Nat.reduceEqDiff, Nat.reduceAdd, Nat.reduceLeDiff, reduceIte, reduceCtorEq]
  refine ⟨Nat × Nat × Int × Nat × List AV × List Rn × List Rn, fun x => [(0, .int .i64 n), (1, av), (7, .ptr (nm s.nx 0) 0), (8, .int .i64 x.2.1), (17, bv), (18, .int .i64 b.length), (19, .int .i64 x.1)],
    fun x => loc s 3 [(0, some (.cells [.rs 3 (nm s.nx 1) x.2.2.2.1 x.2.2.2.2.2.1.length, gsv 3 (nm s.nx 2) x.2.2.2.2.2.2.length] (some 179))), (1, some (.cells x.2.2.2.2.1 (some 111))), (2, gso 111 (rnc x.2.2.2.2.2.2))],
    fun x => x.1 ≤ b.length ∧ LB x.2.2.2.2.1 x.2.2.2.1 x.2.2.2.2.2.1 ∧ (∀ r ∈ x.2.2.2.2.2.1, RB r) ∧ x.2.1 + tot x.2.2.2.2.2.1 = M ∧ (x.2.2.1 = x.2.1 ∨ (x.2.2.1 = -1 ∧ x.2.1 = 0)) ∧ scan M x.2.2.1 (b.drop x.1) = 0 ∧
      x.2.2.2.2.2.2.length ≤ x.2.1 + x.1 ∧ x.2.2.2.2.2.2 ++ outs M x.2.1 x.2.2.2.2.2.1 (b.drop x.1) = outs M 0 L0 b,
    fun x => b.length - x.1, (0, 0, -1, 0, C, L0, []), ⟨Nat.zero_le _, hC, hRB, by simp only; omega, .inr ⟨rfl, rfl⟩, hsb, by simp, by simp⟩, ?_, ?_⟩
  · refine To.go [1, 0, 9] _ rfl (.refl s) (by decide) (by simp) ?_ ?_
    · simp (config := { contextual := true }) only [go_sem, hlen, harg, pu_ren ha.pu, pu_ren hb.pu, lcondB_decide, lcondB_not, lguardB_decide_true, lguardB_decide_false, ldguardB_decide, Nat.reduceLT, Nat.reduceEqDiff, Nat.reduceAdd, Nat.reduceLeDiff, reduceIte, reduceCtorEq]
      rfl
    · simp only [go_sem, pul_ren hC.pu, gsv_zero, lcondB_decide, lcondB_not, lguardB_decide_true, lguardB_decide_false, ldguardB_decide, Nat.reduceLT, Nat.reduceEqDiff, Nat.reduceAdd, Nat.reduceLeDiff, reduceIte, reduceCtorEq]
      simp [rnc, gso_nil]
  · rintro ⟨i, at_, B, q, D, Q, O⟩ tm1 ⟨hi, hD, hQ, hM3, hB, hs, hO, hE⟩ hlen1 hlv
    simp only [go_sem, hlen, lcondB_decide, lcondB_not, lguardB_decide_true, lguardB_decide_false, ldguardB_decide, Nat.reduceLT, Nat.reduceEqDiff, Nat.reduceAdd, Nat.reduceLeDiff, reduceIte, reduceCtorEq] at hlen1 hlv hi hD hQ hM3 hB hs hO hE
    simp (config := { contextual := true }) only [go_sem, hlen, hlen1, hlv, lcondB_decide, lcondB_not, lguardB_decide_true, lguardB_decide_false, ldguardB_decide, Nat.reduceLT, Nat.reduceEqDiff, Nat.reduceAdd, Nat.reduceLeDiff, reduceIte, reduceCtorEq]
    refine ⟨fun hlt => ?_, fun hge => ?_⟩
    · have hi2 : i < b.length := by omega
      have he := List.getElem?_eq_getElem hi2
      have hdrop := List.drop_eq_getElem_cons hi2
      generalize b[i] = e at he hdrop
      rw [hdrop] at hs hE
      obtain ⟨c1, c2, c3, c4, c5, c6⟩ := scan_cons hs
      obtain ⟨k, hk⟩ : ∃ k : Nat, e.at_ - (at_ : Int) = k := ⟨(e.at_ - at_).toNat, by omega⟩
      obtain ⟨c, hc⟩ : ∃ c : Nat, e.cut = c := ⟨e.cut.toNat, by omega⟩
      have hw1 : IntKind.i64.wrap (e.at_ - (at_ : Int)) = (k : Int) := by rw [wrap_id (by omega), hk]
      have hw2 : IntKind.i64.wrap (e.at_ + (c : Int)) = ((at_ + k + c : Nat) : Int) := by rw [wrap_id (by omega)]; omega
      have hw3 : IntKind.i64.wrap ((i : Int) + 1) = ((i + 1 : Nat) : Int) := by rw [wrap_id (by omega)]; rfl
      obtain ⟨q1, q2⟩ := restO_ok Q k hQ (by omega)
      have q3 := takeO_len Q k hQ
      obtain ⟨q4, q5⟩ := restO_ok (restO k Q) c q1 (by omega)
      rw [outs, hk, hc, Int.toNat_natCast, Int.toNat_natCast, show (e.at_ + (c : Int)).toNat = at_ + k + c by omega] at hE
      simp (config := { contextual := true }) only [go_sem, hlen1, hlv, hb.at he, hw1, lcondB_decide, lcondB_not, lguardB_decide_true, lguardB_decide_false, ldguardB_decide, Nat.reduceLT, Nat.reduceEqDiff, Nat.reduceAdd, Nat.reduceLeDiff, reduceIte, reduceCtorEq]
      refine lfunG_of (keep_ok k D q Q O (some (.cells [.int .i64 e.at_, .int .i64 e.cut, .str e.new] (some 35))) (by intro f; simp only [go_sem, lcondB_decide, lcondB_not, lguardB_decide_true, lguardB_decide_false, ldguardB_decide, Nat.reduceLT, Nat.reduceEqDiff, Nat.reduceAdd, Nat.reduceLeDiff, reduceIte, reduceCtorEq]) hD hQ (by omega) (by omega)) ?_
      rintro _ _ ⟨rfl, D1, o1, j, hj, hD1, rfl⟩
      have hpick : ∃ rr : List Nat, rr = [0, 1, j, 3] ∧ rr.Nodup := ⟨_, rfl, by rcases hj with rfl | rfl <;> decide⟩
      obtain ⟨rr, hrr, hnd⟩ := hpick
      simp (config := { contextual := true }) only [go_sem, hlen1, hlv, hc, lcondB_decide, lcondB_not, lguardB_decide_true, lguardB_decide_false, ldguardB_decide, Nat.reduceLT, Nat.reduceEqDiff, Nat.reduceAdd, Nat.reduceLeDiff, reduceIte, reduceCtorEq]
      refine lfunG_to (lv := [(0, .int .i64 n), (1, av), (7, .ptr (nm s.nx 0) 0), (8, .int .i64 at_), (10, .ptr (nm s.nx 3) 0), (17, bv), (18, .int .i64 b.length), (19, .int .i64 i), (29, .ptr (nm s.nx 0) 0), (31, .int .i64 c)])
        (h := loc s 4 [(0, some (.cells [.rs 3 (nm s.nx 1) o1 (restO k Q).length, gsv 3 (nm s.nx 2) (O ++ takeO k Q).length] (some 179))), (1, some (.cells D1 (some 111))), (2, gso 111 (rnc (O ++ takeO k Q))), (3, some (.cells [.int .i64 e.at_, .int .i64 c, .str e.new] (some 35)))]) (To.go rr _ (by rw [hrr]; rfl) (.refl s) hnd (by simp) ?_ ?_) ?_
      · rw [hrr]
        rcases hj with rfl | rfl <;> simp (config := { contextual := true }) only [go_sem, hlen1, hlv, pu_ren ha.pu, pu_ren hb.pu, lcondB_decide, lcondB_not, lguardB_decide_true, lguardB_decide_false, ldguardB_decide, Nat.reduceLT, Nat.reduceEqDiff, Nat.reduceAdd, Nat.reduceLeDiff, reduceIte, reduceCtorEq]
      · rw [hrr]
        rcases hj with rfl | rfl <;> simp only [go_sem, map_gso_pu (rnc_pul _), pul_ren hD1.pu, ren_gsv, lcondB_decide, lcondB_not, lguardB_decide_true, lguardB_decide_false, ldguardB_decide, Nat.reduceLT, Nat.reduceEqDiff, Nat.reduceAdd, Nat.reduceLeDiff, reduceIte, reduceCtorEq]
      intro tm2 hlen2 hlv2
      simp only [go_sem, hlen1, lcondB_decide, lcondB_not, lguardB_decide_true, lguardB_decide_false, ldguardB_decide, Nat.reduceLT, Nat.reduceEqDiff, Nat.reduceAdd, Nat.reduceLeDiff, reduceIte, reduceCtorEq] at hlen2 hlv2
      simp (config := { contextual := true }) only [go_sem, hlen2, hlv2, lcondB_decide, lcondB_not, lguardB_decide_true, lguardB_decide_false, ldguardB_decide, Nat.reduceLT, Nat.reduceEqDiff, Nat.reduceAdd, Nat.reduceLeDiff, reduceIte, reduceCtorEq]
      refine lfunG_of (drop_ok c D1 o1 (restO k Q) (O ++ takeO k Q) (some (.cells [.int .i64 e.at_, .int .i64 c, .str e.new] (some 35))) (by intro f; simp only [go_sem, lcondB_decide, lcondB_not, lguardB_decide_true, lguardB_decide_false, ldguardB_decide, Nat.reduceLT, Nat.reduceEqDiff, Nat.reduceAdd, Nat.reduceLeDiff, reduceIte, reduceCtorEq]) hD1 q1 (by omega) (by omega)) ?_
      rintro _ _ ⟨rfl, D2, o2, hD2, rfl⟩
      simp (config := { contextual := true }) only [go_sem, hlen2, hlv2, lcondB_decide, lcondB_not, lguardB_decide_true, lguardB_decide_false, ldguardB_decide, Nat.reduceLT, Nat.reduceEqDiff, Nat.reduceAdd, Nat.reduceLeDiff, reduceIte, reduceCtorEq]
      refine ldrawB_go [] [(4, 1)] 10 (by decide) ?_
      simp (config := { contextual := true }) only [go_sem, hlen2, hlv2, lcondB_decide, lcondB_not, lguardB_decide_true, lguardB_decide_false, ldguardB_decide, Nat.reduceLT, Nat.reduceEqDiff, Nat.reduceAdd, Nat.reduceLeDiff, reduceIte, reduceCtorEq]
      refine ldfun_pure _ (fresh_ok _) ?_
      simp (config := { contextual := true }) only [go_sem, hlen2, hlv2, Rn.enc, lcondB_decide, lcondB_not, lguardB_decide_true, lguardB_decide_false, ldguardB_decide, Nat.reduceLT, Nat.reduceEqDiff, Nat.reduceAdd, Nat.reduceLeDiff, reduceIte, reduceCtorEq]
      refine ldmem_eq (app108 (acellsOf_rs (by simp only [go_sem, lcondB_decide, lcondB_not, lguardB_decide_true, lguardB_decide_false, ldguardB_decide, Nat.reduceLT, Nat.reduceEqDiff, Nat.reduceAdd, Nat.reduceLeDiff, reduceIte, reduceCtorEq]; rfl) (by rfl) rfl) (by decide) (by simp only [go_sem, lcondB_decide, lcondB_not, lguardB_decide_true, lguardB_decide_false, ldguardB_decide, Nat.reduceLT, Nat.reduceEqDiff, Nat.reduceAdd, Nat.reduceLeDiff, reduceIte, reduceCtorEq]) (by simp only [go_sem, lcondB_decide, lcondB_not, lguardB_decide_true, lguardB_decide_false, ldguardB_decide, Nat.reduceLT, Nat.reduceEqDiff, Nat.reduceAdd, Nat.reduceLeDiff, reduceIte, reduceCtorEq]) (rnc_len (O ++ takeO k Q)) (by simp only [List.length_append]; omega) rfl) ?_
      simp (config := { contextual := true }) only [go_sem, hlen2, hlv2, hw2, hw3, lcondB_decide, lcondB_not, lguardB_decide_true, lguardB_decide_false, ldguardB_decide, Nat.reduceLT, Nat.reduceEqDiff, Nat.reduceAdd, Nat.reduceLeDiff, reduceIte, reduceCtorEq]
      refine ⟨by kernel_rfl, (i + 1, at_ + k + c, e.at_ + e.cut, o2, D2, restO c (restO k Q), (O ++ takeO k Q) ++ [⟨0, 0, e.new⟩]), ⟨by simp only; omega, hD2, q4, by simp only; omega, .inl (by simp only; omega), c6, by simp only [List.length_append, List.length_singleton]; omega, ?_⟩, by simp only; omega, ?_⟩
      · rw [← hE]
        simp only [List.append_assoc, List.cons_append, List.nil_append]
      · refine To.go [0, 1, 15] _ rfl (.refl s) (by decide) (by simp) ?_ ?_
        · simp (config := { contextual := true }) only [go_sem, hlen2, hlv2, pu_ren ha.pu, pu_ren hb.pu, lcondB_decide, lcondB_not, lguardB_decide_true, lguardB_decide_false, ldguardB_decide, Nat.reduceLT, Nat.reduceEqDiff, Nat.reduceAdd, Nat.reduceLeDiff, reduceIte, reduceCtorEq]
        · simp only [go_sem, map_gso_pu (rnc_pul _), pul_ren hD2.pu, ren_gsv, lcondB_decide, lcondB_not, lguardB_decide_true, lguardB_decide_false, ldguardB_decide, Nat.reduceLT, Nat.reduceEqDiff, Nat.reduceAdd, Nat.reduceLeDiff, reduceIte, reduceCtorEq]
          rw [show ((O ++ takeO k Q) ++ [(⟨0, 0, e.new⟩ : Rn)]).length = (O ++ takeO k Q).length + 1 from List.length_append, gsv_pos (Nat.succ_ne_zero _), gso_pos (by rw [rnc_snoc]; simp), rnc_snoc]
          exact ⟨rfl, rfl⟩
    · have hi2 : i = b.length := by omega
      rw [hi2, List.drop_length, outs] at hE
      have hw1 : IntKind.i64.wrap ((M : Int) - (at_ : Int)) = ((M - at_ : Nat) : Int) := by rw [wrap_id (by omega)]; omega
      have q3 := takeO_len Q (M - at_) hQ
      refine lfunG_eq (longE n av a ha (by omega) _) ?_
      simp (config := { contextual := true }) only [go_sem, hlen1, hlv, hM, hw1, lcondB_decide, lcondB_not, lguardB_decide_true, lguardB_decide_false, ldguardB_decide, Nat.reduceLT, Nat.reduceEqDiff, Nat.reduceAdd, Nat.reduceLeDiff, reduceIte, reduceCtorEq]
      refine lfunG_to (lv := [(0, .int .i64 n), (7, .ptr (nm s.nx 0) 0), (51, .ptr (nm s.nx 0) 0), (56, .int .i64 ((M - at_ : Nat) : Int))])
        (h := loc s 4 [(0, some (.cells [.rs 3 (nm s.nx 1) q Q.length, gsv 3 (nm s.nx 2) O.length] (some 179))), (1, some (.cells D (some 111))), (2, gso 111 (rnc O)), (3, none)]) (To.go [0, 1, 2, 9] _ rfl (.refl s) (by decide) (by simp) ?_ ?_) ?_
      · simp (config := { contextual := true }) only [go_sem, hlen1, hlv, lcondB_decide, lcondB_not, lguardB_decide_true, lguardB_decide_false, ldguardB_decide, Nat.reduceLT, Nat.reduceEqDiff, Nat.reduceAdd, Nat.reduceLeDiff, reduceIte, reduceCtorEq]
      · simp only [go_sem, map_gso_pu (rnc_pul _), pul_ren hD.pu, ren_gsv, lcondB_decide, lcondB_not, lguardB_decide_true, lguardB_decide_false, ldguardB_decide, Nat.reduceLT, Nat.reduceEqDiff, Nat.reduceAdd, Nat.reduceLeDiff, reduceIte, reduceCtorEq]
      intro tm2 hlen2 hlv2
      simp only [go_sem, hlen1, lcondB_decide, lcondB_not, lguardB_decide_true, lguardB_decide_false, ldguardB_decide, Nat.reduceLT, Nat.reduceEqDiff, Nat.reduceAdd, Nat.reduceLeDiff, reduceIte, reduceCtorEq] at hlen2 hlv2
      simp (config := { contextual := true }) only [go_sem, hlen2, hlv2, lcondB_decide, lcondB_not, lguardB_decide_true, lguardB_decide_false, ldguardB_decide, Nat.reduceLT, Nat.reduceEqDiff, Nat.reduceAdd, Nat.reduceLeDiff, reduceIte, reduceCtorEq]
      refine lfunG_of (keep_ok (M - at_) D q Q O none (by intro f; rfl) hD hQ (by omega) (by omega)) ?_
      rintro _ _ ⟨rfl, D1, o1, j, hj, hD1, rfl⟩
      rw [hE]
      have hfl : (outs M 0 L0 b).length ≤ 1000000000 := by rw [← hE, List.length_append]; omega
      rcases hj with rfl | rfl
      all_goals
        simp (config := { contextual := true }) only [go_sem, hlen2, hlv2, lcondB_decide, lcondB_not, lguardB_decide_true, lguardB_decide_false, ldguardB_decide, Nat.reduceLT, Nat.reduceEqDiff, Nat.reduceAdd, Nat.reduceLeDiff, reduceIte, reduceCtorEq]
        first
        | refine lfunG_freezeG 2 3 ((outs M 0 L0 b).map Rn.enc) (by simp only [go_sem, lcondB_decide, lcondB_not, lguardB_decide_true, lguardB_decide_false, ldguardB_decide, Nat.reduceLT, Nat.reduceEqDiff, Nat.reduceAdd, Nat.reduceLeDiff, reduceIte, reduceCtorEq]; rfl) (rn_len _) (by decide) ?_
        | refine lfunG_freezeG 4 3 ((outs M 0 L0 b).map Rn.enc) (by simp only [go_sem, lcondB_decide, lcondB_not, lguardB_decide_true, lguardB_decide_false, ldguardB_decide, Nat.reduceLT, Nat.reduceEqDiff, Nat.reduceAdd, Nat.reduceLeDiff, reduceIte, reduceCtorEq]; rfl) (rn_len _) (by decide) ?_
        simp (config := { contextual := true }) only [go_sem, hlen2, hlv2, len_rnfz, lcondB_decide, lcondB_not, lguardB_decide_true, lguardB_decide_false, ldguardB_decide, Nat.reduceLT, Nat.reduceEqDiff, Nat.reduceAdd, Nat.reduceLeDiff, reduceIte, reduceCtorEq]
        refine lfunG_eq (editsR_ok n (outs M 0 L0 b) (by omega) hF hfl _) ?_
        simp (config := { contextual := true }) only [go_sem, hlen2, hlv2, lcondB_decide, lcondB_not, lguardB_decide_true, lguardB_decide_false, ldguardB_decide, Nat.reduceLT, Nat.reduceEqDiff, Nat.reduceAdd, Nat.reduceLeDiff, reduceIte, reduceCtorEq]
        exact lexit_pure (.refl s) (low.mono (Nat.zero_le _) (edv_pu _)) ⟨rfl, rfl⟩
end Go.S1N
end
section
set_option linter.unusedVariables false
set_option linter.unusedSimpArgs false
namespace Go.S1N
open Go Go.Am Go.Proofs Go.S1
set_option maxRecDepth 100000
set_option linter.unusedSimpArgs false

theorem rflow_cons (r : Rn) (l : List Rn) : rflow (r :: l) = rfl1 r ++ rflow l := List.flatMap_cons
theorem rfl1_emp {r : Rn} (h : r.emp) : rfl1 r = [] := by
  obtain ⟨h1, h2⟩ := h
  simp [rfl1, h1, h2]
theorem live_flow : ∀ L : List Rn, rflow (live L) = rflow L
  | [] => rfl
  | r :: L => by
    have ih := live_flow L
    unfold live at ih ⊢
    rw [List.filter_cons, rflow_cons]
    by_cases h : r.emp
    · rw [if_neg (by simp [h]), rfl1_emp h, ih]; rfl
    · rw [if_pos (by simp [h]), rflow_cons, ih]
theorem tot_flow : ∀ L : List Rn, (∀ r ∈ L, okR r) → tot L = (rflow L).length
  | [], _ => rfl
  | r :: L, h => by
    rw [tot, rflow_cons, List.length_append, rfl1_len (h r (List.mem_cons_self ..)), tot_flow L fun x hx => h x (List.mem_cons_of_mem r hx)]

theorem runs_w (n : Nat) : ∀ (l : List Ed) (a : Nat) (B : Int), (B = a ∨ (B = -1 ∧ a = 0)) → a ≤ n → scan n B l = 0 → (∀ e ∈ l, e.new.length ≤ 100000) → ∀ r ∈ runsFrom n a l, okR r ∧ r.at_ + r.long ≤ n ∧ r.text.length ≤ 100000
  | [], a, B, hB, ha, hs, hn, r, hr => by
    rw [runsFrom, List.mem_singleton] at hr
    subst hr
    exact ⟨⟨by simp only; omega, by simp only; omega, .inl rfl⟩, by simp only; omega, by simp⟩
  | e :: l, a, B, hB, ha, hs, hn, r, hr => by
    obtain ⟨c1, c2, c3, c4, c5, c6⟩ := scan_cons hs
    rw [runsFrom, List.mem_cons, List.mem_cons] at hr
    rcases hr with rfl | rfl | hr
    · exact ⟨⟨by simp only; omega, by simp only; omega, .inl rfl⟩, by simp only; omega, by simp⟩
    · exact ⟨⟨by simp only; omega, by simp only; omega, .inr rfl⟩, by simp only; omega, hn e (List.mem_cons_self ..)⟩
    · have he : e.at_ + e.cut = (((e.at_ + e.cut).toNat : Nat) : Int) := by omega
      rw [he] at hr
      exact runs_w n l (e.at_ + e.cut).toNat (e.at_ + e.cut) (.inl he) (by omega) c6 (fun x hx => hn x (List.mem_cons_of_mem e hx)) r hr
theorem over_app (F G H : List (Int × UInt8)) : overF F (G ++ H) = overF F G ++ overF F H := List.map_append
theorem over_neg (F : List (Int × UInt8)) (w : List UInt8) : overF F (negL w) = negL w := by
  unfold overF negL
  rw [List.map_map]
  refine List.map_congr_left fun c _ => ?_
  simp [overL]
theorem over_run (F : List (Int × UInt8)) (a k : Nat) (h : a + k ≤ F.length) : overF F (runOf a k) = (F.drop a).take k := by
  unfold overF runOf
  rw [List.map_map]
  apply List.ext_getElem
  · simp; omega
  · intro i h1 h2
    simp at h1 h2
    simp only [List.getElem_map, List.getElem_range', Function.comp_apply, List.getElem_take, List.getElem_drop, overL]
    rw [if_pos (by omega), List.getD_eq_getElem?_getD, List.getElem?_eq_getElem (by omega)]
    simp
    have hai : ((a : Int) + (i : Int)).toNat = a + i := by omega
    simp only [hai]

theorem outs_flow (F : List (Int × UInt8)) : ∀ (b : List Ed) (a : Nat) (B : Int) (Q : List Rn), (B = a ∨ (B = -1 ∧ a = 0)) → a ≤ F.length → scan F.length B b = 0 → (∀ r ∈ Q, okR r) → rflow Q = F.drop a → rflow (outs F.length a Q b) = overF F (flowFrom F.length a b)
  | [], a, B, Q, hB, ha, hs, hQ, hd => by
    rw [outs, flowFrom, over_run F a _ (by omega), (take_flow Q _ hQ).1, hd]
  | e :: b, a, B, Q, hB, ha, hs, hQ, hd => by
    obtain ⟨c1, c2, c3, c4, c5, c6⟩ := scan_cons hs
    have t1 := take_flow Q (e.at_ - a).toNat hQ
    have t2 := take_flow (restO (e.at_ - a).toNat Q) e.cut.toNat t1.2.2
    have he : e.at_ + e.cut = (((e.at_ + e.cut).toNat : Nat) : Int) := by omega
    rw [outs, flowFrom, over_app, over_app, over_run F a _ (by omega), rflow_app, rflow_cons, rfl1_fresh, t1.1, hd]
    rw [outs_flow F b (e.at_ + e.cut).toNat (e.at_ + e.cut) _ (.inl he) (by omega) c6 t2.2.2 (by
      rw [t2.2.1, t1.2.1, hd, List.drop_drop, List.drop_drop]
      congr 1; omega)]
    rw [show (e.at_ - (a : Int)).toNat = e.at_.toNat - a by omega, List.append_assoc]
    congr 2
    exact (over_neg F e.new).symm

theorem outs_b (M : Nat) : ∀ (b : List Ed) (a : Nat) (Q : List Rn), (∀ r ∈ Q, RB r ∧ r.text.length ≤ 1000000) → (∀ e ∈ b, e.new.length ≤ 100000) → ∀ r ∈ outs M a Q b, 0 ≤ r.at_ ∧ r.at_ ≤ 1000000000 ∧ r.at_ + r.long ≤ 1000000000 ∧ 0 ≤ r.long ∧ r.text.length ≤ 1000000 := by
  have take : ∀ (Q : List Rn) (k : Nat), (∀ r ∈ Q, RB r ∧ r.text.length ≤ 1000000) → ∀ r ∈ takeO k Q, 0 ≤ r.at_ ∧ r.at_ ≤ 1000000000 ∧ r.at_ + r.long ≤ 1000000000 ∧ 0 ≤ r.long ∧ r.text.length ≤ 1000000 := by
    intro Q
    induction Q with
    | nil => intro k _ r hr; simp [takeO] at hr
    | cons q Q ih =>
      intro k hQ r hr
      have hq := hQ q (List.mem_cons_self ..)
      have cut : ∀ k, k ≤ rsize q → 0 ≤ (cutR q k).at_ ∧ (cutR q k).at_ ≤ 1000000000 ∧ (cutR q k).at_ + (cutR q k).long ≤ 1000000000 ∧ 0 ≤ (cutR q k).long ∧ (cutR q k).text.length ≤ 1000000 := by
        intro k hk
        obtain ⟨⟨⟨a1, a2, a3⟩, a4, a5, a6⟩, a7⟩ := hq
        unfold cutR
        split
        · refine ⟨by simp only; omega, by simp only; omega, by simp only; omega, by simp only; omega, ?_⟩
          simp only [List.length_take]; omega
        · rename_i ht
          have ht : q.text = [] := by simpa using ht
          unfold rsize at hk
          rw [ht] at hk
          simp at hk
          exact ⟨a5, by simp only; omega, by simp only; omega, by simp only; omega, by simp⟩
      rw [takeO] at hr
      split at hr
      · cases hr
      · split at hr
        · rw [List.mem_singleton] at hr
          subst hr
          exact cut _ (by omega)
        · rcases List.mem_cons.1 hr with rfl | hr
          · exact cut _ (Nat.le_refl _)
          · exact ih _ (fun x hx => hQ x (List.mem_cons_of_mem q hx)) r hr
  have rest : ∀ (Q : List Rn) (k : Nat), (∀ r ∈ Q, RB r ∧ r.text.length ≤ 1000000) → ∀ r ∈ restO k Q, RB r ∧ r.text.length ≤ 1000000 := by
    intro Q
    induction Q with
    | nil => intro k _ r hr; simp [restO] at hr
    | cons q Q ih =>
      intro k hQ r hr
      have hq := hQ q (List.mem_cons_self ..)
      rw [restO] at hr
      split at hr
      · exact hQ r hr
      · split at hr
        · rename_i h1
          rcases List.mem_cons.1 hr with rfl | hr
          · refine ⟨hq.1.rest h1, ?_⟩
            unfold restR
            split
            · simp only [List.length_drop]; omega
            · simp
          · exact hQ r (List.mem_cons_of_mem q hr)
        · exact ih _ (fun x hx => hQ x (List.mem_cons_of_mem q hx)) r hr
  intro b
  induction b with
  | nil => intro a Q hQ _ r hr; exact take Q _ hQ r hr
  | cons e b ih =>
    intro a Q hQ hb r hr
    rw [outs] at hr
    rcases List.mem_append.1 hr with hr | hr
    · exact take Q _ hQ r hr
    · rcases List.mem_cons.1 hr with rfl | hr
      · exact ⟨by simp only; omega, by simp only; omega, by simp only; omega, by simp only; omega, by have := hb e (List.mem_cons_self ..); simp only; omega⟩
      · exact ih _ _ (rest _ _ (rest _ _ hQ)) (fun x hx => hb x (List.mem_cons_of_mem e hx)) r hr

/-- edit.then: the edits of one flow over the other -/
theorem thenE_ok (n : Nat) (av bv : AV) (a b : List Ed) (ha : SlE av a) (hb : SlE bv b) (hn : n ≤ 20000) (hfa : faultOf n a = 0) (hfb : faultOf (flowFrom n 0 a).length b = 0) (hna : ∀ e ∈ a, e.new.length ≤ 100000) (hnb : ∀ e ∈ b, e.new.length ≤ 100000) (s : AHeap) :
    ACall Try.prog 81 [.int .i64 n, av, bv] s fun r t => r = edv (edGo n 0 [] (overF (flowFrom n 0 a) (flowFrom (flowFrom n 0 a).length 0 b))) ∧ t = s := by
  obtain ⟨_, _, ha2, hsa⟩ := faultOf_zero hfa
  obtain ⟨_, hM, hb2, hsb⟩ := faultOf_zero hfb
  obtain ⟨q1, q2⟩ := flow_short hfa hna
  have hw := runs_w n a 0 (-1) (.inr ⟨rfl, rfl⟩) (by omega) hsa hna
  have hRB : ∀ r ∈ live (runsFrom n 0 a), RB r ∧ r.text.length ≤ 1000000 := by
    intro r hr
    obtain ⟨h1, h2⟩ := List.mem_filter.1 hr
    obtain ⟨g1, g2, g3⟩ := hw r h1
    have hne : ¬ r.emp := by simpa using h2
    refine ⟨⟨g1, ?_, g1.1, by omega⟩, by omega⟩
    unfold rsize
    rcases Nat.eq_zero_or_pos (max r.long.toNat r.text.length) with h | h
    · exfalso
      refine hne ⟨?_, List.eq_nil_of_length_eq_zero (by omega)⟩
      have := g1.2.1
      omega
    · exact h
  have hfl : rflow (live (runsFrom n 0 a)) = flowFrom n 0 a := by
    rw [live_flow]; exact runs_flow n a 0 (-1) (.inr ⟨rfl, rfl⟩) (by omega) hsa
  have htot : tot (live (runsFrom n 0 a)) = (flowFrom n 0 a).length := by rw [tot_flow _ fun r hr => (hRB r hr).1.ok, hfl]
  have hob := outs_b (flowFrom n 0 a).length b 0 _ hRB hnb
  have key := then_ok n av bv a b ha hb ha2 hb2 (by omega) (by omega) hsa (flowFrom n 0 a).length q2 q1 (fun r hr => (hRB r hr).1) htot hsb hob (by rw [runs_len]; omega) s
  rw [rGo_flow n _ 0 [] fun r hr => (hob r hr).1, outs_flow (flowFrom n 0 a) b 0 (-1) _ (.inr ⟨rfl, rfl⟩) (by omega) hsb (fun r hr => (hRB r hr).1.ok) (by rw [hfl]; rfl)] at key
  exact key
end Go.S1N
end
section
set_option linter.unusedVariables false
set_option linter.unusedSimpArgs false
namespace Go.S1N
open Go Go.Am Go.Proofs Go.S1
set_option maxRecDepth 100000
set_option linter.unusedSimpArgs false
attribute [local irreducible] lopsB lvb lstepB lfunG lcondB lguardB ldrawB ldrunB ldstepB ldguardB lmem lval ldmem ldval ldfun lexit ldloadB ldlenB lpostB athen ablock

/-- edit.Then -/
theorem thenX_ok (n : Nat) (v w : AV) (a b : List Ed) (hv : SlE v a) (hw : SlE w b) (hal : a.length < 4611686018427387904) (hbl : b.length < 4611686018427387904) (hna : ∀ e ∈ a, e.new.length ≤ 100000) (hnb : ∀ e ∈ b, e.new.length ≤ 100000) (hn : n ≤ 20000) (s : AHeap) :
    ACall Try.prog 34 [.int .i64 n, v, w] s fun r t => r = .tuple [edv (thenVal n a b).1, .int .i64 (thenVal n a b).2] ∧ t = s := by
  refine gob34 (by simp) ?_
  intro tm hlen harg
  simp (config := { contextual := true }) only [go_sem, L34, hlen, harg, lcondB_decide, lcondB_not, lguardB_decide_true, lguardB_decide_false, ldguardB_decide, Nat.reduceLT, Nat.reduceEqDiff, Nat.reduceAdd, Nat.reduceLeDiff, reduceIte, reduceCtorEq]
  refine lfunG_eq (checkE _ _ a hv hal _) ?_
  simp (config := { contextual := true }) only [go_sem, hlen, harg, lcondB_decide, lcondB_not, lguardB_decide_true, lguardB_decide_false, ldguardB_decide, Nat.reduceLT, Nat.reduceEqDiff, Nat.reduceAdd, Nat.reduceLeDiff, reduceIte, reduceCtorEq]
  refine ⟨fun c => ?_, fun c => ?_⟩
  · refine lexit_pure (.refl s) (by simp only [low, lowL, and_self]) ⟨?_, rfl⟩
    rw [thenVal, if_pos c]; rfl
  have c : faultOf n a = 0 := by simpa using c
  have hsh := (flow_short c hna).2
  refine lfunG_eq (longE _ _ a hv hal _) ?_
  simp (config := { contextual := true }) only [go_sem, hlen, harg, hsh, lcondB_decide, lcondB_not, lguardB_decide_true, lguardB_decide_false, ldguardB_decide, Nat.reduceLT, Nat.reduceEqDiff, Nat.reduceAdd, Nat.reduceLeDiff, reduceIte, reduceCtorEq]
  refine lfunG_eq (checkE _ _ b hw hbl _) ?_
  simp (config := { contextual := true }) only [go_sem, hlen, harg, lcondB_decide, lcondB_not, lguardB_decide_true, lguardB_decide_false, ldguardB_decide, Nat.reduceLT, Nat.reduceEqDiff, Nat.reduceAdd, Nat.reduceLeDiff, reduceIte, reduceCtorEq]
  refine ⟨fun d => ?_, fun d => ?_⟩
  · refine lexit_pure (.refl s) (by simp only [low, lowL, and_self]) ⟨?_, rfl⟩
    rw [thenVal, if_neg (by simpa using c), if_pos d]; rfl
  have d : faultOf (flowFrom n 0 a).length b = 0 := by simpa using d
  refine lfunG_eq (thenE_ok n _ _ a b hv hw hn c d hna hnb _) ?_
  have hV : thenVal n a b = if 2000 < (edGo n 0 [] (overF (flowFrom n 0 a) (flowFrom (flowFrom n 0 a).length 0 b))).length then ([], 2) else (edGo n 0 [] (overF (flowFrom n 0 a) (flowFrom (flowFrom n 0 a).length 0 b)), 0) := by
    rw [thenVal, if_neg (by simpa using c), if_neg (by simpa using d)]
  rw [hV]
  generalize edGo n 0 [] (overF (flowFrom n 0 a) (flowFrom (flowFrom n 0 a).length 0 b)) = E
  simp (config := { contextual := true }) only [go_sem, hlen, harg, (edv_sl E).len, lcondB_decide, lcondB_not, lguardB_decide_true, lguardB_decide_false, ldguardB_decide, Nat.reduceLT, Nat.reduceEqDiff, Nat.reduceAdd, Nat.reduceLeDiff, reduceIte, reduceCtorEq]
  refine ⟨fun h => ?_, fun h => ?_⟩
  · rw [if_pos (by omega)]
    exact lexit_pure (.refl s) (by simp only [low, lowL, and_self]) ⟨rfl, rfl⟩
  · rw [if_neg (by omega)]
    exact lexit_pure (.refl s) (by simp only [low, lowL, and_self, and_true]; exact low.mono (Nat.zero_le _) (edv_pu _)) ⟨rfl, rfl⟩

theorem long_flow {n : Nat} {l : List Ed} (hn : n ≤ 20000) (hl : l.length ≤ 2000) (hs : scan n (-1) l = 0) (hnew : ∀ e ∈ l, e.new.length ≤ 100000) : longOf n l = (flowFrom n 0 l).length := by
  have q1 := flow_dl n l 0 (-1) (.inr ⟨rfl, rfl⟩) (by omega) hs
  have q2 := long_dl l n (fun e he => ⟨hnew e he, by have := scan_range l _ hs e he; omega⟩) (by omega) (by omega)
  omega

/-- a change put together has no fault -/
theorem then_zero {n : Nat} {a b : List Ed} (hnb : ∀ e ∈ b, e.new.length ≤ 100000) (h : (thenVal n a b).2 = 0) :
    faultOf n (thenVal n a b).1 = 0 ∧ (flowFrom n 0 (thenVal n a b).1).length = (flowFrom (flowFrom n 0 a).length 0 b).length := by
  obtain ⟨c, d, h1, h2, h3⟩ := then_right hnb h
  obtain ⟨g1, g2, g3, g4⟩ := faultOf_zero c
  obtain ⟨k1, k2, k3, k4⟩ := faultOf_zero d
  obtain ⟨r1, r2⟩ := over_right n a b g4 k4
  rw [← h1] at r1 r2
  have hlen : (flowFrom n 0 (thenVal n a b).1).length = (flowFrom (flowFrom n 0 a).length 0 b).length := by rw [r2, overF, List.length_map]
  refine ⟨?_, hlen⟩
  have hl := long_flow (by omega) h2 r1 (fun e he => by have := h3 e he; omega)
  have hs := (flow_short d hnb).1
  rw [faultOf_end ⟨g1, g2⟩ (by omega) r1, if_neg (by omega)]
theorem then_val {n : Nat} {a b : List Ed} (c : faultOf n a = 0) (d : faultOf (flowFrom n 0 a).length b = 0) :
    thenVal n a b = if 2000 < (edGo n 0 [] (overF (flowFrom n 0 a) (flowFrom (flowFrom n 0 a).length 0 b))).length then ([], 2) else (edGo n 0 [] (overF (flowFrom n 0 a) (flowFrom (flowFrom n 0 a).length 0 b)), 0) := by
  rw [thenVal, if_neg (by simpa using c), if_neg (by simpa using d)]
theorem fault_nil {n : Nat} (hn : n ≤ 20000) : faultOf n [] = 0 := by
  rw [faultOf_end ⟨by omega, by omega⟩ (by simp) rfl, if_neg (by simp [longOf]; omega)]

/-- edit.Fold -/
theorem foldX_ok (n : Nat) (hn : n ≤ 20000) (v : AV) (l : List (List Ed)) (hv : IsEds v l) (hl : l.length ≤ 1000) (hnew : ∀ c ∈ l, c.length ≤ 2000 ∧ ∀ e ∈ c, e.new.length ≤ 100000) (s : AHeap) :
    ACall Try.prog 35 [.int .i64 n, v] s fun r t => r = .tuple [edv (foldVal n l).1, .int .i64 (foldVal n l).2] ∧ t = s := by
  refine gob35 (by simp) ?_
  intro tm hlen harg
  have hpu := hv.pu
  simp (config := { contextual := true }) only [go_sem, L35, hlen, harg, lcondB_decide, lcondB_not, lguardB_decide_true, lguardB_decide_false, ldguardB_decide, Nat.reduceLT, Nat.reduceEqDiff, Nat.reduceAdd, Nat.reduceLeDiff, reduceIte, reduceCtorEq]
  refine lfunG_eq (in_ok n 0 20000 _) ?_
  simp (config := { contextual := true }) only [go_sem, hlen, harg, hv.len, lcondB_decide, lcondB_not, lguardB_decide_true, lguardB_decide_false, ldguardB_decide, Nat.reduceLT, Nat.reduceEqDiff, Nat.reduceAdd, Nat.reduceLeDiff, reduceIte, reduceCtorEq]
  refine ⟨fun hc => by omega, fun hc => ?_⟩
  refine ⟨Nat × Nat, fun a => [(0, .int .i64 n), (1, v), (6, .int .i64 a.2), (17, v), (18, .int .i64 l.length), (19, .int .i64 a.1)], fun a => loc s 0 [], fun a => a.1 ≤ l.length ∧ a.2 ≤ 20000 ∧ chkF a.2 (l.drop a.1) = chkF n l, fun a => l.length - a.1, (0, n), ⟨by simp, by simp only; omega, by simp⟩, ?_, ?_⟩
  · refine To.go [] [] rfl (.refl s) (by decide) (by simp) ?_ trivial
    simp (config := { contextual := true }) only [go_sem, hlen, harg, pu_ren hpu, lcondB_decide, lcondB_not, lguardB_decide_true, lguardB_decide_false, ldguardB_decide, Nat.reduceLT, Nat.reduceEqDiff, Nat.reduceAdd, Nat.reduceLeDiff, reduceIte, reduceCtorEq]
    simp
  · rintro ⟨j, m⟩ tm1 ⟨hj, hm, hE⟩ hlen1 hlv
    simp only [go_sem, hlen, lcondB_decide, lcondB_not, lguardB_decide_true, lguardB_decide_false, ldguardB_decide, Nat.reduceLT, Nat.reduceEqDiff, Nat.reduceAdd, Nat.reduceLeDiff, reduceIte, reduceCtorEq] at hlen1 hlv hj hm hE
    simp (config := { contextual := true }) only [go_sem, hlen, hlen1, hlv, hv.len, lcondB_decide, lcondB_not, lguardB_decide_true, lguardB_decide_false, ldguardB_decide, Nat.reduceLT, Nat.reduceEqDiff, Nat.reduceAdd, Nat.reduceLeDiff, reduceIte, reduceCtorEq]
    refine ⟨fun hlt => ?_, fun hge => ?_⟩
    · have hj2 : j < l.length := by omega
      have he := List.getElem?_eq_getElem hj2
      have hmem : l[j] ∈ l := List.getElem_mem hj2
      have hdrop := List.drop_eq_getElem_cons hj2
      generalize l[j] = c at he hmem hdrop
      obtain ⟨hcl, hcn⟩ := hnew c hmem
      rw [hdrop, chkF] at hE
      have hw3 : IntKind.i64.wrap ((j : Int) + 1) = ((j + 1 : Nat) : Int) := by rw [wrap_id (by omega)]; rfl
      simp (config := { contextual := true }) only [go_sem, hlen1, hlv, hv.at_ he, ld27r, lcondB_decide, lcondB_not, lguardB_decide_true, lguardB_decide_false, ldguardB_decide, Nat.reduceLT, Nat.reduceEqDiff, Nat.reduceAdd, Nat.reduceLeDiff, reduceIte, reduceCtorEq]
      refine lfunG_eq (checkE m _ c (edv_sl c) (by omega) _) ?_
      simp (config := { contextual := true }) only [go_sem, hlen1, hlv, lcondB_decide, lcondB_not, lguardB_decide_true, lguardB_decide_false, ldguardB_decide, Nat.reduceLT, Nat.reduceEqDiff, Nat.reduceAdd, Nat.reduceLeDiff, reduceIte, reduceCtorEq]
      refine ⟨fun hf => ?_, fun hf => ?_⟩
      · rw [if_pos hf] at hE
        refine lexit_pure (.refl s) (by simp only [low, lowL, and_self]) ⟨?_, rfl⟩
        rw [foldVal, if_neg (by omega), if_pos (by rw [← hE]; exact hf), ← hE]; rfl
      · have hf : faultOf m c = 0 := by simpa using hf
        rw [if_neg (by simpa using hf)] at hE
        have hsh := flow_short hf hcn
        refine lfunG_eq (longE m _ c (edv_sl c) (by omega) _) ?_
        simp (config := { contextual := true }) only [go_sem, hlen1, hlv, hw3, hsh.2, lcondB_decide, lcondB_not, lguardB_decide_true, lguardB_decide_false, ldguardB_decide, Nat.reduceLT, Nat.reduceEqDiff, Nat.reduceAdd, Nat.reduceLeDiff, reduceIte, reduceCtorEq]
        refine ⟨(j + 1, (flowFrom m 0 c).length), ⟨by simp only; omega, hsh.1, hE⟩, by simp only; omega, ?_⟩
        refine To.go [] [] rfl (.refl s) (by decide) (by simp) ?_ trivial
        simp (config := { contextual := true }) only [go_sem, hlen1, hlv, pu_ren hpu, lcondB_decide, lcondB_not, lguardB_decide_true, lguardB_decide_false, ldguardB_decide, Nat.reduceLT, Nat.reduceEqDiff, Nat.reduceAdd, Nat.reduceLeDiff, reduceIte, reduceCtorEq]
    · have hj2 : j = l.length := by omega
      rw [hj2, List.drop_length, chkF] at hE
      have hval : foldVal n l = foldR n [] l := by rw [foldVal, if_neg (by omega), if_neg (by rw [← hE]; simp)]
      rw [hval]
      refine ⟨Nat × List Ed, fun a => [(0, .int .i64 n), (10, edv a.2), (33, v), (34, .int .i64 l.length), (35, .int .i64 a.1)], fun a => loc s 0 [], fun a => a.1 ≤ l.length ∧ faultOf n a.2 = 0 ∧ (∀ e ∈ a.2, e.new.length ≤ 100000) ∧ chkF (flowFrom n 0 a.2).length (l.drop a.1) = 0 ∧ foldR n a.2 (l.drop a.1) = foldR n [] l, fun a => l.length - a.1, (0, []),
        ⟨by simp, fault_nil hn, by simp, by simp only [flowFrom, runOf, List.length_map, List.length_range', Nat.sub_zero, List.drop_zero]; exact hE.symm, by simp⟩, ?_, ?_⟩
      · refine To.go [] [] rfl (.refl s) (by decide) (by simp) ?_ trivial
        simp (config := { contextual := true }) only [go_sem, hlen1, hlv, pu_ren hpu, lcondB_decide, lcondB_not, lguardB_decide_true, lguardB_decide_false, ldguardB_decide, Nat.reduceLT, Nat.reduceEqDiff, Nat.reduceAdd, Nat.reduceLeDiff, reduceIte, reduceCtorEq]
        exact ⟨rfl, rfl⟩
      · rintro ⟨i, out⟩ tm2 ⟨hi, ho, hon, hK, hR⟩ hlen2 hlv2
        simp only [go_sem, hlen1, lcondB_decide, lcondB_not, lguardB_decide_true, lguardB_decide_false, ldguardB_decide, Nat.reduceLT, Nat.reduceEqDiff, Nat.reduceAdd, Nat.reduceLeDiff, reduceIte, reduceCtorEq] at hlen2 hlv2 hi ho hon hK hR
        simp (config := { contextual := true }) only [go_sem, hlen2, hlv2, lcondB_decide, lcondB_not, lguardB_decide_true, lguardB_decide_false, ldguardB_decide, Nat.reduceLT, Nat.reduceEqDiff, Nat.reduceAdd, Nat.reduceLeDiff, reduceIte, reduceCtorEq]
        refine ⟨fun hlt => ?_, fun hge => ?_⟩
        · have hi2 : i < l.length := by omega
          have he := List.getElem?_eq_getElem hi2
          have hmem : l[i] ∈ l := List.getElem_mem hi2
          have hdrop := List.drop_eq_getElem_cons hi2
          generalize l[i] = c at he hmem hdrop
          obtain ⟨hcl, hcn⟩ := hnew c hmem
          rw [hdrop, foldR] at hR
          rw [hdrop, chkF] at hK
          have hfc : faultOf (flowFrom n 0 out).length c = 0 := by
            split at hK
            · rename_i q; exact absurd hK q
            · rename_i q; simpa using q
          rw [if_neg (by simpa using hfc)] at hK
          have hV := then_val ho hfc
          have hw3 : IntKind.i64.wrap ((i : Int) + 1) = ((i + 1 : Nat) : Int) := by rw [wrap_id (by omega)]; rfl
          simp (config := { contextual := true }) only [go_sem, hlen2, hlv2, hv.at_ he, ld27r, lcondB_decide, lcondB_not, lguardB_decide_true, lguardB_decide_false, ldguardB_decide, Nat.reduceLT, Nat.reduceEqDiff, Nat.reduceAdd, Nat.reduceLeDiff, reduceIte, reduceCtorEq]
          refine lfunG_eq (thenE_ok n _ _ out c (edv_sl out) (edv_sl c) hn ho hfc hon hcn _) ?_
          generalize hEE : edGo n 0 [] (overF (flowFrom n 0 out) (flowFrom (flowFrom n 0 out).length 0 c)) = E at hV
          simp (config := { contextual := true }) only [go_sem, hlen2, hlv2, hw3, (edv_sl E).len, lcondB_decide, lcondB_not, lguardB_decide_true, lguardB_decide_false, ldguardB_decide, Nat.reduceLT, Nat.reduceEqDiff, Nat.reduceAdd, Nat.reduceLeDiff, reduceIte, reduceCtorEq]
          refine ⟨fun hf => ?_, fun hf => ?_⟩
          · rw [if_pos (show 2000 < E.length by omega)] at hV
            rw [hV, if_pos (by simp)] at hR
            refine lexit_pure (.refl s) (by simp only [low, lowL, and_self]) ⟨?_, rfl⟩
            rw [← hR]; rfl
          · rw [if_neg (by omega)] at hV
            have h0 : (thenVal n out c).2 = 0 := by rw [hV]
            rw [if_neg (by simpa using h0)] at hR
            obtain ⟨z1, z2⟩ := then_zero hcn h0
            obtain ⟨_, _, _, _, z3⟩ := then_right hcn h0
            rw [hV] at z1 z2 z3 hR
            refine ⟨hlen1.symm, (i + 1, E), ⟨by simp only; omega, z1, fun e he => by have := z3 e he; omega, by simp only at z2 ⊢; rw [z2]; exact hK, hR⟩, by simp only; omega, ?_⟩
            refine To.go [] [] rfl (.refl s) (by decide) (by simp) ?_ trivial
            simp (config := { contextual := true }) only [go_sem, hlen2, hlv2, pu_ren hpu, pu_ren (edv_pu _), lcondB_decide, lcondB_not, lguardB_decide_true, lguardB_decide_false, ldguardB_decide, Nat.reduceLT, Nat.reduceEqDiff, Nat.reduceAdd, Nat.reduceLeDiff, reduceIte, reduceCtorEq]
        · have hi2 : i = l.length := by omega
          rw [hi2, List.drop_length, foldR] at hR
          refine lexit_pure (.refl s) (by simp only [low, lowL, and_self, and_true]; exact low.mono (Nat.zero_le _) (edv_pu _)) ⟨?_, rfl⟩
          rw [← hR]
end Go.S1N
end
