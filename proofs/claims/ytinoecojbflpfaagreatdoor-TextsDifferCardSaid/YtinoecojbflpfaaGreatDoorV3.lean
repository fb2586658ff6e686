/- Part 3 of a proof: texts of this work, put together. -/
import Derived.Test.YtinoecojbflpfaaGreatDoorV2
import Derived.Test.YtinoecojbflpfaaGreatDoorRows
import Derived.KernelRfl
set_option linter.unusedVariables false
set_option linter.unusedSimpArgs false
section
namespace Go.S1N
open Go Go.Am Go.Proofs Go.S1
set_option maxRecDepth 100000
attribute [local go_sem] Nat.reduceLT Nat.reduceEqDiff Nat.reduceAdd Nat.reduceLeDiff reduceIte reduceCtorEq
attribute [local irreducible] lopsB lvb lstepB lfunG lcondB lguardB lguardU ldguardU ldrawB ldrunB ldstepB ldguardB lmem lval ldmem ldval ldfun lexit ldloadB ldlenB lpostB athen ablock
def QudR (S : List UInt8) (b : Nat) (s : AHeap) (v : AV) (t : AHeap) : Prop :=
  (∃ txt rest a', qAll S = some (txt, rest) ∧ v = .tuple [.str txt, .bool true] ∧ a' + rest.length = S.length ∧ t = s.upd b (dmr S a')) ∨
  (qAll S = none ∧ v = .tuple [.str [], .bool false] ∧ ∃ a', a' ≤ S.length ∧ t = s.upd b (dmr S a'))
theorem cvB {ev : Operand → AV} {x : Operand} {s : AHeap} {n k : Nat} {l : List (Nat × Option AObj)} {c : UInt8} {mm : Nat} (hmm : s.nx = mm) (hx : ev x = .rs 1 (nm mm k) 0 1) (hk : lget l k = some (.cells [.int .u8 c.toNat] (some 5))) :
    lop tab ev (.convert 118 9 x) (loc s n l) = some (.str [c], loc s n l) :=
  cvS (acc := [c]) hmm (hx.trans (gsv_pos (by simp)).symm) (hk.trans (gso_bytes_ne (x := [c]) (by simp)).symm)
set_option maxHeartbeats 1000000 in
theorem quoted_ok {s : AHeap} {b : Nat} {S : List UInt8} (h : Dm s b S 0) : ACall Tryz.prog 96 [.ptr b 0] s (QudR S b s) := by
  refine gob96 (by simp) ?_
  intro tm hlen harg
  have hb := h.lt
  have hln := h.len
  have hg := h.get
  rw [dmr] at hg
  have hlow := fun x => dmr_low (n := s.nx) S x
  have none_ : ∀ {nn : Nat} {ll : List (Nat × Option AObj)} {a' : Nat}, qAll S = none → a' ≤ S.length → lexit s (QudR S b s) (some (.tuple [.str [], .bool false])) (loc (s.upd b (.cells [.str S, .int .i64 a'] (some 154))) nn ll) := fun h1 h2 =>
    lexit_pure ((OKo.refl s).upd hb (hlow _)) (by simp only [low, lowL, and_self]) (.inr ⟨h1, rfl, _, h2, rfl⟩)
  simp +contextual only [go_sem, L96, hlen, harg, cdD, cdN, gdT, gdF, gdD]
  refine lfunG_eq (is2_ok h.loc 34) ?_
  cases hi0 : isAt S 0 false 34 with
  | false =>
    simp +contextual only [go_sem, hlen, harg, hb, Bool.not_false, cdD, cdN, gdT, gdF, gdD]
    have hq : qAll S = none := by
      cases S with
      | nil => rfl
      | cons c r => exact if_neg fun e => by subst e; simp [isAt, more] at hi0
    rw [← loc_same h.get]
    exact none_ hq (Nat.zero_le _)
  | true =>
    have hpos : 0 < S.length := by
      simp only [isAt, more, Bool.and_eq_true, decide_eq_true_eq] at hi0; exact hi0.1.2
    have hI0 : QI S [] 1 false := ⟨hpos, by simp, fun _ => (by
      have hc : S.getD 0 0 = 34 := by simp only [isAt, Bool.and_eq_true, decide_eq_true_eq] at hi0; exact hi0.2
      have e1 : qAll S = qs (S.drop 1) := by
        cases S with
        | nil => simp at hpos
        | cons c r => exact if_pos hc
      rw [e1]
      cases qs (S.drop 1) <;> simp), fun h => (by cases h)⟩
    have hw0 : IntKind.i64.wrap (((0 : Nat) : Int) + 1) = ((1 : Nat) : Int) := by decide
    simp +contextual only [go_sem, hlen, harg, hb, hg, hw0, Bool.not_true, cdD, cdN, gdT, gdF, gdD]
    refine ⟨Nat × List UInt8, fun x => [(0, .ptr b 0), (4, .str x.2)], fun x => loc (s.upd b (dmr S x.1)) 0 [], fun x => QI S x.2 x.1 false, fun x => S.length - x.1, (1, []), hI0, ?_, ?_⟩
    · refine To.go [] [] rfl ((OKo.refl s).upd hb (hlow _)) (by decide) (by simp) ?_ trivial
      simp +contextual only [go_sem, hlen, harg, rnm_low hb, cdD, cdN, gdT, gdF, gdD]
    · rintro ⟨i, acc⟩ tm1 hI hlen1 hlv
      simp only [go_sem, hlen, cdD, cdN, gdT, gdF, gdD] at hlen1 hlv hI
      have hac := hI.al
      have hil := hI.le
      simp +contextual only [go_sem, hlen, hlen1, hlv, hb, dmr, cdD, cdN, gdT, gdF, gdD]
      refine ldrawB_go [] [] 9 (by decide) ?_
      by_cases hm : i < S.length
      rotate_left
      · have hI1 : ((S.length : Int) ≤ (i : Int)) = True := by simp; omega
        simp +contextual only [go_sem, hlen1, hlv, hb, hI1, cdD, cdN, gdT, gdF, gdD]
        refine ⟨by kernel_rfl, ?_⟩
        exact none_ (by rw [hI.good rfl, qs_end (by omega)]; rfl) hil
      have hI1 : ((S.length : Int) ≤ (i : Int)) = False := by simp; omega
      have hsd : S[i] = S.getD i 0 := by rw [List.getD_eq_getElem?_getD, List.getElem?_eq_getElem hm]; rfl
      have hwi : IntKind.i64.wrap ((i : Int) + 1) = ((i + 1 : Nat) : Int) := by rw [wrap_id (by omega)]; rfl
      simp +contextual only [go_sem, hlen1, hlv, hb, hI1, cdD, cdN, gdT, gdF, gdD]
      refine ⟨by kernel_rfl, ?_⟩
      refine ldrawB_go [] [] 8 (by decide) ?_
      simp +contextual only [go_sem, hlen1, hlv, hb, str_at hm, hsd, hwi, cdD, cdN, gdT, gdF, gdD]
      refine ⟨by kernel_rfl, fun h34 => ?_, fun h34 => ?_⟩
      · have hq : S.getD i 0 = 34 := UInt8.toNat_inj.1 (by
          have : ((34 : UInt8).toNat : Int) = 34 := rfl
          omega)
        refine lexit_pure ((OKo.refl s).upd hb (hlow (i + 1))) (by simp only [low, lowL, and_self]) (.inl ⟨acc, S.drop (i + 1), i + 1, ?_, rfl, by rw [List.length_drop]; omega, rfl⟩)
        rw [hI.good rfl, qs_quote hm hq]; simp
      have hne34 : S.getD i 0 ≠ 34 := fun e => h34 (by rw [e]; rfl)
      refine ldrawB_go [] [] 8 (by decide) ?_
      simp +contextual only [go_sem, hlen1, hlv, hb, str_at hm, hsd, cdD, cdN, gdT, gdF, gdD]
      refine ⟨by kernel_rfl, fun h92 => ?_, fun h92 => ?_⟩
      · have hq : S.getD i 0 = 92 := UInt8.toNat_inj.1 (by
          have : ((92 : UInt8).toNat : Int) = 92 := rfl
          omega)
        refine lfunG_of (code_ok ((h.upd (a' := i) hil).loc) hm) ?_
        rintro _ _ (⟨e, g1, rfl, g2, rfl⟩ | ⟨g1, rfl, a', g2, rfl⟩)
        · simp +contextual only [go_sem, hlen1, hlv, hb, Bool.not_true, cdD, cdN, gdT, gdF, gdD]
          rw [lstepB_convert]
          refine lmem_eq (cv35 (n := (e.toNat : Int)) (by simp only [go_sem, hlen1, hlv, cdD, cdN, gdT, gdF, gdD])) ?_
          rw [wrapB (by omega) (by have := e.toNat_lt; omega)]
          simp +contextual only [go_sem, hlen1, hlv, hb, cdD, cdN, gdT, gdF, gdD]
          rw [lstepB_convert]
          refine lmem_eq (cvB (c := e) (k := 25) (AHeap.nx_upd _ _ _) (by simp only [go_sem, hlen1, hlv, cdD, cdN, gdT, gdF, gdD]) (by simp only [go_sem, cdD, cdN, gdT, gdF, gdD])) ?_
          simp +contextual only [go_sem, hlen1, hlv, hb, Go.Am.abin_sadd (show acc.length + [e].length ≤ 9000000000000000000 by simp; omega), cdD, cdN, gdT, gdF, gdD]
          refine ⟨(i + 3, acc ++ [e]), hI.esc hm hq g1 g2, by simp only; omega, ?_⟩
          refine To.go [] [] rfl ((OKo.refl s).upd hb (hlow _)) (by decide) (by simp) ?_ trivial
          simp +contextual only [go_sem, hlen1, hlv, rnm_low hb, cdD, cdN, gdT, gdF, gdD]
        · simp +contextual only [go_sem, hlen1, hlv, hb, Bool.not_false, cdD, cdN, gdT, gdF, gdD]
          exact none_ (by rw [hI.good rfl, qs_esc_none hm hq g1]; rfl) g2
      have hne92 : S.getD i 0 ≠ 92 := fun e => h92 (by rw [e]; rfl)
      refine ldrawB_go [] [] 8 (by decide) ?_
      simp +contextual only [go_sem, hlen1, hlv, hb, str_at hm, hsd, cdD, cdN, gdT, gdF, gdD]
      refine ⟨by kernel_rfl, ?_⟩
      rw [lstepB_convert]
      refine lmem_eq (cv53 (n := ((S.getD i 0).toNat : Int)) (by simp only [go_sem, hlen1, hlv, cdD, cdN, gdT, gdF, gdD])) ?_
      rw [wrap_id (by have := (S.getD i 0).toNat_lt; omega)]
      simp +contextual only [go_sem, hlen1, hlv, hb, cdD, cdN, gdT, gdF, gdD]
      refine lfunG_eq (refin_ok _ _ _ _) ?_
      have key : plainC (S.getD i 0) = (decide (32 ≤ (S.getD i 0).toNat) && decide ((S.getD i 0).toNat ≤ 126) && decide ((S.getD i 0).toNat ≠ 34) && decide ((S.getD i 0).toNat ≠ 92)) := rfl
      have e34 : (S.getD i 0).toNat ≠ 34 := fun e => hne34 (UInt8.toNat_inj.1 e)
      have e92 : (S.getD i 0).toNat ≠ 92 := fun e => hne92 (UInt8.toNat_inj.1 e)
      simp +contextual only [go_sem, hlen1, hlv, hb, cdD, cdN, gdT, gdF, gdD]
      refine ⟨fun hr => ?_, fun hr => ?_⟩
      · have hp : plainC (S.getD i 0) = true := by
          rw [key]
          have q1 : 32 ≤ (S.getD i 0).toNat := by omega
          have q2 : (S.getD i 0).toNat ≤ 126 := by omega
          simp only [q1, q2, e34, e92, ne_eq, not_false_eq_true, decide_true, Bool.and_self]
        refine ldrawB_go [] [] 15 (by decide) ?_
        have htk : (S.drop i).take 1 = [S.getD i 0] := by rw [qs_at hm]; rfl
        simp +contextual only [go_sem, hlen1, hlv, hb, hwi, sl_mid (show i + 1 ≤ S.length by omega), htk, cdD, cdN, gdT, gdF, gdD]
        refine ⟨by kernel_rfl, ?_⟩
        simp +contextual only [go_sem, hlen1, hlv, hb, hwi, Go.Am.abin_sadd (show acc.length + [S.getD i 0].length ≤ 9000000000000000000 by simp; omega), cdD, cdN, gdT, gdF, gdD]
        refine ⟨(i + 1, acc ++ [S.getD i 0]), hI.plain hm hp, by simp only; omega, ?_⟩
        refine To.go [] [] rfl ((OKo.refl s).upd hb (hlow _)) (by decide) (by simp) ?_ trivial
        simp +contextual only [go_sem, hlen1, hlv, rnm_low hb, cdD, cdN, gdT, gdF, gdD]
      · have hp : plainC (S.getD i 0) = false := by
          rw [key]
          clear key
          generalize (S.getD i 0).toNat = n at hr
          by_cases q1 : 32 ≤ n
          · have q2 : ¬ n ≤ 126 := by omega
            simp [q2]
          · simp [q1]
        exact none_ (by rw [hI.good rfl, qs_bad hm hne34 hp hne92]; rfl) hil
end Go.S1N
end
section
namespace Go.S1N
open Go Go.Am Go.Proofs Go.S1
set_option maxRecDepth 100000
attribute [local go_sem] Nat.reduceLT Nat.reduceEqDiff Nat.reduceAdd Nat.reduceLeDiff reduceIte reduceCtorEq
attribute [local irreducible] lopsB lvb lstepB lfunG lcondB lguardB lguardU ldguardU ldrawB ldrunB ldstepB ldguardB lmem lval ldmem ldval ldfun lexit ldloadB ldlenB lpostB athen ablock
theorem minus_cons {l : List UInt8} (h : minusB l = true) : ∃ r, l = 45 :: r := by
  cases l with
  | nil => simp [minusB] at h
  | cons a r =>
    simp [minusB] at h
    exact ⟨r, by rw [h]⟩
theorem unMinus_len (l : List UInt8) : ((unMinus l).length < l.length) = (minusB l = true) := by
  unfold unMinus
  cases h : minusB l with
  | true =>
    obtain ⟨r, rfl⟩ := minus_cons h
    simp
  | false => simp
theorem zero_odd {l : List UInt8} (h : (unMinus l).getD 0 0 = 48) : (l ≠ [48]) = (1 < (unMinus l).length ∨ minusB l = true) := by
  cases hm : minusB l with
  | true =>
    obtain ⟨r, rfl⟩ := minus_cons hm
    simp
  | false =>
    have hu : unMinus l = l := by unfold unMinus; rw [hm]; rfl
    rw [hu] at h ⊢
    cases l with
    | nil => simp at h
    | cons a r =>
      simp only [List.getD_cons_zero] at h
      subst h
      cases r with
      | nil => simp
      | cons b r => simp
theorem numR_ok (l : List UInt8) (s : AHeap) : ACall Tryz.prog 95 [.str l, .int .i64 15] s fun v t => v = numV l ∧ t = s := by
  refine gob95 (by simp) ?_
  intro tm hlen harg
  have key : numP l = if unMinus l = [] ∨ 15 < (unMinus l).length ∨ ((unMinus l).getD 0 0 = 48 ∧ (1 < (unMinus l).length ∨ minusB l = true)) then none
    else if (unMinus l).all digC then some (if minusB l then -(digN (unMinus l) : Int) else digN (unMinus l)) else none := rfl
  have hcall := fun s => unMinus_ok l s
  have hul := unMinus_len l
  have hzo := zero_odd (l := l)
  generalize ht : unMinus l = t at key hcall hul hzo
  generalize hm : minusB l = m at key hul hzo
  have hulI : ((t.length : Int) < l.length) = (m = true) := by rw [← hul]; exact propext ⟨fun h => by omega, fun h => by omega⟩
  have none_ : ∀ {n : Nat} {ll : List (Nat × Option AObj)}, numP l = none → lexit s (fun v t => v = numV l ∧ t = s) (some (.tuple [.int .i64 0, .bool false])) (loc s n ll) := fun h => lexit_pure (.refl s) (by simp only [low, lowL, and_self]) ⟨by rw [numV, h], rfl⟩
  simp +contextual only [go_sem, L95, hlen, harg, cdD, cdN, gdT, gdF, gdD]
  refine lfunG_eq (hcall _) ?_
  by_cases h1 : t = []
  · simp +contextual only [go_sem, hlen, harg, h1, cdD, cdN, gdT, gdF, gdD]
    exact none_ (by rw [key, if_pos (.inl h1)])
  by_cases h2 : (15 : Int) < t.length
  · simp +contextual only [go_sem, hlen, harg, h1, h2, cdD, cdN, gdT, gdF, gdD]
    exact none_ (by rw [key, if_pos (.inr (.inl (by omega)))])
  have hpos : 0 < t.length := List.length_pos_iff.2 h1
  have x0 := str_at0 hpos
  have hz : (((t.getD 0 0).toNat : Int) = 48) = (t.getD 0 0 = 48) := u8_eq (a := t.getD 0 0) (b := 48)
  have rest : ¬ (t.getD 0 0 = 48 ∧ (1 < t.length ∨ m = true)) → numP l = if t.all digC then some (if m then -(digN t : Int) else digN t) else none := fun h => by
    rw [key, if_neg]
    rintro (q | q | q)
    · exact h1 q
    · omega
    · exact h q
  by_cases h3 : t.getD 0 0 = 48
  · have hz1 : ((t.getD 0 0).toNat : Int) = 48 := by rw [h3]; rfl
    by_cases h4 : l = [48]
    · have h5 : ¬ (1 < t.length ∨ m = true) := by rw [← hzo h3]; exact fun h => h h4
      simp +contextual only [go_sem, hlen, harg, h1, h2, x0, hz1, h4, cdD, cdN, gdT, gdF, gdD]
      rw [← h4]
      have rest := rest (fun q => h5 q.2)
      refine ⟨Nat, fun i => [(0, .str l), (6, .str t), (7, .int .i64 (digN (t.take i) : Int)), (30, .int .i64 t.length), (31, .int .i64 i)], fun i => loc s 0 [], fun i => i ≤ t.length ∧ (t.take i).all digC = true, fun i => t.length - i, 0, by simp, ?_, ?_⟩
      · refine To.go [] [] rfl (.refl s) (by decide) (by simp) ?_ trivial
        simp +contextual only [go_sem, hlen, harg, cdD, cdN, gdT, gdF, gdD]
        simp [digN]
      · rintro i tm1 ⟨hi, ha⟩ hlen1 hlv
        simp only [go_sem, hlen, cdD, cdN, gdT, gdF, gdD] at hlen1 hlv hi
        have hb := digN_lt (t.take i) ha i (by rw [List.length_take]; omega)
        rw [List.take_take, Nat.min_self] at hb
        have hb2 := pow15 (i := i) (by omega)
        have hwn : IntKind.i64.wrap (0 - (digN (t.take i) : Int)) = -(digN (t.take i) : Int) := by rw [wrap_id (by omega)]; omega
        simp +contextual only [go_sem, hlen, hlen1, hlv, hulI, hwn, cdD, cdN, gdT, gdF, gdD]
        refine ⟨fun hlt => ?_, fun hge => ?_⟩
        · have hi2 : i < t.length := by omega
          obtain ⟨g1, g2⟩ := digC_ix t[i]
          simp +contextual only [go_sem, hlen, hlen1, hlv, str_at hi2, cdD, cdN, gdT, gdF, gdD]
          refine lfunG_eq (idxL_ok _ _ _) ?_
          cases hd : digC t[i] with
          | false =>
            have g3 : Lib.indexByte [48, 49, 50, 51, 52, 53, 54, 55, 56, 57] t[i] < 0 := by
              rw [hd] at g1
              have : ¬ 0 ≤ Lib.indexByte [48, 49, 50, 51, 52, 53, 54, 55, 56, 57] t[i] := by rw [g1]; simp
              omega
            simp +contextual only [go_sem, hlen1, hlv, g3, cdD, cdN, gdT, gdF, gdD]
            refine none_ ?_
            rw [rest, if_neg]
            intro h
            have := List.all_eq_true.1 h _ (List.getElem_mem hi2)
            rw [hd] at this; cases this
          | true =>
            obtain ⟨hs, ha2⟩ := num_step (by omega) ha hi2 hd
            have hwd : IntKind.i64.wrap ((t[i].toNat - 48 : Nat) : Int) = ((t[i].toNat - 48 : Nat) : Int) := wrap_id (by have := t[i].toNat_lt; omega)
            rw [hwd] at hs
            have hwi : IntKind.i64.wrap ((i : Int) + 1) = ((i + 1 : Nat) : Int) := by rw [wrap_id (by omega)]; rfl
            have g3 : ¬ ((t[i].toNat - 48 : Nat) : Int) < 0 := by omega
            rw [g2 hd]
            simp +contextual only [go_sem, hlen1, hlv, g3, hwi, hs, cdD, cdN, gdT, gdF, gdD]
            refine ⟨i + 1, ⟨by omega, ha2⟩, by omega, ?_⟩
            refine To.go [] [] rfl (.refl s) (by decide) (by simp) ?_ trivial
            simp +contextual only [go_sem, hlen1, hlv, cdD, cdN, gdT, gdF, gdD]
        · have hie : i = t.length := by omega
          subst hie
          rw [List.take_length] at ha
          simp only [List.take_length]
          have hval := rest
          rw [if_pos ha] at hval
          refine ⟨fun hm => ?_, fun hm => ?_⟩
          · exact lexit_pure (.refl s) (by simp only [low, lowL, and_self]) ⟨by rw [numV, hval, hm]; simp, rfl⟩
          · have hm : m = false := by simpa using hm
            exact lexit_pure (.refl s) (by simp only [low, lowL, and_self]) ⟨by rw [numV, hval, hm]; simp, rfl⟩
    · simp +contextual only [go_sem, hlen, harg, h1, h2, h4, x0, hz1, cdD, cdN, gdT, gdF, gdD]
      exact none_ (by rw [key, if_pos (.inr (.inr ⟨h3, by rw [← hzo h3]; exact h4⟩))])
  · have hz1 : ¬ ((t.getD 0 0).toNat : Int) = 48 := by rw [hz]; exact h3
    simp +contextual only [go_sem, hlen, harg, h1, h2, x0, hz1, cdD, cdN, gdT, gdF, gdD]
    have rest := rest (fun q => h3 q.1)
    refine ⟨Nat, fun i => [(0, .str l), (6, .str t), (7, .int .i64 (digN (t.take i) : Int)), (30, .int .i64 t.length), (31, .int .i64 i)], fun i => loc s 0 [], fun i => i ≤ t.length ∧ (t.take i).all digC = true, fun i => t.length - i, 0, by simp, ?_, ?_⟩
    · refine To.go [] [] rfl (.refl s) (by decide) (by simp) ?_ trivial
      simp +contextual only [go_sem, hlen, harg, cdD, cdN, gdT, gdF, gdD]
      simp [digN]
    · rintro i tm1 ⟨hi, ha⟩ hlen1 hlv
      simp only [go_sem, hlen, cdD, cdN, gdT, gdF, gdD] at hlen1 hlv hi
      have hb := digN_lt (t.take i) ha i (by rw [List.length_take]; omega)
      rw [List.take_take, Nat.min_self] at hb
      have hb2 := pow15 (i := i) (by omega)
      have hwn : IntKind.i64.wrap (0 - (digN (t.take i) : Int)) = -(digN (t.take i) : Int) := by rw [wrap_id (by omega)]; omega
      simp +contextual only [go_sem, hlen, hlen1, hlv, hulI, hwn, cdD, cdN, gdT, gdF, gdD]
      refine ⟨fun hlt => ?_, fun hge => ?_⟩
      · have hi2 : i < t.length := by omega
        obtain ⟨g1, g2⟩ := digC_ix t[i]
        simp +contextual only [go_sem, hlen, hlen1, hlv, str_at hi2, cdD, cdN, gdT, gdF, gdD]
        refine lfunG_eq (idxL_ok _ _ _) ?_
        cases hd : digC t[i] with
        | false =>
          have g3 : Lib.indexByte [48, 49, 50, 51, 52, 53, 54, 55, 56, 57] t[i] < 0 := by
            rw [hd] at g1
            have : ¬ 0 ≤ Lib.indexByte [48, 49, 50, 51, 52, 53, 54, 55, 56, 57] t[i] := by rw [g1]; simp
            omega
          simp +contextual only [go_sem, hlen1, hlv, g3, cdD, cdN, gdT, gdF, gdD]
          refine none_ ?_
          rw [rest, if_neg]
          intro h
          have := List.all_eq_true.1 h _ (List.getElem_mem hi2)
          rw [hd] at this; cases this
        | true =>
          obtain ⟨hs, ha2⟩ := num_step (by omega) ha hi2 hd
          have hwd : IntKind.i64.wrap ((t[i].toNat - 48 : Nat) : Int) = ((t[i].toNat - 48 : Nat) : Int) := wrap_id (by have := t[i].toNat_lt; omega)
          rw [hwd] at hs
          have hwi : IntKind.i64.wrap ((i : Int) + 1) = ((i + 1 : Nat) : Int) := by rw [wrap_id (by omega)]; rfl
          have g3 : ¬ ((t[i].toNat - 48 : Nat) : Int) < 0 := by omega
          rw [g2 hd]
          simp +contextual only [go_sem, hlen1, hlv, g3, hwi, hs, cdD, cdN, gdT, gdF, gdD]
          refine ⟨i + 1, ⟨by omega, ha2⟩, by omega, ?_⟩
          refine To.go [] [] rfl (.refl s) (by decide) (by simp) ?_ trivial
          simp +contextual only [go_sem, hlen1, hlv, cdD, cdN, gdT, gdF, gdD]
      · have hie : i = t.length := by omega
        subst hie
        rw [List.take_length] at ha
        simp only [List.take_length]
        have hval := rest
        rw [if_pos ha] at hval
        refine ⟨fun hm => ?_, fun hm => ?_⟩
        · exact lexit_pure (.refl s) (by simp only [low, lowL, and_self]) ⟨by rw [numV, hval, hm]; simp, rfl⟩
        · have hm : m = false := by simpa using hm
          exact lexit_pure (.refl s) (by simp only [low, lowL, and_self]) ⟨by rw [numV, hval, hm]; simp, rfl⟩
end Go.S1N
end
section
namespace Go.S1N
open Go Go.Am Go.Proofs Go.S1
set_option maxRecDepth 100000
attribute [local go_sem] Nat.reduceLT Nat.reduceEqDiff Nat.reduceAdd Nat.reduceLeDiff reduceIte reduceCtorEq
attribute [local irreducible] lopsB lvb lstepB lfunG lcondB lguardB lguardU ldguardU ldrawB ldrunB ldstepB ldguardB lmem lval ldmem ldval ldfun lexit ldloadB ldlenB lpostB athen ablock
theorem QudR.out {S : List UInt8} {b : Nat} {s : AHeap} (v : AV) (t : AHeap) (h : QudR S b s v t) : ∃ txt a' ok, v = .tuple [.str txt, .bool ok] ∧ t = s.upd b (dmr S a') ∧ ((ok = true ∧ ∃ rest, qAll S = some (txt, rest) ∧ a' + rest.length = S.length) ∨ (ok = false ∧ qAll S = none)) := by
  rcases h with ⟨txt, rest, a', q1, h1, q2, h3⟩ | ⟨q1, h1, a', _, h3⟩
  · exact ⟨txt, a', true, h1, h3, .inl ⟨rfl, rest, q1, q2⟩⟩
  · exact ⟨[], a', false, h1, h3, .inr ⟨rfl, q1⟩⟩
theorem numV_cases (l : List UInt8) : ∃ n bn, numV l = .tuple [.int .i64 n, .bool bn] ∧ ((bn = true ∧ numP l = some n) ∨ (bn = false ∧ numP l = none)) := by
  unfold numV; cases numP l <;> simp
set_option maxHeartbeats 2000000 in
theorem editsRead_ok (T : List UInt8) (s : AHeap) : ACall Tryz.prog 21 [.str T] s fun v t => v = readVA T ∧ t = s := by
  refine gob21 (by simp) ?_
  intro tm hlen harg
  have out : ∀ {a b : Int} {nn : Nat} {ll : List (Nat × Option AObj)}, readVal T = ([], a, b) → lexit s (fun v t => v = readVA T ∧ t = s) (some (.tuple [.nils, .int .i64 a, .int .i64 b])) (loc s nn ll) := fun h => lexit_pure (.refl s) (by simp only [low, lowL, and_self]) ⟨by rw [readVA, h]; rfl, rfl⟩
  simp +contextual only [go_sem, L21, hlen, harg, cdD, cdN, gdT, gdF, gdD]
  refine ⟨fun hb => out ?_, fun hb => ?_⟩
  · rw [readVal, if_pos (by omega)]
  have hT : ¬ 20000 < T.length := by omega
  refine ⟨List UInt8 × List Ed, fun x => [(0, .str x.1), (5, gsv 3 (nm s.nx 0) x.2.length), (6, .int .i64 x.2.length)], fun x => loc s 1 [(0, gso 44 (edc x.2))], fun x => RI T x.1 x.2, fun x => x.1.length, (T, []), ⟨by simp; omega, by simp, by simp⟩, ?_, ?_⟩
  · refine To.go [9] [(0, none)] (by simp only [edc, List.map_nil, List.flatMap_nil, gso_nil]; rfl) (.refl s) (by decide) (by simp) ?_ ?_
    · simp +contextual only [go_sem, hlen, harg, List.length_nil, gsv_zero, cdD, cdN, gdT, gdF, gdD]
      simp
    · simp only [go_sem, cdD, cdN, gdT, gdF, gdD]
  · rintro ⟨rest, acc⟩ tm1 hI hlen1 hlv
    simp only [go_sem, hlen, cdD, cdN, gdT, gdF, gdD] at hlen1 hlv hI
    have hl := hI.len
    simp +contextual only [go_sem, hlen, hlen1, hlv, cdD, cdN, gdT, gdF, gdD]
    refine ⟨fun hne => ?_, fun heq => ?_⟩
    · have hcl := cut_len 10 rest
      have hnext := fun x a b => hI.next hne (x := x) a b
      have hstop := fun a => hI.stop hne a
      refine lfunG_eq (cut_ok rest 10 (by omega) _) ?_
      unfold cutV
      generalize cutB 10 rest = C at hcl hnext hstop
      obtain ⟨l, c2, c3⟩ := C
      simp only at hcl hnext hstop
      obtain ⟨g1, g2, _⟩ := cut_len 32 l
      obtain ⟨g3, g4, _⟩ := cut_len 32 (cutB 32 l).2.1
      have key : edP l = match numP (cutB 32 l).1, numP (cutB 32 (cutB 32 l).2.1).1, quoteP (cutB 32 (cutB 32 l).2.1).2.1 with
        | some n, some m, some t => if (cutB 32 l).2.2 ∧ (cutB 32 (cutB 32 l).2.1).2.2 then some ⟨n, m, t⟩ else none
        | _, _, _ => none := rfl
      have k1 := fun s => cut_ok l 32 (by omega) s
      have k2 := fun s => cut_ok (cutB 32 l).2.1 32 (by omega) s
      unfold cutV at k1 k2
      generalize (cutB 32 l).1 = x1 at key k1 g1
      generalize (cutB 32 l).2.2 = b1 at key k1
      generalize (cutB 32 l).2.1 = r1 at key k1 k2 g2 g3 g4
      generalize (cutB 32 r1).1 = x2 at key k2 g3
      generalize (cutB 32 r1).2.2 = b2 at key k2
      generalize (cutB 32 r1).2.1 = q at key k2 g4
      obtain ⟨n, bn, hn, hn2⟩ := numV_cases x1
      obtain ⟨m, bm, hm, hm2⟩ := numV_cases x2
      have e1 := fun s => numR_ok x1 s
      have e2 := fun s => numR_ok x2 s
      rw [hn] at e1
      rw [hm] at e2
      simp +contextual only [go_sem, hlen1, hlv, cdD, cdN, gdT, gdF, gdD]
      refine lfunG_eq (k1 _) ?_
      simp +contextual only [go_sem, hlen1, hlv, cdD, cdN, gdT, gdF, gdD]
      refine lfunG_eq (k2 _) ?_
      simp +contextual only [go_sem, hlen1, hlv, cdD, cdN, gdT, gdF, gdD]
      refine lfunG_eq (e1 _) ?_
      simp +contextual only [go_sem, hlen1, hlv, cdD, cdN, gdT, gdF, gdD]
      refine lfunG_eq (e2 _) ?_
      simp +contextual only [go_sem, hlen1, hlv, cdD, cdN, gdT, gdF, gdD]
      have hD : Dm (loc s 2 [(0, gso 44 (edc acc)), (1, some (dmr q 0))]) (nm s.nx 1) q 0 :=
        ⟨by rw [nx_loc, nm_lt]; omega, by simp only [go_sem, cdD, cdN, gdT, gdF, gdD], by omega, by omega⟩
      refine lfunG_of ((quoted_ok hD).mono QudR.out) ?_
      rintro _ _ ⟨txt, a', ok, rfl, rfl, hq2⟩
      have bad : c3 = false ∨ edP l = none → lexit s (fun v t => v = readVA T ∧ t = s) (some (.tuple [.nils, .int .i64 acc.length, .int .i64 9])) (loc s 2 [(0, gso 44 (edc acc)), (1, some (dmr q a'))]) := fun h =>
        out (read_bad (hstop (by
          rintro ⟨q1, q2⟩
          rcases h with rfl | h
          · cases q1
          · rw [h] at q2; cases q2)) hT)
      have no1 : b1 = false ∨ b2 = false ∨ numP x1 = none ∨ numP x2 = none ∨ quoteP q = none → edP l = none := by
        rw [key]
        rintro (rfl | rfl | h | h | h)
        · cases numP x1 <;> cases numP x2 <;> cases quoteP q <;> simp
        · cases numP x1 <;> cases numP x2 <;> cases quoteP q <;> simp
        · rw [h]
        · rw [h]; cases numP x1 <;> rfl
        · rw [h]; cases numP x1 <;> cases numP x2 <;> rfl
      cases c3 with
      | false =>
        simp +contextual only [go_sem, hlen1, hlv, dmr, Bool.not_false, Bool.not_true, cdD, cdN, gdT, gdF, gdD]
        exact bad (.inl rfl)
      | true =>
      cases b1 with
      | false =>
        simp +contextual only [go_sem, hlen1, hlv, dmr, Bool.not_false, Bool.not_true, cdD, cdN, gdT, gdF, gdD]
        exact bad (.inr (no1 (.inl rfl)))
      | true =>
      cases b2 with
      | false =>
        simp +contextual only [go_sem, hlen1, hlv, dmr, Bool.not_false, Bool.not_true, cdD, cdN, gdT, gdF, gdD]
        exact bad (.inr (no1 (.inr (.inl rfl))))
      | true =>
      rcases hn2 with ⟨rfl, hn2⟩ | ⟨rfl, hn2⟩
      rotate_left
      · simp +contextual only [go_sem, hlen1, hlv, dmr, Bool.not_false, Bool.not_true, cdD, cdN, gdT, gdF, gdD]
        exact bad (.inr (no1 (.inr (.inr (.inl hn2)))))
      rcases hm2 with ⟨rfl, hm2⟩ | ⟨rfl, hm2⟩
      rotate_left
      · simp +contextual only [go_sem, hlen1, hlv, dmr, Bool.not_false, Bool.not_true, cdD, cdN, gdT, gdF, gdD]
        exact bad (.inr (no1 (.inr (.inr (.inr (.inl hm2))))))
      rcases hq2 with ⟨rfl, rest', hq2, hq3⟩ | ⟨rfl, hq2⟩
      rotate_left
      · simp +contextual only [go_sem, hlen1, hlv, dmr, Bool.not_false, Bool.not_true, cdD, cdN, gdT, gdF, gdD]
        exact bad (.inr (no1 (.inr (.inr (.inr (.inr (by rw [quoteP_all, hq2])))))))
      rw [hn2, hm2, quoteP_all, hq2] at key
      cases rest' with
      | cons z zs =>
        have hdec : ((a' : Int) = (q.length : Int)) = False := by simp at hq3 ⊢; omega
        simp +contextual only [go_sem, hlen1, hlv, dmr, hdec, Bool.not_false, Bool.not_true, cdD, cdN, gdT, gdF, gdD]
        exact bad (.inr (by rw [key]))
      | nil =>
        have hdec : ((a' : Int) = (q.length : Int)) = True := by simp at hq3 ⊢; omega
        have hk : edP l = some ⟨n, m, txt⟩ := by rw [key]; simp
        obtain ⟨hI2, hlt⟩ := hnext ⟨n, m, txt⟩ rfl hk
        have hwi : IntKind.i64.wrap ((acc.length : Int) + 1) = (((acc ++ [(⟨n, m, txt⟩ : Ed)]).length : Nat) : Int) := by rw [wrap_id (by omega), List.length_append]; rfl
        simp +contextual only [go_sem, hlen1, hlv, dmr, hdec, Bool.not_false, Bool.not_true, cdD, cdN, gdT, gdF, gdD]
        refine lmem_eq (app28 (acellsOf_rs (by simp only [go_sem, cdD, cdN, gdT, gdF, gdD]; rfl) (by rfl) rfl) (by decide) (by simp only [go_sem, cdD, cdN, gdT, gdF, gdD]) (by simp only [go_sem, cdD, cdN, gdT, gdF, gdD]) (edc_len acc) (by omega) rfl) ?_
        simp +contextual only [go_sem, hlen1, hlv, hwi, cdD, cdN, gdT, gdF, gdD]
        refine ⟨(c2, acc ++ [⟨n, m, txt⟩]), hI2, hlt, ?_⟩
        refine To.go [3] [(0, gso 44 (edc (acc ++ [⟨n, m, txt⟩])))] rfl (.refl s) (by decide) (by simp) ?_ ?_
        · simp +contextual only [go_sem, hlen1, hlv, List.length_append, gsv_pos (Nat.succ_ne_zero acc.length), cdD, cdN, gdT, gdF, gdD]
        · simp only [go_sem, map_gso_pu (edc_pul _), cdD, cdN, gdT, gdF, gdD]
          simp only [edc_snoc, gso_pos (List.append_ne_nil_of_right_ne_nil (edc acc) (List.cons_ne_nil _ _))]
    · subst heq
      have hd := read_good hI.done hT
      refine lfunG_freezeG 0 3 (acc.map Ed.enc) (by simp only [go_sem, cdD, cdN, gdT, gdF, gdD]; rfl) (enc_len acc) (by decide) ?_
      simp +contextual only [go_sem, hlen1, hlv, len_fz, cdD, cdN, gdT, gdF, gdD]
      refine lfunG_eq (editsFault_ok acc (by omega) hI.new _) ?_
      by_cases hf : linesFault acc = 0
      · rw [hf, if_neg (by simp)] at hd
        rw [hf]
        have hz : ((0 : Int) = 0) = True := by simp
        simp +contextual only [go_sem, hlen1, hlv, hz, len_fz, cdD, cdN, gdT, gdF, gdD]
        exact lexit_pure (.refl s) (by simp only [low, lowL, and_true]; exact low.mono (Nat.zero_le _) (edv_pu acc)) ⟨by rw [readVA, hd], rfl⟩
      · rw [if_pos hf] at hd
        simp +contextual only [go_sem, hlen1, hlv, hf, len_fz, cdD, cdN, gdT, gdF, gdD]
        exact out hd
end Go.S1N
end
section
namespace Go.S1N
open Go Go.Am Go.Proofs Go.S1
set_option maxRecDepth 100000
def lcs : List UInt8 → List UInt8 → Nat
  | [], _ => 0
  | _ :: _, [] => 0
  | x :: xs, y :: ys => if x = y then lcs xs ys + 1 else max (lcs xs (y :: ys)) (lcs (x :: xs) ys)
termination_by a b => a.length + b.length
theorem lcs_n1 (b : List UInt8) : lcs [] b = 0 := by rw [lcs]
theorem lcs_n2 (a : List UInt8) : lcs a [] = 0 := by cases a <;> rw [lcs]
theorem lcs_eq {x : UInt8} {xs ys : List UInt8} : lcs (x :: xs) (x :: ys) = lcs xs ys + 1 := by rw [lcs, if_pos rfl]
theorem lcs_ne {x y : UInt8} (h : x ≠ y) {xs ys : List UInt8} : lcs (x :: xs) (y :: ys) = max (lcs xs (y :: ys)) (lcs (x :: xs) ys) := by rw [lcs, if_neg h]
theorem lcs_steps : ∀ (n : Nat) (xs ys : List UInt8), xs.length + ys.length ≤ n →
    (∀ x, lcs xs ys ≤ lcs (x :: xs) ys ∧ lcs (x :: xs) ys ≤ lcs xs ys + 1) ∧ (∀ y, lcs xs ys ≤ lcs xs (y :: ys) ∧ lcs xs (y :: ys) ≤ lcs xs ys + 1) := by
  intro n
  induction n with
  | zero =>
    intro xs ys h
    have h1 : xs = [] := List.eq_nil_of_length_eq_zero (by omega)
    have h2 : ys = [] := List.eq_nil_of_length_eq_zero (by omega)
    subst h1 h2
    exact ⟨fun x => by rw [lcs_n2, lcs_n2]; omega, fun y => by rw [lcs_n1, lcs_n1]; omega⟩
  | succ n ih =>
    intro xs ys h
    refine ⟨fun x => ?_, fun y => ?_⟩
    · cases ys with
      | nil => rw [lcs_n2, lcs_n2]; omega
      | cons y ys =>
        have i := ih xs ys (by simp at h; omega)
        by_cases e : x = y
        · subst e
          rw [lcs_eq]
          have := i.2 x
          omega
        · rw [lcs_ne e]
          have h1 := i.2 y
          have h2 := i.1 x
          omega
    · cases xs with
      | nil => rw [lcs_n1, lcs_n1]; omega
      | cons x xs =>
        have i := ih xs ys (by simp at h; omega)
        by_cases e : x = y
        · subst e
          rw [lcs_eq]
          have := i.1 x
          omega
        · rw [lcs_ne e]
          have h1 := i.2 y
          have h2 := i.1 x
          omega
theorem lcs_x (x : UInt8) (xs ys : List UInt8) : lcs xs ys ≤ lcs (x :: xs) ys ∧ lcs (x :: xs) ys ≤ lcs xs ys + 1 := (lcs_steps _ xs ys (Nat.le_refl _)).1 x
theorem lcs_y (y : UInt8) (xs ys : List UInt8) : lcs xs ys ≤ lcs xs (y :: ys) ∧ lcs xs (y :: ys) ≤ lcs xs ys + 1 := (lcs_steps _ xs ys (Nat.le_refl _)).2 y
def fstAt (x : UInt8) : List UInt8 → Option Nat
  | [] => none
  | y :: ys => if x = y then some 0 else (fstAt x ys).map (· + 1)
theorem fst_get {x : UInt8} : ∀ {ys : List UInt8} {n : Nat}, fstAt x ys = some n → n < ys.length ∧ ys = ys.take n ++ x :: ys.drop (n + 1)
  | [], n, h => by cases h
  | y :: ys, n, h => by
    rw [fstAt] at h
    split at h
    · rename_i e; cases h; subst e; simp
    · cases hq : fstAt x ys with
      | none => rw [hq] at h; cases h
      | some k =>
        rw [hq] at h; cases h
        obtain ⟨q1, q2⟩ := fst_get hq
        refine ⟨by simp; omega, ?_⟩
        rw [List.take_succ_cons, List.drop_succ_cons, List.cons_append, ← q2]
theorem lcs_fst (x : UInt8) (xs : List UInt8) : ∀ ys, (fstAt x ys = none → lcs (x :: xs) ys = lcs xs ys) ∧
    ∀ n, fstAt x ys = some n → lcs (x :: xs) ys = max (lcs xs ys) (lcs xs (ys.drop (n + 1)) + 1)
  | [] => ⟨fun _ => by rw [lcs_n2, lcs_n2], fun n h => by cases h⟩
  | y :: ys => by
    obtain ⟨i1, i2⟩ := lcs_fst x xs ys
    by_cases e : x = y
    · subst e
      refine ⟨(fun h => by rw [fstAt, if_pos rfl] at h; cases h), fun n h => ?_⟩
      rw [fstAt, if_pos rfl] at h
      cases h
      rw [lcs_eq]
      have := lcs_y x xs ys
      simp only [Nat.zero_add, List.drop_succ_cons, List.drop_zero]
      omega
    · rw [lcs_ne e]
      have hy := lcs_y y xs ys
      refine ⟨fun h => ?_, fun n h => ?_⟩
      · rw [fstAt, if_neg e] at h
        rw [i1 (by cases hq : fstAt x ys with | none => rfl | some k => rw [hq] at h; cases h)]
        omega
      · rw [fstAt, if_neg e] at h
        cases hq : fstAt x ys with
        | none => rw [hq] at h; cases h
        | some k =>
          rw [hq] at h
          simp only [Option.map_some, Option.some.injEq] at h
          subst h
          rw [i2 k hq, List.drop_succ_cons]
          omega
def dr : Nat → List UInt8 → List UInt8 → List Rn
  | _, [], ys => [⟨0, 0, ys⟩]
  | i, x :: xs, ys => if lcs (x :: xs) ys = 0 then [⟨0, 0, ys⟩] else match fstAt x ys with
    | some n => if lcs xs (ys.drop (n + 1)) + 1 = lcs (x :: xs) ys then ⟨0, 0, ys.take n⟩ :: ⟨i, 1, []⟩ :: dr (i + 1) xs (ys.drop (n + 1)) else dr (i + 1) xs ys
    | none => dr (i + 1) xs ys
def kc (F : List (Int × UInt8)) : Nat := F.countP fun p => decide (0 ≤ p.1)
theorem kc_app (F G : List (Int × UInt8)) : kc (F ++ G) = kc F + kc G := List.countP_append
theorem kc_neg (w : List UInt8) : kc (negL w) = 0 := by
  unfold kc negL
  rw [List.countP_eq_zero]
  intro p hp
  obtain ⟨c, _, rfl⟩ := List.mem_map.1 hp
  simp
theorem kc_run (a k : Nat) : kc (runOf a k) = k := by
  unfold kc
  rw [List.countP_eq_length.2, run_len]
  intro p hp
  have := (run_mem hp).1
  simp; omega
theorem say_negL (x : List UInt8) (w : List UInt8) : (negL w).map (say x) = w := by
  unfold negL
  rw [List.map_map]
  conv => rhs; rw [← List.map_id w]
  exact List.map_congr_left fun c _ => by simp [say]
theorem dr_flow (a : List UInt8) : ∀ (xs : List UInt8) (i : Nat) (ys : List UInt8), a.drop i = xs → i ≤ a.length →
    (rflow (dr i xs ys)).map (say a) = ys ∧ okF a.length i (rflow (dr i xs ys)) ∧ kc (rflow (dr i xs ys)) = lcs xs ys
  | [], i, ys, h, hi => by
    rw [dr, rflow_cons, rfl1_fresh, show rflow [] = [] from rfl, List.append_nil]
    refine ⟨say_negL a ys, ?_, by rw [kc_neg, lcs_n1]⟩
    have := ok_neg (n := a.length) (a := i) (F := []) trivial ys
    rwa [List.append_nil] at this
  | x :: xs, i, ys, h, hi => by
    have hlt : i < a.length := by
      rcases Nat.lt_or_ge i a.length with q | q
      · exact q
      · rw [List.drop_of_length_le q] at h; cases h
    have hd : a.drop (i + 1) = xs := by rw [← List.tail_drop, h]; rfl
    have hx : a.getD i 0 = x := by
      rw [List.getD_eq_getElem?_getD, ← List.head?_drop, h]; rfl
    have hx2 : a[i]?.getD 0 = x := by rw [← List.getD_eq_getElem?_getD]; exact hx
    rw [dr]
    split
    · rename_i h0
      rw [rflow_cons, rfl1_fresh, show rflow [] = [] from rfl, List.append_nil]
      refine ⟨say_negL a ys, ?_, by rw [kc_neg, h0]⟩
      have := ok_neg (n := a.length) (a := i) (F := []) trivial ys
      rwa [List.append_nil] at this
    · rename_i h0
      split
      · rename_i n hn
        split
        · rename_i hc
          obtain ⟨i1, i2, i3⟩ := dr_flow a xs (i + 1) (ys.drop (n + 1)) hd (by omega)
          have e1 : rflow (⟨0, 0, ys.take n⟩ :: ⟨i, 1, []⟩ :: dr (i + 1) xs (ys.drop (n + 1))) = negL (ys.take n) ++ (runOf i 1 ++ rflow (dr (i + 1) xs (ys.drop (n + 1)))) := by
            rw [rflow_cons, rflow_cons, rfl1_fresh]
            have : rfl1 ⟨(i : Int), ((1 : Nat) : Int), []⟩ = runOf i 1 := rfl1_kept
            rw [show (⟨(i : Int), 1, []⟩ : Rn) = ⟨(i : Int), ((1 : Nat) : Int), []⟩ from rfl, this]
          rw [e1]
          refine ⟨?_, ?_, ?_⟩
          · rw [List.map_append, List.map_append, i1, say_negL]
            have e2 : (runOf i 1).map (say a) = [x] := by
              rw [runOf_cons]
              simp [runOf, say, hx2]
            rw [e2, List.singleton_append]
            exact (fst_get hn).2.symm
          · exact ok_neg (ok_run 1 i (by omega) i2) _
          · rw [kc_app, kc_app, kc_neg, kc_run, i3]
            omega
        · rename_i hc
          obtain ⟨i1, i2, i3⟩ := dr_flow a xs (i + 1) ys hd (by omega)
          refine ⟨i1, okF_mono (by omega) i2, ?_⟩
          rw [i3]
          have := (lcs_fst x xs ys).2 n hn
          omega
      · rename_i hn
        obtain ⟨i1, i2, i3⟩ := dr_flow a xs (i + 1) ys hd (by omega)
        exact ⟨i1, okF_mono (by omega) i2, by rw [i3, (lcs_fst x xs ys).1 hn]⟩
end Go.S1N
end
section
namespace Go.S1N
open Go Go.Am Go.Proofs Go.S1
set_option maxRecDepth 100000
attribute [local irreducible] lopsB lvb lstepB lfunG lcondB lguardB lguardU ldguardU ldrawB ldrunB ldstepB ldguardB lmem lval ldmem ldval ldfun lexit ldloadB ldlenB lpostB athen ablock
def val (a b : List UInt8) (i k : Nat) : AV := .int .i64 (lcs (a.drop i) (b.drop k) : Nat)
def rowL (a b : List UInt8) (i : Nat) : List AV := (List.range' 0 (b.length + 1)).map (val a b i)
def rowV (a b : List UInt8) (i : Nat) : AV := .vs 1 false (rowL a b i)
def rowC (a b : List UInt8) (i k : Nat) : List AV := List.replicate k (.int .i64 0) ++ (List.range' k (b.length + 1 - k)).map (val a b i)
def outC (a b : List UInt8) (i : Nat) : List AV := List.replicate i .nils ++ (List.range' i (a.length + 1 - i)).map (rowV a b)
def outN (a b : List UInt8) (i c : Nat) : List AV := List.replicate i .nils ++ .rs 1 c 0 (b.length + 1) :: (List.range' (i + 1) (a.length - i)).map (rowV a b)
def tabV (a b : List UInt8) : AV := .vs 1 false (outC a b 0)
theorem rowL_len (a b : List UInt8) (i : Nat) : (rowL a b i).length = b.length + 1 := by simp [rowL]
theorem rowC_zero (a b : List UInt8) (i : Nat) : rowC a b i 0 = rowL a b i := by simp [rowC, rowL]
theorem rowC_len (a b : List UInt8) (i k : Nat) (h : k ≤ b.length + 1) : (rowC a b i k).length = b.length + 1 := by simp [rowC]; omega
theorem outC_len (a b : List UInt8) (i : Nat) (h : i ≤ a.length + 1) : (outC a b i).length = a.length + 1 := by simp [outC]; omega
theorem outC_last (a b : List UInt8) : outC a b (a.length + 1) = List.replicate (a.length + 1) .nils := by simp [outC]
theorem outC_set (a b : List UInt8) (i c : Nat) : (outC a b (i + 1)).set i (.rs 1 c 0 (b.length + 1)) = outN a b i c := by
  unfold outC outN
  rw [List.replicate_succ', List.append_assoc, List.set_append_right _ _ (by simp), List.length_replicate, Nat.sub_self, show a.length + 1 - (i + 1) = a.length - i from by omega]
  rfl
theorem val_last (a b : List UInt8) (i : Nat) : val a b i b.length = .int .i64 0 := by
  unfold val; rw [List.drop_length, lcs_n2]; rfl
theorem val_low (a b : List UInt8) (k : Nat) : val a b a.length k = .int .i64 0 := by
  unfold val; rw [List.drop_length, lcs_n1]; rfl
theorem row_start (a b : List UInt8) (i : Nat) : List.replicate (b.length + 1) (.int .i64 0) = rowC a b i b.length := by
  unfold rowC
  rw [show b.length + 1 - b.length = 1 from by omega, List.replicate_succ']
  simp [val_last]
theorem row_low (a b : List UInt8) : List.replicate (b.length + 1) (.int .i64 0) = rowL a b a.length := by
  unfold rowL
  symm
  rw [List.eq_replicate_iff]
  refine ⟨by simp, fun x hx => ?_⟩
  obtain ⟨k, _, rfl⟩ := List.mem_map.1 hx
  exact val_low a b k
theorem rowC_set (a b : List UInt8) (i k : Nat) (h : k ≤ b.length) : (rowC a b i (k + 1)).set k (val a b i k) = rowC a b i k := by
  unfold rowC
  rw [List.replicate_succ', List.append_assoc, List.set_append_right _ _ (by simp), List.length_replicate, Nat.sub_self]
  have : List.range' k (b.length + 1 - k) = k :: List.range' (k + 1) (b.length + 1 - (k + 1)) := by
    rw [show b.length + 1 - k = (b.length + 1 - (k + 1)) + 1 from by omega, List.range'_succ]
  rw [this]
  rfl
theorem rowC_get (a b : List UInt8) (i k j : Nat) (h : k ≤ j) (hj : j ≤ b.length) : ((rowC a b i k).drop j)[0]? = some (val a b i j) := by
  rw [List.getElem?_drop, Nat.add_zero]
  unfold rowC
  rw [List.getElem?_append_right (by simpa using h), List.length_replicate, List.getElem?_map, List.getElem?_range' (by omega)]
  simp; congr 1; omega
theorem rowL_get (a b : List UInt8) (i j : Nat) (hj : j ≤ b.length) : (rowL a b i)[j]? = some (val a b i j) := by
  unfold rowL
  rw [List.getElem?_map, List.getElem?_range' (by omega)]
  simp
theorem outC_get (a b : List UInt8) (i j : Nat) (h : i ≤ j) (hj : j ≤ a.length) : (outC a b i)[j]? = some (rowV a b j) := by
  unfold outC
  rw [List.getElem?_append_right (by simpa using h), List.length_replicate, List.getElem?_map, List.getElem?_range' (by omega)]
  simp; congr 1; omega
theorem outN_own (a b : List UInt8) (i c : Nat) : ((outN a b i c).drop i)[0]? = some (.rs 1 c 0 (b.length + 1)) := by
  rw [List.getElem?_drop, Nat.add_zero]
  unfold outN
  rw [List.getElem?_append_right (by simp), List.length_replicate, Nat.sub_self]
  rfl
theorem outN_next (a b : List UInt8) (i c : Nat) (hi : i < a.length) : ((outN a b i c).drop (i + 1))[0]? = some (rowV a b (i + 1)) := by
  rw [List.getElem?_drop, Nat.add_zero]
  unfold outN
  rw [List.getElem?_append_right (by simp), List.length_replicate, show i + 1 - i = 1 from by omega, List.getElem?_cons_succ, List.getElem?_map, List.getElem?_range' (by omega)]
  simp
theorem val_pu (a b : List UInt8) (i k : Nat) : low 0 (val a b i k) := by simp only [val, low]
theorem rowL_pu (a b : List UInt8) (i : Nat) : lowL 0 (rowL a b i) := by
  rw [lowL_iff]; intro x hx
  obtain ⟨k, _, rfl⟩ := List.mem_map.1 hx
  exact val_pu a b i k
theorem rowC_pu (a b : List UInt8) (i k : Nat) : lowL 0 (rowC a b i k) := by
  unfold rowC
  rw [lowL_append, lowL_iff, lowL_iff]
  exact ⟨fun x hx => by rw [(List.mem_replicate.1 hx).2]; simp only [low], fun x hx => by obtain ⟨k, _, rfl⟩ := List.mem_map.1 hx; exact val_pu a b i k⟩
theorem rowV_pu (a b : List UInt8) (i : Nat) : low 0 (rowV a b i) := by simp only [rowV, low]; exact rowL_pu a b i
theorem rows_pu (a b : List UInt8) (l : List Nat) : lowL 0 (l.map (rowV a b)) := by
  rw [lowL_iff]; intro x hx
  obtain ⟨k, _, rfl⟩ := List.mem_map.1 hx
  exact rowV_pu a b k
theorem nils_pu (n : Nat) : lowL 0 (List.replicate n AV.nils) := by
  rw [lowL_iff]; intro x hx; rw [(List.mem_replicate.1 hx).2]; simp only [low]
theorem outC_pu (a b : List UInt8) (i : Nat) : lowL 0 (outC a b i) := by
  unfold outC; rw [lowL_append]; exact ⟨nils_pu i, rows_pu a b _⟩
theorem outN_done (a b : List UInt8) (i c : Nat) (hi : i ≤ a.length) : fzL c 1 (rowL a b i) (outN a b i c) = outC a b i := by
  unfold outN outC
  rw [fzL_append, fzL_pu (nils_pu i)]
  congr 1
  have e : List.range' i (a.length + 1 - i) = i :: List.range' (i + 1) (a.length - i) := by
    rw [show a.length + 1 - i = (a.length - i) + 1 from by omega, List.range'_succ]
  rw [e, List.map_cons, fzL, fzL_pu (rows_pu a b _)]
  congr 1
  simp only [fz]
  rw [if_pos ⟨trivial, trivial, trivial, (rowL_len a b i).symm⟩]
  rfl
theorem outN_ren (a b : List UInt8) (i c : Nat) (f : Nat → Nat) : renL f (outN a b i c) = outN a b i (f c) := by
  unfold outN
  rw [renL_append, renL_pu (nils_pu i)]
  simp only [renL, ren]
  rw [renL_pu (rows_pu a b _)]
theorem ints_one {l : List AV} (h : ∀ x ∈ l, ∃ n, x = .int .i64 n) : l.flatMap AV.cells = l := by
  induction l with
  | nil => rfl
  | cons x l ih =>
    obtain ⟨n, rfl⟩ := h x (List.mem_cons_self ..)
    rw [List.flatMap_cons, ih fun y hy => h y (List.mem_cons_of_mem _ hy)]
    rfl
theorem rowL_cells (a b : List UInt8) (i : Nat) : (rowL a b i).flatMap AV.cells = rowL a b i :=
  ints_one fun x hx => by obtain ⟨k, _, rfl⟩ := List.mem_map.1 hx; exact ⟨_, rfl⟩
theorem rowL_one (a b : List UInt8) (i : Nat) : ∀ x ∈ rowL a b i, x.cells.length = 1 := fun x hx => by obtain ⟨k, _, rfl⟩ := List.mem_map.1 hx; rfl
theorem outC_cells (a b : List UInt8) : (outC a b 0).flatMap AV.cells = outC a b 0 := by
  simp only [outC, List.replicate_zero, List.nil_append]
  generalize List.range' 0 (a.length + 1 - 0) = l
  induction l with
  | nil => rfl
  | cons x l ih => rw [List.map_cons, List.flatMap_cons, ih]; rfl
theorem outC_one (a b : List UInt8) : ∀ x ∈ outC a b 0, x.cells.length = 1 := by
  intro x hx
  simp only [outC, List.replicate_zero, List.nil_append] at hx
  obtain ⟨k, _, rfl⟩ := List.mem_map.1 hx; rfl
theorem ixV (a b : List UInt8) (i k : Nat) (hk : k ≤ b.length) : aindexAddr tab 22 (rowV a b i) (.int .i64 ((k : Nat) : Int)) = some (.rptr [val a b i k]) := by
  have h := rowL_get a b i k hk
  have hr : (val a b i k).israw = false := rfl
  have hc : (val a b i k).cells = [val a b i k] := rfl
  simp [aindexAddr, rowV, ty22, Tab.size, ty3, h, hr, hc]
theorem lcs_le (a b : List UInt8) : lcs a b ≤ a.length := by
  induction a with
  | nil => rw [lcs_n1]; exact Nat.zero_le _
  | cons x xs ih => have := (lcs_x x xs b).2; simp only [List.length_cons]; omega
theorem mkS (t e : TypeId) (z : Value) (zc : AV) (hz : (AV.ofV z).cells = [zc]) (hr : (AV.ofV z).israw = false) (by_ : Nat) (hby : 0 < by_ ∧ by_ ≤ 100) {q : Bool} {i : TI} (ht : tab.ty t = some i) (hi : i.td = .slice e) {ie : TD} (he : tab.ty e = some { td := ie, size := 1, bytes := by_, zero := z, eqok := q })
    {n m : Nat} {s : AHeap} {l : List (Nat × Option AObj)} (hn : n ≤ 1000000) : amakeSlice tab t (.int .i64 n) (.int .i64 n) (loc s m l) = some (.rs 1 (nm s.nx m) 0 n, loc s (m + 1) (lput l m (.cells (List.replicate n zc) (some e)))) := by
  have e1 : (List.replicate n [zc]).flatten = List.replicate n zc := by
    induction n with
    | zero => rfl
    | succ k ih => rw [List.replicate_succ, List.flatten_cons, ih (by omega)]; rfl
  have hb : (by_ : Int) * n ≤ 281474976710656 := by
    have h1 : by_ * n ≤ 100 * 1000000 := Nat.mul_le_mul hby.2 hn
    have h2 : ((by_ * n : Nat) : Int) = (by_ : Int) * n := Int.natCast_mul _ _
    rw [← h2]
    omega
  simp only [amakeSlice, ht, hi, he]
  rw [if_pos (by refine ⟨by omega, by omega, hby.1, hb, hr⟩), nx_loc, Int.toNat_natCast, hz, e1, new_loc]
theorem mk3 {n m : Nat} {s : AHeap} {l : List (Nat × Option AObj)} (hn : n ≤ 1000000) : amakeSlice tab 22 (.int .i64 n) (.int .i64 n) (loc s m l) = some (.rs 1 (nm s.nx m) 0 n, loc s (m + 1) (lput l m (.cells (List.replicate n (.int .i64 0)) (some 3)))) :=
  mkS 22 3 _ _ rfl rfl 8 (by omega) ty22 rfl ty3 hn
theorem mk94 {n m : Nat} {s : AHeap} {l : List (Nat × Option AObj)} (hn : n ≤ 1000000) : amakeSlice tab 130 (.int .i64 n) (.int .i64 n) (loc s m l) = some (.rs 1 (nm s.nx m) 0 n, loc s (m + 1) (lput l m (.cells (List.replicate n .nils) (some 22)))) :=
  mkS 130 22 _ _ rfl rfl 24 (by omega) ty130 rfl ty22 hn
end Go.S1N
end
section
namespace Go.S1N
open Go Go.Am Go.Proofs Go.S1
set_option maxRecDepth 100000
def rsR (nx m j : Nat) : AV := .rs 1 (nm nx (j + 1)) 0 m
def tabA (nx n m i : Nat) : List AV := (List.range i).map (rsR nx m) ++ List.replicate (n + 1 - i) .nils
def tabB (nx : Nat) (a b : List UInt8) (i : Nat) : List AV := (List.range i).map (rsR nx (b.length + 1)) ++ (List.range' i (a.length + 1 - i)).map (rowV a b)
def zrow (m : Nat) : Option AObj := some (.cells (List.replicate m (.int .i64 0)) (some 3))
def zrows (m : Nat) : Nat → List (Nat × Option AObj)
  | 0 => []
  | i + 1 => (i + 1, zrow m) :: zrows m i
theorem lget_zrows (m k : Nat) : ∀ i, lget (zrows m i) k = if 1 ≤ k ∧ k ≤ i then zrow m else none
  | 0 => by rw [zrows, lget, if_neg (by omega)]
  | i + 1 => by
    rw [zrows, lget, lget_zrows m k i]
    by_cases h : i + 1 = k
    · rw [if_pos h, if_pos (by omega)]
    · rw [if_neg h]
      by_cases h2 : 1 ≤ k ∧ k ≤ i
      · rw [if_pos h2, if_pos (by omega)]
      · rw [if_neg h2, if_neg (by omega)]
theorem mem_zrows {m : Nat} {p : Nat × Option AObj} : ∀ {i}, p ∈ zrows m i → 1 ≤ p.1 ∧ p.1 ≤ i ∧ p.2 = zrow m
  | 0, h => by cases h
  | i + 1, h => by
    rcases List.mem_cons.1 h with rfl | h
    · exact ⟨by simp, Nat.le_refl _, rfl⟩
    · have := mem_zrows h
      exact ⟨this.1, by omega, this.2.2⟩
theorem tabA_len (nx n m i : Nat) (h : i ≤ n + 1) : (tabA nx n m i).length = n + 1 := by simp [tabA]; omega
theorem tabA_zero (nx n m : Nat) : tabA nx n m 0 = List.replicate (n + 1) .nils := by simp [tabA]
theorem tabA_set (nx n m i : Nat) (h : i ≤ n) : (tabA nx n m i).set i (rsR nx m i) = tabA nx n m (i + 1) := by
  unfold tabA
  rw [List.set_append_right _ _ (by simp), List.length_map, List.length_range, Nat.sub_self, show n + 1 - i = (n - i) + 1 from by omega, List.replicate_succ, List.set_cons_zero,
    List.range_succ, List.map_append, List.append_assoc, show n + 1 - (i + 1) = n - i from by omega]
  rfl
theorem tabA_all (nx : Nat) (a b : List UInt8) : tabA nx a.length (b.length + 1) (a.length + 1) = tabB nx a b (a.length + 1) := by
  unfold tabA tabB
  rw [Nat.sub_self]; rfl
theorem tabB_own (nx : Nat) (a b : List UInt8) (i j : Nat) (h : j < i) : ((tabB nx a b i).drop j)[0]? = some (rsR nx (b.length + 1) j) := by
  rw [List.getElem?_drop, Nat.add_zero]
  unfold tabB
  rw [List.getElem?_append_left (by simpa using h), List.getElem?_map, List.getElem?_range h]; rfl
theorem tabB_row (nx : Nat) (a b : List UInt8) (i j : Nat) (h : i ≤ j) (hj : j ≤ a.length) : ((tabB nx a b i).drop j)[0]? = some (rowV a b j) := by
  rw [List.getElem?_drop, Nat.add_zero]
  unfold tabB
  rw [List.getElem?_append_right (by simpa using h), List.length_map, List.length_range, List.getElem?_map, List.getElem?_range' (by omega)]
  simp; congr 1; omega
theorem tabB_zero (nx : Nat) (a b : List UInt8) : tabB nx a b 0 = outC a b 0 := by simp [tabB, outC]
theorem ren_rsR {f : Nat → Nat} {nx m j : Nat} (h : f (nm nx (j + 1)) = nm nx (j + 1)) : ren f (rsR nx m j) = rsR nx m j := by simp only [rsR, ren, h]
theorem renL_map {f : Nat → Nat} {nx m : Nat} : ∀ {l : List Nat}, (∀ j ∈ l, f (nm nx (j + 1)) = nm nx (j + 1)) → renL f (l.map (rsR nx m)) = l.map (rsR nx m)
  | [], _ => by simp only [List.map_nil, renL]
  | j :: l, h => by
    rw [List.map_cons, renL, ren_rsR (h j (List.mem_cons_self ..)), renL_map fun x hx => h x (List.mem_cons_of_mem _ hx)]
theorem tabB_ren {f : Nat → Nat} {nx : Nat} {a b : List UInt8} {i : Nat} (h : ∀ j, j < i → f (nm nx (j + 1)) = nm nx (j + 1)) : renL f (tabB nx a b i) = tabB nx a b i := by
  unfold tabB
  rw [renL_append, renL_map fun j hj => h j (List.mem_range.1 hj), renL_pu (rows_pu a b _)]
theorem fzL_rs {nx m c sz : Nat} {xs : List AV} : ∀ {l : List Nat}, (∀ j ∈ l, j + 1 ≠ c) → fzL (nm nx c) sz xs (l.map (rsR nx m)) = l.map (rsR nx m)
  | [], _ => by simp only [List.map_nil, fzL]
  | j :: l, h => by
    rw [List.map_cons, fzL, fzL_rs fun x hx => h x (List.mem_cons_of_mem _ hx)]
    congr 1
    simp only [rsR, fz]
    rw [if_neg]
    rintro ⟨q, _⟩
    rw [nm_inj] at q
    exact h j (List.mem_cons_self ..) q
theorem tabB_done (nx : Nat) (a b : List UInt8) (j : Nat) (hj : j ≤ a.length) : fzL (nm nx (j + 1)) 1 (rowL a b j) (tabB nx a b (j + 1)) = tabB nx a b j := by
  unfold tabB
  rw [List.range_succ, List.map_append, fzL_append, fzL_append, fzL_rs fun i hi => by have := List.mem_range.1 hi; omega, fzL_pu (rows_pu a b _)]
  have e : List.range' j (a.length + 1 - j) = j :: List.range' (j + 1) (a.length + 1 - (j + 1)) := by
    rw [show a.length + 1 - j = (a.length + 1 - (j + 1)) + 1 from by omega, List.range'_succ]
  rw [e, List.map_cons, List.append_assoc]
  congr 1
  simp only [List.map_cons, List.map_nil, fzL, List.cons_append, List.nil_append]
  congr 1
  simp only [rsR, fz]
  rw [if_pos ⟨trivial, trivial, trivial, (rowL_len a b j).symm⟩]
  rfl
theorem rnm_range {nx k N j : Nat} (h : j < k) : rnm nx (List.range k) N (nm nx j) = nm nx j := by
  rw [rnm_nm, List.getElem?_range h]
theorem okRan {f : Nat → Nat} {k : Nat} {l : List (Nat × Option AObj)} : ∀ {l' : List (Nat × Option AObj)}, (∀ p ∈ l', p.1 < k ∧ lget l p.1 = p.2.map (renO f)) → okObjs f (List.range k) l l'
  | [], _ => trivial
  | (j, o) :: t, h => by
    have h1 := h (j, o) (List.mem_cons_self ..)
    refine ⟨?_, okRan fun p hp => h p (List.mem_cons_of_mem _ hp)⟩
    rw [List.getElem?_range h1.1]
    exact h1.2
theorem zrow_ren {m : Nat} {f : Nat → Nat} : (zrow m).map (renO f) = zrow m := by
  have : renL f (List.replicate m (AV.int .i64 0)) = List.replicate m (AV.int .i64 0) := renL_pu (by
    rw [PuL, lowL_iff]; intro x hx; rw [(List.mem_replicate.1 hx).2]; simp only [low])
  simp only [zrow, Option.map_some, renO, this]
theorem zrow_fz {m c sz : Nat} {xs : List AV} : (zrow m).map (fzO c sz xs) = zrow m := by
  have : fzL c sz xs (List.replicate m (AV.int .i64 0)) = List.replicate m (AV.int .i64 0) := fzL_pu (by
    rw [lowL_iff]; intro x hx; rw [(List.mem_replicate.1 hx).2]; simp only [low])
  simp only [zrow, Option.map_some, fzO, this]
section
variable {s : AHeap} {tm : List AV} {lv : List (Nat × AV)} {N m : Nat}
def fillL (T R : List AV) (m j : Nat) : List (Nat × Option AObj) := (0, some (.cells T (some 22))) :: (j + 1, some (.cells R (some 3))) :: zrows m j
theorem lget_fill (T R : List AV) (m j k : Nat) : lget (fillL T R m j) k = if k = 0 then some (.cells T (some 22)) else if k = j + 1 then some (.cells R (some 3)) else if k ≤ j then zrow m else none := by
  unfold fillL
  simp only [lget, lget_zrows]
  by_cases h0 : k = 0
  · subst h0; rw [if_pos rfl, if_pos rfl]
  · rw [if_neg (Ne.symm h0), if_neg h0]
    by_cases h1 : k = j + 1
    · rw [if_pos h1.symm, if_pos h1]
    · rw [if_neg (Ne.symm h1), if_neg h1]
      by_cases h2 : k ≤ j
      · rw [if_pos (by omega), if_pos h2]
      · rw [if_neg (by omega), if_neg h2]
theorem to_same {a b : List UInt8} {R : List AV} {j : Nat} (hR : lowL 0 R) (hn : (lv.map (·.1)).Nodup)
    (hlv : ∀ p ∈ lv, p.1 < tm.length ∧ aev tm (.tmp p.1) = ren (rnm s.nx (List.range (j + 2)) (nm s.nx N)) p.2) :
    To s tm (loc s N (fillL (tabB s.nx a b (j + 1)) R m j)) lv (loc s (j + 2) (fillL (tabB s.nx a b (j + 1)) R m j)) := by
  refine To.go (List.range (j + 2)) _ (by rw [List.length_range]) (.refl s) List.nodup_range hn hlv (okRan ?_)
  intro p hp
  rw [lget_fill]
  unfold fillL at hp
  rcases List.mem_cons.1 hp with rfl | hp
  · refine ⟨by simp, ?_⟩
    rw [if_pos rfl]
    simp only [Option.map_some, renO]
    rw [tabB_ren fun i hi => rnm_range (by omega)]
  rcases List.mem_cons.1 hp with rfl | hp
  · refine ⟨by simp only; omega, ?_⟩
    rw [if_neg (by simp), if_pos rfl]
    simp only [Option.map_some, renO]
    rw [renL_pu hR]
  · obtain ⟨h1, h2, h3⟩ := mem_zrows hp
    refine ⟨by omega, ?_⟩
    rw [if_neg (by omega), if_neg (by omega), if_pos h2, h3, zrow_ren]
theorem to_done {a b : List UInt8} {j : Nat} (hj : j ≤ a.length) (hn : (lv.map (·.1)).Nodup)
    (hlv : ∀ p ∈ lv, p.1 < tm.length ∧ fz (nm s.nx (j + 1)) 1 (rowL a b j) (aev tm (.tmp p.1)) = ren (rnm s.nx (List.range (j + 1)) (nm s.nx N)) p.2) :
    To s tm (loc s N (fillL (tabB s.nx a b (j + 1)) (rowL a b j) m j)) lv (loc s (j + 1) ((0, some (.cells (tabB s.nx a b j) (some 22))) :: zrows m j)) := by
  refine To.freeze (j + 1) 1 (rowL a b j) (T := some 3) ?_ (rowL_one a b j) ?_
  · rw [lget_fill, if_neg (by omega), if_pos rfl, rowL_cells]
  refine To.go (List.range (j + 1)) _ (by rw [List.length_range]) (.refl s) List.nodup_range hn ?_ (okRan ?_)
  · intro p hp
    obtain ⟨h1, h2⟩ := hlv p hp
    exact ⟨by rw [fzL_length]; exact h1, by rw [aev_fzL]; exact h2⟩
  · intro p hp
    rw [lget_lmap, lget_ldel, lget_fill]
    rcases List.mem_cons.1 hp with rfl | hp
    · refine ⟨by simp, ?_⟩
      rw [if_neg (by simp), if_pos rfl]
      simp only [Option.map_some, renO, fzO]
      rw [tabB_done _ _ _ _ hj, tabB_ren fun i hi => rnm_range (by omega)]
    · obtain ⟨h1, h2, h3⟩ := mem_zrows hp
      refine ⟨by omega, ?_⟩
      rw [if_neg (by omega), if_neg (by omega), if_neg (by omega), if_pos h2, h3, zrow_ren, zrow_fz]
theorem to_now {l l' : List (Nat × Option AObj)} {s1 : AHeap} (hl : ∀ i, lget l i = lget l' i) (hlv : ∀ p ∈ lv, aev tm (.tmp p.1) = p.2) : To s tm (loc s1 N l) lv (loc s1 N l') :=
  Gh.now ⟨loc_congr hl, rfl, hlv⟩
end
end Go.S1N
end
section
namespace Go.S1N
open Go Go.Am Go.Proofs Go.S1
set_option maxRecDepth 100000
theorem lcs_mono_y (xs : List UInt8) (b : List UInt8) : ∀ (d k : Nat), lcs xs (b.drop (k + d)) ≤ lcs xs (b.drop k)
  | 0, k => Nat.le_refl _
  | d + 1, k => by
    have h1 := lcs_mono_y xs b d (k + 1)
    rw [show k + 1 + d = k + (d + 1) from by omega] at h1
    refine Nat.le_trans h1 ?_
    rcases Nat.lt_or_ge k b.length with q | q
    · rw [List.drop_eq_getElem_cons q]; exact (lcs_y _ _ _).1
    · rw [List.drop_of_length_le (by omega), List.drop_of_length_le q]; exact Nat.le_refl _
theorem fst_not {x : UInt8} : ∀ {ys : List UInt8} {n j : Nat} (_ : fstAt x ys = some n) (_ : j < n) (hl : j < ys.length), x ≠ ys[j]
  | [], _, _, h, _, _ => by cases h
  | y :: ys, n, j, h, hj, hl => by
    rw [fstAt] at h
    split at h
    · cases h; omega
    · rename_i hne
      cases hq : fstAt x ys with
      | none => rw [hq] at h; cases h
      | some k =>
        rw [hq] at h; cases h
        cases j with
        | zero => exact hne
        | succ j => exact fst_not hq (by have : j + 1 < k + 1 := hj; omega) (by simp only [List.length_cons] at hl; omega)
theorem fst_none {x : UInt8} : ∀ {ys : List UInt8}, fstAt x ys = none → ∀ y ∈ ys, x ≠ y
  | [], _, _, h => by cases h
  | z :: ys, h, y, hy => by
    rw [fstAt] at h
    split at h
    · cases h
    · rename_i hne
      rcases List.mem_cons.1 hy with rfl | hy
      · exact hne
      · refine fst_none ?_ y hy
        cases hq : fstAt x ys with
        | none => rfl
        | some k => rw [hq] at h; cases h
theorem fst_at {x : UInt8} : ∀ {ys : List UInt8} {n : Nat}, fstAt x ys = some n → ys[n]? = some x
  | [], n, h => by cases h
  | y :: ys, n, h => by
    rw [fstAt] at h
    split at h
    · rename_i e; cases h; rw [e]; rfl
    · cases hq : fstAt x ys with
      | none => rw [hq] at h; cases h
      | some k =>
        rw [hq] at h; cases h
        show (y :: ys)[k + 1]? = some x
        rw [List.getElem?_cons_succ]; exact fst_at hq
theorem dr_pass {a b : List UInt8} {x k : Nat} (hx : x < a.length) (h0 : lcs (a.drop x) (b.drop k) ≠ 0)
    (hno : ∀ y, k ≤ y → (hy : y < b.length) → ¬ (a[x] = b[y] ∧ 1 + lcs (a.drop (x + 1)) (b.drop (y + 1)) = lcs (a.drop x) (b.drop k))) :
    dr x (a.drop x) (b.drop k) = dr (x + 1) (a.drop (x + 1)) (b.drop k) ∧ lcs (a.drop (x + 1)) (b.drop k) = lcs (a.drop x) (b.drop k) := by
  have d1 : a.drop x = a[x] :: a.drop (x + 1) := List.drop_eq_getElem_cons hx
  rw [d1] at h0 hno ⊢
  obtain ⟨f1, f2⟩ := lcs_fst a[x] (a.drop (x + 1)) (b.drop k)
  rw [dr, if_neg h0]
  cases hf : fstAt a[x] (b.drop k) with
  | none => exact ⟨rfl, (f1 hf).symm⟩
  | some n =>
    obtain ⟨g1, g2⟩ := fst_get hf
    rw [List.length_drop] at g1
    have hb : b[k + n]'(by omega) = a[x] := by
      have : (b.drop k)[n]'(by rw [List.length_drop]; omega) = a[x] := by
        have h3 : (b.drop k)[n]? = some a[x] := fst_at hf
        rw [List.getElem?_eq_getElem (by rw [List.length_drop]; omega)] at h3
        exact Option.some.inj h3
      rw [List.getElem_drop] at this
      exact this
    have hd : (b.drop k).drop (n + 1) = b.drop (k + n + 1) := by rw [List.drop_drop]; rfl
    have hc := hno (k + n) (by omega) (by omega)
    have hc : ¬ lcs (a.drop (x + 1)) ((b.drop k).drop (n + 1)) + 1 = lcs (a[x] :: a.drop (x + 1)) (b.drop k) := fun e => hc ⟨hb.symm, by rw [← hd]; omega⟩
    refine ⟨if_neg hc, ?_⟩
    have := f2 n hf
    omega
theorem dr_pair {a b : List UInt8} {x k y : Nat} (hx : x < a.length) (hky : k ≤ y) (hy : y < b.length) (h0 : lcs (a.drop x) (b.drop k) ≠ 0) (he : a[x] = b[y])
    (hl : 1 + lcs (a.drop (x + 1)) (b.drop (y + 1)) = lcs (a.drop x) (b.drop k))
    (hno : ∀ z, k ≤ z → z < y → (hz : z < b.length) → ¬ (a[x] = b[z] ∧ 1 + lcs (a.drop (x + 1)) (b.drop (z + 1)) = lcs (a.drop x) (b.drop k))) :
    dr x (a.drop x) (b.drop k) = ⟨0, 0, (b.drop k).take (y - k)⟩ :: ⟨x, 1, []⟩ :: dr (x + 1) (a.drop (x + 1)) (b.drop (y + 1)) := by
  have d1 : a.drop x = a[x] :: a.drop (x + 1) := List.drop_eq_getElem_cons hx
  rw [d1] at h0 hno hl ⊢
  obtain ⟨f1, f2⟩ := lcs_fst a[x] (a.drop (x + 1)) (b.drop k)
  rw [dr, if_neg h0]
  have hfst : fstAt a[x] (b.drop k) = some (y - k) := by
    cases hf : fstAt a[x] (b.drop k) with
    | none =>
      refine absurd he (fst_none hf _ ?_)
      have : b[y] = (b.drop k)[y - k]'(by rw [List.length_drop]; omega) := by
        rw [List.getElem_drop]; congr 1; omega
      rw [this]; exact List.getElem_mem _
    | some n =>
      obtain ⟨g1, g2⟩ := fst_get hf
      rw [List.length_drop] at g1
      congr 1
      rcases Nat.lt_trichotomy n (y - k) with q | q | q
      · exfalso
        have hb : b[k + n]'(by omega) = a[x] := by
          have : (b.drop k)[n]'(by rw [List.length_drop]; omega) = a[x] := by
            have h3 : (b.drop k)[n]? = some a[x] := fst_at hf
            rw [List.getElem?_eq_getElem (by rw [List.length_drop]; omega)] at h3
            exact Option.some.inj h3
          rw [List.getElem_drop] at this
          exact this
        have hd : (b.drop k).drop (n + 1) = b.drop (k + n + 1) := by rw [List.drop_drop]; rfl
        have m := lcs_mono_y (a.drop (x + 1)) b (y - (k + n)) (k + n + 1)
        rw [show k + n + 1 + (y - (k + n)) = y + 1 from by omega] at m
        have := f2 n hf
        rw [hd] at this
        exact hno (k + n) (by omega) (by omega) (by omega) ⟨hb.symm, by omega⟩
      · exact q
      · exfalso
        refine fst_not hf q (by rw [List.length_drop]; omega) ?_
        rw [he, List.getElem_drop]; congr 1; omega
  rw [hfst]
  have hd : (b.drop k).drop (y - k + 1) = b.drop (y + 1) := by rw [List.drop_drop]; congr 1; omega
  simp only
  rw [hd, if_pos (by omega)]
theorem dr_end {a b : List UInt8} {x k : Nat} (h : lcs (a.drop x) (b.drop k) = 0) : dr x (a.drop x) (b.drop k) = [⟨0, 0, b.drop k⟩] := by
  cases hd : a.drop x with
  | nil => rw [dr]
  | cons y ys => rw [dr, if_pos (by rw [← hd]; exact h)]
def lett (a : List UInt8) (p : Int × UInt8) : Int × UInt8 := if 0 ≤ p.1 then (p.1, a.getD p.1.toNat 0) else p
def rlet (a : List UInt8) (R : List Rn) : List (Int × UInt8) := (rflow R).map (lett a)
theorem rlet_app (a : List UInt8) (R S : List Rn) : rlet a (R ++ S) = rlet a R ++ rlet a S := by simp [rlet, rflow]
theorem rlet_cons (a : List UInt8) (r : Rn) (S : List Rn) : rlet a (r :: S) = rlet a [r] ++ rlet a S := rlet_app a [r] S
theorem rlet_new (a w : List UInt8) : rlet a [⟨0, 0, w⟩] = negL w := by
  have : rflow [⟨0, 0, w⟩] = negL w := by
    simp only [rflow, List.flatMap_cons, List.flatMap_nil, List.append_nil, rfl1]
    split
    · rfl
    · rename_i h; simp at h; subst h; rfl
  rw [rlet, this]
  unfold negL
  rw [List.map_map]
  refine List.map_congr_left fun c _ => ?_
  simp [lett]
theorem rlet_one (a : List UInt8) {x : Nat} (hx : x < a.length) : rlet a [⟨x, 1, []⟩] = [((x : Int), a[x])] := by
  simp [rlet, rflow, rfl1, lett, List.range_succ, hx]
theorem edGo_lett (a : List UInt8) (n : Int) : ∀ (F : List (Int × UInt8)) (at_ : Int) (w : List UInt8), edGo n at_ w (F.map (lett a)) = edGo n at_ w F
  | [], _, _ => rfl
  | p :: F, at_, w => by
    have h1 : (lett a p).1 = p.1 := by unfold lett; split <;> rfl
    rw [List.map_cons, edGo, edGo, h1, edGo_lett a n F, edGo_lett a n F]
    split
    · rename_i h
      have : lett a p = p := by unfold lett; rw [if_neg (by omega)]
      rw [this]
    · rfl
theorem dr_at : ∀ (xs : List UInt8) (i : Nat) (ys : List UInt8), ∀ r ∈ dr i xs ys, 0 ≤ r.at_
  | [], i, ys, r, hr => by rw [dr] at hr; rw [List.mem_singleton.1 hr]; simp
  | x :: xs, i, ys, r, hr => by
    rw [dr] at hr
    split at hr
    · rw [List.mem_singleton.1 hr]; simp
    · split at hr
      · split at hr
        · rcases List.mem_cons.1 hr with rfl | hr
          · simp
          rcases List.mem_cons.1 hr with rfl | hr
          · simp
          · exact dr_at xs _ _ r hr
        · exact dr_at xs _ _ r hr
      · exact dr_at xs _ _ r hr
theorem diff_edits (a b : List UInt8) : edGo a.length 0 [] (rlet a (dr 0 a b)) = rGo a.length 0 [] (dr 0 a b) := by
  rw [rGo_flow _ _ _ _ (dr_at a 0 b), rlet, edGo_lett]
theorem rlet_range (a : List UInt8) : ∀ (xs : List UInt8) (i : Nat) (ys : List UInt8), ∀ p ∈ rlet a (dr i xs ys), -1 ≤ p.1 ∧ p.1 < i + xs.length + 1
  | [], i, ys, p, hp => by
    rw [dr, rlet_new] at hp
    obtain ⟨c, _, rfl⟩ := List.mem_map.1 hp
    simp only; omega
  | x :: xs, i, ys, p, hp => by
    have next : ∀ zs, p ∈ rlet a (dr (i + 1) xs zs) → -1 ≤ p.1 ∧ p.1 < i + (x :: xs).length + 1 := fun zs h => by
      have := rlet_range a xs (i + 1) zs p h
      simp only [List.length_cons]; omega
    rw [dr] at hp
    split at hp
    · rw [rlet_new] at hp
      obtain ⟨c, _, rfl⟩ := List.mem_map.1 hp
      simp only [List.length_cons]; omega
    · split at hp
      · split at hp
        · rw [rlet_cons, rlet_new, List.mem_append] at hp
          rcases hp with hp | hp
          · obtain ⟨c, _, rfl⟩ := List.mem_map.1 hp
            simp only [List.length_cons]; omega
          · rw [rlet_cons, List.mem_append] at hp
            rcases hp with hp | hp
            · have : p.1 = i := by
                have hl : lett a ((i : Int), (0 : UInt8)) = p ∨ False := by
                  simp only [rlet, rflow, List.flatMap_cons, List.flatMap_nil, List.append_nil, rfl1] at hp
                  rw [if_neg (by simp)] at hp
                  have e : (List.range (1 : Int).toNat).map (fun (j : Nat) => ((i : Int) + (j : Int), (0 : UInt8))) = [((i : Int), 0)] := by
                    show (List.range 1).map _ = _
                    simp [List.range_succ]
                  rw [e] at hp
                  simpa using (List.mem_singleton.1 hp).symm
                rcases hl with hl | hl
                · rw [← hl]; unfold lett; split <;> rfl
                · exact hl.elim
              simp only [List.length_cons]; omega
            · exact next _ hp
        · exact next _ hp
      · exact next _ hp
theorem rlet_len (a : List UInt8) : ∀ (xs : List UInt8) (i : Nat) (ys : List UInt8), (rlet a (dr i xs ys)).length ≤ xs.length + ys.length
  | [], i, ys => by rw [dr, rlet_new]; simp [negL]
  | x :: xs, i, ys => by
    rw [dr]
    split
    · rw [rlet_new]; simp [negL]
    · split
      · rename_i n hn
        have hg := (fst_get hn).1
        split
        · rw [rlet_cons, rlet_new, rlet_cons, List.length_append, List.length_append]
          have ih := rlet_len a xs (i + 1) (ys.drop (n + 1))
          have e : (rlet a [⟨(i : Int), 1, []⟩]).length = 1 := by
            simp only [rlet, rflow, List.flatMap_cons, List.flatMap_nil, List.append_nil, rfl1, List.length_map]
            rw [if_neg (by simp), List.length_map, List.length_range]; rfl
          rw [e]
          simp only [negL, List.length_map, List.length_take, List.length_cons]
          rw [List.length_drop] at ih
          omega
        · have ih := rlet_len a xs (i + 1) ys
          simp only [List.length_cons]; omega
      · have ih := rlet_len a xs (i + 1) ys
        simp only [List.length_cons]; omega
end Go.S1N
end
section
namespace Go.S1N
open Go Go.Am Go.Proofs Go.S1
set_option maxRecDepth 100000
attribute [local go_sem] Nat.reduceLT Nat.reduceEqDiff Nat.reduceAdd Nat.reduceLeDiff reduceIte reduceCtorEq
attribute [local irreducible] lopsB lvb lstepB lfunG lcondB lguardB lguardU ldguardU ldrawB ldrunB ldstepB ldguardB lmem lval ldmem ldval ldfun lexit ldloadB ldlenB lpostB athen ablock
set_option maxHeartbeats 2000000 in
theorem common_ok (a b : List UInt8) (ha : a.length ≤ 1000) (hb : b.length ≤ 1000) (s : AHeap) : ACall Tryz.prog 80 [.str a, .str b] s fun v t => v = tabV a b ∧ t = s := by
  refine gob80 (by simp) ?_
  intro tm hlen harg
  have hw1 : IntKind.i64.wrap ((a.length : Int) + 1) = ((a.length + 1 : Nat) : Int) := by rw [wrap_id (by omega)]; rfl
  have hw2 : IntKind.i64.wrap ((b.length : Int) + 1) = ((b.length + 1 : Nat) : Int) := by rw [wrap_id (by omega)]; rfl
  have hw3 : IntKind.i64.wrap ((a.length : Int) - 1) = (a.length : Int) - 1 := wrap_id (by omega)
  simp +contextual only [go_sem, L80, hlen, harg, hw1, hw2, hw3, cdD, cdN, gdT, gdF, gdD]
  refine lmem_eq (mk94 (by omega)) ?_
  simp +contextual only [go_sem, hlen, harg, hw1, hw2, hw3, cdD, cdN, gdT, gdF, gdD]
  refine lmem_eq (mk3 (by omega)) ?_
  have i0 : ∀ c, aindexAddr tab 130 (.rs 1 c 0 (a.length + 1)) (.int .i64 (a.length : Int)) = some (.ptr c a.length) := fun c => by rw [ix130r (by omega) (by omega)]; simp
  have l0 : a.length + 1 ≤ (List.replicate (a.length + 1) AV.nils).length := by simp
  simp +contextual only [go_sem, hlen, harg, hw1, hw2, hw3, i0, l0, cdD, cdN, gdT, gdF, gdD]
  have e0 : ∀ c, (List.replicate (a.length + 1) AV.nils).set a.length (.rs 1 c 0 (b.length + 1)) = outN a b a.length c := fun c => by rw [← outC_last a b, outC_set]
  have fz1 : ∀ i, fz (nm s.nx 1) 1 (rowL a b i) (.rs 1 (nm s.nx 0) 0 (a.length + 1)) = .rs 1 (nm s.nx 0) 0 (a.length + 1) := fun i => by simp only [fz]; rw [if_neg (by rintro ⟨h, _⟩; rw [nm_inj] at h; cases h)]
  have fzd := fun i hi => outN_done a b i (nm s.nx 1) hi
  refine ⟨Nat, fun i => [(0, .str a), (1, .str b), (5, .rs 1 (nm s.nx 0) 0 (a.length + 1)), (6, .int .i64 ((i : Int) - 1))], fun i => loc s 1 [(0, some (.cells (outC a b i) (some 22)))], fun i => i ≤ a.length, fun i => i, a.length, Nat.le_refl _, ?_, ?_⟩
  · refine To.freeze 1 1 (rowL a b a.length) (T := some 3) (by rw [rowL_cells, ← row_low]; simp only [go_sem, cdD, cdN, gdT, gdF, gdD]) (rowL_one a b _) ?_
    refine To.go [0] _ rfl (.refl s) (by decide) (by simp) ?_ ?_
    · simp +contextual only [go_sem, hlen, harg, fz1, fz, cdD, cdN, gdT, gdF, gdD]
    · simp only [go_sem, e0, fzO, fzd _ (Nat.le_refl _), pul_ren (outC_pu a b _), cdD, cdN, gdT, gdF, gdD]
  · rintro i tm1 hi hlen1 hlv
    simp only [go_sem, hlen, cdD, cdN, gdT, gdF, gdD] at hlen1 hlv hi
    simp +contextual only [go_sem, hlen, hlen1, hlv, cdD, cdN, gdT, gdF, gdD]
    refine ⟨fun hge => ?_, fun hlt => ?_⟩
    · obtain ⟨j, rfl⟩ : ∃ j, i = j + 1 := ⟨i - 1, by omega⟩
      have hj : ((j + 1 : Nat) : Int) - 1 = (j : Int) := by omega
      have hw2 : IntKind.i64.wrap ((b.length : Int) + 1) = ((b.length + 1 : Nat) : Int) := by rw [wrap_id (by omega)]; rfl
      have hw4 : IntKind.i64.wrap ((b.length : Int) - 1) = (b.length : Int) - 1 := wrap_id (by omega)
      have i1 : ∀ c, aindexAddr tab 130 (.rs 1 c 0 (a.length + 1)) (.int .i64 (j : Int)) = some (.ptr c j) := fun c => by rw [ix130r (by omega) (by omega)]; simp
      have l1 : j + 1 ≤ (outC a b (j + 1)).length := by rw [outC_len a b _ (by omega)]; omega
      simp +contextual only [go_sem, hlen1, hlv, hj, hw2, cdD, cdN, gdT, gdF, gdD]
      refine lmem_eq (mk3 (by omega)) ?_
      simp +contextual only [go_sem, hlen1, hlv, hj, hw2, hw4, i1, l1, outC_set, cdD, cdN, gdT, gdF, gdD]
      rw [row_start a b j]
      have r0 : ∀ c k, aindexAddr tab 22 (.rs 1 c 0 (b.length + 1)) (.int .i64 ((k : Nat) : Int)) = if k ≤ b.length then some (.ptr c k) else aindexAddr tab 22 (.rs 1 c 0 (b.length + 1)) (.int .i64 ((k : Nat) : Int)) := fun c k => by
        split
        · rw [ix22r (by omega) (by omega)]; simp
        · rfl
      refine ⟨Nat, fun k => [(0, .str a), (1, .str b), (5, .rs 1 (nm s.nx 0) 0 (a.length + 1)), (6, .int .i64 (j : Int)), (7, .int .i64 ((k : Int) - 1))],
        fun k => loc s 2 [(0, some (.cells (outN a b j (nm s.nx 1)) (some 22))), (1, some (.cells (rowC a b j k) (some 3)))], fun k => k ≤ b.length, fun k => k, b.length, Nat.le_refl _, ?_, ?_⟩
      · refine To.go [0, 1] _ rfl (.refl s) (by decide) (by simp) ?_ ?_
        · simp +contextual only [go_sem, hlen1, hlv, hj, cdD, cdN, gdT, gdF, gdD]
        · simp only [go_sem, pul_ren (rowC_pu a b _ _), outN_ren, cdD, cdN, gdT, gdF, gdD]
      · rintro k tm2 hk hlen2 hlv2
        simp only [go_sem, hlen1, cdD, cdN, gdT, gdF, gdD] at hlen2 hlv2 hk
        simp +contextual only [go_sem, hlen2, hlv2, cdD, cdN, gdT, gdF, gdD]
        refine ⟨fun hge2 => ?_, fun hlt2 => ?_⟩
        · obtain ⟨m, rfl⟩ : ∃ m, k = m + 1 := ⟨k - 1, by omega⟩
          have hm : ((m + 1 : Nat) : Int) - 1 = (m : Int) := by omega
          have hja : j < a.length := by omega
          have hmb : m < b.length := by omega
          have x1 : aindex tab 9 (.str a) (.int .i64 (j : Int)) = some (.int .u8 a[j].toNat) := by simp [aindex, ty9, hja]
          have x2 : aindex tab 9 (.str b) (.int .i64 (m : Int)) = some (.int .u8 b[m].toNat) := by simp [aindex, ty9, hmb]
          have d1 : a.drop j = a[j] :: a.drop (j + 1) := List.drop_eq_getElem_cons hja
          have d2 : b.drop m = b[m] :: b.drop (m + 1) := List.drop_eq_getElem_cons hmb
          generalize a[j] = x at x1 d1
          generalize b[m] = y at x2 d2
          refine ldrawB_go [] [] 6 (by decide) ?_
          simp +contextual only [go_sem, hlen2, hlv2, hm, x1, x2, cdD, cdN, gdT, gdF, gdD]
          have hwj : IntKind.i64.wrap ((j : Int) + 1) = ((j + 1 : Nat) : Int) := by rw [wrap_id (by omega)]; rfl
          have hwm : IntKind.i64.wrap ((m : Int) + 1) = ((m + 1 : Nat) : Int) := by rw [wrap_id (by omega)]; rfl
          have hwm1 : IntKind.i64.wrap ((m : Int) - 1) = (m : Int) - 1 := wrap_id (by omega)
          have i2 : ∀ c, aindexAddr tab 130 (.rs 1 c 0 (a.length + 1)) (.int .i64 ((j + 1 : Nat) : Int)) = some (.ptr c (j + 1)) := fun c => by rw [ix130r (by omega) (by omega)]; simp
          have q1 : ∀ c, aindexAddr tab 22 (.rs 1 c 0 (b.length + 1)) (.int .i64 (m : Int)) = some (.ptr c m) := fun c => by rw [ix22r (by omega) (by omega)]; simp
          have q2 : ∀ c, aindexAddr tab 22 (.rs 1 c 0 (b.length + 1)) (.int .i64 ((m + 1 : Nat) : Int)) = some (.ptr c (m + 1)) := fun c => by rw [ix22r (by omega) (by omega)]; simp
          have v1 := ixV a b (j + 1) (m + 1) (by omega)
          have v2 := ixV a b (j + 1) m (by omega)
          have o1 := outN_own a b j (nm s.nx 1)
          have o2 := outN_next a b j (nm s.nx 1) hja
          have g1 := rowC_get a b j (m + 1) (m + 1) (Nat.le_refl _) (by omega)
          have hlen3 : m + 1 ≤ (rowC a b j (m + 1)).length := by rw [rowC_len a b j _ (by omega)]; omega
          refine ⟨by kernel_rfl, fun he => ?_, fun hne => ?_⟩
          · have hxy : x = y := UInt8.toNat_inj.1 (by omega)
            have hval : val a b j m = .int .i64 ((lcs (a.drop (j + 1)) (b.drop (m + 1)) : Nat) + 1 : Int) := by unfold val; rw [d1, d2, hxy, lcs_eq]; rfl
            have hwl : IntKind.i64.wrap ((lcs (a.drop (j + 1)) (b.drop (m + 1)) : Int) + 1) = (lcs (a.drop (j + 1)) (b.drop (m + 1)) : Int) + 1 := wrap_id (by have := lcs_le (a.drop (j + 1)) (b.drop (m + 1)); simp only [List.length_drop] at this; omega)
            have hset := rowC_set a b j m (by omega)
            rw [hval] at hset
            have hv2 : val a b (j + 1) (m + 1) = .int .i64 (lcs (a.drop (j + 1)) (b.drop (m + 1)) : Int) := rfl
            rw [hv2] at v1
            refine ldrawB_go [] [] 15 (by decide) ?_
            simp +contextual only [go_sem, hlen1, hlen2, hlv2, hm, hwj, hwm, hwm1, i1, i2, q1, o1, o2, v1, hwl, hlen3, hset, cdD, cdN, gdT, gdF, gdD]
            refine ⟨by kernel_rfl, m, by omega, by omega, ?_⟩
            refine To.go [0, 1] _ rfl (.refl s) (by decide) (by simp) ?_ ?_
            · simp +contextual only [go_sem, hlen2, hlv2, cdD, cdN, gdT, gdF, gdD]
            · simp only [go_sem, pul_ren (rowC_pu a b _ _), outN_ren, cdD, cdN, gdT, gdF, gdD]
          · have hxy : x ≠ y := fun e => hne (by rw [e])
            have hval : val a b j m = .int .i64 ((max (lcs (a.drop (j + 1)) (b.drop m)) (lcs (a.drop j) (b.drop (m + 1))) : Nat) : Int) := by unfold val; rw [d1, d2, lcs_ne hxy, ← d2, ← d1]
            have hset := rowC_set a b j m (by omega)
            rw [hval] at hset
            have hv2 : val a b (j + 1) m = .int .i64 (lcs (a.drop (j + 1)) (b.drop m) : Int) := rfl
            have hg2 : val a b j (m + 1) = .int .i64 (lcs (a.drop j) (b.drop (m + 1)) : Int) := rfl
            rw [hv2] at v2
            rw [hg2] at g1
            generalize lcs (a.drop (j + 1)) (b.drop m) = p at v2 hset
            generalize lcs (a.drop j) (b.drop (m + 1)) = q at g1 hset
            have hmx : (if (q : Int) > (p : Int) then (q : Int) else (p : Int)) = ((max p q : Nat) : Int) := by split <;> omega
            refine ldrawB_go [] [] 22 (by decide) ?_
            simp +contextual only [go_sem, hlen1, hlen2, hlv2, hm, hwj, hwm, hwm1, i1, i2, q1, q2, o1, o2, v2, g1, hmx, hlen3, hset, cdD, cdN, gdT, gdF, gdD]
            refine ⟨by kernel_rfl, m, by omega, by omega, ?_⟩
            refine To.go [0, 1] _ rfl (.refl s) (by decide) (by simp) ?_ ?_
            · simp +contextual only [go_sem, hlen2, hlv2, cdD, cdN, gdT, gdF, gdD]
            · simp only [go_sem, pul_ren (rowC_pu a b _ _), outN_ren, cdD, cdN, gdT, gdF, gdD]
        · have hk0 : k = 0 := by omega
          subst hk0
          rw [rowC_zero]
          have hwj1 : IntKind.i64.wrap ((j : Int) - 1) = (j : Int) - 1 := wrap_id (by omega)
          simp +contextual only [go_sem, hlen1, hlen2, hlv2, hwj1, cdD, cdN, gdT, gdF, gdD]
          refine ⟨j, by omega, by omega, ?_⟩
          refine To.freeze 1 1 (rowL a b j) (T := some 3) (by rw [rowL_cells]; simp only [go_sem, cdD, cdN, gdT, gdF, gdD]) (rowL_one a b _) ?_
          refine To.go [0] _ rfl (.refl s) (by decide) (by simp) ?_ ?_
          · simp +contextual only [go_sem, hlen1, hlen2, hlv2, fz1, fz, cdD, cdN, gdT, gdF, gdD]
          · simp only [go_sem, fzO, fzd j (by omega), pul_ren (outC_pu a b _), cdD, cdN, gdT, gdF, gdD]
    · have hi0 : i = 0 := by omega
      subst hi0
      refine lexit_freeze 0 1 (outC a b 0) (T := some 22) (by rw [outC_cells]; simp only [go_sem, cdD, cdN, gdT, gdF, gdD]) (outC_one a b) ?_
      have e2 : fz (nm s.nx 0) 1 (outC a b 0) (.rs 1 (nm s.nx 0) 0 (a.length + 1)) = tabV a b := by
        simp only [fz]
        rw [if_pos ⟨trivial, trivial, trivial, (outC_len a b 0 (by omega)).symm⟩]
        rfl
      rw [e2]
      exact lexit_pure (.refl s) (low.mono (Nat.zero_le _) (by simp only [tabV, low]; exact outC_pu a b 0)) ⟨rfl, rfl⟩
end Go.S1N
end
section
namespace Go.S1N
open Go Go.Am Go.Proofs Go.S1
set_option maxRecDepth 100000
attribute [local go_sem] Nat.reduceLT Nat.reduceEqDiff Nat.reduceAdd Nat.reduceLeDiff reduceIte reduceCtorEq
attribute [local irreducible] lopsB lvb lstepB lfunG lcondB lguardB lguardU ldguardU ldrawB ldrunB ldstepB ldguardB lmem lval ldmem ldval ldfun lexit ldloadB ldlenB lpostB athen ablock
theorem u8_round (c : UInt8) : ((c.toNat : Int)).toNat.toUInt8 = c := by
  rw [Int.toNat_natCast]; exact UInt8.ofNat_toNat
theorem idx2_ok (l : List UInt8) (c : UInt8) (s : AHeap) : ACall Tryz.prog 138 [.str l, .int .u8 c.toNat] s fun v t => v = .int .i64 (Lib.indexByte l c) ∧ t = s := by
  refine gob138 (by simp) ?_
  intro tm hlen harg
  simp +contextual only [go_sem, L138, hlen, harg, cdD, cdN, gdT, gdF, gdD]
  refine lfunG_eq (x_ib (args := [.str l, .int .u8 c.toNat]) (s := loc s 0 []) (s' := loc s 0 []) (v := .int .i64 (Lib.indexByte l c)) (by simp only [aIndexByte, u8_round])) ?_
  simp +contextual only [go_sem, hlen, harg, cdD, cdN, gdT, gdF, gdD]
  exact lexit_pure (.refl s) (by simp only [low]) ⟨rfl, rfl⟩
theorem idx_ok (l : List UInt8) (c : UInt8) (s : AHeap) : ACall Tryz.prog 81 [.str l, .int .u8 c.toNat] s fun v t => v = .int .i64 (Lib.indexByte l c) ∧ t = s := by
  refine gob81 (by simp) ?_
  intro tm hlen harg
  simp +contextual only [go_sem, L81, hlen, harg, cdD, cdN, gdT, gdF, gdD]
  refine lfunG_eq (idx2_ok l c _) ?_
  simp +contextual only [go_sem, hlen, harg, cdD, cdN, gdT, gdF, gdD]
  exact lexit_pure (.refl s) (by simp only [low]) ⟨rfl, rfl⟩
theorem idx_fst (c : UInt8) : ∀ l, Lib.indexByte l c = match fstAt c l with | some n => (n : Int) | none => -1
  | [] => rfl
  | b :: l => by
    have ih := idx_fst c l
    rw [Lib.indexByte, fstAt]
    by_cases e : c = b
    · subst e; simp [fstAt]
    · have e2 : (b == c) = false := by simpa using Ne.symm e
      rw [e2, if_neg e, ih]
      cases fstAt c l with
      | none => rfl
      | some n =>
        have h : ((n : Int) == -1) = false := by rw [beq_eq_false_iff_ne]; omega
        show (if ((n : Int) == -1) = true then (-1 : Int) else (n : Int) + 1) = ((n + 1 : Nat) : Int)
        rw [h]; rfl
theorem dr_stop {i : Nat} {xs ys : List UInt8} (h : lcs xs ys = 0) : dr i xs ys = [⟨0, 0, ys⟩] := by
  cases xs with
  | nil => rw [dr]
  | cons x xs => rw [dr, if_pos h]
theorem dr_none {i : Nat} {x : UInt8} {xs ys : List UInt8} (h : lcs (x :: xs) ys ≠ 0) (hf : fstAt x ys = none) : dr i (x :: xs) ys = dr (i + 1) xs ys := by
  rw [dr, if_neg h, hf]
theorem dr_skip {i n : Nat} {x : UInt8} {xs ys : List UInt8} (h : lcs (x :: xs) ys ≠ 0) (hf : fstAt x ys = some n) (hc : ¬ lcs xs (ys.drop (n + 1)) + 1 = lcs (x :: xs) ys) : dr i (x :: xs) ys = dr (i + 1) xs ys := by
  rw [dr, if_neg h, hf]; exact if_neg hc
theorem dr_take {i n : Nat} {x : UInt8} {xs ys : List UInt8} (h : lcs (x :: xs) ys ≠ 0) (hf : fstAt x ys = some n) (hc : lcs xs (ys.drop (n + 1)) + 1 = lcs (x :: xs) ys) :
    dr i (x :: xs) ys = ⟨0, 0, ys.take n⟩ :: ⟨i, 1, []⟩ :: dr (i + 1) xs (ys.drop (n + 1)) := by
  rw [dr, if_neg h, hf]; exact if_pos hc
theorem ixT (a b : List UInt8) (i : Nat) (hi : i ≤ a.length) : aindexAddr tab 130 (tabV a b) (.int .i64 ((i : Nat) : Int)) = some (.rptr [rowV a b i]) := by
  have h := outC_get a b 0 i (Nat.zero_le _) hi
  have hr : (rowV a b i).israw = false := rfl
  have hc : (rowV a b i).cells = [rowV a b i] := rfl
  simp [aindexAddr, tabV, ty130, Tab.size, ty22, h, hr, hc]
theorem tabV_pu (a b : List UInt8) : Pu (tabV a b) := by simp only [Pu, tabV, low]; exact outC_pu a b 0
theorem tabV_b (a b : List UInt8) : (tabV a b).israw = false := rfl
theorem str_lo {x : List UInt8} {k : Nat} (h : k ≤ x.length) : aslice tab 9 (.str x) (some (.int .i64 ((k : Nat) : Int))) none none = some (.str (x.drop k)) := by
  have e : (x.drop k).take (x.length - k) = x.drop k := List.take_of_length_le (by simp)
  simp [aslice, ty9, abounds, aidx, h, e]
theorem str_mid {x : List UInt8} {k n : Nat} (h : k + n ≤ x.length) : aslice tab 9 (.str x) (some (.int .i64 ((k : Nat) : Int))) (some (.int .i64 ((k + n : Nat) : Int))) none = some (.str ((x.drop k).take n)) := by
  have h1 : (0 : Int) ≤ ((k + n : Nat) : Int) ∧ ((k + n : Nat) : Int) ≤ (x.length : Int) := by omega
  have h2 : (0 : Int) ≤ ((k : Nat) : Int) ∧ ((k : Nat) : Int) ≤ ((k + n : Nat) : Int) := by omega
  simp only [aslice, ty9, Option.isSome_none, Bool.false_eq_true, if_false, abounds, aidx, Option.getD_none]
  rw [if_pos h1]
  simp only [Option.getD_some, Bool.false_and, Bool.false_eq_true, if_false, Int.toNat_natCast]
  rw [if_pos h2]
  simp only [Option.getD_some]
  rw [show k + n - k = n from by omega]
theorem dr_bd : ∀ (xs : List UInt8) (i : Nat) (ys : List UInt8), (∀ r ∈ dr i xs ys, 0 ≤ r.at_ ∧ r.at_ ≤ i + xs.length ∧ 0 ≤ r.long ∧ r.long ≤ 1 ∧ r.text.length ≤ ys.length) ∧ (dr i xs ys).length ≤ 2 * xs.length + 1
  | [], i, ys => by
    rw [dr]
    refine ⟨fun r hr => ?_, by simp⟩
    rw [List.mem_singleton.1 hr]; simp
  | x :: xs, i, ys => by
    have next : ∀ zs, zs.length ≤ ys.length → (∀ r ∈ dr (i + 1) xs zs, 0 ≤ r.at_ ∧ r.at_ ≤ i + (x :: xs).length ∧ 0 ≤ r.long ∧ r.long ≤ 1 ∧ r.text.length ≤ ys.length) ∧ (dr (i + 1) xs zs).length ≤ 2 * xs.length + 1 := by
      intro zs hz
      obtain ⟨h1, h2⟩ := dr_bd xs (i + 1) zs
      refine ⟨fun r hr => ?_, h2⟩
      have := h1 r hr
      simp only [List.length_cons]
      omega
    rw [dr]
    split
    · refine ⟨fun r hr => ?_, by simp⟩
      rw [List.mem_singleton.1 hr]; simp only [List.length_cons]; omega
    · split
      · rename_i n hn
        split
        · obtain ⟨h1, h2⟩ := next (ys.drop (n + 1)) (by simp)
          refine ⟨fun r hr => ?_, by simp only [List.length_cons]; omega⟩
          rcases List.mem_cons.1 hr with rfl | hr
          · simp only [List.length_cons, List.length_take]; omega
          rcases List.mem_cons.1 hr with rfl | hr
          · simp only [List.length_cons, List.length_nil]; omega
          · exact h1 r hr
        · obtain ⟨h1, h2⟩ := next ys (Nat.le_refl _)
          exact ⟨h1, by simp only [List.length_cons]; omega⟩
      · obtain ⟨h1, h2⟩ := next ys (Nat.le_refl _)
        exact ⟨h1, by simp only [List.length_cons]; omega⟩
def diffVal (a b : List UInt8) : List Ed := rGo a.length 0 [] (dr 0 a b)
set_option maxHeartbeats 2000000 in
theorem diff_ok (a b : List UInt8) (ha : a.length ≤ 1000) (hb : b.length ≤ 1000) (s : AHeap) : ACall Tryz.prog 14 [.str a, .str b] s fun v t => v = .tuple [edv (diffVal a b), .int .i64 0] ∧ t = s := by
  refine gob14 (by simp) ?_
  intro tm hlen harg
  have hna : ¬ (1000 : Int) < a.length := by omega
  have hnb : ¬ (1000 : Int) < b.length := by omega
  simp +contextual only [go_sem, L14, hlen, harg, hna, hnb, cdD, cdN, gdT, gdF, gdD]
  refine lfunG_eq (common_ok a b ha hb _) ?_
  simp +contextual only [go_sem, hlen, harg, cdD, cdN, gdT, gdF, gdD]
  refine ⟨Nat × Nat × List Rn, fun x => [(0, .str a), (1, .str b), (6, tabV a b), (7, gsv 3 (nm s.nx 0) x.2.2.length), (8, .int .i64 x.1), (9, .int .i64 x.2.1)],
    fun x => loc s 1 [(0, gso 135 (rnc x.2.2))], fun x => x.1 ≤ a.length ∧ x.2.1 ≤ b.length ∧ x.2.2.length ≤ 2 * x.1 ∧ x.2.2 ++ dr x.1 (a.drop x.1) (b.drop x.2.1) = dr 0 a b,
    fun x => a.length - x.1, (0, 0, []), ⟨Nat.zero_le _, Nat.zero_le _, by simp, by simp⟩, ?_, ?_⟩
  · refine To.go [9] [(0, none)] (by simp only [rnc, List.map_nil, List.flatMap_nil, gso_nil]; rfl) (.refl s) (by decide) (by simp) ?_ ?_
    · simp +contextual only [go_sem, hlen, harg, pu_ren (tabV_pu a b), List.length_nil, gsv_zero, cdD, cdN, gdT, gdF, gdD]
      simp
    · simp only [go_sem, cdD, cdN, gdT, gdF, gdD]
  · rintro ⟨i, k, R⟩ tm1 ⟨hi, hk, hR, hD⟩ hlen1 hlv
    simp only [go_sem, hlen, cdD, cdN, gdT, gdF, gdD] at hlen1 hlv hi hk hR hD
    have t1 := ixT a b i hi
    have t2 := ixV a b i k hk
    have t3 : val a b i k = .int .i64 (lcs (a.drop i) (b.drop k) : Int) := rfl
    rw [t3] at t2
    simp +contextual only [go_sem, hlen, hlen1, hlv, t1, t2, cdD, cdN, gdT, gdF, gdD]
    refine ⟨fun hgt => ?_, fun hle => ?_⟩
    · have hpos : lcs (a.drop i) (b.drop k) ≠ 0 := by omega
      have hia : i < a.length := by
        rcases Nat.lt_or_ge i a.length with q | q
        · exact q
        · rw [List.drop_of_length_le q, lcs_n1] at hpos; exact absurd rfl hpos
      have d1 : a.drop i = a[i] :: a.drop (i + 1) := List.drop_eq_getElem_cons hia
      have x1 : aindex tab 9 (.str a) (.int .i64 (i : Int)) = some (.int .u8 a[i].toNat) := by simp [aindex, ty9, hia]
      generalize a[i] = x at x1 d1
      refine ldrawB_go [] [] 6 (by decide) ?_
      simp +contextual only [go_sem, hlen1, hlv, x1, str_lo hk, cdD, cdN, gdT, gdF, gdD]
      refine ⟨by kernel_rfl, ?_⟩
      refine lfunG_eq (idx_ok (b.drop k) x _) ?_
      have hwi : IntKind.i64.wrap ((i : Int) + 1) = ((i + 1 : Nat) : Int) := by rw [wrap_id (by omega)]; rfl
      have stay : ∀ tm2 nn, tm2.length = tm1.length → (∀ p ∈ [(0, AV.str a), (1, .str b), (6, tabV a b), (7, gsv 3 (nm s.nx 0) R.length), (8, .int .i64 ((i + 1 : Nat) : Int)), (9, .int .i64 (k : Int))], aev tm2 (.tmp p.1) = p.2) →
          To s tm2 (loc s nn [(0, gso 135 (rnc R))]) [(0, .str a), (1, .str b), (6, tabV a b), (7, gsv 3 (nm s.nx 0) R.length), (8, .int .i64 ((i + 1 : Nat) : Int)), (9, .int .i64 (k : Int))] (loc s 1 [(0, gso 135 (rnc R))]) := by
        intro tm2 nn hl2 hl
        simp only [go_sem, cdD, cdN, gdT, gdF, gdD] at hl
        refine To.go [0] [(0, gso 135 (rnc R))] rfl (.refl s) (by decide) (by simp) ?_ ?_
        · simp +contextual only [go_sem, hl, hl2, hlen1, pu_ren (tabV_pu a b), cdD, cdN, gdT, gdF, gdD]
        · simp only [go_sem, map_gso_pu (rnc_pul _), cdD, cdN, gdT, gdF, gdD]
      cases hf : fstAt x (b.drop k) with
      | none =>
        have hidx := idx_fst x (b.drop k)
        rw [hf] at hidx
        simp only at hidx
        have hlt : (-1 : Int) < 0 := by decide
        simp +contextual only [go_sem, hlen1, hlv, hidx, cdD, cdN, gdT, gdF, gdD]
        refine ldrawB_go [] [] 22 (by decide) ?_
        simp +contextual only [go_sem, hlen1, hlv, hlt, hwi, cdD, cdN, gdT, gdF, gdD]
        refine ⟨by kernel_rfl, (i + 1, k, R), ⟨by simp only; omega, hk, by simp only; omega, ?_⟩, by simp only; omega, stay _ _ (by simp only [go_sem, cdD, cdN, gdT, gdF, gdD]) ?_⟩
        · rw [d1, dr_none (by rw [← d1]; exact hpos) hf] at hD; exact hD
        · simp +contextual only [go_sem, hlen1, hlv, cdD, cdN, gdT, gdF, gdD]
      | some n =>
        have hidx := idx_fst x (b.drop k)
        rw [hf] at hidx
        simp only at hidx
        obtain ⟨hn1, hn2⟩ := fst_get hf
        rw [List.length_drop] at hn1
        have hnn : ¬ ((n : Int) < 0) := by omega
        have hdd : (b.drop k).drop (n + 1) = b.drop (k + n + 1) := by rw [List.drop_drop]; rfl
        have hcs := fun hc => dr_skip (i := i) (by rw [← d1]; exact hpos) hf hc
        have hct := fun hc => dr_take (i := i) (by rw [← d1]; exact hpos) hf hc
        rw [hdd, ← d1] at hcs hct
        have t4 := ixT a b (i + 1) (by omega)
        have t5 := ixV a b (i + 1) (k + n + 1) (by omega)
        have t6 : val a b (i + 1) (k + n + 1) = .int .i64 (lcs (a.drop (i + 1)) (b.drop (k + n + 1)) : Int) := rfl
        rw [t6] at t5
        have hlb := lcs_le (a.drop i) (b.drop k)
        rw [List.length_drop] at hlb
        have hwk : IntKind.i64.wrap ((k : Int) + (n : Int)) = ((k + n : Nat) : Int) := by rw [wrap_id (by omega)]; omega
        have hwk1 : IntKind.i64.wrap (((k + n : Nat) : Int) + 1) = ((k + n + 1 : Nat) : Int) := by rw [wrap_id (by omega)]; omega
        have hwl : IntKind.i64.wrap ((lcs (a.drop i) (b.drop k) : Int) - 1) = (lcs (a.drop i) (b.drop k) : Int) - 1 := wrap_id (by omega)
        simp +contextual only [go_sem, hlen1, hlv, hidx, cdD, cdN, gdT, gdF, gdD]
        refine ldrawB_go [] [] 22 (by decide) ?_
        simp +contextual only [go_sem, hlen1, hlv, hnn, hwi, hwk, hwk1, hwl, t1, t2, t4, t5, cdD, cdN, gdT, gdF, gdD]
        refine ⟨by kernel_rfl, fun hne => ?_, fun heq => ?_⟩
        · refine ⟨(i + 1, k, R), ⟨by simp only; omega, hk, by simp only; omega, ?_⟩, by simp only; omega, stay _ _ (by simp only [go_sem, cdD, cdN, gdT, gdF, gdD]) ?_⟩
          · rw [hcs (by omega)] at hD; exact hD
          · simp +contextual only [go_sem, hlen1, hlv, cdD, cdN, gdT, gdF, gdD]
        · simp +contextual only [go_sem, hlen1, hlv, hwk, str_mid (show k + n ≤ b.length by omega), cdD, cdN, gdT, gdF, gdD]
          refine lfunG_eq (fresh_ok _ _) ?_
          simp +contextual only [go_sem, hlen1, hlv, cdD, cdN, gdT, gdF, gdD]
          refine lfunG_eq (kept_ok _ _ _) ?_
          simp +contextual only [go_sem, hlen1, hlv, Rn.enc, cdD, cdN, gdT, gdF, gdD]
          refine lmem_eq (app132 (acellsOf_rs (by simp only [go_sem, cdD, cdN, gdT, gdF, gdD]; rfl) (by rfl) rfl) (by decide) (by simp only [go_sem, cdD, cdN, gdT, gdF, gdD]) (by simp only [go_sem, cdD, cdN, gdT, gdF, gdD]) (rnc_len R) (by omega) rfl) ?_
          simp +contextual only [go_sem, hlen1, hlv, hwi, hwk, hwk1, cdD, cdN, gdT, gdF, gdD]
          refine ⟨(i + 1, k + n + 1, R ++ [⟨0, 0, (b.drop k).take n⟩, ⟨i, 1, []⟩]), ⟨by simp only; omega, by simp only; omega, by simp only [List.length_append, List.length_cons, List.length_nil]; omega, ?_⟩, by simp only; omega, ?_⟩
          · rw [hct (by omega)] at hD
            simpa using hD
          · refine To.go [30] [(0, gso 135 (rnc (R ++ [⟨0, 0, (b.drop k).take n⟩, ⟨i, 1, []⟩])))] rfl (.refl s) (by decide) (by simp) ?_ ?_
            · simp +contextual only [go_sem, hlen1, hlv, pu_ren (tabV_pu a b), List.length_append, gsv_pos (Nat.succ_ne_zero (R.length + 1)), cdD, cdN, gdT, gdF, gdD]
            · simp only [go_sem, map_gso_pu (rnc_pul _), cdD, cdN, gdT, gdF, gdD]
              rw [show R ++ [⟨0, 0, (b.drop k).take n⟩, ⟨(i : Int), 1, []⟩] = (R ++ [⟨0, 0, (b.drop k).take n⟩]) ++ [⟨(i : Int), 1, []⟩] from by simp, rnc_snoc, rnc_snoc, List.append_assoc]
              exact (gso_pos (by simp)).symm
    · have h0 : lcs (a.drop i) (b.drop k) = 0 := by omega
      rw [dr_stop h0] at hD
      simp +contextual only [go_sem, hlen1, hlv, str_lo hk, cdD, cdN, gdT, gdF, gdD]
      refine lfunG_eq (fresh_ok _ _) ?_
      simp +contextual only [go_sem, hlen1, hlv, Rn.enc, cdD, cdN, gdT, gdF, gdD]
      refine lmem_eq (app132 (acellsOf_rs (by simp only [go_sem, cdD, cdN, gdT, gdF, gdD]; rfl) (by rfl) rfl) (by decide) (by simp only [go_sem, cdD, cdN, gdT, gdF, gdD]) (by simp only [go_sem, cdD, cdN, gdT, gdF, gdD]) (rnc_len R) (by omega) rfl) ?_
      simp +contextual only [go_sem, hlen1, hlv, cdD, cdN, gdT, gdF, gdD]
      have hsn : R ++ [⟨0, 0, b.drop k⟩] = dr 0 a b := hD
      obtain ⟨hbd, hdl⟩ := dr_bd a 0 b
      refine lfunG_freeze 2 3 ((R ++ [(⟨0, 0, b.drop k⟩ : Rn)]).map Rn.enc) (TT := some 135) (by simp only [go_sem, cdD, cdN, gdT, gdF, gdD]; exact congrArg (fun c => some (AObj.cells c (some 135))) (rnc_snoc R ⟨0, 0, b.drop k⟩).symm) (rn_len _) ?_
      simp +contextual only [go_sem, hlen1, hlv, cdD, cdN, gdT, gdF, gdD]
      have hl3 : R.length + 1 = (List.map Rn.enc (R ++ [⟨0, 0, b.drop k⟩])).length := by simp
      have hv3 : AV.vs 3 false (List.map Rn.enc (dr 0 a b)) = rnv (dr 0 a b) := by
        rw [rnv, fsv_pos]
        rw [← hsn]; simp
      rw [if_pos hl3, hsn, hv3]
      refine lfunG_eq (editsR_ok a.length (dr 0 a b) (by omega) (fun r hr => ?_) (by omega) _) ?_
      · have := hbd r hr
        omega
      simp +contextual only [go_sem, hlen1, hlv, cdD, cdN, gdT, gdF, gdD]
      exact lexit_pure (.refl s) (low.mono (Nat.zero_le _) (by simp only [low, lowL, and_true]; exact edv_pu _)) ⟨rfl, rfl⟩
end Go.S1N
end
section
namespace Go.S1N
open Go Go.Am Go.Proofs Go.S1
set_option maxRecDepth 100000
attribute [local go_sem] Nat.reduceLT Nat.reduceEqDiff Nat.reduceAdd Nat.reduceLeDiff reduceIte reduceCtorEq
attribute [local irreducible] lopsB lvb lstepB lfunG lcondB lguardB lguardU ldguardU ldrawB ldrunB ldstepB ldguardB lmem lval ldmem ldval ldfun lexit ldloadB ldlenB lpostB athen ablock
theorem lput_zrows (m i : Nat) (k : Nat) : lget (lput (zrows m i) (i + 1) (.cells (List.replicate m (.int .i64 0)) (some 3))) k = lget (zrows m (i + 1)) k := by
  rw [lget_lput, lget_zrows, zrows, lget, lget_zrows]
  by_cases h : k = i + 1
  · rw [if_pos h, if_pos h.symm]; rfl
  · rw [if_neg h, if_neg (Ne.symm h)]
theorem u8_eqD {a b : UInt8} : ((a.toNat : Int) = (b.toNat : Int)) = (a = b) := propext ⟨fun h => UInt8.toNat_inj.1 (by omega), fun h => by rw [h]⟩
theorem str_at' {l : List UInt8} {i : Nat} (h : i < l.length) : aindex tab 9 (.str l) (.int .i64 (i : Int)) = some (.int .u8 l[i].toNat) := by simp [aindex, ty9, h]
theorem neg_step {b : List UInt8} {k q : Nat} (F : List (Int × UInt8)) (h1 : k ≤ q) (h2 : q < b.length) : F ++ negL ((b.drop k).take (q + 1 - k)) = (F ++ negL ((b.drop k).take (q - k))) ++ [((-1 : Int), b[q])] := by
  rw [show q + 1 - k = (q - k) + 1 from by omega, List.take_add_one, List.getElem?_drop, show k + (q - k) = q from by omega, List.getElem?_eq_getElem h2, Option.toList_some, negL, List.map_append, List.append_assoc]
  rfl
theorem neg_zero {b : List UInt8} {k : Nat} (F : List (Int × UInt8)) : F ++ negL ((b.drop k).take (k - k)) = F := by simp [negL]
theorem negT_len {b : List UInt8} {k q : Nat} (F : List (Int × UInt8)) : (F ++ negL ((b.drop k).take (q - k))).length ≤ F.length + b.length := by
  simp only [List.length_append, negL, List.length_map, List.length_take, List.length_drop]; omega
theorem rng0 (n : Nat) : (List.range n ++ [n])[0]? = some 0 := by rw [← List.range_succ]; simp
theorem rng1 (n : Nat) : (List.range n ++ [n] ++ [n + 1])[0]? = some 0 := by rw [← List.range_succ, ← List.range_succ]; simp
set_option maxHeartbeats 4000000 in
theorem diffText_ok (a b : List UInt8) (ha : a.length ≤ 1000) (hb : b.length ≤ 1000) (s : AHeap) : ACall Tryz.prog 23 [.str a, .str b] s fun v t => v = edv (diffVal a b) ∧ t = s := by
  refine gob23 (by simp) ?_
  intro tm hlen harg
  have hw1 : IntKind.i64.wrap ((a.length : Int) + 1) = ((a.length + 1 : Nat) : Int) := by rw [wrap_id (by omega)]; rfl
  have hw2 : IntKind.i64.wrap ((b.length : Int) + 1) = ((b.length + 1 : Nat) : Int) := by rw [wrap_id (by omega)]; rfl
  have hw3 : IntKind.i64.wrap ((a.length : Int) - 1) = (a.length : Int) - 1 := wrap_id (by omega)
  have hw4 : IntKind.i64.wrap ((b.length : Int) - 1) = (b.length : Int) - 1 := wrap_id (by omega)
  have hz : ∀ j : Nat, (0 = j + 1) = False := fun j => by simp
  have ix0 : ∀ c j, j ≤ a.length → aindexAddr tab 130 (.rs 1 c 0 (a.length + 1)) (.int .i64 (j : Int)) = some (.ptr c j) := fun c j hj => by rw [ix130r (by omega) (by omega)]; simp
  have q0 : ∀ c k, k ≤ b.length → aindexAddr tab 22 (.rs 1 c 0 (b.length + 1)) (.int .i64 (k : Int)) = some (.ptr c k) := fun c k hk => by rw [ix22r (by omega) (by omega)]; simp
  simp +contextual only [go_sem, L23, hlen, harg, hw1, hw2, hw3, cdD, cdN, gdT, gdF, gdD]
  refine lmem_eq (mk94 (by omega)) ?_
  simp +contextual only [go_sem, hlen, harg, hw1, hw2, hw3, cdD, cdN, gdT, gdF, gdD]
  refine ⟨Nat, fun i => [(0, .str a), (1, .str b), (5, .rs 1 (nm s.nx 0) 0 (a.length + 1)), (19, .int .i64 ((a.length + 1 : Nat) : Int)), (20, .int .i64 i)],
    fun i => loc s (i + 1) ((0, some (.cells (tabA s.nx a.length (b.length + 1) i) (some 22))) :: zrows (b.length + 1) i), fun i => i ≤ a.length + 1, fun i => a.length + 1 - i, 0, Nat.zero_le _, ?_, ?_⟩
  · show To s _ _ _ (loc s (0 + 1) ((0, some (.cells (tabA s.nx a.length (b.length + 1) 0) (some 22))) :: zrows (b.length + 1) 0))
    rw [tabA_zero]
    refine to_now (fun _ => rfl) ?_
    simp +contextual only [go_sem, hlen, harg, cdD, cdN, gdT, gdF, gdD]
    simp
  · rintro i tm1 hi hlen1 hlv
    simp only [go_sem, hlen, cdD, cdN, gdT, gdF, gdD] at hlen1 hlv hi
    simp +contextual only [go_sem, hlen, hlen1, hlv, hw2, hw3, cdD, cdN, gdT, gdF, gdD]
    refine ⟨fun hlt => ?_, fun hge => ?_⟩
    · have hi2 : i ≤ a.length := by omega
      have hwi : IntKind.i64.wrap ((i : Int) + 1) = ((i + 1 : Nat) : Int) := by rw [wrap_id (by omega)]; rfl
      have hset := tabA_set s.nx a.length (b.length + 1) i hi2
      unfold rsR at hset
      have l1 : i + 1 ≤ (tabA s.nx a.length (b.length + 1) i).length := by rw [tabA_len _ _ _ _ hi]; omega
      refine lmem_eq (mk3 (by omega)) ?_
      simp +contextual only [go_sem, hlen1, hlv, hz, ix0 _ i hi2, l1, hset, hwi, cdD, cdN, gdT, gdF, gdD]
      refine ⟨i + 1, by omega, by omega, ?_⟩
      refine to_now (fun k => ?_) ?_
      · simp only [lget]
        by_cases hk : 0 = k
        · rw [if_pos hk, if_pos hk]
        · rw [if_neg hk, if_neg hk, lput_zrows]
      · simp +contextual only [go_sem, hlen1, hlv, cdD, cdN, gdT, gdF, gdD]
    · have hie : i = a.length + 1 := by omega
      subst hie
      refine ⟨Nat, fun i => [(0, .str a), (1, .str b), (5, .rs 1 (nm s.nx 0) 0 (a.length + 1)), (7, .int .i64 ((i : Int) - 1))],
        fun i => loc s (i + 1) ((0, some (.cells (tabB s.nx a b i) (some 22))) :: zrows (b.length + 1) i), fun i => i ≤ a.length, fun i => i, a.length, Nat.le_refl _, ?_, ?_⟩
      · rw [tabA_all]
        have e : zrows (b.length + 1) (a.length + 1) = (a.length + 1, some (.cells (rowL a b a.length) (some 3))) :: zrows (b.length + 1) a.length := by rw [zrows, zrow, row_low a b]
        rw [e]
        refine to_done (Nat.le_refl _) (by simp) ?_
        have hf : (nm s.nx 0 = nm s.nx (a.length + 1)) = False := by rw [nm_inj]; simp
        simp +contextual only [go_sem, hlen1, hlv, rng0, rng1, hf, fz, false_and, cdD, cdN, gdT, gdF, gdD]
      · rintro i tm2 hi hlen2 hlv2
        simp only [go_sem, hlen1, cdD, cdN, gdT, gdF, gdD] at hlen2 hlv2 hi
        simp +contextual only [go_sem, hlen1, hlen2, hlv2, hw2, hw4, cdD, cdN, gdT, gdF, gdD]
        refine ⟨fun hge2 => ?_, fun hlt2 => ?_⟩
        · obtain ⟨j, rfl⟩ : ∃ j, i = j + 1 := ⟨i - 1, by omega⟩
          have hj : ((j + 1 : Nat) : Int) - 1 = (j : Int) := by omega
          have hja : j < a.length := by omega
          have e : zrows (b.length + 1) (j + 1) = (j + 1, some (.cells (rowC a b j b.length) (some 3))) :: zrows (b.length + 1) j := by rw [zrows, zrow, row_start a b j]
          rw [e]
          refine ⟨Nat, fun k => [(0, .str a), (1, .str b), (5, .rs 1 (nm s.nx 0) 0 (a.length + 1)), (7, .int .i64 (j : Int)), (8, .int .i64 ((k : Int) - 1))],
            fun k => loc s (j + 2) (fillL (tabB s.nx a b (j + 1)) (rowC a b j k) (b.length + 1) j), fun k => k ≤ b.length, fun k => k, b.length, Nat.le_refl _, ?_, ?_⟩
          · refine to_now (fun _ => rfl) ?_
            simp +contextual only [go_sem, hlen2, hlv2, hj, cdD, cdN, gdT, gdF, gdD]
          · rintro k tm3 hk hlen3 hlv3
            simp only [go_sem, hlen2, cdD, cdN, gdT, gdF, gdD] at hlen3 hlv3 hk
            simp +contextual only [go_sem, hlen2, hlen3, hlv3, cdD, cdN, gdT, gdF, gdD]
            refine ⟨fun hge3 => ?_, fun hlt3 => ?_⟩
            · obtain ⟨m, rfl⟩ : ∃ m, k = m + 1 := ⟨k - 1, by omega⟩
              have hm : ((m + 1 : Nat) : Int) - 1 = (m : Int) := by omega
              have hmb : m < b.length := by omega
              have x1 := str_at' (l := a) hja
              have x2 := str_at' (l := b) hmb
              have d1 : a.drop j = a[j] :: a.drop (j + 1) := List.drop_eq_getElem_cons hja
              have d2 : b.drop m = b[m] :: b.drop (m + 1) := List.drop_eq_getElem_cons hmb
              generalize a[j] = x at x1 d1
              generalize b[m] = y at x2 d2
              have hwj : IntKind.i64.wrap ((j : Int) + 1) = ((j + 1 : Nat) : Int) := by rw [wrap_id (by omega)]; rfl
              have hwm : IntKind.i64.wrap ((m : Int) + 1) = ((m + 1 : Nat) : Int) := by rw [wrap_id (by omega)]; rfl
              have hwm1 : IntKind.i64.wrap ((m : Int) - 1) = (m : Int) - 1 := wrap_id (by omega)
              have v1 := ixV a b (j + 1) (m + 1) (by omega)
              have v2 := ixV a b (j + 1) m (by omega)
              have o1 := tabB_own s.nx a b (j + 1) j (by omega)
              have o2 := tabB_row s.nx a b (j + 1) (j + 1) (Nat.le_refl _) (by omega)
              unfold rsR at o1
              have g1 := rowC_get a b j (m + 1) (m + 1) (Nat.le_refl _) (by omega)
              have hlen4 : m + 1 ≤ (rowC a b j (m + 1)).length := by rw [rowC_len a b j _ (by omega)]; omega
              have hv2 : val a b (j + 1) m = .int .i64 (lcs (a.drop (j + 1)) (b.drop m) : Int) := rfl
              have hg2 : val a b j (m + 1) = .int .i64 (lcs (a.drop j) (b.drop (m + 1)) : Int) := rfl
              rw [hv2] at v2
              rw [hg2] at g1
              have hset := rowC_set a b j m (by omega)
              have hmx : ∀ p q : Nat, (if (q : Int) > (p : Int) then (q : Int) else (p : Int)) = ((max p q : Nat) : Int) := fun p q => by split <;> omega
              unfold fillL
              refine ldrawB_go [] [] 22 (by decide) ?_
              simp +contextual only [go_sem, hlen3, hlv3, hm, hwj, hwm, hz, ix0 _ j (by omega), ix0 _ (j + 1) (by omega), q0 _ m (by omega), q0 _ (m + 1) (by omega), o1, o2, v2, g1, hmx, hlen4, cdD, cdN, gdT, gdF, gdD]
              refine ⟨by kernel_rfl, ?_⟩
              have hp : ((max (lcs (a.drop (j + 1)) (b.drop m)) (lcs (a.drop j) (b.drop (m + 1))) : Nat) : Int) = ((max (lcs (a.drop (j + 1)) (b.drop m)) (lcs (a.drop j) (b.drop (m + 1))) : Nat) : Int) := rfl
              have hL1 := (lcs_x x (a.drop (j + 1)) (b.drop m)).1
              have hL2 := (lcs_y y (a.drop j) (b.drop (m + 1))).1
              rw [← d1] at hL1
              rw [← d2] at hL2
              have hb1 := lcs_le (a.drop (j + 1)) (b.drop (m + 1))
              rw [List.length_drop] at hb1
              refine ldrawB_go [] [] 6 (by decide) ?_
              simp +contextual only [go_sem, hlen3, hlv3, hm, x1, x2, cdD, cdN, gdT, gdF, gdD]
              refine ⟨by kernel_rfl, fun he => ?_, fun hne => ?_⟩
              · have hxy : x = y := UInt8.toNat_inj.1 (by omega)
                have hval : lcs (a.drop j) (b.drop m) = lcs (a.drop (j + 1)) (b.drop (m + 1)) + 1 := by rw [d1, d2, hxy, lcs_eq]
                have hw : IntKind.i64.wrap (1 + (lcs (a.drop (j + 1)) (b.drop (m + 1)) : Int)) = ((lcs (a.drop j) (b.drop m) : Nat) : Int) := by rw [wrap_id (by omega), hval]; omega
                have hv1 : val a b (j + 1) (m + 1) = .int .i64 (lcs (a.drop (j + 1)) (b.drop (m + 1)) : Int) := rfl
                rw [hv1] at v1
                have hva : val a b j m = .int .i64 (lcs (a.drop j) (b.drop m) : Int) := rfl
                rw [hva] at hset
                have hmax : max (max (lcs (a.drop (j + 1)) (b.drop m)) (lcs (a.drop j) (b.drop (m + 1)))) (lcs (a.drop j) (b.drop m)) = lcs (a.drop j) (b.drop m) := by omega
                generalize lcs (a.drop j) (b.drop m) = z at hw hset hmax hL1 hL2
                generalize (max (lcs (a.drop (j + 1)) (b.drop m)) (lcs (a.drop j) (b.drop (m + 1)))) = w at hmax
                have r1 : (((rowC a b j (m + 1)).set m (.int .i64 (w : Int))).drop m)[0]? = some (.int .i64 (w : Int)) := by
                  rw [List.getElem?_drop]
                  show ((rowC a b j (m + 1)).set m (.int .i64 (w : Int)))[m]? = _
                  rw [List.getElem?_set_self (by omega)]
                have hset2 : ((rowC a b j (m + 1)).set m (.int .i64 (w : Int))).set m (.int .i64 (z : Int)) = rowC a b j m := by rw [List.set_set]; exact hset
                have hlen5 : m + 1 ≤ ((rowC a b j (m + 1)).set m (.int .i64 (w : Int))).length := by rw [List.length_set]; exact hlen4
                have hmx2 := hmx w z
                rw [hmax] at hmx2
                refine ldrawB_go [] [] 23 (by decide) ?_
                simp +contextual only [go_sem, hlen3, hlv3, hm, hwj, hwm, hz, ix0 _ j (by omega), ix0 _ (j + 1) (by omega), q0 _ m (by omega), o1, o2, v1, r1, hw, hmx2, hlen5, hset2, hwm1, cdD, cdN, gdT, gdF, gdD]
                refine ⟨by kernel_rfl, m, by omega, by omega, ?_⟩
                refine to_same (rowC_pu a b j m) (by simp) ?_
                simp +contextual only [go_sem, hlen3, hlv3, rng0, rng1, cdD, cdN, gdT, gdF, gdD]
              · have hxy : x ≠ y := fun e => hne (by rw [e])
                have hva : val a b j m = .int .i64 ((max (lcs (a.drop (j + 1)) (b.drop m)) (lcs (a.drop j) (b.drop (m + 1))) : Nat) : Int) := by unfold val; rw [d1, d2, lcs_ne hxy, ← d2, ← d1]
                rw [hva] at hset
                rw [hset]
                simp +contextual only [go_sem, hlen3, hlv3, hm, hwm1, cdD, cdN, gdT, gdF, gdD]
                refine ⟨m, by omega, by omega, ?_⟩
                refine to_same (rowC_pu a b j m) (by simp) ?_
                simp +contextual only [go_sem, hlen3, hlv3, rng0, rng1, cdD, cdN, gdT, gdF, gdD]
            · have hk0 : k = 0 := by omega
              subst hk0
              rw [rowC_zero]
              have hwj1 : IntKind.i64.wrap ((j : Int) - 1) = (j : Int) - 1 := wrap_id (by omega)
              simp +contextual only [go_sem, hlen2, hlen3, hlv3, hwj1, cdD, cdN, gdT, gdF, gdD]
              refine ⟨j, by omega, by omega, ?_⟩
              refine to_done (by omega) (by simp) ?_
              have hf : (nm s.nx 0 = nm s.nx (j + 1)) = False := by rw [nm_inj]; simp
              simp +contextual only [go_sem, hlen3, hlv3, rng0, rng1, hf, fz, false_and, cdD, cdN, gdT, gdF, gdD]
        · have hi0 : i = 0 := by omega
          subst hi0
          rw [tabB_zero]
          simp +contextual only [go_sem, hlen1, hlen2, hlv2, build118, zrows, cdD, cdN, gdT, gdF, gdD]
          have hp := tabV_pu a b
          have hRL : (rlet a (dr 0 a b)).length ≤ a.length + b.length := rlet_len a a 0 b
          have e2 : fz (nm s.nx 0) 1 (outC a b 0) (.rs 1 (nm s.nx 0) 0 (a.length + 1)) = tabV a b := by
            simp only [fz]
            rw [if_pos ⟨trivial, trivial, trivial, (outC_len a b 0 (by omega)).symm⟩]
            rfl
          refine ⟨Nat × Nat × List (Int × UInt8), fun z => [(0, .str a), (1, .str b), (5, tabV a b), (9, .ptr (nm s.nx 0) 0), (10, .int .i64 z.1), (11, .int .i64 z.2.1)],
            fun z => loc s 2 [(0, some (.cells [.int .i64 a.length, gsv 2 (nm s.nx 1) z.2.2.length] (some 123))), (1, gso 126 (letters z.2.2))],
            fun z => z.1 ≤ a.length ∧ z.2.1 ≤ b.length ∧ z.2.2 ++ rlet a (dr z.1 (a.drop z.1) (b.drop z.2.1)) = rlet a (dr 0 a b), fun z => a.length - z.1, (0, 0, []), ⟨Nat.zero_le _, Nat.zero_le _, by simp⟩, ?_, ?_⟩
          · refine To.freeze 0 1 (outC a b 0) (T := some 22) (by rw [outC_cells]; simp only [go_sem, cdD, cdN, gdT, gdF, gdD]) (outC_one a b) ?_
            refine To.go [1, 9] [(0, some (.cells [.int .i64 a.length, .nils] (some 123))), (1, none)] rfl (.refl s) (by decide) (by simp) ?_ ?_
            · simp +contextual only [go_sem, hlen2, hlv2, e2, pu_ren hp, fz, cdD, cdN, gdT, gdF, gdD]
              simp
            · simp only [go_sem, fzO, fzL, fz, cdD, cdN, gdT, gdF, gdD]
          · rintro ⟨i, k, F⟩ tm3 ⟨hi, hk, hF⟩ hlen3 hlv3
            simp only [go_sem, hlen2, cdD, cdN, gdT, gdF, gdD] at hlen3 hlv3 hi hk hF
            have hFl := congrArg List.length hF
            rw [List.length_append] at hFl
            have t1 := ixT a b i hi
            have t2 := ixV a b i k hk
            have t3 : val a b i k = .int .i64 (lcs (a.drop i) (b.drop k) : Int) := rfl
            rw [t3] at t2
            simp +contextual only [go_sem, hlen1, hlen2, hlen3, hlv3, t1, t2, cdD, cdN, gdT, gdF, gdD]
            refine ⟨fun hgt => ?_, fun hle => ?_⟩
            · have hpos : lcs (a.drop i) (b.drop k) ≠ 0 := by omega
              refine ⟨Nat, fun x => [(0, .str a), (1, .str b), (5, tabV a b), (9, .ptr (nm s.nx 0) 0), (10, .int .i64 i), (11, .int .i64 k), (12, .int .i64 x)],
                fun x => loc s 2 [(0, some (.cells [.int .i64 a.length, gsv 2 (nm s.nx 1) F.length] (some 123))), (1, gso 126 (letters F))],
                fun x => i ≤ x ∧ x ≤ a.length ∧ lcs (a.drop x) (b.drop k) = lcs (a.drop i) (b.drop k) ∧ dr i (a.drop i) (b.drop k) = dr x (a.drop x) (b.drop k), fun x => a.length - x, i, ⟨Nat.le_refl _, hi, rfl, rfl⟩, ?_, ?_⟩
              · refine to_now (fun _ => rfl) ?_
                simp +contextual only [go_sem, hlen3, hlv3, cdD, cdN, gdT, gdF, gdD]
              · rintro x tm4 ⟨hix, hxn, hLx, hDx⟩ hlen4 hlv4
                simp only [go_sem, hlen3, cdD, cdN, gdT, gdF, gdD] at hlen4 hlv4
                have hxa : x < a.length := by
                  rcases Nat.lt_or_ge x a.length with q | q
                  · exact q
                  · rw [List.drop_of_length_le q, lcs_n1] at hLx; omega
                have hxI : ((x : Int) < (a.length : Int)) = True := by simp; omega
                have hwx : IntKind.i64.wrap ((x : Int) + 1) = ((x + 1 : Nat) : Int) := by rw [wrap_id (by omega)]; rfl
                simp +contextual only [go_sem, hlen3, hlen4, hlv4, hxI, cdD, cdN, gdT, gdF, gdD]
                refine ⟨Nat, fun y => [(0, .str a), (1, .str b), (5, tabV a b), (9, .ptr (nm s.nx 0) 0), (10, .int .i64 i), (11, .int .i64 k), (12, .int .i64 x), (13, .int .i64 y)],
                  fun y => loc s 2 [(0, some (.cells [.int .i64 a.length, gsv 2 (nm s.nx 1) F.length] (some 123))), (1, gso 126 (letters F))],
                  fun y => k ≤ y ∧ y ≤ b.length ∧ ∀ z, k ≤ z → z < y → (hz : z < b.length) → ¬ (a[x] = b[z] ∧ 1 + lcs (a.drop (x + 1)) (b.drop (z + 1)) = lcs (a.drop x) (b.drop k)), fun y => b.length - y, k, ⟨Nat.le_refl _, hk, fun z h1 h2 => by omega⟩, ?_, ?_⟩
                · refine to_now (fun _ => rfl) ?_
                  simp +contextual only [go_sem, hlen4, hlv4, cdD, cdN, gdT, gdF, gdD]
                · rintro y tm5 ⟨hky, hyb, hno⟩ hlen5 hlv5
                  simp only [go_sem, hlen4, cdD, cdN, gdT, gdF, gdD] at hlen5 hlv5 hyb
                  by_cases hy : y < b.length
                  rotate_left
                  · have hyI : ((y : Int) < (b.length : Int)) = False := by simp; omega
                    obtain ⟨p1, p2⟩ := dr_pass (a := a) (b := b) hxa (by omega) fun z h1 h2 => hno z h1 (by omega) h2
                    simp +contextual only [go_sem, hlen3, hlen4, hlen5, hlv5, hyI, hwx, cdD, cdN, gdT, gdF, gdD]
                    refine ⟨x + 1, ⟨by omega, by omega, by omega, by rw [hDx, p1]⟩, by omega, ?_⟩
                    refine to_now (fun _ => rfl) ?_
                    simp +contextual only [go_sem, hlen4, hlen5, hlv5, cdD, cdN, gdT, gdF, gdD]
                  have hyI : ((y : Int) < (b.length : Int)) = True := by simp; omega
                  have hwy : IntKind.i64.wrap ((y : Int) + 1) = ((y + 1 : Nat) : Int) := by rw [wrap_id (by omega)]; rfl
                  have y1 := str_at' hxa
                  have y2 := str_at' hy
                  have y3 := ixT a b (x + 1) (by omega)
                  have y4 := ixV a b (x + 1) (y + 1) (by omega)
                  have y5 : val a b (x + 1) (y + 1) = .int .i64 (lcs (a.drop (x + 1)) (b.drop (y + 1)) : Int) := rfl
                  rw [y5] at y4
                  have hlb := lcs_le (a.drop (x + 1)) (b.drop (y + 1))
                  rw [List.length_drop] at hlb
                  have hwl : IntKind.i64.wrap (1 + (lcs (a.drop (x + 1)) (b.drop (y + 1)) : Int)) = 1 + (lcs (a.drop (x + 1)) (b.drop (y + 1)) : Int) := wrap_id (by omega)
                  have next : ¬ (a[x] = b[y] ∧ 1 + lcs (a.drop (x + 1)) (b.drop (y + 1)) = lcs (a.drop x) (b.drop k)) → ∀ z, k ≤ z → z < y + 1 → (hz : z < b.length) → ¬ (a[x] = b[z] ∧ 1 + lcs (a.drop (x + 1)) (b.drop (z + 1)) = lcs (a.drop x) (b.drop k)) := by
                    intro hn z h1 h2 hz
                    rcases Nat.lt_or_ge z y with q | q
                    · exact hno z h1 q hz
                    · have : z = y := by omega
                      subst this; exact hn
                  simp +contextual only [go_sem, hlen3, hlen4, hlen5, hlv5, hyI, cdD, cdN, gdT, gdF, gdD]
                  refine ldrawB_go [] [] 25 (by decide) ?_
                  by_cases c1 : a[x] = b[y]
                  rotate_left
                  · have c1I : ((a[x].toNat : Int) = (b[y].toNat : Int)) = False := by rw [u8_eqD]; simp [c1]
                    simp +contextual only [go_sem, hlen3, hlen4, hlen5, hlv5, y1, y2, c1I, hwy, cdD, cdN, gdT, gdF, gdD]
                    refine ⟨by kernel_rfl, y + 1, ⟨by omega, by omega, next fun h => c1 h.1⟩, by omega, ?_⟩
                    refine To.go [0, 1] [(0, some (.cells [.int .i64 a.length, gsv 2 (nm s.nx 1) F.length] (some 123))), (1, gso 126 (letters F))] rfl (.refl s) (by decide) (by simp) ?_ ?_
                    · simp +contextual only [go_sem, hlen4, hlen5, hlv5, pu_ren hp, cdD, cdN, gdT, gdF, gdD]
                    · simp only [go_sem, map_gso_pu (letters_pul _), cdD, cdN, gdT, gdF, gdD]
                  have c1I : ((a[x].toNat : Int) = (b[y].toNat : Int)) = True := by rw [u8_eqD]; simp [c1]
                  by_cases c2 : 1 + lcs (a.drop (x + 1)) (b.drop (y + 1)) = lcs (a.drop x) (b.drop k)
                  rotate_left
                  · have c2I : (1 + (lcs (a.drop (x + 1)) (b.drop (y + 1)) : Int) = (lcs (a.drop i) (b.drop k) : Int)) = False := by simp only [eq_iff_iff, iff_false]; omega
                    simp +contextual only [go_sem, hlen3, hlen4, hlen5, hlv5, y1, y2, y3, y4, t1, t2, hwx, hwl, c1I, c2I, hwy, cdD, cdN, gdT, gdF, gdD]
                    refine ⟨by kernel_rfl, y + 1, ⟨by omega, by omega, next fun h => c2 h.2⟩, by omega, ?_⟩
                    refine To.go [0, 1] [(0, some (.cells [.int .i64 a.length, gsv 2 (nm s.nx 1) F.length] (some 123))), (1, gso 126 (letters F))] rfl (.refl s) (by decide) (by simp) ?_ ?_
                    · simp +contextual only [go_sem, hlen4, hlen5, hlv5, pu_ren hp, cdD, cdN, gdT, gdF, gdD]
                    · simp only [go_sem, map_gso_pu (letters_pul _), cdD, cdN, gdT, gdF, gdD]
                  have c2I : (1 + (lcs (a.drop (x + 1)) (b.drop (y + 1)) : Int) = (lcs (a.drop i) (b.drop k) : Int)) = True := by simp only [eq_iff_iff, iff_true]; omega
                  have hpair := dr_pair hxa hky hy (by omega) c1 c2 hno
                  simp +contextual only [go_sem, hlen3, hlen4, hlen5, hlv5, y1, y2, y3, y4, t1, t2, hwx, hwl, c1I, c2I, hwy, cdD, cdN, gdT, gdF, gdD]
                  refine ⟨by kernel_rfl, ?_⟩
                  have hF2 : ((F ++ negL ((b.drop k).take (y - k))) ++ [((x : Int), a[x])]) ++ rlet a (dr (x + 1) (a.drop (x + 1)) (b.drop (y + 1))) = rlet a (dr 0 a b) := by
                    rw [← hF, hDx, hpair, rlet_cons, rlet_cons a ⟨x, 1, []⟩, rlet_new, rlet_one a hxa]
                    simp only [List.append_assoc]
                  refine ⟨Nat, fun q => [(0, .str a), (1, .str b), (5, tabV a b), (9, .ptr (nm s.nx 0) 0), (11, .int .i64 q), (12, .int .i64 x), (13, .int .i64 y)],
                    fun q => loc s 2 [(0, some (.cells [.int .i64 a.length, gsv 2 (nm s.nx 1) (F ++ negL ((b.drop k).take (q - k))).length] (some 123))), (1, gso 126 (letters (F ++ negL ((b.drop k).take (q - k)))))],
                    fun q => k ≤ q ∧ q ≤ y, fun q => y - q, k, ⟨Nat.le_refl _, hky⟩, ?_, ?_⟩
                  · show To s _ _ _ (loc s 2 [(0, some (.cells [.int .i64 a.length, gsv 2 (nm s.nx 1) (F ++ negL ((b.drop k).take (k - k))).length] (some 123))), (1, gso 126 (letters (F ++ negL ((b.drop k).take (k - k)))))])
                    rw [neg_zero]
                    refine To.go [0, 1] _ rfl (.refl s) (by decide) (by simp) ?_ ?_
                    · simp +contextual only [go_sem, hlen4, hlen5, hlv5, pu_ren hp, cdD, cdN, gdT, gdF, gdD]
                    · simp only [go_sem, map_gso_pu (letters_pul _), cdD, cdN, gdT, gdF, gdD]
                  · rintro q tm6 ⟨hkq, hqy⟩ hlen6 hlv6
                    simp only [go_sem, hlen3, hlen4, hlen5, cdD, cdN, gdT, gdF, gdD] at hlen6 hlv6
                    have hnl := negT_len (b := b) (k := k) (q := q) F
                    simp +contextual only [go_sem, hlen6, hlv6, cdD, cdN, gdT, gdF, gdD]
                    refine ⟨fun hlt => ?_, fun hge => ?_⟩
                    · have hq2 : q < b.length := by omega
                      have hns := neg_step F hkq hq2
                      have hwq : IntKind.i64.wrap ((q : Int) + 1) = ((q + 1 : Nat) : Int) := by rw [wrap_id (by omega)]; rfl
                      have hat := str_at' hq2
                      generalize F ++ negL ((b.drop k).take (q - k)) = G at hnl hns hlv6
                      refine ldrawB_go [] [(1, 1)] 7 (by decide) ?_
                      simp +contextual only [go_sem, hlen6, hlv6, hat, build121_2, cdD, cdN, gdT, gdF, gdD]
                      refine ⟨by kernel_rfl, ?_⟩
                      refine lmem_eq (app121 (acellsOf_rs (by simp only [go_sem, cdD, cdN, gdT, gdF, gdD]; rfl) (by rfl) rfl) (by decide) (by simp only [go_sem, cdD, cdN, gdT, gdF, gdD]) (by simp only [go_sem, cdD, cdN, gdT, gdF, gdD]) (letters_length _) (by omega) rfl) ?_
                      simp +contextual only [go_sem, hlen3, hlen4, hlen5, hlen6, hlv6, hwq, cdD, cdN, gdT, gdF, gdD]
                      refine ⟨q + 1, ⟨by omega, by omega⟩, by omega, ?_⟩
                      rw [hns]
                      refine To.go [0, 10] _ rfl (.refl s) (by decide) (by simp) ?_ ?_
                      · simp +contextual only [go_sem, hlen3, hlen4, hlen5, hlen6, hlv6, pu_ren hp, cdD, cdN, gdT, gdF, gdD]
                      · simp only [go_sem, map_gso_pu (letters_pul _), cdD, cdN, gdT, gdF, gdD]
                        rw [gso_let, letters_snoc, List.length_append, List.length_singleton, gsv_pos (Nat.succ_ne_zero _)]
                        exact ⟨rfl, rfl⟩
                    · have hqe : q = y := by omega
                      subst hqe
                      generalize F ++ negL ((b.drop k).take (q - k)) = G at hnl hF2 hlv6
                      refine ldrawB_go [] [(1, 1)] 8 (by decide) ?_
                      simp +contextual only [go_sem, hlen6, hlv6, y1, build121_2, cdD, cdN, gdT, gdF, gdD]
                      refine ⟨by kernel_rfl, ?_⟩
                      refine lmem_eq (app121 (acellsOf_rs (by simp only [go_sem, cdD, cdN, gdT, gdF, gdD]; rfl) (by rfl) rfl) (by decide) (by simp only [go_sem, cdD, cdN, gdT, gdF, gdD]) (by simp only [go_sem, cdD, cdN, gdT, gdF, gdD]) (letters_length _) (by omega) rfl) ?_
                      simp +contextual only [go_sem, hlen3, hlen4, hlen5, hlen6, hlv6, hwx, hwy, cdD, cdN, gdT, gdF, gdD]
                      refine ⟨(x + 1, q + 1, G ++ [((x : Int), a[x])]), ⟨by show x + 1 ≤ _; omega, by show q + 1 ≤ _; omega, hF2⟩, by show a.length - (x + 1) < a.length - i; omega, ?_⟩
                      refine To.go [0, 11] _ rfl (.refl s) (by decide) (by simp) ?_ ?_
                      · simp +contextual only [go_sem, hlen3, hlen4, hlen5, hlen6, hlv6, pu_ren hp, cdD, cdN, gdT, gdF, gdD]
                      · simp only [go_sem, map_gso_pu (letters_pul _), cdD, cdN, gdT, gdF, gdD]
                        rw [gso_let, letters_snoc, List.length_append, List.length_singleton, gsv_pos (Nat.succ_ne_zero _)]
                        exact ⟨rfl, rfl⟩
            · have h0 : lcs (a.drop i) (b.drop k) = 0 := by omega
              rw [dr_end h0, rlet_new] at hF
              refine ⟨Nat, fun q => [(1, .str b), (9, .ptr (nm s.nx 0) 0), (11, .int .i64 q)],
                fun q => loc s 2 [(0, some (.cells [.int .i64 a.length, gsv 2 (nm s.nx 1) (F ++ negL ((b.drop k).take (q - k))).length] (some 123))), (1, gso 126 (letters (F ++ negL ((b.drop k).take (q - k)))))],
                fun q => k ≤ q ∧ q ≤ b.length, fun q => b.length - q, k, ⟨Nat.le_refl _, hk⟩, ?_, ?_⟩
              · show To s _ _ _ (loc s 2 [(0, some (.cells [.int .i64 a.length, gsv 2 (nm s.nx 1) (F ++ negL ((b.drop k).take (k - k))).length] (some 123))), (1, gso 126 (letters (F ++ negL ((b.drop k).take (k - k)))))])
                rw [neg_zero]
                refine to_now (fun _ => rfl) ?_
                simp +contextual only [go_sem, hlen3, hlv3, cdD, cdN, gdT, gdF, gdD]
              · rintro q tm4 ⟨hkq, hqb⟩ hlen4 hlv4
                simp only [go_sem, hlen3, cdD, cdN, gdT, gdF, gdD] at hlen4 hlv4
                have hnl := negT_len (b := b) (k := k) (q := q) F
                simp +contextual only [go_sem, hlen4, hlv4, cdD, cdN, gdT, gdF, gdD]
                refine ⟨fun hlt => ?_, fun hge => ?_⟩
                · have hq2 : q < b.length := by omega
                  have hns := neg_step F hkq hq2
                  have hwq : IntKind.i64.wrap ((q : Int) + 1) = ((q + 1 : Nat) : Int) := by rw [wrap_id (by omega)]; rfl
                  have hat := str_at' hq2
                  generalize F ++ negL ((b.drop k).take (q - k)) = G at hnl hns hlv4
                  refine ldrawB_go [] [(1, 1)] 7 (by decide) ?_
                  simp +contextual only [go_sem, hlen3, hlen4, hlv4, hat, build121_2, cdD, cdN, gdT, gdF, gdD]
                  refine ⟨by kernel_rfl, ?_⟩
                  refine lmem_eq (app121 (acellsOf_rs (by simp only [go_sem, cdD, cdN, gdT, gdF, gdD]; rfl) (by rfl) rfl) (by decide) (by simp only [go_sem, cdD, cdN, gdT, gdF, gdD]) (by simp only [go_sem, cdD, cdN, gdT, gdF, gdD]) (letters_length _) (by omega) rfl) ?_
                  simp +contextual only [go_sem, hlen3, hlen4, hlv4, hwq, cdD, cdN, gdT, gdF, gdD]
                  refine ⟨q + 1, ⟨by omega, by omega⟩, by omega, ?_⟩
                  rw [hns]
                  refine To.go [0, 10] _ rfl (.refl s) (by decide) (by simp) ?_ ?_
                  · simp +contextual only [go_sem, hlen4, hlv4, cdD, cdN, gdT, gdF, gdD]
                  · simp only [go_sem, map_gso_pu (letters_pul _), cdD, cdN, gdT, gdF, gdD]
                    rw [gso_let, letters_snoc, List.length_append, List.length_singleton, gsv_pos (Nat.succ_ne_zero _)]
                    exact ⟨rfl, rfl⟩
                · have hqe : q = b.length := by omega
                  subst hqe
                  rw [List.take_of_length_le (by rw [List.length_drop]; omega)] at *
                  rw [hF]
                  have hde := diff_edits a b
                  have hrr := rlet_range a a 0 b
                  generalize rlet a (dr 0 a b) = W at hde hrr hRL
                  refine lfunG_freezeG 1 2 (ltv W) (by rw [ltv_letters]; simp only [go_sem, cdD, cdN, gdT, gdF, gdD]; rfl) (ltv_len _) (by decide) ?_
                  have hfz : fz (nm s.nx 1) 2 (ltv W) (gsv 2 (nm s.nx 1) W.length) = fsv 2 (ltv W) := by
                    rw [show W.length = (ltv W).length from (List.length_map ..).symm, fz_gsv]
                  simp only [go_sem, hfz, cdD, cdN, gdT, gdF, gdD]
                  refine lfunG_eq (edits_ok a.length W (by omega) (fun p hp => by have := hrr p hp; omega) (by omega) _) ?_
                  simp +contextual only [go_sem, fzL_length, hlen3, hlen4, cdD, cdN, gdT, gdF, gdD]
                  exact lexit_pure (.refl s) (low.mono (Nat.zero_le _) (edv_pu _)) ⟨by rw [hde]; rfl, rfl⟩
end Go.S1N
end
section
namespace Go.S1N
open Go Go.Am Go.Proofs Go.S1
set_option maxRecDepth 100000
attribute [local go_sem] Nat.reduceLT Nat.reduceEqDiff Nat.reduceAdd Nat.reduceLeDiff reduceIte reduceCtorEq
attribute [local irreducible] lopsB lvb lstepB lfunG lcondB lguardB lguardU ldguardU ldrawB ldrunB ldstepB ldguardB lmem lval ldmem ldval ldfun lexit ldloadB ldlenB lpostB athen ablock
theorem utf8_le (n : Int) : (Utf8.encode n).data.toList.length ≤ 4 := by
  unfold Utf8.encode
  simp only
  split <;> try split
  all_goals try split
  all_goals try split
  all_goals simp
theorem tyI : tab.ty 21 = some { td := .int .i32, size := 1, bytes := 4, zero := .int .i32 0, eqok := false } := by kernel_rfl
theorem all32 (c : UInt8) : IntKind.i32.wrap (c.toNat : Int) = (c.toNat : Int) := by
  have : ∀ m : Fin 256, IntKind.i32.wrap (m.val : Int) = (m.val : Int) := by decide +kernel
  exact this ⟨c.toNat, c.toNat_lt⟩
theorem cv5_21 {P : Program} {eal : Nat → Bool} {nx0 i : Nat} {g : Bool} {N : DSt → AHeap → Prop} {tm : List AV} {co : List AHeap} {re : List AV} {ki : List DKind} {d : Option Nat} {x : Operand} {s : AHeap} : ldstepB P tab eal nx0 i g N (.convert 5 21 x) d ⟨tm, co, re, ki⟩ s = ldval N (aconv tab 5 21 (aev tm x)) d ⟨tm, co, re, ki⟩ s :=
  ldstepB_pure (fun o h => by unfold amem; rw [h]; simp [ty5, ty9, tyI]) (by intros; simp) (by intros; simp) (by intros; simp) (by intros; simp) (by intros; simp)
theorem cv21_9 {P : Program} {eal : Nat → Bool} {nx0 i : Nat} {g : Bool} {N : DSt → AHeap → Prop} {tm : List AV} {co : List AHeap} {re : List AV} {ki : List DKind} {d : Option Nat} {x : Operand} {s : AHeap} : ldstepB P tab eal nx0 i g N (.convert 21 9 x) d ⟨tm, co, re, ki⟩ s = ldval N (aconv tab 21 9 (aev tm x)) d ⟨tm, co, re, ki⟩ s :=
  ldstepB_pure (fun o h => by unfold amem; rw [h]; simp [ty5, ty9, tyI]) (by intros; simp) (by intros; simp) (by intros; simp) (by intros; simp) (by intros; simp)
theorem ac5_21 {n : Int} : aconv tab 5 21 (.int .u8 n) = some (.int .i32 (IntKind.i32.wrap n)) := by simp [aconv, ty5, tyI]
theorem ac21_9 {n : Int} : aconv tab 21 9 (.int .i32 n) = some (.str (Utf8.encode n).data.toList) := by simp [aconv, ty9, tyI]
theorem changedS {s : AHeap} {b : Nat} {Lv : AV} {L : List Int} {at_ : Int} (h : Sm s b Lv L at_) (h1 : at_ < 3800000000000000000) (t w : List UInt8) (ht : t.length ≤ 1000000000) (hw : w.length ≤ 1000000000) :
    ACall Tryz.prog 19 [.ptr b 0, .str t, .str w] s fun v u => ∃ (x : List UInt8) (k : Nat), v = .str x ∧ x.length ≤ t.length + w.length + 4 ∧ k ≤ 3 ∧ ((k = 0 ∧ u = s) ∨ u = s.upd b (strm Lv (at_ + k))) := by
  refine gob19 (by simp) ?_
  intro tm hlen harg
  have hb := h.lt
  have h0 := h.at0
  simp +contextual only [go_sem, L19, hlen, harg, cdD, cdN, gdT, gdF, gdD]
  refine ⟨fun c1 => lexit_pure (.refl s) (by simp only [low]) ⟨w, 0, rfl, by omega, by omega, .inl ⟨rfl, rfl⟩⟩, fun c1 => ⟨fun c2 => lexit_pure (.refl s) (by simp only [low]) ⟨[], 0, rfl, by simp, by omega, .inl ⟨rfl, rfl⟩⟩, fun c2 => ?_⟩⟩
  have htp : 0 < t.length := List.length_pos_iff.2 c1
  have hwp : 0 < w.length := List.length_pos_iff.2 c2
  refine lfunG_eq (nextS h.loc _) ?_
  obtain ⟨i0, i1⟩ := nextOf_lt L at_ (n := t.length) (by omega) (by omega)
  obtain ⟨i, hi⟩ : ∃ i : Nat, nextOf L at_ t.length = i := ⟨(nextOf L at_ t.length).toNat, by omega⟩
  rw [hi] at i1
  simp +contextual only [go_sem, hlen, harg, hb, hi, cdD, cdN, gdT, gdF, gdD]
  refine lfunG_eq (nextS ((h.upd (by omega) (by omega)).loc) _) ?_
  obtain ⟨j0, j1⟩ := nextOf_lt L (at_ + 1) (n := w.length) (by omega) (by omega)
  obtain ⟨j, hj⟩ : ∃ j : Nat, nextOf L (at_ + 1) w.length = j := ⟨(nextOf L (at_ + 1) w.length).toNat, by omega⟩
  rw [hj] at j1
  have hat := str_at (l := w) (i := j) (by omega)
  generalize w[j]'(by omega) = c at hat
  simp +contextual only [go_sem, hlen, harg, hb, hj, hat, cdD, cdN, gdT, gdF, gdD]
  refine lfunG_eq (nextS ((h.upd (by omega) (by omega)).loc) 3) ?_
  generalize nextOf L (at_ + 1 + 1) 3 = z
  have hwr : IntKind.i32.wrap (c.toNat : Int) = (c.toNat : Int) := all32 c
  have hwi : IntKind.i64.wrap ((i : Int) + 1) = ((i + 1 : Nat) : Int) := by rw [wrap_id (by omega)]; rfl
  have l1 := sl_hi (x := t) (k := i) (by omega)
  have l2 := sl_lo (x := t) (k := i) (by omega)
  have l3 := sl_lo (x := t) (k := i + 1) (by omega)
  have e3 : s.upd b (strm Lv (at_ + 1 + 1 + 1)) = s.upd b (strm Lv (at_ + ((3 : Nat) : Int))) := by rw [show at_ + 1 + 1 + 1 = at_ + ((3 : Nat) : Int) from by omega]
  have hu := utf8_le (c.toNat : Int)
  obtain ⟨y, hy⟩ : ∃ y, (Utf8.encode (c.toNat : Int)).data.toList = y := ⟨_, rfl⟩
  rw [hy] at hu
  have lt1 : (t.take i).length = i := by simp; omega
  have a1 := Go.Am.abin_sadd (T := tab) (t := 9) (x := t.take i) (y := y) (by omega)
  have a2 := Go.Am.abin_sadd (T := tab) (t := 9) (x := t.take i ++ y) (y := t.drop (i + 1)) (by simp; omega)
  have a3 := Go.Am.abin_sadd (T := tab) (t := 9) (x := t.take i ++ y) (y := t.drop i) (by simp; omega)
  have a4 := Go.Am.abin_sadd (T := tab) (t := 9) (x := t.take i) (y := t.drop (i + 1)) (by simp; omega)
  simp +contextual only [go_sem, hlen, harg, hb, cdD, cdN, gdT, gdF, gdD]
  refine ⟨fun e0 => ?_, fun e0 => ⟨fun e1 => ?_, fun e1 => ?_⟩⟩
  · refine ldrawB_go [] [] 11 (by decide) ?_
    simp +contextual only [go_sem, hlen, harg, hb, hwr, hwi, l1, l2, l3, a1, a2, a3, a4, cv5_21, cv21_9, ac5_21, ac21_9, hy, cdD, cdN, gdT, gdF, gdD]
    refine ⟨by kernel_rfl, ?_⟩
    exact lexit_pure ((OKo.refl s).upd hb h.lowO) (by simp only [low]) ⟨_, 3, rfl, by simp; omega, by omega, .inr e3⟩
  · refine ldrawB_go [] [] 10 (by decide) ?_
    simp +contextual only [go_sem, hlen, harg, hb, hwr, hwi, l1, l2, l3, a1, a2, a3, a4, cv5_21, cv21_9, ac5_21, ac21_9, hy, cdD, cdN, gdT, gdF, gdD]
    refine ⟨by kernel_rfl, ?_⟩
    exact lexit_pure ((OKo.refl s).upd hb h.lowO) (by simp only [low]) ⟨_, 3, rfl, by simp; omega, by omega, .inr e3⟩
  · refine ldrawB_go [] [] 7 (by decide) ?_
    simp +contextual only [go_sem, hlen, harg, hb, hwr, hwi, l1, l2, l3, a1, a2, a3, a4, cv5_21, cv21_9, ac5_21, ac21_9, hy, cdD, cdN, gdT, gdF, gdD]
    refine ⟨by kernel_rfl, ?_⟩
    exact lexit_pure ((OKo.refl s).upd hb h.lowO) (by simp only [low]) ⟨_, 3, rfl, by simp; omega, by omega, .inr e3⟩
end Go.S1N
end
section
namespace Go.S1N
open Go Go.Am Go.Proofs Go.S1
set_option maxRecDepth 100000
attribute [local go_sem] Nat.reduceLT Nat.reduceEqDiff Nat.reduceAdd Nat.reduceLeDiff reduceIte reduceCtorEq
attribute [local irreducible] lopsB lvb lstepB lfunG lcondB lguardB lguardU ldguardU ldrawB ldrunB ldstepB ldguardB lmem lval ldmem ldval ldfun lexit ldloadB ldlenB lpostB athen ablock
theorem diff_short (a b : List UInt8) : (diffVal a b).length ≤ b.length + 1 := by
  obtain ⟨f1, f2, f3⟩ := dr_flow a a 0 b rfl (Nat.zero_le _)
  obtain ⟨hbd, hrl⟩ := dr_bd a 0 b
  have hd : diffVal a b = edGo a.length 0 [] (rflow (dr 0 a b)) := rGo_flow a.length _ 0 [] fun r hr => (hbd r hr).1
  have hFl : (rflow (dr 0 a b)).length = b.length := by rw [← congrArg List.length f1, List.length_map]
  have := ed_len a.length (rflow (dr 0 a b)) 0 []
  rw [hd]; omega
theorem dl_le5 : ∀ (l : List Ed), (∀ e ∈ l, e.new.length ≤ 4 ∧ 0 ≤ e.cut) → dl l ≤ 4 * (l.length : Int)
  | [], _ => by simp [dl]
  | e :: l, h => by
    have h1 := h e (List.mem_cons_self ..)
    have h2 := dl_le5 l fun x hx => h x (List.mem_cons_of_mem _ hx)
    simp only [dl, List.length_cons]
    omega
theorem apply_short {a : List UInt8} {c : List Ed} (ha : a.length ≤ 9) (hc : faultOf a.length c = 0) (hl : c.length ≤ 4) (hn : ∀ e ∈ c, e.new.length ≤ 4) : (applyFrom a 0 c).length ≤ 1000 := by
  obtain ⟨h0, h1, h2, hs⟩ := faultOf_zero hc
  have hbl := apply_len a hs
  have hfl := flow_dl a.length c 0 (-1) (.inr ⟨rfl, rfl⟩) (Nat.zero_le _) hs
  have hdl := dl_le5 c fun e he => ⟨hn e he, (scan_range c _ hs e he).2.1⟩
  omega
theorem right_bd {c : List Ed} (hc : faultOf ((9 : Nat) : Int) c = 0) (hn : ∀ e ∈ c, e.new.length ≤ 4) : ∀ e ∈ c, EdB e := by
  obtain ⟨h0, h1, h2, hs⟩ := faultOf_zero hc
  intro e he
  obtain ⟨g1, g2, g3, g4⟩ := scan_range c _ hs e he
  have := hn e he
  exact ⟨by omega, by omega, by omega, by omega, by omega⟩
theorem lines_zero {c : List Ed} (h : linesFault c = 0) (hn : ∀ e ∈ c, e.new.length ≤ 4) : ∀ e ∈ c, EdB e := by
  intro e he
  have hc : ¬ c.all (fun e => decide (inR e.at_) && decide (inR e.cut)) = false := by
    intro hh
    unfold linesFault at h
    split at h
    · cases h
    · first
      | (rw [if_pos hh] at h; cases h)
      | cases h
  have h2 : c.all (fun e => decide (inR e.at_) && decide (inR e.cut)) = true := by simpa using hc
  rw [List.all_eq_true] at h2
  have h3 := h2 e he
  rw [Bool.and_eq_true, decide_eq_true_iff, decide_eq_true_iff] at h3
  exact EdR.b h3 (by have := hn e he; omega)
theorem read_short (t : List UInt8) : (readVal t).1.length ≤ 2000 := by
  unfold readVal
  split
  · simp
  · split
    · simp
    · split
      · simp
      · rename_i h
        unfold linesFault at h
        split at h
        · simp at h
        · simp only; omega
set_option maxHeartbeats 2000000 in
theorem textsDiffer_ok (v : AV) (L : List Int) (hv : IsInts v L) (hL : L.length < 4611686018427387904) (s : AHeap) :
    ACall Tryz.prog 3 [v] s fun r t => r = .bool true ∧ t = s := by
  refine gob3 (by simp) ?_
  intro tm hlen harg
  simp +contextual only [go_sem, L3, hlen, harg, ints_cells hv, ints_israw hv, cdD, cdN, gdT, gdF, gdD]
  have hS : ∀ (a : Int) (n : Nat) (l : List (Nat × Option AObj)), 0 ≤ a → a < 4000000000000000000 → Sm (loc s (n + 1) ((0, some (strm v a)) :: l)) (nm s.nx 0) v L a := fun a n l h1 h2 =>
    ⟨hv, hL, h1, h2, by rw [nx_loc, nm_lt]; omega, by simp only [go_sem, cdD, cdN, gdT, gdF, gdD]⟩
  refine lfunG_of (lettersS (hS 0 0 [] (by omega) (by omega)) (by omega) 9 (by omega) (by omega)) ?_
  rintro _ _ ⟨a, k1, rfl, ha, hk1, rfl⟩
  simp +contextual only [go_sem, hlen, harg, cdD, cdN, gdT, gdF, gdD]
  refine lfunG_of (lettersS (hS _ _ _ (by omega) (by omega)) (by omega) 9 (by omega) (by omega)) ?_
  rintro _ _ ⟨y, k2, rfl, hy, hk2, rfl⟩
  simp +contextual only [go_sem, hlen, harg, cdD, cdN, gdT, gdF, gdD]
  refine lfunG_eq (flipS (hS _ _ _ (by omega) (by omega)) 2) ?_
  generalize decide (nextOf L _ 2 = 0) = fl
  simp +contextual only [go_sem, hlen, harg]
  refine lcondB_cut 120 (fun x : List UInt8 × Int => [(3, .ptr (nm s.nx 0) 0), (4, .str a), (5, .str x.1)]) (fun x => loc s 1 [(0, some (strm v x.2))]) (fun x => x.1.length ≤ 1000 ∧ 0 ≤ x.2 ∧ x.2 ≤ 1000) ?_ ?_
  · cases fl with
    | false =>
      simp +contextual only [go_sem, hlen, harg, cdD, cdN, gdT, gdF, gdD]
      refine ⟨by simp only [go_sem, hlen], (y, _), ⟨by simp only; omega, ?_, ?_⟩, rfl, ?_⟩
      · simp only; omega
      · simp only; omega
      · simp only [go_sem, hlen, harg, cdD, cdN, gdT, gdF, gdD]
    | true =>
      simp +contextual only [go_sem, hlen, harg, cdD, cdN, gdT, gdF, gdD]
      refine lfunG_of (rightS (hS _ _ _ (by omega) (by omega)) (by omega) a.length (by omega)) ?_
      rintro _ _ ⟨c, k3, rfl, hc, hnc, hf, hk3, rfl⟩
      have hsc := edv_sl c
      obtain ⟨_, _, hf2, hfs⟩ := faultOf_zero hf
      have hal := apply_short (by omega) hf hc hnc
      simp +contextual only [go_sem, hlen, harg, hsc.len, cdD, cdN, gdT, gdF, gdD]
      refine ⟨fun hp => ?_, fun hp => ?_⟩
      · refine lfunG_eq (applyOf_exact a _ c hsc (by omega) (by omega) (fun e he => by have := hnc e he; omega) hfs _) ?_
        simp +contextual only [go_sem, hlen, harg, cdD, cdN, gdT, gdF, gdD]
        refine ⟨by simp only [go_sem, hlen], (applyFrom a 0 c, _), ⟨hal, ?_, ?_⟩, rfl, ?_⟩
        · simp only; omega
        · simp only; omega
        · simp only [go_sem, hlen, harg, cdD, cdN, gdT, gdF, gdD]
      · refine ⟨by simp only [go_sem, hlen], (y, _), ⟨by simp only; omega, ?_, ?_⟩, rfl, ?_⟩
        · simp only; omega
        · simp only; omega
        · simp only [go_sem, hlen, harg, cdD, cdN, gdT, gdF, gdD]
  rintro ⟨b, st⟩ tm1 ⟨hb, hs0, hs1⟩ hlen1 hlv1
  simp only [go_sem, cdD, cdN, gdT, gdF, gdD] at hlv1 hb hs0 hs1
  simp +contextual only [go_sem, hlen1, hlv1, cdD, cdN, gdT, gdF, gdD]
  refine lfunG_of (changeS (hS _ _ _ (by omega) (by omega)) (by omega) 12) ?_
  rintro _ _ ⟨c, k4, rfl, hc, hnc, hk4, rfl⟩
  have hsc := edv_sl c
  have hnc' : ∀ e ∈ c, e.new.length ≤ 100000 := fun e he => by have := hnc e he; omega
  simp +contextual only [go_sem, hlen1, hlv1, cdD, cdN, gdT, gdF, gdD]
  refine lfunG_eq (diff_ok a b (by omega) (by omega) _) ?_
  simp +contextual only [go_sem, hlen1, hlv1, cdD, cdN, gdT, gdF, gdD]
  refine lfunG_eq (text_ok c (by omega) hnc' _) ?_
  simp +contextual only [go_sem, hlen1, hlv1, textVA, cdD, cdN, gdT, gdF, gdD]
  refine lfunG_eq (editsFault_ok c (by omega) hnc' _) ?_
  simp +contextual only [go_sem, hlen1, hlv1]
  have hds := diff_short a b
  have ht2 : (textVal c).2 = linesFault c := by unfold textVal; split <;> rename_i h <;> simp only; exact (Classical.not_not.1 h).symm
  refine lcondB_cut 120 (fun _ : Unit => [(3, .ptr (nm s.nx 0) 0), (4, .str a), (5, .str b), (8, edv (diffVal a b)), (9, .int .i64 0), (10, .str (textVal c).1), (11, .int .i64 (linesFault c)), (12, .int .i64 (linesFault c)), (13, .str (textVal c).1)])
    (fun _ => loc s 1 [(0, some (strm v (st + k4)))]) (fun _ => True) ?_ ?_
  · simp +contextual only [go_sem, hlen1, hlv1, cdD, cdN, gdT, gdF, gdD]
    refine ⟨fun h0 => ?_, fun h0 => ?_⟩
    · refine lfunG_eq (editLines_ok c (by omega) (lines_zero h0 hnc) _) ?_
      have h1 : (textVal c).1 = linesE c := by unfold textVal; rw [if_neg (by simpa using h0)]
      simp +contextual only [go_sem, hlen1, hlv1, cdD, cdN, gdT, gdF, gdD]
      refine ⟨by simp only [go_sem, hlen1], (), trivial, rfl, ?_⟩
      simp only [go_sem, hlen1, hlv1, h1, ht2, h0, cdD, cdN, gdT, gdF, gdD]
    · have h1 : (textVal c).1 = [] := by unfold textVal; rw [if_pos h0]
      refine ⟨by simp only [go_sem, hlen1], (), trivial, rfl, ?_⟩
      simp only [go_sem, hlen1, hlv1, h1, ht2, cdD, cdN, gdT, gdF, gdD]
  rintro - tm2 - hlen2 hlv2
  simp only [go_sem, cdD, cdN, gdT, gdF, gdD] at hlv2
  have hdt := fun s => diffText_ok a b (by omega) (by omega) s
  generalize diffVal a b = d at hds hlv2 hdt
  generalize linesFault c = lf at hlv2
  generalize (textVal c).1 = tv at hlv2
  simp +contextual only [go_sem, hlen2, hlv2, cdD, cdN, gdT, gdF, gdD]
  refine lfunG_of (rightS (hS _ _ _ (by omega) (by omega)) (by omega) 9 (by omega)) ?_
  rintro _ _ ⟨e, k5, rfl, he, hne, hfe, hk5, rfl⟩
  simp +contextual only [go_sem, hlen2, hlv2, cdD, cdN, gdT, gdF, gdD]
  refine lfunG_eq (editLines_ok e (by omega) (right_bd hfe hne) _) ?_
  have hTl : (linesE e).length ≤ 2000000 := by
    have := linesN_len (right_bd hfe hne) e.length
    rw [linesN_all] at this
    have : 400000 * e.length ≤ 400000 * 4 := Nat.mul_le_mul_left _ he
    omega
  generalize linesE e = T at hTl
  simp +contextual only [go_sem, hlen2, hlv2, cdD, cdN, gdT, gdF, gdD]
  refine lfunG_eq (pickS (hS _ _ _ (by omega) (by omega)) (nm s.nx 1) [0, 1, 2] (some 3) (by simp) (by simp) (by simp only [go_sem, List.map_cons, cdD, cdN, gdT, gdF, gdD]) (by rw [ne_eq, nm_inj]; simp) (by simp only [go_sem, cdD, cdN, gdT, gdF, gdD])) ?_
  have hN := getI_le (l := [0, 1, 2]) (lo := 0) (hi := 2) (by omega) (by simp) (nextOf L (st + k4 + k5) (([0, 1, 2] : List Int).length)).toNat
  generalize ([0, 1, 2] : List Int).getD _ 0 = N at hN ⊢
  simp +contextual only [go_sem, hlen2, hlv2, cdD, cdN, gdT, gdF, gdD]
  refine ⟨Nat × Int × List UInt8, fun x => [(3, .ptr (nm s.nx 0) 0), (4, .str a), (5, .str b), (8, edv d), (9, .int .i64 0), (10, .str tv), (11, .int .i64 lf), (12, .int .i64 lf), (13, .str tv), (14, .str x.2.2), (64, .int .i64 N), (65, .int .i64 x.1)],
    fun x => loc s 1 [(0, some (strm v x.2.1))], fun x => (x.1 : Int) ≤ N ∧ 0 ≤ x.2.1 ∧ x.2.1 ≤ 2000 + 3 * x.1 ∧ x.2.2.length ≤ 2000000 + 100 * x.1, fun x => N.toNat - x.1, (0, st + k4 + k5 + 1, T),
    ⟨by simp only; omega, by simp only; omega, by simp only; omega, by simp only; omega⟩, ?_, ?_⟩
  · refine To.go [0] [(0, some (strm v (st + k4 + k5 + 1)))] rfl (.refl s) (by decide) (by simp) ?_ ?_
    · simp +contextual only [go_sem, hlen2, hlv2, pu_ren (edv_pu _), cdD, cdN, gdT, gdF, gdD]
      simp
    · simp only [go_sem, strm, pu_ren hv.pu, cdD, cdN, gdT, gdF, gdD]
  · rintro ⟨i, st2, X⟩ tm3 ⟨hi, hs2, hs3, hX⟩ hlen3 hlv3
    simp only [go_sem, hlen2, cdD, cdN, gdT, gdF, gdD] at hlen3 hlv3 hi hs2 hs3 hX
    simp +contextual only [go_sem, hlen2, hlen3, hlv3, cdD, cdN, gdT, gdF, gdD]
    refine ⟨fun hlt => ?_, fun hge => ?_⟩
    · refine lfunG_of (changedS (hS _ _ _ (by omega) (by omega)) (by omega) X _ (by omega) (by simp)) ?_
      rintro _ u ⟨Y, k6, rfl, hY, hk6, hh⟩
      simp only [List.length_cons, List.length_nil] at hY
      have hw : IntKind.i64.wrap ((i : Int) + 1) = ((i + 1 : Nat) : Int) := by rw [wrap_id (by omega)]; rfl
      have hu : u = loc s 1 [(0, some (strm v (st2 + k6)))] := by
        rcases hh with ⟨rfl, rfl⟩ | rfl
        · rw [show st2 + ((0 : Nat) : Int) = st2 from by omega]
        · simp only [go_sem, cdD, cdN, gdT, gdF, gdD]
      subst hu
      simp +contextual only [go_sem, hlen2, hlen3, hlv3, hw, cdD, cdN, gdT, gdF, gdD]
      refine ⟨(i + 1, st2 + k6, Y), ⟨by simp only; omega, by simp only; omega, by simp only; omega, by simp only; omega⟩, by simp only; omega, ?_⟩
      refine To.go [0] [(0, some (strm v (st2 + k6)))] rfl (.refl s) (by decide) (by simp) ?_ ?_
      · simp +contextual only [go_sem, hlen2, hlen3, hlv3, pu_ren (edv_pu _), cdD, cdN, gdT, gdF, gdD]
      · simp only [go_sem, strm, pu_ren hv.pu, cdD, cdN, gdT, gdF, gdD]
    · have hR1 := fun s => read_ok X s
      have hR2 := fun s => editsRead_ok X s
      have hrs := read_short X
      simp only [readVA] at hR1 hR2
      generalize (readVal X).1 = r1 at hrs hR1 hR2
      generalize (readVal X).2.1 = r2 at hR1 hR2
      generalize (readVal X).2.2 = r3 at hR1 hR2
      refine lfunG_eq (hR1 _) ?_
      simp +contextual only [go_sem, hlen2, hlen3, hlv3, cdD, cdN, gdT, gdF, gdD]
      refine lfunG_eq (hR2 _) ?_
      simp +contextual only [go_sem, hlen2, hlen3, hlv3, cdD, cdN, gdT, gdF, gdD]
      refine lfunG_eq (hdt _) ?_
      simp +contextual only [go_sem, hlen2, hlen3, hlv3, cdD, cdN, gdT, gdF, gdD]
      refine lfunG_eq (same33 _ (by omega) _) ?_
      simp +contextual only [go_sem, hlen2, hlen3, hlv3, cdD, cdN, gdT, gdF, gdD]
      refine lfunG_eq (same33 _ (by omega) _) ?_
      simp +contextual only [go_sem, hlen2, hlen3, hlv3, cdD, cdN, gdT, gdF, gdD]
      refine lfunG_eq (edited_ok _) ?_
      simp only [go_sem, hlen2, hlen3, hlv3, cdD, cdN, gdT, gdF, gdD]
      exact lexit_pure (.refl s) (by simp only [low]) ⟨rfl, rfl⟩
end Go.S1N
end
section
namespace Go.S1N
open Go Go.Proofs
set_option maxRecDepth 100000
def fastVia (P : Program) : Nat → List FuncId → List FuncId → Nat → List FuncId
  | 0, _, seen, _ => seen.reverse
  | n + 1, todo, seen, mask => match todo with
    | [] => seen.reverse
    | f :: todo => match Nat.testBit mask f with
      | true => fastVia P n todo seen mask
      | false => fastVia P n ((P.funcs[f]?).elim [] P.leadsTo ++ todo) (f :: seen) (mask ||| 2 ^ f)
theorem fastVia_eq (P : Program) : ∀ (n : Nat) (todo seen : List FuncId) (mask : Nat), (∀ x, Nat.testBit mask x = seen.contains x) → P.closureVia n todo seen = fastVia P n todo seen mask
  | 0, todo, seen, mask, h => by simp [Program.closureVia, fastVia]
  | n + 1, [], seen, mask, h => by simp [Program.closureVia, fastVia]
  | n + 1, f :: todo, seen, mask, h => by
    rw [Program.closureVia, fastVia, h f]
    cases hc : seen.contains f with
    | true => simp only [if_true]; exact fastVia_eq P n todo seen mask h
    | false =>
      simp only [Bool.false_eq_true, if_false]
      refine fastVia_eq P n _ _ _ fun x => ?_
      rw [Nat.testBit_or, h x, Nat.testBit_two_pow, List.contains_cons]
      by_cases e : f = x
      · subst e; simp
      · have e2 : (x == f) = false := by simpa using fun q => e q.symm
        simp [e, e2]
theorem closure_fast (P : Program) (f : FuncId) : P.closure f = fastVia P (1 + (P.funcs.toList.map fun g => (P.leadsTo g).length + 1).sum) [f] [] 0 := by
  unfold Program.closure
  exact fastVia_eq P _ _ _ _ fun x => by simp
end Go.S1N
end
