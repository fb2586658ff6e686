/- Part 3 of a proof: texts of this work, put together. -/
import Derived.Test.YtiohblpikmjofaaGreatDoorW2
set_option linter.unusedVariables false
set_option linter.unusedSimpArgs false
section
namespace Go.S1
open Go Go.Am Go.Proofs
set_option maxRecDepth 100000
structure Ed where
  at_ : Int
  cut : Int
  new : List UInt8
def Ed.enc (e : Ed) : AV := .agg [.int .i64 e.at_, .int .i64 e.cut, .str e.new]
def SlE (v : AV) (l : List Ed) : Prop := (∃ f, v = .vs 3 f (l.map Ed.enc)) ∨ (v = .nils ∧ l = [])
theorem SlE.len {v : AV} {l : List Ed} (h : SlE v l) : alen tab 27 v = some (.int .i64 l.length) := by
  rcases h with ⟨f, rfl⟩ | ⟨rfl, rfl⟩ <;> simp [alen, ty27]
theorem SlE.at {v : AV} {l : List Ed} (h : SlE v l) {i : Nat} {e : Ed} (he : l[i]? = some e) : aindexAddr tab 27 v (.int .i64 i) = some (.rptr [.int .i64 e.at_, .int .i64 e.cut, .str e.new]) := by
  rcases h with ⟨f, rfl⟩ | ⟨rfl, rfl⟩
  · simp [aindexAddr, ty27, Tab.size, ty37, he, Ed.enc, AV.israw, AV.cells]
  · simp at he
def Sub (s t : AHeap) : Prop := s.nx ≤ t.nx ∧ ∀ b o, b < s.nx → s.get b = some o → t.get b = some o
theorem Sub.refl (s : AHeap) : Sub s s := ⟨Nat.le_refl _, fun _ _ _ h => h⟩
theorem Sub.trans {s t u : AHeap} (h : Sub s t) (h' : Sub t u) : Sub s u := ⟨Nat.le_trans h.1 h'.1, fun b o hb e => h'.2 b o (Nat.lt_of_lt_of_le hb h.1) (h.2 b o hb e)⟩
theorem Sub.new {s t : AHeap} (h : Sub s t) (o : AObj) : Sub s (t.new o) := ⟨by rw [AHeap.nx_new]; have := h.1; omega, fun b o' hb e => by
  rw [AHeap.get_new, if_neg (by have := h.1; omega)]; exact h.2 b o' hb e⟩
theorem Sub.upd {s t : AHeap} (h : Sub s t) {b : Nat} (hb : s.nx ≤ b) (o : AObj) : Sub s (t.upd b o) := ⟨by rw [AHeap.nx_upd]; exact h.1, fun b' o' hb' e => by
  rw [AHeap.get_upd, if_neg (by omega)]; exact h.2 b' o' hb' e⟩
end Go.S1
end
section
namespace Go.S1
open Go Go.Am Go.Proofs
set_option maxRecDepth 100000
attribute [local go_sem] lvc_seq lvc_draw lvc_ops lvc_skip lvc_block lvc_exit lops_nil lops_cons lops_guard lstep_move lstep_assign lstep_binOp lstep_unOp lstep_pick lstep_nilCheck lstep_build lstep_slice lstep_fieldAddr lstep_indexAddr lstep_extract lstep_makeFunc lstep_load lstep_store lstep_makeSlice lstep_buildSlice lstep_len lstep_append lstep_call lfun_func athen_normal athen_ret athen_exit ablock_normal ablock_ret ablock_exit ablock_exit_ne lvc_ret lvc_cond lvc_loop length_aput aput_none aev_same aev_ne aev_bool aev_int aev_str aev_nilIface aev_nilp aev_nils aev_nilm aev_func List.getD_cons_zero List.getD_cons_succ List.map_cons List.map_nil Option.map_some Option.map_none List.nil_append List.append_nil abin_add abin_sub abin_mul abin_eql abin_neq abin_lss abin_leq abin_gtr abin_geq abin_seql abin_sneq lval_some lmem_some bool?_bool ne_eq not_false_eq_true lpost_ret1 lcond_true lcond_false lcond_decide lcond_not lguard_decide_true lguard_decide_false lguard_true_true lguard_true_false lguard_false_false lguard_false_true apick_true apick_false decide_true decide_false lstep_min lstep_max amin2_int amax2_int aun_not_decide aun_not_true aun_not_false aun_neg not_true_eq_false Classical.not_not al3 al9 al27 al37 ld3 st3 ld9 st9 len9 ld22 len22r fa25_0p fa25_1p ld27 st27 len27n ld29 fa37_0p fa37_0r fa37_1p fa37_1r fa37_2p fa37_2r ld37 st37 len58r len75r acellsAt_r acellsAt_p astoreAt_p cells?_some Option.bind_some AV.ofV AV.ofOne AV.israw AV.cells splice AHeap.get_new AHeap.get_upd AHeap.nx_new AHeap.nx_upd List.drop_zero List.drop_succ_cons List.take_succ_cons List.take_zero List.length_cons List.length_nil List.all_cons List.all_nil AV.one List.set_cons_zero List.set_cons_succ List.getElem?_cons_zero List.getElem?_cons_succ Nat.zero_add Nat.add_zero Bool.and_true and_self and_true true_and if_true if_false ite_true ite_false Bool.false_eq_true Bool.true_eq_false List.toList_toArray Nat.le_refl List.drop_nil List.take_nil get_bump nx_bump
def longOf (n : Int) (l : List Ed) : Int := l.foldl (fun n e => IntKind.i64.wrap (n + IntKind.i64.wrap (e.new.length - e.cut))) n
theorem long_ok (n : Int) (v : AV) (l : List Ed) (hv : SlE v l) (hl : l.length < 4611686018427387904) (s : AHeap) : ACall Tryz.prog 38 [.int .i64 n, v] s fun r t => r = .int .i64 (longOf n l) ∧ Sub s t := by
  refine go38 (by simp) ?_
  intro tm hlen harg
  simp +contextual only [L38, hlen, harg, hv.len, go_sem, Nat.reduceLT, Nat.reduceEqDiff, Nat.reduceAdd, Nat.reduceLeDiff, reduceIte, reduceCtorEq]
  refine ⟨fun k tm' s' => ∃ i : Nat, k + i = l.length ∧ tm'.length = 23 ∧ aev tm' (.tmp 0) = .int .i64 (longOf n (l.take i)) ∧ aev tm' (.tmp 7) = v ∧ aev tm' (.tmp 8) = .int .i64 l.length ∧ aev tm' (.tmp 9) = .int .i64 i ∧ Sub s s', l.length, ⟨0, by simp, ?_⟩, ?_⟩
  · simp [length_aput, hlen, aev_same, aev_ne, harg, longOf, Sub.refl]
  · rintro k tm1 s1 ⟨i, hk, hlen1, h0, h7, h8, h9, hs⟩
    simp +contextual only [hlen1, h0, h7, h8, h9, go_sem, Nat.reduceLT, Nat.reduceEqDiff, Nat.reduceAdd, Nat.reduceLeDiff, reduceIte, reduceCtorEq]
    refine ⟨fun hlt => ?_, fun hge => ?_⟩
    · have hi : i < l.length := by omega
      have he := List.getElem?_eq_getElem hi
      simp +contextual only [hlen1, h0, h7, h8, h9, hv.at he, go_sem, Nat.reduceLT, Nat.reduceEqDiff, Nat.reduceAdd, Nat.reduceLeDiff, reduceIte, reduceCtorEq]
      have hw : IntKind.i64.wrap ((i : Int) + 1) = ((i + 1 : Nat) : Int) := by rw [wrap_id (by omega)]; rfl
      refine ⟨k - 1, by omega, i + 1, by omega, ?_, by rw [hw], (hs.new _).upd hs.1 _⟩
      rw [List.take_succ_eq_append_getElem hi]
      simp only [longOf, List.foldl_append, List.foldl_cons, List.foldl_nil]
    · have hi : i = l.length := by omega
      subst hi
      rw [List.take_length]
      exact ⟨rfl, hs⟩
end Go.S1
end
section
namespace Go.S1
open Go Go.Am Go.Proofs
set_option maxRecDepth 100000
attribute [local go_sem] lvc_seq lvc_draw lvc_ops lvc_skip lvc_block lvc_exit lops_nil lops_cons lops_guard lstep_move lstep_assign lstep_binOp lstep_unOp lstep_pick lstep_nilCheck lstep_build lstep_slice lstep_fieldAddr lstep_indexAddr lstep_extract lstep_makeFunc lstep_load lstep_store lstep_makeSlice lstep_buildSlice lstep_len lstep_append lstep_call lfun_func athen_normal athen_ret athen_exit ablock_normal ablock_ret ablock_exit ablock_exit_ne lvc_ret lvc_cond lvc_loop length_aput aput_none aev_same aev_ne aev_bool aev_int aev_str aev_nilIface aev_nilp aev_nils aev_nilm aev_func List.getD_cons_zero List.getD_cons_succ List.map_cons List.map_nil Option.map_some Option.map_none List.nil_append List.append_nil abin_add abin_sub abin_mul abin_eql abin_neq abin_lss abin_leq abin_gtr abin_geq abin_seql abin_sneq lval_some lmem_some bool?_bool ne_eq not_false_eq_true lpost_ret1 lcond_true lcond_false lcond_decide lcond_not lguard_decide_true lguard_decide_false lguard_true_true lguard_true_false lguard_false_false lguard_false_true apick_true apick_false decide_true decide_false lstep_min lstep_max amin2_int amax2_int aun_not_decide aun_not_true aun_not_false aun_neg not_true_eq_false Classical.not_not al3 al9 al27 al37 ld3 st3 ld9 st9 len9 ld22 len22r fa25_0p fa25_1p ld27 st27 len27n ld29 fa37_0p fa37_0r fa37_1p fa37_1r fa37_2p fa37_2r ld37 st37 len58r len75r acellsAt_r acellsAt_p astoreAt_p cells?_some Option.bind_some AV.ofV AV.ofOne AV.israw AV.cells splice AHeap.get_new AHeap.get_upd AHeap.nx_new AHeap.nx_upd List.drop_zero List.drop_succ_cons List.take_succ_cons List.take_zero List.length_cons List.length_nil List.all_cons List.all_nil AV.one List.set_cons_zero List.set_cons_succ List.getElem?_cons_zero List.getElem?_cons_succ Nat.zero_add Nat.add_zero Bool.and_true and_self and_true true_and if_true if_false ite_true ite_false Bool.false_eq_true Bool.true_eq_false List.toList_toArray Nat.le_refl List.drop_nil List.take_nil get_bump nx_bump
theorem in_ok (n lo hi : Int) (s : AHeap) : ACall Tryz.prog 40 [.int .i64 n, .int .i64 lo, .int .i64 hi] s fun v t => v = .bool (decide (lo ≤ n ∧ n ≤ hi)) ∧ t = s := by
  refine go40 (by simp) ?_
  intro tm hlen harg
  simp +contextual only [L40, hlen, harg, go_sem, Nat.reduceLT, Nat.reduceEqDiff, Nat.reduceAdd, Nat.reduceLeDiff, reduceIte, reduceCtorEq]
  refine ⟨fun h => by simp [h], fun h => by simp [h]⟩
theorem refin_ok (n lo hi : Int) (s : AHeap) : ACall Tryz.prog 52 [.int .i64 n, .int .i64 lo, .int .i64 hi] s fun v t => v = .bool (decide (lo ≤ n ∧ n ≤ hi)) ∧ t = s := by
  refine go52 (by simp) ?_
  intro tm hlen harg
  simp +contextual only [L52, hlen, harg, go_sem, Nat.reduceLT, Nat.reduceEqDiff, Nat.reduceAdd, Nat.reduceLeDiff, reduceIte, reduceCtorEq]
  refine ⟨fun h => by simp [h], fun h => by simp [h]⟩
def scan (n : Int) : Int → List Ed → Int
  | _, [] => 0
  | behind, e :: r =>
    if ¬ (0 ≤ e.at_ ∧ e.at_ ≤ n) then 1
    else if ¬ (0 ≤ e.cut ∧ e.cut ≤ n - e.at_) then 1
    else if e.cut = 0 ∧ e.new = [] then 3
    else if e.at_ ≤ behind then 7
    else scan n (e.at_ + e.cut) r
def faultOf (n : Int) (l : List Ed) : Int :=
  if ¬ (0 ≤ n ∧ n ≤ 20000) then 1
  else if 2000 < l.length then 2
  else if scan n (-1) l ≠ 0 then scan n (-1) l
  else if 20000 < longOf n l then 2
  else 0
theorem faultOf_scan {n : Int} {l : List Ed} {f : Int} (hn : 0 ≤ n ∧ n ≤ 20000) (h2 : ¬ 2000 < (l.length : Int)) (h : scan n (-1) l = f) (hf : f ≠ 0) : faultOf n l = f := by
  rw [faultOf, if_neg (Classical.not_not.2 hn), if_neg (by omega), if_pos (by rw [h]; exact hf), h]
theorem faultOf_end {n : Int} {l : List Ed} (hn : 0 ≤ n ∧ n ≤ 20000) (h2 : ¬ 2000 < (l.length : Int)) (h : scan n (-1) l = 0) : faultOf n l = if 20000 < longOf n l then 2 else 0 := by
  rw [faultOf, if_neg (Classical.not_not.2 hn), if_neg (by omega), if_neg (by rw [h]; simp)]
theorem check_ok (n : Int) (v : AV) (l : List Ed) (hv : SlE v l) (hl : l.length < 4611686018427387904) (s : AHeap) : ACall Tryz.prog 37 [.int .i64 n, v] s fun r t => r = .int .i64 (faultOf n l) ∧ Sub s t := by
  refine go37 (by simp) ?_
  intro tm hlen harg
  simp +contextual only [L37, hlen, harg, go_sem, Nat.reduceLT, Nat.reduceEqDiff, Nat.reduceAdd, Nat.reduceLeDiff, reduceIte, reduceCtorEq]
  refine lcall_eq (in_ok _ _ _ _) ?_
  simp +contextual only [hlen, harg, hv.len, go_sem, Nat.reduceLT, Nat.reduceEqDiff, Nat.reduceAdd, Nat.reduceLeDiff, reduceIte, reduceCtorEq]
  refine ⟨fun hn => ?_, fun hn => ⟨fun h2 => ?_, fun h2 => ?_⟩⟩
  · exact ⟨by simp only [faultOf, if_pos hn], .refl s⟩
  · exact ⟨by rw [faultOf, if_neg (Classical.not_not.2 hn), if_pos (by omega)], .refl s⟩
  · refine ⟨fun k tm' s' => ∃ (i : Nat) (B : Int), k + i = l.length ∧ tm'.length = 62 ∧ aev tm' (.tmp 0) = .int .i64 n ∧ aev tm' (.tmp 1) = v ∧ aev tm' (.tmp 5) = .int .i64 B ∧ -1 ≤ B ∧ B ≤ n ∧ aev tm' (.tmp 16) = v ∧
        aev tm' (.tmp 17) = .int .i64 l.length ∧ aev tm' (.tmp 18) = .int .i64 i ∧ scan n (-1) l = scan n B (l.drop i) ∧ Sub s s', l.length, ⟨0, -1, by simp, ?_⟩, ?_⟩
    · simp [length_aput, hlen, aev_same, aev_ne, harg, Sub.refl]
      omega
    · rintro k tm1 s1 ⟨i, B, hk, hlen1, q0, q1, q5, hB0, hB1, q16, q17, q18, hsc, hs⟩
      simp +contextual only [hlen1, q0, q1, q5, q16, q17, q18, go_sem, Nat.reduceLT, Nat.reduceEqDiff, Nat.reduceAdd, Nat.reduceLeDiff, reduceIte, reduceCtorEq]
      refine ⟨fun hlt => ?_, fun hge => ?_⟩
      · have hi : i < l.length := by omega
        have he := List.getElem?_eq_getElem hi
        have hdrop := List.drop_eq_getElem_cons hi
        generalize l[i] = e at he hdrop
        have hS := (hs.new (.cells [.int .i64 0, .int .i64 0, .str []] (some 37))).upd hs.1 (.cells [.int .i64 e.at_, .int .i64 e.cut, .str e.new] (some 37))
        simp +contextual only [hlen1, q0, q1, q5, q16, q17, q18, hv.at he, go_sem, Nat.reduceLT, Nat.reduceEqDiff, Nat.reduceAdd, Nat.reduceLeDiff, reduceIte, reduceCtorEq]
        refine lcall_eq (in_ok _ _ _ _) ?_
        simp +contextual only [hlen1, q0, q1, q5, q16, q17, q18, go_sem, Nat.reduceLT, Nat.reduceEqDiff, Nat.reduceAdd, Nat.reduceLeDiff, reduceIte, reduceCtorEq]
        have hw1 : IntKind.i64.wrap ((i : Int) + 1) = ((i + 1 : Nat) : Int) := by rw [wrap_id (by omega)]; rfl
        rw [hdrop] at hsc
        refine ⟨fun c1 => ⟨?_, hS⟩, fun c1 => ?_⟩
        · rw [faultOf_scan hn h2 (by rw [hsc, scan, if_pos c1]) (by decide)]
        · have hw2 : IntKind.i64.wrap (n - e.at_) = n - e.at_ := wrap_id (by omega)
          simp only [hw2]
          refine lcall_eq (in_ok _ _ _ _) ?_
          simp +contextual only [hlen1, q0, q1, q5, q16, q17, q18, go_sem, Nat.reduceLT, Nat.reduceEqDiff, Nat.reduceAdd, Nat.reduceLeDiff, reduceIte, reduceCtorEq]
          have hSS : ∀ o o', Sub s ((s1.new o).upd s1.nx o') := fun o o' => (hs.new o).upd hs.1 o'
          have c1' := Classical.not_not.2 c1
          have fin : ∀ B', B' = e.at_ + e.cut → (0 ≤ e.cut ∧ e.cut ≤ n - e.at_) → ¬ (e.cut = 0 ∧ e.new = []) → ¬ e.at_ ≤ B → scan n (-1) l = scan n B' (l.drop (i + 1)) := by
            rintro B' rfl c2 c3 c4
            rw [hsc, scan, if_neg c1', if_neg (Classical.not_not.2 c2), if_neg c3, if_neg c4]
          refine ⟨fun c2 => ⟨?_, hSS _ _⟩, fun c2 => ⟨fun c3 => ⟨fun c4 => ⟨?_, hSS _ _⟩, fun c4 => ⟨fun c5 => ⟨?_, hSS _ _⟩, fun c5 => ?_⟩⟩, fun c3 => ⟨fun c5 => ⟨?_, hSS _ _⟩, fun c5 => ?_⟩⟩⟩
          · rw [faultOf_scan hn h2 (by rw [hsc, scan, if_neg c1', if_pos c2]) (by decide)]
          · rw [faultOf_scan hn h2 (by rw [hsc, scan, if_neg c1', if_neg (Classical.not_not.2 c2), if_pos ⟨c3, c4⟩]) (by decide)]
          · rw [faultOf_scan hn h2 (by rw [hsc, scan, if_neg c1', if_neg (Classical.not_not.2 c2), if_neg (fun q => c4 q.2), if_pos c5]) (by decide)]
          · refine ⟨k - 1, by omega, i + 1, e.at_, by omega, by rw [wrap_id (by omega), Int.add_zero], by omega, by omega, by rw [hw1], ?_, hSS _ _⟩
            exact fin e.at_ (by omega) c2 (fun q => c4 q.2) c5
          · rw [faultOf_scan hn h2 (by rw [hsc, scan, if_neg c1', if_neg (Classical.not_not.2 c2), if_neg (fun q => c3 q.1), if_pos c5]) (by decide)]
          · refine ⟨k - 1, by omega, i + 1, e.at_ + e.cut, by omega, by rw [wrap_id (by omega)], by omega, by omega, by rw [hw1], ?_, hSS _ _⟩
            exact fin _ rfl c2 (fun q => c3 q.1) c5
      · have hi : i = l.length := by omega
        have hz : scan n (-1) l = 0 := by rw [hsc, hi, List.drop_length]; rfl
        refine lcall_of (long_ok n v l hv hl s1) ?_
        rintro _ t ⟨rfl, ht⟩
        simp +contextual only [hlen1, q0, q1, q5, q16, q17, q18, go_sem, Nat.reduceLT, Nat.reduceEqDiff, Nat.reduceAdd, Nat.reduceLeDiff, reduceIte, reduceCtorEq]
        rw [faultOf_end hn h2 hz]
        refine ⟨fun c => ⟨by rw [if_pos c], hs.trans ht⟩, fun c => ⟨by rw [if_neg c], hs.trans ht⟩⟩
end Go.S1
end
section
namespace Go.S1
open Go Go.Am Go.Proofs
set_option maxRecDepth 100000
attribute [local go_sem] lvc_seq lvc_draw lvc_ops lvc_skip lvc_block lvc_exit lops_nil lops_cons lops_guard lstep_move lstep_assign lstep_binOp lstep_unOp lstep_pick lstep_nilCheck lstep_build lstep_slice lstep_fieldAddr lstep_indexAddr lstep_extract lstep_makeFunc lstep_load lstep_store lstep_makeSlice lstep_buildSlice lstep_len lstep_append lstep_call lfun_func athen_normal athen_ret athen_exit ablock_normal ablock_ret ablock_exit ablock_exit_ne lvc_ret lvc_cond lvc_loop length_aput aput_none aev_same aev_ne aev_bool aev_int aev_str aev_nilIface aev_nilp aev_nils aev_nilm aev_func List.getD_cons_zero List.getD_cons_succ List.map_cons List.map_nil Option.map_some Option.map_none List.nil_append List.append_nil abin_add abin_sub abin_mul abin_eql abin_neq abin_lss abin_leq abin_gtr abin_geq abin_seql abin_sneq lval_some lmem_some bool?_bool ne_eq not_false_eq_true lpost_ret1 lcond_true lcond_false lcond_decide lcond_not lguard_decide_true lguard_decide_false lguard_true_true lguard_true_false lguard_false_false lguard_false_true apick_true apick_false decide_true decide_false lstep_min lstep_max amin2_int amax2_int aun_not_decide aun_not_true aun_not_false aun_neg not_true_eq_false Classical.not_not al3 al9 al27 al37 ld3 st3 ld9 st9 len9 ld22 len22r fa25_0p fa25_1p ld27 st27 len27n ld29 fa37_0p fa37_0r fa37_1p fa37_1r fa37_2p fa37_2r ld37 st37 len58r len75r acellsAt_r acellsAt_p astoreAt_p cells?_some Option.bind_some AV.ofV AV.ofOne AV.israw AV.cells splice AHeap.get_new AHeap.get_upd AHeap.nx_new AHeap.nx_upd List.drop_zero List.drop_succ_cons List.take_succ_cons List.take_zero List.length_cons List.length_nil List.all_cons List.all_nil AV.one List.set_cons_zero List.set_cons_succ List.getElem?_cons_zero List.getElem?_cons_succ Nat.zero_add Nat.add_zero Bool.and_true and_self and_true true_and if_true if_false ite_true ite_false Bool.false_eq_true Bool.true_eq_false List.toList_toArray Nat.le_refl List.drop_nil List.take_nil get_bump nx_bump
theorem fault_ok (n : Int) (v : AV) (l : List Ed) (hv : SlE v l) (hl : l.length < 4611686018427387904) (s : AHeap) : ACall Tryz.prog 30 [.int .i64 n, v] s fun r t => r = .int .i64 (faultOf n l) ∧ Sub s t := by
  refine go30 (by simp) ?_
  intro tm hlen harg
  simp +contextual only [L30, hlen, harg, go_sem, Nat.reduceLT, Nat.reduceEqDiff, Nat.reduceAdd, Nat.reduceLeDiff, reduceIte, reduceCtorEq]
  refine lcall_eq (refin_ok _ _ _ _) ?_
  simp +contextual only [hlen, harg, hv.len, go_sem, Nat.reduceLT, Nat.reduceEqDiff, Nat.reduceAdd, Nat.reduceLeDiff, reduceIte, reduceCtorEq]
  refine ⟨fun hn => ?_, fun hn => ⟨fun h2 => ?_, fun h2 => ?_⟩⟩
  · exact ⟨by simp only [faultOf, if_pos hn], .refl s⟩
  · exact ⟨by rw [faultOf, if_neg (Classical.not_not.2 hn), if_pos (by omega)], .refl s⟩
  · refine ⟨fun k tm' s' => ∃ (i : Nat) (B : Int), k + i = l.length ∧ tm'.length = 70 ∧ aev tm' (.tmp 0) = .int .i64 n ∧ aev tm' (.tmp 1) = v ∧ aev tm' (.tmp 5) = .int .i64 B ∧ -1 ≤ B ∧ B ≤ n ∧ aev tm' (.tmp 6) = .int .i64 (longOf n (l.take i)) ∧ aev tm' (.tmp 18) = v ∧
        aev tm' (.tmp 19) = .int .i64 l.length ∧ aev tm' (.tmp 20) = .int .i64 i ∧ scan n (-1) l = scan n B (l.drop i) ∧ Sub s s', l.length, ⟨0, -1, by simp, ?_⟩, ?_⟩
    · simp [length_aput, hlen, aev_same, aev_ne, harg, Sub.refl, longOf]
      omega
    · rintro k tm1 s1 ⟨i, B, hk, hlen1, q0, q1, q5, hB0, hB1, q6, q16, q17, q18, hsc, hs⟩
      simp +contextual only [hlen1, q0, q1, q5, q6, q16, q17, q18, go_sem, Nat.reduceLT, Nat.reduceEqDiff, Nat.reduceAdd, Nat.reduceLeDiff, reduceIte, reduceCtorEq]
      refine ⟨fun hlt => ?_, fun hge => ?_⟩
      · have hi : i < l.length := by omega
        have he := List.getElem?_eq_getElem hi
        have hdrop := List.drop_eq_getElem_cons hi
        obtain ⟨e, hei⟩ : ∃ e, l[i] = e := ⟨_, rfl⟩
        rw [hei] at he hdrop
        have hS := (hs.new (.cells [.int .i64 0, .int .i64 0, .str []] (some 37))).upd hs.1 (.cells [.int .i64 e.at_, .int .i64 e.cut, .str e.new] (some 37))
        simp +contextual only [hlen1, q0, q1, q5, q6, q16, q17, q18, hv.at he, go_sem, Nat.reduceLT, Nat.reduceEqDiff, Nat.reduceAdd, Nat.reduceLeDiff, reduceIte, reduceCtorEq]
        refine lcall_eq (refin_ok _ _ _ _) ?_
        simp +contextual only [hlen1, q0, q1, q5, q6, q16, q17, q18, go_sem, Nat.reduceLT, Nat.reduceEqDiff, Nat.reduceAdd, Nat.reduceLeDiff, reduceIte, reduceCtorEq]
        have hw1 : IntKind.i64.wrap ((i : Int) + 1) = ((i + 1 : Nat) : Int) := by rw [wrap_id (by omega)]; rfl
        rw [hdrop] at hsc
        refine ⟨fun c1 => ⟨?_, hS⟩, fun c1 => ?_⟩
        · rw [faultOf_scan hn h2 (by rw [hsc, scan, if_pos c1]) (by decide)]
        · have hw2 : IntKind.i64.wrap (n - e.at_) = n - e.at_ := wrap_id (by omega)
          simp only [hw2]
          refine lcall_eq (refin_ok _ _ _ _) ?_
          simp +contextual only [hlen1, q0, q1, q5, q6, q16, q17, q18, go_sem, Nat.reduceLT, Nat.reduceEqDiff, Nat.reduceAdd, Nat.reduceLeDiff, reduceIte, reduceCtorEq]
          have hSS : ∀ o o', Sub s ((s1.new o).upd s1.nx o') := fun o o' => (hs.new o).upd hs.1 o'
          have c1' := Classical.not_not.2 c1
          have fin : ∀ B', B' = e.at_ + e.cut → (0 ≤ e.cut ∧ e.cut ≤ n - e.at_) → ¬ (e.cut = 0 ∧ e.new = []) → ¬ e.at_ ≤ B → scan n (-1) l = scan n B' (l.drop (i + 1)) := by
            rintro B' rfl c2 c3 c4
            rw [hsc, scan, if_neg c1', if_neg (Classical.not_not.2 c2), if_neg c3, if_neg c4]
          refine ⟨fun c2 => ⟨?_, hSS _ _⟩, fun c2 => ⟨fun c3 => ⟨fun c4 => ⟨?_, hSS _ _⟩, fun c4 => ⟨fun c5 => ⟨?_, hSS _ _⟩, fun c5 => ?_⟩⟩, fun c3 => ⟨fun c5 => ⟨?_, hSS _ _⟩, fun c5 => ?_⟩⟩⟩
          · rw [faultOf_scan hn h2 (by rw [hsc, scan, if_neg c1', if_pos c2]) (by decide)]
          · rw [faultOf_scan hn h2 (by rw [hsc, scan, if_neg c1', if_neg (Classical.not_not.2 c2), if_pos ⟨c3, c4⟩]) (by decide)]
          · rw [faultOf_scan hn h2 (by rw [hsc, scan, if_neg c1', if_neg (Classical.not_not.2 c2), if_neg (fun q => c4 q.2), if_pos c5]) (by decide)]
          · refine ⟨k - 1, by omega, i + 1, e.at_, by omega, by rw [wrap_id (by omega), Int.add_zero], by omega, by omega, ?_, by rw [hw1], ?_, hSS _ _⟩
            · rw [List.take_succ_eq_append_getElem hi]
              simp only [longOf, List.foldl_append, List.foldl_cons, List.foldl_nil, hei, c3]
            exact fin e.at_ (by omega) c2 (fun q => c4 q.2) c5
          · rw [faultOf_scan hn h2 (by rw [hsc, scan, if_neg c1', if_neg (Classical.not_not.2 c2), if_neg (fun q => c3 q.1), if_pos c5]) (by decide)]
          · refine ⟨k - 1, by omega, i + 1, e.at_ + e.cut, by omega, by rw [wrap_id (by omega)], by omega, by omega, ?_, by rw [hw1], ?_, hSS _ _⟩
            · rw [List.take_succ_eq_append_getElem hi]
              simp only [longOf, List.foldl_append, List.foldl_cons, List.foldl_nil, hei]
            exact fin _ rfl c2 (fun q => c3 q.1) c5
      · have hi : i = l.length := by omega
        have hz : scan n (-1) l = 0 := by rw [hsc, hi, List.drop_length]; rfl
        rw [faultOf_end hn h2 hz, hi, List.take_length]
        refine ⟨fun c => ⟨by rw [if_pos c], hs⟩, fun c => ⟨by rw [if_neg c], hs⟩⟩
end Go.S1
end
section
namespace Go.S1
open Go Go.Am Go.Proofs
set_option maxRecDepth 100000
attribute [local go_sem] lvc_seq lvc_draw lvc_ops lvc_skip lvc_block lvc_exit lops_nil lops_cons lops_guard lstep_move lstep_assign lstep_binOp lstep_unOp lstep_pick lstep_nilCheck lstep_build lstep_slice lstep_fieldAddr lstep_indexAddr lstep_extract lstep_makeFunc lstep_load lstep_store lstep_makeSlice lstep_buildSlice lstep_len lstep_append lstep_call lfun_func athen_normal athen_ret athen_exit ablock_normal ablock_ret ablock_exit ablock_exit_ne lvc_ret lvc_cond lvc_loop length_aput aput_none aev_same aev_ne aev_bool aev_int aev_str aev_nilIface aev_nilp aev_nils aev_nilm aev_func List.getD_cons_zero List.getD_cons_succ List.map_cons List.map_nil Option.map_some Option.map_none List.nil_append List.append_nil abin_add abin_sub abin_mul abin_eql abin_neq abin_lss abin_leq abin_gtr abin_geq abin_seql abin_sneq lval_some lmem_some bool?_bool ne_eq not_false_eq_true lpost_ret1 lcond_true lcond_false lcond_decide lcond_not lguard_decide_true lguard_decide_false lguard_true_true lguard_true_false lguard_false_false lguard_false_true apick_true apick_false decide_true decide_false lstep_min lstep_max amin2_int amax2_int aun_not_decide aun_not_true aun_not_false aun_neg not_true_eq_false Classical.not_not al3 al9 al27 al37 ld3 st3 ld9 st9 len9 ld22 len22r fa25_0p fa25_1p ld27 st27 len27n ld29 fa37_0p fa37_0r fa37_1p fa37_1r fa37_2p fa37_2r ld37 st37 len58r len75r acellsAt_r acellsAt_p astoreAt_p cells?_some Option.bind_some AV.ofV AV.ofOne AV.israw AV.cells splice AHeap.get_new AHeap.get_upd AHeap.nx_new AHeap.nx_upd List.drop_zero List.drop_succ_cons List.take_succ_cons List.take_zero List.length_cons List.length_nil List.all_cons List.all_nil AV.one List.set_cons_zero List.set_cons_succ List.getElem?_cons_zero List.getElem?_cons_succ Nat.zero_add Nat.add_zero Bool.and_true and_self and_true true_and if_true if_false ite_true ite_false Bool.false_eq_true Bool.true_eq_false List.toList_toArray Nat.le_refl List.drop_nil List.take_nil get_bump nx_bump
end Go.S1
end
section
namespace Go.S1
open Go Go.Am Go.Proofs
set_option maxRecDepth 100000
attribute [local go_sem] lvc_seq lvc_draw lvc_ops lvc_skip lvc_block lvc_exit lops_nil lops_cons lops_guard lstep_move lstep_assign lstep_binOp lstep_unOp lstep_pick lstep_nilCheck lstep_build lstep_slice lstep_fieldAddr lstep_indexAddr lstep_extract lstep_makeFunc lstep_load lstep_store lstep_makeSlice lstep_buildSlice lstep_len lstep_append lstep_call lfun_func athen_normal athen_ret athen_exit ablock_normal ablock_ret ablock_exit ablock_exit_ne lvc_ret lvc_cond lvc_loop length_aput aput_none aev_same aev_ne aev_bool aev_int aev_str aev_nilIface aev_nilp aev_nils aev_nilm aev_func List.getD_cons_zero List.getD_cons_succ List.map_cons List.map_nil Option.map_some Option.map_none List.nil_append List.append_nil abin_add abin_sub abin_mul abin_eql abin_neq abin_lss abin_leq abin_gtr abin_geq abin_seql abin_sneq lval_some lmem_some bool?_bool ne_eq not_false_eq_true lpost_ret1 lcond_true lcond_false lcond_decide lcond_not lguard_decide_true lguard_decide_false lguard_true_true lguard_true_false lguard_false_false lguard_false_true apick_true apick_false decide_true decide_false lstep_min lstep_max amin2_int amax2_int aun_not_decide aun_not_true aun_not_false aun_neg not_true_eq_false Classical.not_not al3 al9 al27 al37 ld3 st3 ld9 st9 len9 ld22 len22r fa25_0p fa25_1p ld27 st27 len27n ld29 fa37_0p fa37_0r fa37_1p fa37_1r fa37_2p fa37_2r ld37 st37 len58r len75r acellsAt_r acellsAt_p astoreAt_p cells?_some Option.bind_some AV.ofV AV.ofOne AV.israw AV.cells splice AHeap.get_new AHeap.get_upd AHeap.nx_new AHeap.nx_upd List.drop_zero List.drop_succ_cons List.take_succ_cons List.take_zero List.length_cons List.length_nil List.all_cons List.all_nil AV.one List.set_cons_zero List.set_cons_succ List.getElem?_cons_zero List.getElem?_cons_succ Nat.zero_add Nat.add_zero Bool.and_true and_self and_true true_and if_true if_false ite_true ite_false Bool.false_eq_true Bool.true_eq_false List.toList_toArray Nat.le_refl List.drop_nil List.take_nil get_bump nx_bump
def errsOf : List Int → Int
  | [] => 0
  | e :: r => if e ≠ 0 then e else errsOf r
theorem rs_at107 {b n i : Nat} (h1 : i < n) : aindexAddr tab 58 (.rs 1 b 0 n) (.int .i64 i) = some (.ptr b i) := by
  have : (i : Int) < n := by omega
  simp [aindexAddr, ty58, Tab.size, ty29, this]
theorem errs_ok (c : Nat) (l : List Int) (To : Option TypeId) (hl : l.length < 1000) (s : AHeap) (hc : s.get c = some (.cells (l.map (AV.int .i64)) To)) :
    ACall Tryz.prog 13 [.rs 1 c 0 l.length] s fun v t => v = .int .i64 (errsOf l) ∧ t = s := by
  refine go13 (by simp) ?_
  intro tm hlen harg
  simp +contextual only [L13, hlen, harg, go_sem, Nat.reduceLT, Nat.reduceEqDiff, Nat.reduceAdd, Nat.reduceLeDiff, reduceIte, reduceCtorEq]
  refine ⟨fun k tm' s' => ∃ i : Nat, k + i = l.length ∧ tm'.length = 15 ∧ aev tm' (.tmp 5) = .rs 1 c 0 l.length ∧ aev tm' (.tmp 6) = .int .i64 l.length ∧ aev tm' (.tmp 7) = .int .i64 i ∧ errsOf l = errsOf (l.drop i) ∧ s' = s, l.length, ⟨0, by simp, ?_⟩, ?_⟩
  · simp [length_aput, hlen, aev_same, aev_ne, harg]
  · rintro k tm1 s1 ⟨i, hk, hlen1, q5, q6, q7, hm, rfl⟩
    simp +contextual only [hlen1, q5, q6, q7, go_sem, Nat.reduceLT, Nat.reduceEqDiff, Nat.reduceAdd, Nat.reduceLeDiff, reduceIte, reduceCtorEq]
    refine ⟨fun hlt => ?_, fun hge => ?_⟩
    · have hi : i < l.length := by omega
      have hdrop := List.drop_eq_getElem_cons hi
      have hd : (List.drop i (l.map (AV.int .i64)))[0]? = some (.int .i64 l[i]) := by simp [hi]
      generalize l[i] = e at hdrop hd
      have hw1 : IntKind.i64.wrap ((i : Int) + 1) = ((i + 1 : Nat) : Int) := by rw [wrap_id (by omega)]; rfl
      rw [hdrop] at hm
      simp +contextual only [hlen1, q5, q6, q7, rs_at107 hi, hc, hd, go_sem, Nat.reduceLT, Nat.reduceEqDiff, Nat.reduceAdd, Nat.reduceLeDiff, reduceIte, reduceCtorEq]
      refine ⟨fun c1 => ?_, fun c1 => ⟨k - 1, by omega, i + 1, by omega, by rw [hw1], ?_⟩⟩
      · rw [hm, errsOf, if_pos c1]
      · rw [hm, errsOf, if_neg (by simp [c1])]
    · have hi : i = l.length := by omega
      rw [hm, hi, List.drop_length]
      rfl
end Go.S1
end
section
namespace Go.S1
open Go Go.Am Go.Proofs
set_option maxRecDepth 100000
attribute [local go_sem] lvc_seq lvc_draw lvc_ops lvc_skip lvc_block lvc_exit lops_nil lops_cons lops_guard lstep_move lstep_assign lstep_binOp lstep_unOp lstep_pick lstep_nilCheck lstep_build lstep_slice lstep_fieldAddr lstep_indexAddr lstep_extract lstep_makeFunc lstep_load lstep_store lstep_makeSlice lstep_buildSlice lstep_len lstep_append lstep_call lfun_func athen_normal athen_ret athen_exit ablock_normal ablock_ret ablock_exit ablock_exit_ne lvc_ret lvc_cond lvc_loop length_aput aput_none aev_same aev_ne aev_bool aev_int aev_str aev_nilIface aev_nilp aev_nils aev_nilm aev_func List.getD_cons_zero List.getD_cons_succ List.map_cons List.map_nil Option.map_some Option.map_none List.nil_append List.append_nil abin_add abin_sub abin_mul abin_eql abin_neq abin_lss abin_leq abin_gtr abin_geq abin_seql abin_sneq lval_some lmem_some bool?_bool ne_eq not_false_eq_true lpost_ret1 lcond_true lcond_false lcond_decide lcond_not lguard_decide_true lguard_decide_false lguard_true_true lguard_true_false lguard_false_false lguard_false_true apick_true apick_false decide_true decide_false lstep_min lstep_max amin2_int amax2_int aun_not_decide aun_not_true aun_not_false aun_neg not_true_eq_false Classical.not_not al3 al9 al27 al37 ld3 st3 ld9 st9 len9 ld22 len22r fa25_0p fa25_1p ld27 st27 len27n ld29 fa37_0p fa37_0r fa37_1p fa37_1r fa37_2p fa37_2r ld37 st37 len58r len75r acellsAt_r acellsAt_p astoreAt_p cells?_some Option.bind_some AV.ofV AV.ofOne AV.israw AV.cells splice AHeap.get_new AHeap.get_upd AHeap.nx_new AHeap.nx_upd List.drop_zero List.drop_succ_cons List.take_succ_cons List.take_zero List.length_cons List.length_nil List.all_cons List.all_nil AV.one List.set_cons_zero List.set_cons_succ List.getElem?_cons_zero List.getElem?_cons_succ Nat.zero_add Nat.add_zero Bool.and_true and_self and_true true_and if_true if_false ite_true ite_false Bool.false_eq_true Bool.true_eq_false List.toList_toArray Nat.le_refl List.drop_nil List.take_nil get_bump nx_bump
def bytes (x : List UInt8) : List AV := x.map fun b => .int .u8 b.toNat
structure Bld (s : AHeap) (b : Nat) (y : AV) (x : List UInt8) : Prop where
  get : ∃ p, (p = .nilp ∨ p = .ptr b 0) ∧ s.get b = some (.cells [p, y] (some 107))
  lt : b < s.nx
  buf : (y = .nils ∧ x = []) ∨ ∃ c, c ≠ b ∧ c < s.nx ∧ y = .rs 1 c 0 x.length ∧ x ≠ [] ∧ s.get c = some (.cells (bytes x) (some 5))
def Own (y : AV) (m : Nat) : Prop := ∃ n, y = .rs 1 m 0 n
structure Wrote (s : AHeap) (b : Nat) (y : AV) (x : List UInt8) (t : AHeap) : Prop where
  nx : s.nx ≤ t.nx
  keep : ∀ m o, m < s.nx → m ≠ b → ¬ Own y m → s.get m = some o → t.get m = some o
  bld : ∃ y', Bld t b y' x ∧ ∀ m, Own y' m → Own y m ∨ s.nx ≤ m
end Go.S1
end
section
namespace Go.S1
open Go Go.Am Go.Proofs
set_option maxRecDepth 100000
attribute [local go_sem] lvc_seq lvc_draw lvc_ops lvc_skip lvc_block lvc_exit lops_nil lops_cons lops_guard lstep_move lstep_assign lstep_binOp lstep_unOp lstep_pick lstep_nilCheck lstep_build lstep_slice lstep_fieldAddr lstep_indexAddr lstep_extract lstep_makeFunc lstep_load lstep_store lstep_makeSlice lstep_buildSlice lstep_len lstep_append lstep_call lfun_func athen_normal athen_ret athen_exit ablock_normal ablock_ret ablock_exit ablock_exit_ne lvc_ret lvc_cond lvc_loop length_aput aput_none aev_same aev_ne aev_bool aev_int aev_str aev_nilIface aev_nilp aev_nils aev_nilm aev_func List.getD_cons_zero List.getD_cons_succ List.map_cons List.map_nil Option.map_some Option.map_none List.nil_append List.append_nil abin_add abin_sub abin_mul abin_eql abin_neq abin_lss abin_leq abin_gtr abin_geq abin_seql abin_sneq lval_some lmem_some bool?_bool ne_eq not_false_eq_true lpost_ret1 lcond_true lcond_false lcond_decide lcond_not lguard_decide_true lguard_decide_false lguard_true_true lguard_true_false lguard_false_false lguard_false_true apick_true apick_false decide_true decide_false lstep_min lstep_max amin2_int amax2_int aun_not_decide aun_not_true aun_not_false aun_neg not_true_eq_false Classical.not_not al3 al9 al27 al37 ld3 st3 ld9 st9 len9 ld22 len22r fa25_0p fa25_1p ld27 st27 len27n ld29 fa37_0p fa37_0r fa37_1p fa37_1r fa37_2p fa37_2r ld37 st37 len58r len75r acellsAt_r acellsAt_p astoreAt_p cells?_some Option.bind_some AV.ofV AV.ofOne AV.israw AV.cells splice AHeap.get_new AHeap.get_upd AHeap.nx_new AHeap.nx_upd List.drop_zero List.drop_succ_cons List.take_succ_cons List.take_zero List.length_cons List.length_nil List.all_cons List.all_nil AV.one List.set_cons_zero List.set_cons_succ List.getElem?_cons_zero List.getElem?_cons_succ Nat.zero_add Nat.add_zero Bool.and_true and_self and_true true_and if_true if_false ite_true ite_false Bool.false_eq_true Bool.true_eq_false List.toList_toArray Nat.le_refl List.drop_nil List.take_nil get_bump nx_bump ldrun_nil ldrun_cons ldrun_guard ldval_some List.cons_append lallocs ldlen_some ldmem_some AHeap.upds List.foldl_nil List.foldl_cons
theorem abin_sadd {t : TypeId} {a b : List UInt8} (h : a.length + b.length ≤ 9223372036854775807) : abin tab .add t (.str a) (.str b) = some (.str (a ++ b)) := by
  have hm : IntKind.i64.max = 9223372036854775807 := rfl
  have : ¬ (((a.length + b.length : Nat) : Int) > IntKind.i64.max) := by rw [hm]; omega
  simp only [abin, abin1, astr, if_neg this]
theorem slice9a {x : List UInt8} {lo : Int} (h0 : 0 ≤ lo) (h2 : lo ≤ x.length) : aslice tab 9 (.str x) (some (.int .i64 lo)) none none = some (.str (x.drop lo.toNat)) := by
  have e : List.take (x.length - lo.toNat) (x.drop lo.toNat) = x.drop lo.toNat := List.take_of_length_le (by simp)
  simp [aslice, ty9, abounds, aidx, h0, h2, e]
theorem scan_cons {n B : Int} {e : Ed} {r : List Ed} (h : scan n B (e :: r) = 0) : 0 ≤ e.at_ ∧ e.at_ ≤ n ∧ 0 ≤ e.cut ∧ e.cut ≤ n - e.at_ ∧ B < e.at_ ∧ scan n (e.at_ + e.cut) r = 0 := by
  rw [scan] at h
  split at h
  · cases h
  · split at h
    · cases h
    · split at h
      · cases h
      · split at h
        · cases h
        · omega
end Go.S1
end
section
namespace Go.S1
open Go Go.Am Go.Proofs
set_option maxRecDepth 100000
theorem build35_3 {a b : Int} {c : List UInt8} : abuild tab 37 [(0, .int .i64 a), (1, .int .i64 b), (2, .str c)] = some (.agg [.int .i64 a, .int .i64 b, .str c]) := by
  simp [abuild, ty37, Tab.size, ty3, ty9, AV.ofV, AV.ofOne, afill, AV.israw, AV.cells, splice]
end Go.S1
end
section
namespace Go.S1
open Go Go.Am Go.Proofs
set_option maxRecDepth 100000
def letters (L : List (Int × UInt8)) : List AV := L.flatMap fun p => [.int .i64 p.1, .int .u8 p.2.toNat]
def Own2 (y : AV) (m : Nat) : Prop := ∃ n, y = .rs 2 m 0 n
structure Flow (s : AHeap) (F : Nat) (n : Int) (y : AV) (L : List (Int × UInt8)) : Prop where
  get : s.get F = some (.cells [.int .i64 n, y] (some 987650118))
  lt : F < s.nx
  buf : (y = .nils ∧ L = []) ∨ ∃ c, c ≠ F ∧ c < s.nx ∧ y = .rs 2 c 0 L.length ∧ L ≠ [] ∧ s.get c = some (.cells (letters L) (some 987650121))
def runOf (a k : Nat) : List (Int × UInt8) := (List.range' a k).map fun (i : Nat) => ((i : Int), (0 : UInt8))
structure Flowed (s : AHeap) (F A : Nat) (n : Int) (y : AV) (L : List (Int × UInt8)) (a : Int) (t : AHeap) : Prop where
  nx : s.nx ≤ t.nx
  keep : ∀ m o, m < s.nx → m ≠ F → m ≠ A → ¬ Own2 y m → s.get m = some o → t.get m = some o
  at_ : t.get A = some (.cells [.int .i64 a] (some 3))
  flow : ∃ y', Flow t F n y' L ∧ ¬ Own2 y' A ∧ ∀ m, Own2 y' m → Own2 y m ∨ s.nx ≤ m
end Go.S1
end
section
namespace Go.S1
open Go Go.Am Go.Proofs
set_option maxRecDepth 100000
def flowFrom (n : Nat) : Nat → List Ed → List (Int × UInt8)
  | a, [] => runOf a (n - a)
  | a, e :: r => runOf a (e.at_.toNat - a) ++ e.new.map (fun c => ((-1 : Int), c)) ++ flowFrom n (e.at_ + e.cut).toNat r
end Go.S1
end
section
namespace Go.S1
open Go Go.Am Go.Proofs
set_option maxRecDepth 100000
end Go.S1
end
section
namespace Go.S1
open Go Go.Am Go.Proofs
set_option maxRecDepth 100000
attribute [local go_sem] lvc_seq lvc_draw lvc_ops lvc_skip lvc_block lvc_exit lops_nil lops_cons lops_guard lstep_move lstep_assign lstep_binOp lstep_unOp lstep_pick lstep_nilCheck lstep_build lstep_slice lstep_fieldAddr lstep_indexAddr lstep_extract lstep_makeFunc lstep_load lstep_store lstep_makeSlice lstep_buildSlice lstep_len lstep_append lstep_call lfun_func athen_normal athen_ret athen_exit ablock_normal ablock_ret ablock_exit ablock_exit_ne lvc_ret lvc_cond lvc_loop length_aput aput_none aev_same aev_ne aev_bool aev_int aev_str aev_nilIface aev_nilp aev_nils aev_nilm aev_func List.getD_cons_zero List.getD_cons_succ List.map_cons List.map_nil Option.map_some Option.map_none List.nil_append List.append_nil abin_add abin_sub abin_mul abin_eql abin_neq abin_lss abin_leq abin_gtr abin_geq abin_seql abin_sneq lval_some lmem_some bool?_bool ne_eq not_false_eq_true lpost_ret1 lcond_true lcond_false lcond_decide lcond_not lguard_decide_true lguard_decide_false lguard_true_true lguard_true_false lguard_false_false lguard_false_true apick_true apick_false decide_true decide_false lstep_min lstep_max amin2_int amax2_int aun_not_decide aun_not_true aun_not_false aun_neg not_true_eq_false Classical.not_not al3 al9 al27 al37 ld3 st3 ld9 st9 len9 ld22 len22r fa25_0p fa25_1p ld27 st27 len27n ld29 fa37_0p fa37_0r fa37_1p fa37_1r fa37_2p fa37_2r ld37 st37 len58r len75r acellsAt_r acellsAt_p astoreAt_p cells?_some Option.bind_some AV.ofV AV.ofOne AV.israw AV.cells splice AHeap.get_new AHeap.get_upd AHeap.nx_new AHeap.nx_upd List.drop_zero List.drop_succ_cons List.take_succ_cons List.take_zero List.length_cons List.length_nil List.all_cons List.all_nil AV.one List.set_cons_zero List.set_cons_succ List.getElem?_cons_zero List.getElem?_cons_succ Nat.zero_add Nat.add_zero Bool.and_true and_self and_true true_and if_true if_false ite_true ite_false Bool.false_eq_true Bool.true_eq_false List.toList_toArray Nat.le_refl List.drop_nil List.take_nil get_bump nx_bump ldrun_nil ldrun_cons ldrun_guard ldval_some List.cons_append lallocs ldlen_some ldmem_some AHeap.upds List.foldl_nil List.foldl_cons
def wr (n : Int) : Int := IntKind.i64.wrap n
def belowOf (x n : Int) : Int := if n < 1 then 0 else if x.tmod n < 0 then wr (x.tmod n + n) else x.tmod n
theorem below_ok (x n : Int) (s : AHeap) : ACall Tryz.prog 71 [.int .i64 x, .int .i64 n] s fun v t => v = .int .i64 (belowOf x n) ∧ t = s := by
  refine go71 (by simp) ?_
  intro tm hlen harg
  simp +contextual only [L71, hlen, harg, go_sem, Nat.reduceLT, Nat.reduceEqDiff, Nat.reduceAdd, Nat.reduceLeDiff, reduceIte, reduceCtorEq]
  refine ⟨fun h => ?_, fun h => ?_⟩
  · simp [belowOf, h]
  · have hn : n ≠ 0 := by omega
    simp +contextual only [hlen, harg, abin_rem hn, go_sem, Nat.reduceLT, Nat.reduceEqDiff, Nat.reduceAdd, Nat.reduceLeDiff, reduceIte, reduceCtorEq]
    refine ⟨fun h2 => ?_, fun h2 => ?_⟩
    · simp only [belowOf, if_neg h, if_pos h2, wr, and_self]
    · simp only [belowOf, if_neg h, if_neg h2, and_self]
theorem below_lt {x n : Int} (hn : 1 ≤ n) (hb : n ≤ 4611686018427387904) : 0 ≤ belowOf x n ∧ belowOf x n < n := by
  unfold belowOf
  rw [if_neg (by omega)]
  have h1 := Int.tmod_lt_of_pos x (show 0 < n by omega)
  have h2 := Int.lt_tmod_of_pos x (show 0 < n by omega)
  split
  · rw [wr, wrap_id (by omega)]; omega
  · omega
def IsInts (v : AV) (l : List Int) : Prop := (∃ f, v = .vs 1 f (l.map (AV.int .i64))) ∨ (v = .nils ∧ l = [])
theorem IsInts.len {v : AV} {l : List Int} (h : IsInts v l) : alen tab 22 v = some (.int .i64 l.length) := by
  rcases h with ⟨f, rfl⟩ | ⟨rfl, rfl⟩ <;> simp [alen, ty22]
theorem IsInts.at {v : AV} {l : List Int} (h : IsInts v l) {n : Int} (h0 : 0 ≤ n) {x : Int} (he : l[n.toNat]? = some x) : aindexAddr tab 22 v (.int .i64 n) = some (.rptr [.int .i64 x]) := by
  rcases h with ⟨f, rfl⟩ | ⟨rfl, rfl⟩
  · simp [aindexAddr, ty22, Tab.size, ty3, he, h0, AV.israw, AV.cells]
  · simp at he
def nextOf (L : List Int) (at_ n : Int) : Int :=
  if L = [] then belowOf (wr (wr (at_ + 1) * 7919)) n
  else
    let i := (wr (wr (at_ + 1) - 1)).tmod L.length
    let round := wr ((wr (wr (at_ + 1) - 1)).tdiv L.length)
    belowOf (wr (belowOf (L.getD i.toNat 0) 1073741824 + wr (round * wr (7919 + i)))) n
theorem nextOf_lt (L : List Int) (at_ : Int) {n : Int} (hn : 1 ≤ n) (hb : n ≤ 4611686018427387904) : 0 ≤ nextOf L at_ n ∧ nextOf L at_ n < n := by
  unfold nextOf
  split
  · exact below_lt hn hb
  · exact below_lt hn hb
structure Strm (s : AHeap) (b : Nat) (Lv : AV) (L : List Int) (at_ : Int) : Prop where
  ints : IsInts Lv L
  len : L.length < 4611686018427387904
  at0 : 0 ≤ at_
  get : s.get b = some (.cells [Lv, .int .i64 at_] (some 25))
theorem rs_at {b n : Nat} {i : Int} (h0 : 0 ≤ i) (h1 : i < n) : aindexAddr tab 22 (.rs 1 b 0 n) (.int .i64 i) = some (.ptr b i.toNat) := by
  simp [aindexAddr, ty22, Tab.size, ty3, h0, h1]
theorem rs_at63 {b n : Nat} {i : Int} (h0 : 0 ≤ i) (h1 : i < n) : aindexAddr tab 75 (.rs 1 b 0 n) (.int .i64 i) = some (.ptr b i.toNat) := by
  simp [aindexAddr, ty75, Tab.size, ty9, h0, h1]
end Go.S1
end
