/- Part 3 of a proof: texts of this work, put together. -/
import Derived.Test.YtiohblpikmjofaaGreatDoorW2
set_option linter.unusedVariables false
set_option linter.unusedSimpArgs false
section
namespace Go.S1
open Go Go.Am Go.Proofs
set_option maxRecDepth 100000
structure Ed where
  at_ : Int
  cut : Int
  new : List UInt8
def Ed.enc (e : Ed) : AV := .agg [.int .i64 e.at_, .int .i64 e.cut, .str e.new]
def SlE (v : AV) (l : List Ed) : Prop := (∃ f, v = .vs 3 f (l.map Ed.enc)) ∨ (v = .nils ∧ l = [])
theorem SlE.len {v : AV} {l : List Ed} (h : SlE v l) : alen tab 27 v = some (.int .i64 l.length) := by
  rcases h with ⟨f, rfl⟩ | ⟨rfl, rfl⟩ <;> simp [alen, ty27]
theorem SlE.at {v : AV} {l : List Ed} (h : SlE v l) {i : Nat} {e : Ed} (he : l[i]? = some e) : aindexAddr tab 27 v (.int .i64 i) = some (.rptr [.int .i64 e.at_, .int .i64 e.cut, .str e.new]) := by
  rcases h with ⟨f, rfl⟩ | ⟨rfl, rfl⟩
  · simp [aindexAddr, ty27, Tab.size, ty37, he, Ed.enc, AV.israw, AV.cells]
  · simp at he
def Sub (s t : AHeap) : Prop := s.nx ≤ t.nx ∧ ∀ b o, b < s.nx → s.get b = some o → t.get b = some o
theorem Sub.refl (s : AHeap) : Sub s s := ⟨Nat.le_refl _, fun _ _ _ h => h⟩
theorem Sub.trans {s t u : AHeap} (h : Sub s t) (h' : Sub t u) : Sub s u := ⟨Nat.le_trans h.1 h'.1, fun b o hb e => h'.2 b o (Nat.lt_of_lt_of_le hb h.1) (h.2 b o hb e)⟩
theorem Sub.new {s t : AHeap} (h : Sub s t) (o : AObj) : Sub s (t.new o) := ⟨by rw [AHeap.nx_new]; have := h.1; omega, fun b o' hb e => by
  rw [AHeap.get_new, if_neg (by have := h.1; omega)]; exact h.2 b o' hb e⟩
theorem Sub.upd {s t : AHeap} (h : Sub s t) {b : Nat} (hb : s.nx ≤ b) (o : AObj) : Sub s (t.upd b o) := ⟨by rw [AHeap.nx_upd]; exact h.1, fun b' o' hb' e => by
  rw [AHeap.get_upd, if_neg (by omega)]; exact h.2 b' o' hb' e⟩
theorem Sub.del {s t : AHeap} (h : Sub s t) {b : Nat} (hb : s.nx ≤ b) : Sub s (t.del b) := ⟨by rw [AHeap.nx_del]; exact h.1, fun b' o' hb' e => by
  rw [AHeap.get_del, if_neg (by omega)]; exact h.2 b' o' hb' e⟩
theorem Sub.bump {s t : AHeap} (h : Sub s t) (n : Nat) : Sub s (bump t n) := ⟨Nat.le_trans h.1 (Nat.le_add_right _ _), fun b o hb e => h.2 b o hb e⟩
end Go.S1
end
section
namespace Go.S1
open Go Go.Am Go.Proofs
set_option maxRecDepth 100000
attribute [local go_sem] lvc_seq lvc_draw lvc_ops lvc_skip lvc_block lvc_exit lops_nil lops_cons lops_guard lstep_move lstep_assign lstep_binOp lstep_unOp lstep_pick lstep_nilCheck lstep_build lstep_slice lstep_fieldAddr lstep_indexAddr lstep_extract lstep_makeFunc lstep_load lstep_store lstep_makeSlice lstep_buildSlice lstep_len lstep_append lstep_call lfun_func athen_normal athen_ret athen_exit ablock_normal ablock_ret ablock_exit ablock_exit_ne lvc_ret lvc_cond lvc_loop length_aput aput_none aev_same aev_ne aev_bool aev_int aev_str aev_nilIface aev_nilp aev_nils aev_nilm aev_func List.getD_cons_zero List.getD_cons_succ List.map_cons List.map_nil Option.map_some Option.map_none List.nil_append List.append_nil abin_add abin_sub abin_mul abin_eql abin_neq abin_lss abin_leq abin_gtr abin_geq abin_seql abin_sneq lval_some lmem_some bool?_bool ne_eq not_false_eq_true lpost_ret1 lpost_ret2 lcond_true lcond_false lcond_decide lcond_not lguard_decide_true lguard_decide_false lguard_true_true lguard_true_false lguard_false_false lguard_false_true apick_true apick_false decide_true decide_false lstep_min amin2_int amax2_int aun_not_decide aun_not_true aun_not_false aun_neg not_true_eq_false Classical.not_not al3 al9 al27 al37 al107 ld3 st3 ld9 st9 len9 ld22 st22 len22r fa25_0p fa25_1p ld27 st27 ld29 fa37_0p fa37_1p fa37_2p ld37 st37 len58r len75r ld105 st105 fa107_1p acellsAt_r acellsAt_p astoreAt_p cells?_some Option.bind_some AV.ofV AV.ofOne AV.israw AV.cells splice AHeap.get_new AHeap.get_upd AHeap.nx_new AHeap.nx_upd List.drop_zero List.drop_succ_cons List.take_succ_cons List.take_zero List.length_cons List.length_nil List.all_cons List.all_nil AV.one List.set_cons_zero List.set_cons_succ List.getElem?_cons_zero List.getElem?_cons_succ Nat.zero_add Nat.add_zero Bool.and_true and_self and_true true_and if_true if_false ite_true ite_false Bool.false_eq_true Bool.true_eq_false List.toList_toArray Nat.le_refl List.drop_nil List.take_nil get_bump nx_bump
def longOf (n : Int) (l : List Ed) : Int := l.foldl (fun n e => IntKind.i64.wrap (n + IntKind.i64.wrap (e.new.length - e.cut))) n
theorem long_ok (n : Int) (v : AV) (l : List Ed) (hv : SlE v l) (hl : l.length < 4611686018427387904) (s : AHeap) : ACall Tryz.prog 38 [.int .i64 n, v] s fun r t => r = .int .i64 (longOf n l) ∧ Sub s t := by
  refine go38 (by simp) ?_
  intro tm hlen harg
  simp +contextual only [L38, hlen, harg, hv.len, go_sem, Nat.reduceLT, Nat.reduceEqDiff, Nat.reduceAdd, Nat.reduceLeDiff, reduceIte, reduceCtorEq]
  refine ⟨fun k tm' s' => ∃ i : Nat, k + i = l.length ∧ tm'.length = 23 ∧ aev tm' (.tmp 0) = .int .i64 (longOf n (l.take i)) ∧ aev tm' (.tmp 7) = v ∧ aev tm' (.tmp 8) = .int .i64 l.length ∧ aev tm' (.tmp 9) = .int .i64 i ∧ Sub s s', l.length, ⟨0, by simp, ?_⟩, ?_⟩
  · simp [length_aput, hlen, aev_same, aev_ne, harg, longOf, Sub.refl]
  · rintro k tm1 s1 ⟨i, hk, hlen1, h0, h7, h8, h9, hs⟩
    simp +contextual only [hlen1, h0, h7, h8, h9, go_sem, Nat.reduceLT, Nat.reduceEqDiff, Nat.reduceAdd, Nat.reduceLeDiff, reduceIte, reduceCtorEq]
    refine ⟨fun hlt => ?_, fun hge => ?_⟩
    · have hi : i < l.length := by omega
      have he := List.getElem?_eq_getElem hi
      simp +contextual only [hlen1, h0, h7, h8, h9, hv.at he, go_sem, Nat.reduceLT, Nat.reduceEqDiff, Nat.reduceAdd, Nat.reduceLeDiff, reduceIte, reduceCtorEq]
      have hw : IntKind.i64.wrap ((i : Int) + 1) = ((i + 1 : Nat) : Int) := by rw [wrap_id (by omega)]; rfl
      refine ⟨k - 1, by omega, i + 1, by omega, ?_, by rw [hw], (hs.new _).upd hs.1 _⟩
      rw [List.take_succ_eq_append_getElem hi]
      simp only [longOf, List.foldl_append, List.foldl_cons, List.foldl_nil]
    · have hi : i = l.length := by omega
      subst hi
      rw [List.take_length]
      exact ⟨rfl, hs⟩
end Go.S1
end
section
namespace Go.S1
open Go Go.Am Go.Proofs
set_option maxRecDepth 100000
attribute [local go_sem] lvc_seq lvc_draw lvc_ops lvc_skip lvc_block lvc_exit lops_nil lops_cons lops_guard lstep_move lstep_assign lstep_binOp lstep_unOp lstep_pick lstep_nilCheck lstep_build lstep_slice lstep_fieldAddr lstep_indexAddr lstep_extract lstep_makeFunc lstep_load lstep_store lstep_makeSlice lstep_buildSlice lstep_len lstep_append lstep_call lfun_func athen_normal athen_ret athen_exit ablock_normal ablock_ret ablock_exit ablock_exit_ne lvc_ret lvc_cond lvc_loop length_aput aput_none aev_same aev_ne aev_bool aev_int aev_str aev_nilIface aev_nilp aev_nils aev_nilm aev_func List.getD_cons_zero List.getD_cons_succ List.map_cons List.map_nil Option.map_some Option.map_none List.nil_append List.append_nil abin_add abin_sub abin_mul abin_eql abin_neq abin_lss abin_leq abin_gtr abin_geq abin_seql abin_sneq lval_some lmem_some bool?_bool ne_eq not_false_eq_true lpost_ret1 lpost_ret2 lcond_true lcond_false lcond_decide lcond_not lguard_decide_true lguard_decide_false lguard_true_true lguard_true_false lguard_false_false lguard_false_true apick_true apick_false decide_true decide_false lstep_min amin2_int amax2_int aun_not_decide aun_not_true aun_not_false aun_neg not_true_eq_false Classical.not_not al3 al9 al27 al37 al107 ld3 st3 ld9 st9 len9 ld22 st22 len22r fa25_0p fa25_1p ld27 st27 ld29 fa37_0p fa37_1p fa37_2p ld37 st37 len58r len75r ld105 st105 fa107_1p acellsAt_r acellsAt_p astoreAt_p cells?_some Option.bind_some AV.ofV AV.ofOne AV.israw AV.cells splice AHeap.get_new AHeap.get_upd AHeap.nx_new AHeap.nx_upd List.drop_zero List.drop_succ_cons List.take_succ_cons List.take_zero List.length_cons List.length_nil List.all_cons List.all_nil AV.one List.set_cons_zero List.set_cons_succ List.getElem?_cons_zero List.getElem?_cons_succ Nat.zero_add Nat.add_zero Bool.and_true and_self and_true true_and if_true if_false ite_true ite_false Bool.false_eq_true Bool.true_eq_false List.toList_toArray Nat.le_refl List.drop_nil List.take_nil get_bump nx_bump
theorem in_ok (n lo hi : Int) (s : AHeap) : ACall Tryz.prog 40 [.int .i64 n, .int .i64 lo, .int .i64 hi] s fun v t => v = .bool (decide (lo ≤ n ∧ n ≤ hi)) ∧ t = s := by
  refine go40 (by simp) ?_
  intro tm hlen harg
  simp +contextual only [L40, hlen, harg, go_sem, Nat.reduceLT, Nat.reduceEqDiff, Nat.reduceAdd, Nat.reduceLeDiff, reduceIte, reduceCtorEq]
  refine ⟨fun h => by simp [h], fun h => by simp [h]⟩
theorem refin_ok (n lo hi : Int) (s : AHeap) : ACall Tryz.prog 52 [.int .i64 n, .int .i64 lo, .int .i64 hi] s fun v t => v = .bool (decide (lo ≤ n ∧ n ≤ hi)) ∧ t = s := by
  refine go52 (by simp) ?_
  intro tm hlen harg
  simp +contextual only [L52, hlen, harg, go_sem, Nat.reduceLT, Nat.reduceEqDiff, Nat.reduceAdd, Nat.reduceLeDiff, reduceIte, reduceCtorEq]
  refine ⟨fun h => by simp [h], fun h => by simp [h]⟩
def scan (n : Int) : Int → List Ed → Int
  | _, [] => 0
  | behind, e :: r =>
    if ¬ (0 ≤ e.at_ ∧ e.at_ ≤ n) then 1
    else if ¬ (0 ≤ e.cut ∧ e.cut ≤ n - e.at_) then 1
    else if e.cut = 0 ∧ e.new = [] then 3
    else if e.at_ ≤ behind then 7
    else scan n (e.at_ + e.cut) r
def faultOf (n : Int) (l : List Ed) : Int :=
  if ¬ (0 ≤ n ∧ n ≤ 20000) then 1
  else if 2000 < l.length then 2
  else if scan n (-1) l ≠ 0 then scan n (-1) l
  else if 20000 < longOf n l then 2
  else 0
theorem faultOf_scan {n : Int} {l : List Ed} {f : Int} (hn : 0 ≤ n ∧ n ≤ 20000) (h2 : ¬ 2000 < (l.length : Int)) (h : scan n (-1) l = f) (hf : f ≠ 0) : faultOf n l = f := by
  rw [faultOf, if_neg (Classical.not_not.2 hn), if_neg (by omega), if_pos (by rw [h]; exact hf), h]
theorem faultOf_end {n : Int} {l : List Ed} (hn : 0 ≤ n ∧ n ≤ 20000) (h2 : ¬ 2000 < (l.length : Int)) (h : scan n (-1) l = 0) : faultOf n l = if 20000 < longOf n l then 2 else 0 := by
  rw [faultOf, if_neg (Classical.not_not.2 hn), if_neg (by omega), if_neg (by rw [h]; simp)]
theorem check_ok (n : Int) (v : AV) (l : List Ed) (hv : SlE v l) (hl : l.length < 4611686018427387904) (s : AHeap) : ACall Tryz.prog 37 [.int .i64 n, v] s fun r t => r = .int .i64 (faultOf n l) ∧ Sub s t := by
  refine go37 (by simp) ?_
  intro tm hlen harg
  simp +contextual only [L37, hlen, harg, go_sem, Nat.reduceLT, Nat.reduceEqDiff, Nat.reduceAdd, Nat.reduceLeDiff, reduceIte, reduceCtorEq]
  refine lcall_eq (in_ok _ _ _ _) ?_
  simp +contextual only [hlen, harg, hv.len, go_sem, Nat.reduceLT, Nat.reduceEqDiff, Nat.reduceAdd, Nat.reduceLeDiff, reduceIte, reduceCtorEq]
  refine ⟨fun hn => ?_, fun hn => ⟨fun h2 => ?_, fun h2 => ?_⟩⟩
  · exact ⟨by simp only [faultOf, if_pos hn], .refl s⟩
  · exact ⟨by rw [faultOf, if_neg (Classical.not_not.2 hn), if_pos (by omega)], .refl s⟩
  · refine ⟨fun k tm' s' => ∃ (i : Nat) (B : Int), k + i = l.length ∧ tm'.length = 62 ∧ aev tm' (.tmp 0) = .int .i64 n ∧ aev tm' (.tmp 1) = v ∧ aev tm' (.tmp 5) = .int .i64 B ∧ -1 ≤ B ∧ B ≤ n ∧ aev tm' (.tmp 16) = v ∧
        aev tm' (.tmp 17) = .int .i64 l.length ∧ aev tm' (.tmp 18) = .int .i64 i ∧ scan n (-1) l = scan n B (l.drop i) ∧ Sub s s', l.length, ⟨0, -1, by simp, ?_⟩, ?_⟩
    · simp [length_aput, hlen, aev_same, aev_ne, harg, Sub.refl]
      omega
    · rintro k tm1 s1 ⟨i, B, hk, hlen1, q0, q1, q5, hB0, hB1, q16, q17, q18, hsc, hs⟩
      simp +contextual only [hlen1, q0, q1, q5, q16, q17, q18, go_sem, Nat.reduceLT, Nat.reduceEqDiff, Nat.reduceAdd, Nat.reduceLeDiff, reduceIte, reduceCtorEq]
      refine ⟨fun hlt => ?_, fun hge => ?_⟩
      · have hi : i < l.length := by omega
        have he := List.getElem?_eq_getElem hi
        have hdrop := List.drop_eq_getElem_cons hi
        generalize l[i] = e at he hdrop
        have hS := (hs.new (.cells [.int .i64 0, .int .i64 0, .str []] (some 37))).upd hs.1 (.cells [.int .i64 e.at_, .int .i64 e.cut, .str e.new] (some 37))
        simp +contextual only [hlen1, q0, q1, q5, q16, q17, q18, hv.at he, go_sem, Nat.reduceLT, Nat.reduceEqDiff, Nat.reduceAdd, Nat.reduceLeDiff, reduceIte, reduceCtorEq]
        refine lcall_eq (in_ok _ _ _ _) ?_
        simp +contextual only [hlen1, q0, q1, q5, q16, q17, q18, go_sem, Nat.reduceLT, Nat.reduceEqDiff, Nat.reduceAdd, Nat.reduceLeDiff, reduceIte, reduceCtorEq]
        have hw1 : IntKind.i64.wrap ((i : Int) + 1) = ((i + 1 : Nat) : Int) := by rw [wrap_id (by omega)]; rfl
        rw [hdrop] at hsc
        refine ⟨fun c1 => ⟨?_, hS⟩, fun c1 => ?_⟩
        · rw [faultOf_scan hn h2 (by rw [hsc, scan, if_pos c1]) (by decide)]
        · have hw2 : IntKind.i64.wrap (n - e.at_) = n - e.at_ := wrap_id (by omega)
          simp only [hw2]
          refine lcall_eq (in_ok _ _ _ _) ?_
          simp +contextual only [hlen1, q0, q1, q5, q16, q17, q18, go_sem, Nat.reduceLT, Nat.reduceEqDiff, Nat.reduceAdd, Nat.reduceLeDiff, reduceIte, reduceCtorEq]
          have hSS : ∀ o o', Sub s ((s1.new o).upd s1.nx o') := fun o o' => (hs.new o).upd hs.1 o'
          have c1' := Classical.not_not.2 c1
          have fin : ∀ B', B' = e.at_ + e.cut → (0 ≤ e.cut ∧ e.cut ≤ n - e.at_) → ¬ (e.cut = 0 ∧ e.new = []) → ¬ e.at_ ≤ B → scan n (-1) l = scan n B' (l.drop (i + 1)) := by
            rintro B' rfl c2 c3 c4
            rw [hsc, scan, if_neg c1', if_neg (Classical.not_not.2 c2), if_neg c3, if_neg c4]
          refine ⟨fun c2 => ⟨?_, hSS _ _⟩, fun c2 => ⟨fun c3 => ⟨fun c4 => ⟨?_, hSS _ _⟩, fun c4 => ⟨fun c5 => ⟨?_, hSS _ _⟩, fun c5 => ?_⟩⟩, fun c3 => ⟨fun c5 => ⟨?_, hSS _ _⟩, fun c5 => ?_⟩⟩⟩
          · rw [faultOf_scan hn h2 (by rw [hsc, scan, if_neg c1', if_pos c2]) (by decide)]
          · rw [faultOf_scan hn h2 (by rw [hsc, scan, if_neg c1', if_neg (Classical.not_not.2 c2), if_pos ⟨c3, c4⟩]) (by decide)]
          · rw [faultOf_scan hn h2 (by rw [hsc, scan, if_neg c1', if_neg (Classical.not_not.2 c2), if_neg (fun q => c4 q.2), if_pos c5]) (by decide)]
          · refine ⟨k - 1, by omega, i + 1, e.at_, by omega, by rw [wrap_id (by omega), Int.add_zero], by omega, by omega, by rw [hw1], ?_, hSS _ _⟩
            exact fin e.at_ (by omega) c2 (fun q => c4 q.2) c5
          · rw [faultOf_scan hn h2 (by rw [hsc, scan, if_neg c1', if_neg (Classical.not_not.2 c2), if_neg (fun q => c3 q.1), if_pos c5]) (by decide)]
          · refine ⟨k - 1, by omega, i + 1, e.at_ + e.cut, by omega, by rw [wrap_id (by omega)], by omega, by omega, by rw [hw1], ?_, hSS _ _⟩
            exact fin _ rfl c2 (fun q => c3 q.1) c5
      · have hi : i = l.length := by omega
        have hz : scan n (-1) l = 0 := by rw [hsc, hi, List.drop_length]; rfl
        refine lcall_of (long_ok n v l hv hl s1) ?_
        rintro _ t ⟨rfl, ht⟩
        simp +contextual only [hlen1, q0, q1, q5, q16, q17, q18, go_sem, Nat.reduceLT, Nat.reduceEqDiff, Nat.reduceAdd, Nat.reduceLeDiff, reduceIte, reduceCtorEq]
        rw [faultOf_end hn h2 hz]
        refine ⟨fun c => ⟨by rw [if_pos c], hs.trans ht⟩, fun c => ⟨by rw [if_neg c], hs.trans ht⟩⟩
end Go.S1
end
section
namespace Go.S1
open Go Go.Am Go.Proofs
set_option maxRecDepth 100000
attribute [local go_sem] lvc_seq lvc_draw lvc_ops lvc_skip lvc_block lvc_exit lops_nil lops_cons lops_guard lstep_move lstep_assign lstep_binOp lstep_unOp lstep_pick lstep_nilCheck lstep_build lstep_slice lstep_fieldAddr lstep_indexAddr lstep_extract lstep_makeFunc lstep_load lstep_store lstep_makeSlice lstep_buildSlice lstep_len lstep_append lstep_call lfun_func athen_normal athen_ret athen_exit ablock_normal ablock_ret ablock_exit ablock_exit_ne lvc_ret lvc_cond lvc_loop length_aput aput_none aev_same aev_ne aev_bool aev_int aev_str aev_nilIface aev_nilp aev_nils aev_nilm aev_func List.getD_cons_zero List.getD_cons_succ List.map_cons List.map_nil Option.map_some Option.map_none List.nil_append List.append_nil abin_add abin_sub abin_mul abin_eql abin_neq abin_lss abin_leq abin_gtr abin_geq abin_seql abin_sneq lval_some lmem_some bool?_bool ne_eq not_false_eq_true lpost_ret1 lpost_ret2 lcond_true lcond_false lcond_decide lcond_not lguard_decide_true lguard_decide_false lguard_true_true lguard_true_false lguard_false_false lguard_false_true apick_true apick_false decide_true decide_false lstep_min amin2_int amax2_int aun_not_decide aun_not_true aun_not_false aun_neg not_true_eq_false Classical.not_not al3 al9 al27 al37 al107 ld3 st3 ld9 st9 len9 ld22 st22 len22r fa25_0p fa25_1p ld27 st27 ld29 fa37_0p fa37_1p fa37_2p ld37 st37 len58r len75r ld105 st105 fa107_1p acellsAt_r acellsAt_p astoreAt_p cells?_some Option.bind_some AV.ofV AV.ofOne AV.israw AV.cells splice AHeap.get_new AHeap.get_upd AHeap.nx_new AHeap.nx_upd List.drop_zero List.drop_succ_cons List.take_succ_cons List.take_zero List.length_cons List.length_nil List.all_cons List.all_nil AV.one List.set_cons_zero List.set_cons_succ List.getElem?_cons_zero List.getElem?_cons_succ Nat.zero_add Nat.add_zero Bool.and_true and_self and_true true_and if_true if_false ite_true ite_false Bool.false_eq_true Bool.true_eq_false List.toList_toArray Nat.le_refl List.drop_nil List.take_nil get_bump nx_bump
theorem fault_ok (n : Int) (v : AV) (l : List Ed) (hv : SlE v l) (hl : l.length < 4611686018427387904) (s : AHeap) : ACall Tryz.prog 30 [.int .i64 n, v] s fun r t => r = .int .i64 (faultOf n l) ∧ Sub s t := by
  refine go30 (by simp) ?_
  intro tm hlen harg
  simp +contextual only [L30, hlen, harg, go_sem, Nat.reduceLT, Nat.reduceEqDiff, Nat.reduceAdd, Nat.reduceLeDiff, reduceIte, reduceCtorEq]
  refine lcall_eq (refin_ok _ _ _ _) ?_
  simp +contextual only [hlen, harg, hv.len, go_sem, Nat.reduceLT, Nat.reduceEqDiff, Nat.reduceAdd, Nat.reduceLeDiff, reduceIte, reduceCtorEq]
  refine ⟨fun hn => ?_, fun hn => ⟨fun h2 => ?_, fun h2 => ?_⟩⟩
  · exact ⟨by simp only [faultOf, if_pos hn], .refl s⟩
  · exact ⟨by rw [faultOf, if_neg (Classical.not_not.2 hn), if_pos (by omega)], .refl s⟩
  · refine ⟨fun k tm' s' => ∃ (i : Nat) (B : Int), k + i = l.length ∧ tm'.length = 70 ∧ aev tm' (.tmp 0) = .int .i64 n ∧ aev tm' (.tmp 1) = v ∧ aev tm' (.tmp 5) = .int .i64 B ∧ -1 ≤ B ∧ B ≤ n ∧ aev tm' (.tmp 6) = .int .i64 (longOf n (l.take i)) ∧ aev tm' (.tmp 18) = v ∧
        aev tm' (.tmp 19) = .int .i64 l.length ∧ aev tm' (.tmp 20) = .int .i64 i ∧ scan n (-1) l = scan n B (l.drop i) ∧ Sub s s', l.length, ⟨0, -1, by simp, ?_⟩, ?_⟩
    · simp [length_aput, hlen, aev_same, aev_ne, harg, Sub.refl, longOf]
      omega
    · rintro k tm1 s1 ⟨i, B, hk, hlen1, q0, q1, q5, hB0, hB1, q6, q16, q17, q18, hsc, hs⟩
      simp +contextual only [hlen1, q0, q1, q5, q6, q16, q17, q18, go_sem, Nat.reduceLT, Nat.reduceEqDiff, Nat.reduceAdd, Nat.reduceLeDiff, reduceIte, reduceCtorEq]
      refine ⟨fun hlt => ?_, fun hge => ?_⟩
      · have hi : i < l.length := by omega
        have he := List.getElem?_eq_getElem hi
        have hdrop := List.drop_eq_getElem_cons hi
        obtain ⟨e, hei⟩ : ∃ e, l[i] = e := ⟨_, rfl⟩
        rw [hei] at he hdrop
        have hS := (hs.new (.cells [.int .i64 0, .int .i64 0, .str []] (some 37))).upd hs.1 (.cells [.int .i64 e.at_, .int .i64 e.cut, .str e.new] (some 37))
        simp +contextual only [hlen1, q0, q1, q5, q6, q16, q17, q18, hv.at he, go_sem, Nat.reduceLT, Nat.reduceEqDiff, Nat.reduceAdd, Nat.reduceLeDiff, reduceIte, reduceCtorEq]
        refine lcall_eq (refin_ok _ _ _ _) ?_
        simp +contextual only [hlen1, q0, q1, q5, q6, q16, q17, q18, go_sem, Nat.reduceLT, Nat.reduceEqDiff, Nat.reduceAdd, Nat.reduceLeDiff, reduceIte, reduceCtorEq]
        have hw1 : IntKind.i64.wrap ((i : Int) + 1) = ((i + 1 : Nat) : Int) := by rw [wrap_id (by omega)]; rfl
        rw [hdrop] at hsc
        refine ⟨fun c1 => ⟨?_, hS⟩, fun c1 => ?_⟩
        · rw [faultOf_scan hn h2 (by rw [hsc, scan, if_pos c1]) (by decide)]
        · have hw2 : IntKind.i64.wrap (n - e.at_) = n - e.at_ := wrap_id (by omega)
          simp only [hw2]
          refine lcall_eq (refin_ok _ _ _ _) ?_
          simp +contextual only [hlen1, q0, q1, q5, q6, q16, q17, q18, go_sem, Nat.reduceLT, Nat.reduceEqDiff, Nat.reduceAdd, Nat.reduceLeDiff, reduceIte, reduceCtorEq]
          have hSS : ∀ o o', Sub s ((s1.new o).upd s1.nx o') := fun o o' => (hs.new o).upd hs.1 o'
          have c1' := Classical.not_not.2 c1
          have fin : ∀ B', B' = e.at_ + e.cut → (0 ≤ e.cut ∧ e.cut ≤ n - e.at_) → ¬ (e.cut = 0 ∧ e.new = []) → ¬ e.at_ ≤ B → scan n (-1) l = scan n B' (l.drop (i + 1)) := by
            rintro B' rfl c2 c3 c4
            rw [hsc, scan, if_neg c1', if_neg (Classical.not_not.2 c2), if_neg c3, if_neg c4]
          refine ⟨fun c2 => ⟨?_, hSS _ _⟩, fun c2 => ⟨fun c3 => ⟨fun c4 => ⟨?_, hSS _ _⟩, fun c4 => ⟨fun c5 => ⟨?_, hSS _ _⟩, fun c5 => ?_⟩⟩, fun c3 => ⟨fun c5 => ⟨?_, hSS _ _⟩, fun c5 => ?_⟩⟩⟩
          · rw [faultOf_scan hn h2 (by rw [hsc, scan, if_neg c1', if_pos c2]) (by decide)]
          · rw [faultOf_scan hn h2 (by rw [hsc, scan, if_neg c1', if_neg (Classical.not_not.2 c2), if_pos ⟨c3, c4⟩]) (by decide)]
          · rw [faultOf_scan hn h2 (by rw [hsc, scan, if_neg c1', if_neg (Classical.not_not.2 c2), if_neg (fun q => c4 q.2), if_pos c5]) (by decide)]
          · refine ⟨k - 1, by omega, i + 1, e.at_, by omega, by rw [wrap_id (by omega), Int.add_zero], by omega, by omega, ?_, by rw [hw1], ?_, hSS _ _⟩
            · rw [List.take_succ_eq_append_getElem hi]
              simp only [longOf, List.foldl_append, List.foldl_cons, List.foldl_nil, hei, c3]
            exact fin e.at_ (by omega) c2 (fun q => c4 q.2) c5
          · rw [faultOf_scan hn h2 (by rw [hsc, scan, if_neg c1', if_neg (Classical.not_not.2 c2), if_neg (fun q => c3 q.1), if_pos c5]) (by decide)]
          · refine ⟨k - 1, by omega, i + 1, e.at_ + e.cut, by omega, by rw [wrap_id (by omega)], by omega, by omega, ?_, by rw [hw1], ?_, hSS _ _⟩
            · rw [List.take_succ_eq_append_getElem hi]
              simp only [longOf, List.foldl_append, List.foldl_cons, List.foldl_nil, hei]
            exact fin _ rfl c2 (fun q => c3 q.1) c5
      · have hi : i = l.length := by omega
        have hz : scan n (-1) l = 0 := by rw [hsc, hi, List.drop_length]; rfl
        rw [faultOf_end hn h2 hz, hi, List.take_length]
        refine ⟨fun c => ⟨by rw [if_pos c], hs⟩, fun c => ⟨by rw [if_neg c], hs⟩⟩
end Go.S1
end
section
namespace Go.S1
open Go Go.Am Go.Proofs
set_option maxRecDepth 100000
attribute [local go_sem] lvc_seq lvc_draw lvc_ops lvc_skip lvc_block lvc_exit lops_nil lops_cons lops_guard lstep_move lstep_assign lstep_binOp lstep_unOp lstep_pick lstep_nilCheck lstep_build lstep_slice lstep_fieldAddr lstep_indexAddr lstep_extract lstep_makeFunc lstep_load lstep_store lstep_makeSlice lstep_buildSlice lstep_len lstep_append lstep_call lfun_func athen_normal athen_ret athen_exit ablock_normal ablock_ret ablock_exit ablock_exit_ne lvc_ret lvc_cond lvc_loop length_aput aput_none aev_same aev_ne aev_bool aev_int aev_str aev_nilIface aev_nilp aev_nils aev_nilm aev_func List.getD_cons_zero List.getD_cons_succ List.map_cons List.map_nil Option.map_some Option.map_none List.nil_append List.append_nil abin_add abin_sub abin_mul abin_eql abin_neq abin_lss abin_leq abin_gtr abin_geq abin_seql abin_sneq lval_some lmem_some bool?_bool ne_eq not_false_eq_true lpost_ret1 lpost_ret2 lcond_true lcond_false lcond_decide lcond_not lguard_decide_true lguard_decide_false lguard_true_true lguard_true_false lguard_false_false lguard_false_true apick_true apick_false decide_true decide_false lstep_min amin2_int amax2_int aun_not_decide aun_not_true aun_not_false aun_neg not_true_eq_false Classical.not_not al3 al9 al27 al37 al107 ld3 st3 ld9 st9 len9 ld22 st22 len22r fa25_0p fa25_1p ld27 st27 ld29 fa37_0p fa37_1p fa37_2p ld37 st37 len58r len75r ld105 st105 fa107_1p acellsAt_r acellsAt_p astoreAt_p cells?_some Option.bind_some AV.ofV AV.ofOne AV.israw AV.cells splice AHeap.get_new AHeap.get_upd AHeap.nx_new AHeap.nx_upd List.drop_zero List.drop_succ_cons List.take_succ_cons List.take_zero List.length_cons List.length_nil List.all_cons List.all_nil AV.one List.set_cons_zero List.set_cons_succ List.getElem?_cons_zero List.getElem?_cons_succ Nat.zero_add Nat.add_zero Bool.and_true and_self and_true true_and if_true if_false ite_true ite_false Bool.false_eq_true Bool.true_eq_false List.toList_toArray Nat.le_refl List.drop_nil List.take_nil get_bump nx_bump
end Go.S1
end
section
namespace Go.S1
open Go Go.Am Go.Proofs
set_option maxRecDepth 100000
attribute [local go_sem] lvc_seq lvc_draw lvc_ops lvc_skip lvc_block lvc_exit lops_nil lops_cons lops_guard lstep_move lstep_assign lstep_binOp lstep_unOp lstep_pick lstep_nilCheck lstep_build lstep_slice lstep_fieldAddr lstep_indexAddr lstep_extract lstep_makeFunc lstep_load lstep_store lstep_makeSlice lstep_buildSlice lstep_len lstep_append lstep_call lfun_func athen_normal athen_ret athen_exit ablock_normal ablock_ret ablock_exit ablock_exit_ne lvc_ret lvc_cond lvc_loop length_aput aput_none aev_same aev_ne aev_bool aev_int aev_str aev_nilIface aev_nilp aev_nils aev_nilm aev_func List.getD_cons_zero List.getD_cons_succ List.map_cons List.map_nil Option.map_some Option.map_none List.nil_append List.append_nil abin_add abin_sub abin_mul abin_eql abin_neq abin_lss abin_leq abin_gtr abin_geq abin_seql abin_sneq lval_some lmem_some bool?_bool ne_eq not_false_eq_true lpost_ret1 lpost_ret2 lcond_true lcond_false lcond_decide lcond_not lguard_decide_true lguard_decide_false lguard_true_true lguard_true_false lguard_false_false lguard_false_true apick_true apick_false decide_true decide_false lstep_min amin2_int amax2_int aun_not_decide aun_not_true aun_not_false aun_neg not_true_eq_false Classical.not_not al3 al9 al27 al37 al107 ld3 st3 ld9 st9 len9 ld22 st22 len22r fa25_0p fa25_1p ld27 st27 ld29 fa37_0p fa37_1p fa37_2p ld37 st37 len58r len75r ld105 st105 fa107_1p acellsAt_r acellsAt_p astoreAt_p cells?_some Option.bind_some AV.ofV AV.ofOne AV.israw AV.cells splice AHeap.get_new AHeap.get_upd AHeap.nx_new AHeap.nx_upd List.drop_zero List.drop_succ_cons List.take_succ_cons List.take_zero List.length_cons List.length_nil List.all_cons List.all_nil AV.one List.set_cons_zero List.set_cons_succ List.getElem?_cons_zero List.getElem?_cons_succ Nat.zero_add Nat.add_zero Bool.and_true and_self and_true true_and if_true if_false ite_true ite_false Bool.false_eq_true Bool.true_eq_false List.toList_toArray Nat.le_refl List.drop_nil List.take_nil get_bump nx_bump
def errsOf : List Int → Int
  | [] => 0
  | e :: r => if e ≠ 0 then e else errsOf r
theorem rs_at107 {b n i : Nat} (h1 : i < n) : aindexAddr tab 58 (.rs 1 b 0 n) (.int .i64 i) = some (.ptr b i) := by
  have : (i : Int) < n := by omega
  simp [aindexAddr, ty58, Tab.size, ty29, this]
theorem errs_ok (c : Nat) (l : List Int) (To : Option TypeId) (hl : l.length < 1000) (s : AHeap) (hc : s.get c = some (.cells (l.map (AV.int .i64)) To)) :
    ACall Tryz.prog 13 [.rs 1 c 0 l.length] s fun v t => v = .int .i64 (errsOf l) ∧ t = s := by
  refine go13 (by simp) ?_
  intro tm hlen harg
  simp +contextual only [L13, hlen, harg, go_sem, Nat.reduceLT, Nat.reduceEqDiff, Nat.reduceAdd, Nat.reduceLeDiff, reduceIte, reduceCtorEq]
  refine ⟨fun k tm' s' => ∃ i : Nat, k + i = l.length ∧ tm'.length = 15 ∧ aev tm' (.tmp 5) = .rs 1 c 0 l.length ∧ aev tm' (.tmp 6) = .int .i64 l.length ∧ aev tm' (.tmp 7) = .int .i64 i ∧ errsOf l = errsOf (l.drop i) ∧ s' = s, l.length, ⟨0, by simp, ?_⟩, ?_⟩
  · simp [length_aput, hlen, aev_same, aev_ne, harg]
  · rintro k tm1 s1 ⟨i, hk, hlen1, q5, q6, q7, hm, rfl⟩
    simp +contextual only [hlen1, q5, q6, q7, go_sem, Nat.reduceLT, Nat.reduceEqDiff, Nat.reduceAdd, Nat.reduceLeDiff, reduceIte, reduceCtorEq]
    refine ⟨fun hlt => ?_, fun hge => ?_⟩
    · have hi : i < l.length := by omega
      have hdrop := List.drop_eq_getElem_cons hi
      have hd : (List.drop i (l.map (AV.int .i64)))[0]? = some (.int .i64 l[i]) := by simp [hi]
      generalize l[i] = e at hdrop hd
      have hw1 : IntKind.i64.wrap ((i : Int) + 1) = ((i + 1 : Nat) : Int) := by rw [wrap_id (by omega)]; rfl
      rw [hdrop] at hm
      simp +contextual only [hlen1, q5, q6, q7, rs_at107 hi, hc, hd, go_sem, Nat.reduceLT, Nat.reduceEqDiff, Nat.reduceAdd, Nat.reduceLeDiff, reduceIte, reduceCtorEq]
      refine ⟨fun c1 => ?_, fun c1 => ⟨k - 1, by omega, i + 1, by omega, by rw [hw1], ?_⟩⟩
      · rw [hm, errsOf, if_pos c1]
      · rw [hm, errsOf, if_neg (by simp [c1])]
    · have hi : i = l.length := by omega
      rw [hm, hi, List.drop_length]
      rfl
def textFault (t : List UInt8) (l : List Ed) : Int := if 20000 < (t.length : Int) then 2 else faultOf t.length l
theorem checkText_ok (x : List UInt8) (v : AV) (l : List Ed) (hv : SlE v l) (hl : l.length < 4611686018427387904) (s : AHeap) : ACall Tryz.prog 31 [.str x, v] s fun r t => r = .int .i64 (textFault x l) ∧ Sub s t := by
  refine go31 (by simp) ?_
  intro tm hlen harg
  simp +contextual only [L31, hlen, harg, go_sem, Nat.reduceLT, Nat.reduceEqDiff, Nat.reduceAdd, Nat.reduceLeDiff, reduceIte, reduceCtorEq]
  refine ⟨fun c => ⟨by rw [textFault, if_pos c], .refl s⟩, fun c => ?_⟩
  refine lcall_of (check_ok _ v l hv hl s) ?_
  rintro _ t ⟨rfl, ht⟩
  simp +contextual only [hlen, harg, go_sem, Nat.reduceLT, Nat.reduceEqDiff, Nat.reduceAdd, Nat.reduceLeDiff, reduceIte, reduceCtorEq]
  exact ⟨by rw [textFault, if_neg c], ht⟩
end Go.S1
end
section
namespace Go.S1
open Go Go.Am Go.Proofs
set_option maxRecDepth 100000
attribute [local go_sem] lvc_seq lvc_draw lvc_ops lvc_skip lvc_block lvc_exit lops_nil lops_cons lops_guard lstep_move lstep_assign lstep_binOp lstep_unOp lstep_pick lstep_nilCheck lstep_build lstep_slice lstep_fieldAddr lstep_indexAddr lstep_extract lstep_makeFunc lstep_load lstep_store lstep_makeSlice lstep_buildSlice lstep_len lstep_append lstep_call lfun_func athen_normal athen_ret athen_exit ablock_normal ablock_ret ablock_exit ablock_exit_ne lvc_ret lvc_cond lvc_loop length_aput aput_none aev_same aev_ne aev_bool aev_int aev_str aev_nilIface aev_nilp aev_nils aev_nilm aev_func List.getD_cons_zero List.getD_cons_succ List.map_cons List.map_nil Option.map_some Option.map_none List.nil_append List.append_nil abin_add abin_sub abin_mul abin_eql abin_neq abin_lss abin_leq abin_gtr abin_geq abin_seql abin_sneq lval_some lmem_some bool?_bool ne_eq not_false_eq_true lpost_ret1 lpost_ret2 lcond_true lcond_false lcond_decide lcond_not lguard_decide_true lguard_decide_false lguard_true_true lguard_true_false lguard_false_false lguard_false_true apick_true apick_false decide_true decide_false lstep_min amin2_int amax2_int aun_not_decide aun_not_true aun_not_false aun_neg not_true_eq_false Classical.not_not al3 al9 al27 al37 al107 ld3 st3 ld9 st9 len9 ld22 st22 len22r fa25_0p fa25_1p ld27 st27 ld29 fa37_0p fa37_1p fa37_2p ld37 st37 len58r len75r ld105 st105 fa107_1p acellsAt_r acellsAt_p astoreAt_p cells?_some Option.bind_some AV.ofV AV.ofOne AV.israw AV.cells splice AHeap.get_new AHeap.get_upd AHeap.nx_new AHeap.nx_upd List.drop_zero List.drop_succ_cons List.take_succ_cons List.take_zero List.length_cons List.length_nil List.all_cons List.all_nil AV.one List.set_cons_zero List.set_cons_succ List.getElem?_cons_zero List.getElem?_cons_succ Nat.zero_add Nat.add_zero Bool.and_true and_self and_true true_and if_true if_false ite_true ite_false Bool.false_eq_true Bool.true_eq_false List.toList_toArray Nat.le_refl List.drop_nil List.take_nil get_bump nx_bump
def bytes (x : List UInt8) : List AV := x.map fun b => .int .u8 b.toNat
structure Bld (s : AHeap) (b : Nat) (y : AV) (x : List UInt8) : Prop where
  get : ∃ p, (p = .nilp ∨ p = .ptr b 0) ∧ s.get b = some (.cells [p, y] (some 107))
  lt : b < s.nx
  buf : (y = .nils ∧ x = []) ∨ ∃ c, c ≠ b ∧ c < s.nx ∧ y = .rs 1 c 0 x.length ∧ x ≠ [] ∧ s.get c = some (.cells (bytes x) (some 5))
def Own (y : AV) (m : Nat) : Prop := ∃ n, y = .rs 1 m 0 n
structure Wrote (s : AHeap) (b : Nat) (y : AV) (x : List UInt8) (t : AHeap) : Prop where
  nx : s.nx ≤ t.nx
  keep : ∀ m o, m < s.nx → m ≠ b → ¬ Own y m → s.get m = some o → t.get m = some o
  bld : ∃ y', Bld t b y' x ∧ ∀ m, Own y' m → Own y m ∨ s.nx ≤ m
theorem cc_ok {s : AHeap} {b : Nat} {y : AV} {x : List UInt8} (h : Bld s b y x) : ACall Tryz.prog 77 [.ptr b 0] s fun v t => v = .tuple [] ∧ t.nx = s.nx ∧ (∀ m, m ≠ b → t.get m = s.get m) ∧ t.get b = some (.cells [.ptr b 0, y] (some 107)) := by
  obtain ⟨p, hp, hg⟩ := h.get
  rcases hp with rfl | rfl
  · have : aCopyCheck 107 [.ptr b 0] s = some (.tuple [], s.upd b (.cells [.ptr b 0, y] (some 107))) := by simp [aCopyCheck, hg]
    refine (aCopyCheck_ok ccWalks this).mono ?_
    rintro v t ⟨rfl, rfl⟩
    exact ⟨rfl, AHeap.nx_upd _ _ _, fun m hm => by rw [AHeap.get_upd, if_neg hm], by rw [AHeap.get_upd, if_pos rfl]⟩
  · have : aCopyCheck 107 [.ptr b 0] s = some (.tuple [], s) := by simp [aCopyCheck, hg]
    refine (aCopyCheck_ok ccWalks this).mono ?_
    rintro v t ⟨rfl, rfl⟩
    exact ⟨rfl, rfl, fun m hm => rfl, hg⟩
theorem app_bytes {s : AHeap} {b : Nat} {y : AV} {x : List UInt8} (h : Bld s b y x) {z : AV} {l : List UInt8} {n : Nat} (hz : acellsOf s 1 z = some (bytes l, n)) (hn : n = l.length) (hb : (2 * (x.length + l.length) + 512) ≤ 281474976710656) :
    ∃ y' t, aappend tab 5 s y z = some (y', t) ∧ s.nx ≤ t.nx ∧ (∀ m o, m < s.nx → ¬ Own y m → s.get m = some o → t.get m = some o) ∧ (∀ m, Own y' m → Own y m ∨ s.nx ≤ m) ∧
      ((y' = .nils ∧ x ++ l = []) ∨ ∃ c, c ≠ b ∧ c < t.nx ∧ y' = .rs 1 c 0 (x ++ l).length ∧ x ++ l ≠ [] ∧ t.get c = some (.cells (bytes (x ++ l)) (some 5))) := by
  subst hn
  by_cases hl : l = []
  · subst hl
    refine ⟨y, s, ?_, Nat.le_refl _, fun _ _ _ _ h => h, fun m h => .inl h, ?_⟩
    · rcases h.buf with ⟨rfl, rfl⟩ | ⟨c, h1, h2, rfl, h3, h4⟩ <;> simp [aappend, ty5, hz]
    · rw [List.append_nil]; exact h.buf
  · have hl0 : l.length ≠ 0 := by simpa using hl
    rcases h.buf with ⟨rfl, rfl⟩ | ⟨c, h1, h2, rfl, h3, h4⟩
    · refine ⟨.rs 1 s.nx 0 l.length, s.new (.cells (bytes l) (some 5)), ?_, by rw [AHeap.nx_new]; omega, ?_, ?_, .inr ⟨s.nx, ?_, by rw [AHeap.nx_new]; omega, by simp, by simpa using hl, by rw [AHeap.get_new, if_pos rfl]; simp⟩⟩
      · have : 2 * l.length + 512 ≤ 281474976710656 := by simp at hb; omega
        simp [aappend, ty5, hz, hl, this]
      · intro m o hm _ hg
        rw [AHeap.get_new, if_neg (by omega)]; exact hg
      · rintro m ⟨n, e⟩; cases e; exact .inr (Nat.le_refl _)
      · have := h.lt; omega
    · refine ⟨.rs 1 s.nx 0 (x.length + l.length), (s.del c).new (.cells (bytes x ++ bytes l) (some 5)), ?_, by rw [AHeap.nx_new, AHeap.nx_del]; omega, ?_, ?_, .inr ⟨s.nx, ?_, by rw [AHeap.nx_new, AHeap.nx_del]; omega, by simp, by simp [hl], by rw [AHeap.get_new, AHeap.nx_del, if_pos rfl]; simp [bytes]⟩⟩
      · have hall : (bytes l).all AV.one = true := by simp [bytes, AV.one]
        have ht : List.take x.length (bytes x) = bytes x := List.take_of_length_le (by simp [bytes])
        simp only [aappend, ty5, hz]
        simp only [Nat.reduceEqDiff, or_self, if_false, hl0, h4, AObj.cells?, List.drop_zero, Nat.mul_one, Nat.zero_add, hall, ht, and_true, true_and]
        rw [if_pos ⟨by simp [bytes], hb⟩]
        rfl
      · intro m o hm hno hg
        have : m ≠ c := by rintro rfl; exact hno ⟨_, rfl⟩
        rw [AHeap.get_new, AHeap.nx_del, if_neg (by omega), AHeap.get_del, if_neg this]; exact hg
      · rintro m ⟨n, e⟩; cases e; exact .inr (Nat.le_refl _)
      · have := h.lt; omega
theorem writeString_ok {s : AHeap} {b : Nat} {y : AV} {x : List UInt8} (h : Bld s b y x) (l : List UInt8) (hb : (2 * (x.length + l.length) + 512) ≤ 281474976710656) :
    ACall Tryz.prog 53 [.ptr b 0, .str l] s fun v t => v = .tuple [.int .i64 l.length, .nili] ∧ Wrote s b y (x ++ l) t := by
  refine go53 (by simp) ?_
  intro tm hlen harg
  simp +contextual only [L53, hlen, harg, go_sem, Nat.reduceLT, Nat.reduceEqDiff, Nat.reduceAdd, Nat.reduceLeDiff, reduceIte, reduceCtorEq]
  refine lcall_of (cc_ok h) ?_
  rintro _ s1 ⟨rfl, hn1, hk1, hg1⟩
  have h1 : Bld s1 b y x := ⟨⟨_, .inr rfl, hg1⟩, by rw [hn1]; exact h.lt, by
    rcases h.buf with q | ⟨c, q1, q2, q3, q4, q5⟩
    · exact .inl q
    · exact .inr ⟨c, q1, by rw [hn1]; exact q2, q3, q4, by rw [hk1 c q1]; exact q5⟩⟩
  obtain ⟨y', t, happ, hnx, hkeep, hown, hbuf⟩ := app_bytes h1 (z := .str l) (l := l) (n := l.length) (by simp [acellsOf, bytes]) rfl hb
  have hnb : ¬ Own y b := by
    rintro ⟨n, e⟩
    rcases h.buf with ⟨q, _⟩ | ⟨c, q1, q2, q3, q4, q5⟩
    · rw [q] at e; cases e
    · rw [q3] at e; cases e; exact q1 rfl
  have hgb := hkeep b _ (by rw [hn1]; exact h.lt) hnb hg1
  have hW : Wrote s b y (x ++ l) (t.upd b (.cells [.ptr b 0, y'] (some 107))) := by
    refine ⟨by rw [AHeap.nx_upd]; omega, ?_, y', ⟨⟨_, .inr rfl, by rw [AHeap.get_upd, if_pos rfl]⟩, by rw [AHeap.nx_upd]; have := h.lt; omega, ?_⟩, fun m hm => by rw [← hn1]; exact hown m hm⟩
    · intro m o hm hne hno hg
      rw [AHeap.get_upd, if_neg hne]
      exact hkeep m o (by omega) hno (by rw [hk1 m hne]; exact hg)
    · rcases hbuf with q | ⟨c, q1, q2, q3, q4, q5⟩
      · exact .inl q
      · exact .inr ⟨c, q1, by rw [AHeap.nx_upd]; exact q2, q3, q4, by rw [AHeap.get_upd, if_neg q1]; exact q5⟩
  rcases hbuf with ⟨rfl, _⟩ | ⟨c, _, _, rfl, _, _⟩
  · simp +contextual only [hlen, harg, hg1, hgb, ty105, ty9, happ, go_sem, Nat.reduceLT, Nat.reduceEqDiff, Nat.reduceAdd, Nat.reduceLeDiff, reduceIte, reduceCtorEq]
    exact hW
  · simp +contextual only [hlen, harg, hg1, hgb, ty105, ty9, happ, go_sem, Nat.reduceLT, Nat.reduceEqDiff, Nat.reduceAdd, Nat.reduceLeDiff, reduceIte, reduceCtorEq]
    exact hW
theorem string_ok {s : AHeap} {b : Nat} {y : AV} {x : List UInt8} (h : Bld s b y x) (hb : x.length ≤ 4611686018427387904) :
    ACall Tryz.prog 54 [.ptr b 0] s fun v t => v = .str x ∧ t.nx = s.nx ∧ ∀ m o, ¬ Own y m → s.get m = some o → t.get m = some o := by
  have hbi : ∀ l : List UInt8, abytesIn (bytes l) = some l := by
    intro l
    induction l with
    | nil => rfl
    | cons a l ih =>
      have h1 : (0 : Int) ≤ (a.toNat : Int) ∧ (a.toNat : Int) < 256 := ⟨by omega, by have := a.toNat_lt; omega⟩
      show abytesIn (.int .u8 a.toNat :: bytes l) = _
      simp only [abytesIn, if_pos h1, ih, Option.map_some]
      simp
  obtain ⟨p, hp, hg⟩ := h.get
  rcases h.buf with ⟨rfl, rfl⟩ | ⟨c, h1, h2, rfl, h3, h4⟩
  · have : aBString 5 [.ptr b 0] s = some (.str [], s) := by simp [aBString, hg]
    refine (aBString_ok (ρ := Tryz.lays169_ren) Tryz.lays169 Tryz.Builder_Extra_169 this).mono ?_
    rintro v t ⟨rfl, rfl⟩
    exact ⟨rfl, rfl, fun m o _ hm => hm⟩
  · obtain ⟨n, hn⟩ : ∃ n, x.length = n + 1 := ⟨x.length - 1, by have := List.length_pos_iff.2 h3; omega⟩
    have : aBString 5 [.ptr b 0] s = some (.str x, s.del c) := by
      have ht : List.take (n + 1) (bytes x) = bytes x := List.take_of_length_le (by simp [bytes, hn])
      have hlen : n + 1 ≤ (bytes x).length := by simp [bytes, hn]
      have hsm : n + 1 ≤ 9223372036854775807 := by omega
      simp only [aBString, hg, hn, h4, ht, hbi, hlen, hsm, and_self, if_true]
    refine (aBString_ok (ρ := Tryz.lays169_ren) Tryz.lays169 Tryz.Builder_Extra_169 this).mono ?_
    rintro v t ⟨rfl, rfl⟩
    refine ⟨rfl, AHeap.nx_del _ _, fun m o hno hm => ?_⟩
    rw [AHeap.get_del, if_neg (by rintro rfl; exact hno ⟨_, rfl⟩)]; exact hm
end Go.S1
end
section
namespace Go.S1
open Go Go.Am Go.Proofs
set_option maxRecDepth 100000
attribute [local go_sem] lvc_seq lvc_draw lvc_ops lvc_skip lvc_block lvc_exit lops_nil lops_cons lops_guard lstep_move lstep_assign lstep_binOp lstep_unOp lstep_pick lstep_nilCheck lstep_build lstep_slice lstep_fieldAddr lstep_indexAddr lstep_extract lstep_makeFunc lstep_load lstep_store lstep_makeSlice lstep_buildSlice lstep_len lstep_append lstep_call lfun_func athen_normal athen_ret athen_exit ablock_normal ablock_ret ablock_exit ablock_exit_ne lvc_ret lvc_cond lvc_loop length_aput aput_none aev_same aev_ne aev_bool aev_int aev_str aev_nilIface aev_nilp aev_nils aev_nilm aev_func List.getD_cons_zero List.getD_cons_succ List.map_cons List.map_nil Option.map_some Option.map_none List.nil_append List.append_nil abin_add abin_sub abin_mul abin_eql abin_neq abin_lss abin_leq abin_gtr abin_geq abin_seql abin_sneq lval_some lmem_some bool?_bool ne_eq not_false_eq_true lpost_ret1 lpost_ret2 lcond_true lcond_false lcond_decide lcond_not lguard_decide_true lguard_decide_false lguard_true_true lguard_true_false lguard_false_false lguard_false_true apick_true apick_false decide_true decide_false lstep_min amin2_int amax2_int aun_not_decide aun_not_true aun_not_false aun_neg not_true_eq_false Classical.not_not al3 al9 al27 al37 al107 ld3 st3 ld9 st9 len9 ld22 st22 len22r fa25_0p fa25_1p ld27 st27 ld29 fa37_0p fa37_1p fa37_2p ld37 st37 len58r len75r ld105 st105 fa107_1p acellsAt_r acellsAt_p astoreAt_p cells?_some Option.bind_some AV.ofV AV.ofOne AV.israw AV.cells splice AHeap.get_new AHeap.get_upd AHeap.nx_new AHeap.nx_upd List.drop_zero List.drop_succ_cons List.take_succ_cons List.take_zero List.length_cons List.length_nil List.all_cons List.all_nil AV.one List.set_cons_zero List.set_cons_succ List.getElem?_cons_zero List.getElem?_cons_succ Nat.zero_add Nat.add_zero Bool.and_true and_self and_true true_and if_true if_false ite_true ite_false Bool.false_eq_true Bool.true_eq_false List.toList_toArray Nat.le_refl List.drop_nil List.take_nil get_bump nx_bump ldrun_nil ldrun_cons ldrun_guard ldval_some ldstep_move ldstep_slice ldstep_fieldAddr ldstep_load List.cons_append lallocs ldlen_some ldmem_some AHeap.upds List.foldl_nil List.foldl_cons
theorem Bld.keep {s t : AHeap} {b : Nat} {y : AV} {x : List UInt8} (h : Bld s b y x) (hn : s.nx ≤ t.nx) (hk : ∀ m o, (m = b ∨ Own y m) → s.get m = some o → t.get m = some o) : Bld t b y x := by
  obtain ⟨p, hp, hg⟩ := h.get
  refine ⟨⟨p, hp, hk b _ (.inl rfl) hg⟩, Nat.lt_of_lt_of_le h.lt hn, ?_⟩
  rcases h.buf with q | ⟨c, q1, q2, q3, q4, q5⟩
  · exact .inl q
  · exact .inr ⟨c, q1, Nat.lt_of_lt_of_le q2 hn, q3, q4, hk c _ (.inr ⟨_, q3⟩) q5⟩
theorem Bld.own_lt {s : AHeap} {b : Nat} {y : AV} {x : List UInt8} (h : Bld s b y x) {m : Nat} (hm : m = b ∨ Own y m) : m < s.nx := by
  rcases hm with rfl | ⟨n, e⟩
  · exact h.lt
  · rcases h.buf with ⟨q, _⟩ | ⟨c, q1, q2, q3, q4, q5⟩
    · rw [q] at e; cases e
    · rw [q3] at e; cases e; exact q2
theorem abin_sadd {t : TypeId} {a b : List UInt8} (h : a.length + b.length ≤ 9223372036854775807) : abin tab .add t (.str a) (.str b) = some (.str (a ++ b)) := by
  have hm : IntKind.i64.max = 9223372036854775807 := rfl
  have : ¬ (((a.length + b.length : Nat) : Int) > IntKind.i64.max) := by rw [hm]; omega
  simp only [abin, abin1, astr, if_neg this]
theorem slice9 {x : List UInt8} {lo hi : Int} (h0 : 0 ≤ lo) (h1 : lo ≤ hi) (h2 : hi ≤ x.length) : aslice tab 9 (.str x) (some (.int .i64 lo)) (some (.int .i64 hi)) none = some (.str ((x.drop lo.toNat).take (hi.toNat - lo.toNat))) := by
  have e1 : 0 ≤ hi := by omega
  have e3 : lo ≤ (hi.toNat : Int) := by omega
  have e4 : lo ≤ max hi 0 := by omega
  simp [aslice, ty9, abounds, aidx, h0, e1, h2, e3, e4]
theorem slice9a {x : List UInt8} {lo : Int} (h0 : 0 ≤ lo) (h2 : lo ≤ x.length) : aslice tab 9 (.str x) (some (.int .i64 lo)) none none = some (.str (x.drop lo.toNat)) := by
  have e : List.take (x.length - lo.toNat) (x.drop lo.toNat) = x.drop lo.toNat := List.take_of_length_le (by simp)
  simp [aslice, ty9, abounds, aidx, h0, h2, e]
def applyFrom (x : List UInt8) : Nat → List Ed → List UInt8
  | f, [] => x.drop f
  | f, e :: r => (x.drop f).take (e.at_.toNat - f) ++ e.new ++ applyFrom x (e.at_ + e.cut).toNat r
theorem scan_cons {n B : Int} {e : Ed} {r : List Ed} (h : scan n B (e :: r) = 0) : 0 ≤ e.at_ ∧ e.at_ ≤ n ∧ 0 ≤ e.cut ∧ e.cut ≤ n - e.at_ ∧ B < e.at_ ∧ scan n (e.at_ + e.cut) r = 0 := by
  rw [scan] at h
  split at h
  · cases h
  · split at h
    · cases h
    · split at h
      · cases h
      · split at h
        · cases h
        · omega
theorem apply_ok (x : List UInt8) (v : AV) (l : List Ed) (hv : SlE v l) (hl : l.length ≤ 2000) (hx : x.length ≤ 20000) (hnew : ∀ e ∈ l, e.new.length ≤ 1000000) (hsc : scan x.length (-1) l = 0) (s : AHeap) :
    ACall Tryz.prog 32 [.str x, v] s fun r t => r = .str (applyFrom x 0 l) ∧ Sub s t := by
  refine go32 (by simp) ?_
  intro tm hlen harg
  simp +contextual only [L32, hlen, harg, hv.len, go_sem, Nat.reduceLT, Nat.reduceEqDiff, Nat.reduceAdd, Nat.reduceLeDiff, reduceIte, reduceCtorEq]
  refine ⟨fun k tm' s' => ∃ (i F : Nat) (B : Int) (w : List UInt8) (y : AV), k + i = l.length ∧ tm'.length = 35 ∧ aev tm' (.tmp 0) = .str x ∧ aev tm' (.tmp 5) = .ptr s.nx 0 ∧ aev tm' (.tmp 6) = .int .i64 F ∧ aev tm' (.tmp 9) = v ∧
        aev tm' (.tmp 10) = .int .i64 l.length ∧ aev tm' (.tmp 11) = .int .i64 i ∧ F ≤ x.length ∧ (B = F ∨ (B = -1 ∧ F = 0)) ∧ scan x.length B (l.drop i) = 0 ∧ Bld s' s.nx y w ∧ (∀ m, Own y m → s.nx ≤ m) ∧ Sub s s' ∧
        w ++ applyFrom x F (l.drop i) = applyFrom x 0 l ∧ w.length ≤ F + i * 1000000, l.length, ⟨0, 0, -1, [], .nils, by simp, ?_⟩, ?_⟩
  · simp [length_aput, hlen, aev_same, aev_ne, harg, hsc]
    refine ⟨⟨⟨.nilp, .inl rfl, by rw [AHeap.get_new, if_pos rfl]⟩, by rw [AHeap.nx_new]; omega, .inl ⟨rfl, rfl⟩⟩, (by rintro m ⟨n, e⟩; cases e), (Sub.refl s).new _⟩
  · rintro k tm1 s1 ⟨i, F, B, w, y, hk, hlen1, q0, q5, q6, q9, q10, q11, hF, hB, hs0, hbld, hown, hs, happ, hwl⟩
    simp +contextual only [hlen1, q0, q5, q6, q9, q10, q11, go_sem, Nat.reduceLT, Nat.reduceEqDiff, Nat.reduceAdd, Nat.reduceLeDiff, reduceIte, reduceCtorEq]
    refine ⟨fun hlt => ?_, fun hge => ?_⟩
    · have hi : i < l.length := by omega
      have he := List.getElem?_eq_getElem hi
      have hmem : l[i] ∈ l := List.getElem_mem hi
      have hdrop := List.drop_eq_getElem_cons hi
      generalize l[i] = e at he hdrop hmem
      have hen := hnew e hmem
      rw [hdrop] at hs0 happ
      obtain ⟨c1, c2, c3, c4, c5, c6⟩ := scan_cons hs0
      have hFe : (F : Int) ≤ e.at_ := by omega
      simp +contextual only [hlen1, q0, q5, q6, q9, q10, q11, hv.at he, go_sem, Nat.reduceLT, Nat.reduceEqDiff, Nat.reduceAdd, Nat.reduceLeDiff, reduceIte, reduceCtorEq]
      refine ldraw_plain 7 (by decide) ?_
      simp +contextual only [hlen1, q0, q5, q6, q9, q10, q11, slice9 (Int.natCast_nonneg F) hFe c2, go_sem, Nat.reduceLT, Nat.reduceEqDiff, Nat.reduceAdd, Nat.reduceLeDiff, reduceIte, reduceCtorEq]
      refine ⟨by kernel_rfl, ?_⟩
      have hpl : ((x.drop (F : Int).toNat).take (e.at_.toNat - (F : Int).toNat)).length ≤ e.at_.toNat - F := by simp; omega
      have hpe : ((x.drop (F : Int).toNat).take (e.at_.toNat - (F : Int).toNat)) = (x.drop F).take (e.at_.toNat - F) := by simp
      generalize hpp : ((x.drop (F : Int).toNat).take (e.at_.toNat - (F : Int).toNat)) = p at hpl hpe
      have hi2 : i * 1000000 ≤ 2000 * 1000000 := Nat.mul_le_mul_right _ (by omega)
      have hadd := abin_sadd (t := 9) (a := p) (b := e.new) (by omega)
      have hB2 : Bld (bump ((s1.new (.cells [.int .i64 0, .int .i64 0, .str []] (some 37))).upd s1.nx (.cells [.int .i64 e.at_, .int .i64 e.cut, .str e.new] (some 37))) 7) s.nx y w := by
        refine hbld.keep (by rw [nx_bump, AHeap.nx_upd, AHeap.nx_new]; omega) ?_
        intro m o hm hg
        have := hbld.own_lt hm
        rw [get_bump, AHeap.get_upd, if_neg (by omega), AHeap.get_new, if_neg (by omega)]; exact hg
      have hge1 : (bump ((s1.new (.cells [.int .i64 0, .int .i64 0, .str []] (some 37))).upd s1.nx (.cells [.int .i64 e.at_, .int .i64 e.cut, .str e.new] (some 37))) 7).get s1.nx = some (.cells [.int .i64 e.at_, .int .i64 e.cut, .str e.new] (some 37)) := by
        rw [get_bump, AHeap.get_upd, if_pos rfl]
      have hS2 := ((hs.new (.cells [.int .i64 0, .int .i64 0, .str []] (some 37))).upd hs.1 (.cells [.int .i64 e.at_, .int .i64 e.cut, .str e.new] (some 37))).bump 7
      have hnx2 : (bump ((s1.new (.cells [.int .i64 0, .int .i64 0, .str []] (some 37))).upd s1.nx (.cells [.int .i64 e.at_, .int .i64 e.cut, .str e.new] (some 37))) 7).nx = s1.nx + 8 := by rw [nx_bump, AHeap.nx_upd, AHeap.nx_new]
      simp +contextual only [hlen1, q0, q5, q6, q9, q10, q11, hadd, go_sem, Nat.reduceLT, Nat.reduceEqDiff, Nat.reduceAdd, Nat.reduceLeDiff, reduceIte, reduceCtorEq]
      generalize bump ((s1.new (.cells [.int .i64 0, .int .i64 0, .str []] (some 37))).upd s1.nx (.cells [.int .i64 e.at_, .int .i64 e.cut, .str e.new] (some 37))) 7 = s2 at hB2 hge1 hS2 hnx2 ⊢
      refine lcall_of (writeString_ok hB2 (p ++ e.new) (by rw [List.length_append]; omega)) ?_
      rintro _ t ⟨rfl, hW⟩
      have hne : s1.nx ≠ s.nx := by have := hbld.lt; omega
      have hno : ¬ Own y s1.nx := fun q => by have := hbld.own_lt (.inr q); omega
      have hgt := hW.keep s1.nx _ (by omega) hne hno hge1
      obtain ⟨y', hB3, hown'⟩ := hW.bld
      have hw1 : IntKind.i64.wrap ((i : Int) + 1) = ((i + 1 : Nat) : Int) := by rw [wrap_id (by omega)]; rfl
      have hw2 : IntKind.i64.wrap (e.at_ + e.cut) = ((e.at_ + e.cut).toNat : Int) := by rw [wrap_id (by omega)]; omega
      simp +contextual only [hlen1, q0, q5, q6, q9, q10, q11, hgt, go_sem, Nat.reduceLT, Nat.reduceEqDiff, Nat.reduceAdd, Nat.reduceLeDiff, reduceIte, reduceCtorEq]
      refine ⟨k - 1, by omega, i + 1, (e.at_ + e.cut).toNat, e.at_ + e.cut, w ++ (p ++ e.new), y', by omega, by rw [hw2], by rw [hw1], by omega, .inl (by omega), c6, hB3, ?_, ?_, ?_, ?_⟩
      · intro m hm
        rcases hown' m hm with q | q
        · exact hown m q
        · have := hbld.lt; omega
      · refine ⟨Nat.le_trans hS2.1 hW.nx, fun m o hm hg => ?_⟩
        refine hW.keep m o (by have := hS2.1; omega) (by omega) (fun q => ?_) (hS2.2 m o hm hg)
        have := hown m q; omega
      · rw [← happ, applyFrom, hpe]
        simp
      · simp only [List.length_append]
        have : (i + 1) * 1000000 = i * 1000000 + 1000000 := by omega
        omega
    · have hi : i = l.length := by omega
      have hdl : l.drop i = [] := by rw [hi, List.drop_length]
      rw [hdl] at happ hs0
      simp +contextual only [hlen1, q0, q5, q6, q9, q10, q11, slice9a (Int.natCast_nonneg F) (show (F : Int) ≤ x.length by omega), go_sem, Nat.reduceLT, Nat.reduceEqDiff, Nat.reduceAdd, Nat.reduceLeDiff, reduceIte, reduceCtorEq]
      have hi2 : i * 1000000 ≤ 2000 * 1000000 := Nat.mul_le_mul_right _ (by omega)
      refine lcall_of (writeString_ok hbld _ (by simp; omega)) ?_
      rintro _ t ⟨rfl, hW⟩
      obtain ⟨y', hB3, hown'⟩ := hW.bld
      simp +contextual only [hlen1, q0, q5, q6, q9, q10, q11, go_sem, Nat.reduceLT, Nat.reduceEqDiff, Nat.reduceAdd, Nat.reduceLeDiff, reduceIte, reduceCtorEq]
      refine lcall_of (string_ok hB3 (by simp; omega)) ?_
      rintro _ t2 ⟨rfl, hn2, hk2⟩
      simp +contextual only [hlen1, go_sem, Nat.reduceLT, Nat.reduceEqDiff, Nat.reduceAdd, Nat.reduceLeDiff, reduceIte, reduceCtorEq]
      refine ⟨?_, ?_⟩
      · rw [← happ, applyFrom]; simp
      · refine ⟨by have := hs.1; have := hW.nx; omega, fun m o hm hg => ?_⟩
        refine hk2 m o (fun q => ?_) (hW.keep m o (by have := hs.1; omega) (by omega) (fun q => ?_) (hs.2 m o hm hg))
        · rcases hown' m q with r | r
          · have := hown m r; omega
          · have := hs.1; omega
        · have := hown m q; omega
end Go.S1
end
section
namespace Go.S1
open Go Go.Am Go.Proofs
set_option maxRecDepth 100000
theorem build35_3 {a b : Int} {c : List UInt8} : abuild tab 37 [(0, .int .i64 a), (1, .int .i64 b), (2, .str c)] = some (.agg [.int .i64 a, .int .i64 b, .str c]) := by
  simp [abuild, ty37, Tab.size, ty3, ty9, AV.ofV, AV.ofOne, afill, AV.israw, AV.cells, splice]
theorem textFault_zero {x : List UInt8} {l : List Ed} (h : textFault x l = 0) : x.length ≤ 20000 ∧ l.length ≤ 2000 ∧ scan x.length (-1) l = 0 := by
  unfold textFault at h
  split at h
  · cases h
  · unfold faultOf at h
    split at h
    · cases h
    · split at h
      · cases h
      · split at h
        · rename_i hs; exact absurd h hs
        · rename_i hs
          exact ⟨by omega, by omega, by simpa using hs⟩
end Go.S1
end
section
namespace Go.S1
open Go Go.Am Go.Proofs
set_option maxRecDepth 100000
def letters (L : List (Int × UInt8)) : List AV := L.flatMap fun p => [.int .i64 p.1, .int .u8 p.2.toNat]
def Own2 (y : AV) (m : Nat) : Prop := ∃ n, y = .rs 2 m 0 n
structure Flow (s : AHeap) (F : Nat) (n : Int) (y : AV) (L : List (Int × UInt8)) : Prop where
  get : s.get F = some (.cells [.int .i64 n, y] (some 987650118))
  lt : F < s.nx
  buf : (y = .nils ∧ L = []) ∨ ∃ c, c ≠ F ∧ c < s.nx ∧ y = .rs 2 c 0 L.length ∧ L ≠ [] ∧ s.get c = some (.cells (letters L) (some 987650121))
def runOf (a k : Nat) : List (Int × UInt8) := (List.range' a k).map fun (i : Nat) => ((i : Int), (0 : UInt8))
structure Flowed (s : AHeap) (F A : Nat) (n : Int) (y : AV) (L : List (Int × UInt8)) (a : Int) (t : AHeap) : Prop where
  nx : s.nx ≤ t.nx
  keep : ∀ m o, m < s.nx → m ≠ F → m ≠ A → ¬ Own2 y m → s.get m = some o → t.get m = some o
  at_ : t.get A = some (.cells [.int .i64 a] (some 3))
  flow : ∃ y', Flow t F n y' L ∧ ¬ Own2 y' A ∧ ∀ m, Own2 y' m → Own2 y m ∨ s.nx ≤ m
end Go.S1
end
section
namespace Go.S1
open Go Go.Am Go.Proofs
set_option maxRecDepth 100000
def flowFrom (n : Nat) : Nat → List Ed → List (Int × UInt8)
  | a, [] => runOf a (n - a)
  | a, e :: r => runOf a (e.at_.toNat - a) ++ e.new.map (fun c => ((-1 : Int), c)) ++ flowFrom n (e.at_ + e.cut).toNat r
end Go.S1
end
section
namespace Go.S1
open Go Go.Am Go.Proofs
set_option maxRecDepth 100000
def say (x : List UInt8) (p : Int × UInt8) : UInt8 := if 0 ≤ p.1 then x.getD p.1.toNat 0 else p.2
theorem say_run (x : List UInt8) : ∀ (k a : Nat), a + k ≤ x.length → (runOf a k).map (say x) = (x.drop a).take k
  | 0, a, _ => by simp [runOf]
  | k + 1, a, h => by
    have hlt : a < x.length := by omega
    rw [List.drop_eq_getElem_cons hlt, List.take_succ_cons, ← say_run x k (a + 1) (by omega)]
    simp [runOf, List.range'_succ, say, List.getD_eq_getElem?_getD, hlt]
theorem say_flow (x : List UInt8) : ∀ (l : List Ed) (a : Nat) (B : Int), (B = a ∨ (B = -1 ∧ a = 0)) → a ≤ x.length → scan x.length B l = 0 → (flowFrom x.length a l).map (say x) = applyFrom x a l
  | [], a, B, hB, ha, _ => by
    rw [flowFrom, applyFrom, say_run x _ _ (by omega), List.take_of_length_le (by simp)]
  | e :: r, a, B, hB, ha, h => by
    obtain ⟨c1, c2, c3, c4, c5, c6⟩ := scan_cons h
    rw [flowFrom, applyFrom, List.map_append, List.map_append, say_run x _ _ (by omega), say_flow x r _ _ (.inl (by omega)) (by omega) c6]
    congr 2
    rw [List.map_map]
    have : ∀ c ∈ e.new, (say x ∘ fun c => ((-1 : Int), c)) c = c := by intro c _; simp [say]
    rw [List.map_congr_left this]
    simp
end Go.S1
end
section
namespace Go.S1
open Go Go.Am Go.Proofs
set_option maxRecDepth 100000
attribute [local go_sem] lvc_seq lvc_draw lvc_ops lvc_skip lvc_block lvc_exit lops_nil lops_cons lops_guard lstep_move lstep_assign lstep_binOp lstep_unOp lstep_pick lstep_nilCheck lstep_build lstep_slice lstep_fieldAddr lstep_indexAddr lstep_extract lstep_makeFunc lstep_load lstep_store lstep_makeSlice lstep_buildSlice lstep_len lstep_append lstep_call lfun_func athen_normal athen_ret athen_exit ablock_normal ablock_ret ablock_exit ablock_exit_ne lvc_ret lvc_cond lvc_loop length_aput aput_none aev_same aev_ne aev_bool aev_int aev_str aev_nilIface aev_nilp aev_nils aev_nilm aev_func List.getD_cons_zero List.getD_cons_succ List.map_cons List.map_nil Option.map_some Option.map_none List.nil_append List.append_nil abin_add abin_sub abin_mul abin_eql abin_neq abin_lss abin_leq abin_gtr abin_geq abin_seql abin_sneq lval_some lmem_some bool?_bool ne_eq not_false_eq_true lpost_ret1 lpost_ret2 lcond_true lcond_false lcond_decide lcond_not lguard_decide_true lguard_decide_false lguard_true_true lguard_true_false lguard_false_false lguard_false_true apick_true apick_false decide_true decide_false lstep_min amin2_int amax2_int aun_not_decide aun_not_true aun_not_false aun_neg not_true_eq_false Classical.not_not al3 al9 al27 al37 al107 ld3 st3 ld9 st9 len9 ld22 st22 len22r fa25_0p fa25_1p ld27 st27 ld29 fa37_0p fa37_1p fa37_2p ld37 st37 len58r len75r ld105 st105 fa107_1p acellsAt_r acellsAt_p astoreAt_p cells?_some Option.bind_some AV.ofV AV.ofOne AV.israw AV.cells splice AHeap.get_new AHeap.get_upd AHeap.nx_new AHeap.nx_upd List.drop_zero List.drop_succ_cons List.take_succ_cons List.take_zero List.length_cons List.length_nil List.all_cons List.all_nil AV.one List.set_cons_zero List.set_cons_succ List.getElem?_cons_zero List.getElem?_cons_succ Nat.zero_add Nat.add_zero Bool.and_true and_self and_true true_and if_true if_false ite_true ite_false Bool.false_eq_true Bool.true_eq_false List.toList_toArray Nat.le_refl List.drop_nil List.take_nil get_bump nx_bump ldrun_nil ldrun_cons ldrun_guard ldval_some ldstep_move ldstep_slice ldstep_fieldAddr ldstep_load List.cons_append lallocs ldlen_some ldmem_some AHeap.upds List.foldl_nil List.foldl_cons
def wr (n : Int) : Int := IntKind.i64.wrap n
def belowOf (x n : Int) : Int := if n < 1 then 0 else if x.tmod n < 0 then wr (x.tmod n + n) else x.tmod n
theorem below_ok (x n : Int) (s : AHeap) : ACall Tryz.prog 71 [.int .i64 x, .int .i64 n] s fun v t => v = .int .i64 (belowOf x n) ∧ t = s := by
  refine go71 (by simp) ?_
  intro tm hlen harg
  simp +contextual only [L71, hlen, harg, go_sem, Nat.reduceLT, Nat.reduceEqDiff, Nat.reduceAdd, Nat.reduceLeDiff, reduceIte, reduceCtorEq]
  refine ⟨fun h => ?_, fun h => ?_⟩
  · simp [belowOf, h]
  · have hn : n ≠ 0 := by omega
    simp +contextual only [hlen, harg, abin_rem hn, go_sem, Nat.reduceLT, Nat.reduceEqDiff, Nat.reduceAdd, Nat.reduceLeDiff, reduceIte, reduceCtorEq]
    refine ⟨fun h2 => ?_, fun h2 => ?_⟩
    · simp only [belowOf, if_neg h, if_pos h2, wr, and_self]
    · simp only [belowOf, if_neg h, if_neg h2, and_self]
theorem below_lt {x n : Int} (hn : 1 ≤ n) (hb : n ≤ 4611686018427387904) : 0 ≤ belowOf x n ∧ belowOf x n < n := by
  unfold belowOf
  rw [if_neg (by omega)]
  have h1 := Int.tmod_lt_of_pos x (show 0 < n by omega)
  have h2 := Int.lt_tmod_of_pos x (show 0 < n by omega)
  split
  · rw [wr, wrap_id (by omega)]; omega
  · omega
def IsInts (v : AV) (l : List Int) : Prop := (∃ f, v = .vs 1 f (l.map (AV.int .i64))) ∨ (v = .nils ∧ l = [])
theorem IsInts.len {v : AV} {l : List Int} (h : IsInts v l) : alen tab 22 v = some (.int .i64 l.length) := by
  rcases h with ⟨f, rfl⟩ | ⟨rfl, rfl⟩ <;> simp [alen, ty22]
theorem IsInts.at {v : AV} {l : List Int} (h : IsInts v l) {n : Int} (h0 : 0 ≤ n) {x : Int} (he : l[n.toNat]? = some x) : aindexAddr tab 22 v (.int .i64 n) = some (.rptr [.int .i64 x]) := by
  rcases h with ⟨f, rfl⟩ | ⟨rfl, rfl⟩
  · simp [aindexAddr, ty22, Tab.size, ty3, he, h0, AV.israw, AV.cells]
  · simp at he
def nextOf (L : List Int) (at_ n : Int) : Int :=
  if L = [] then belowOf (wr (wr (at_ + 1) * 7919)) n
  else
    let i := (wr (wr (at_ + 1) - 1)).tmod L.length
    let round := wr ((wr (wr (at_ + 1) - 1)).tdiv L.length)
    belowOf (wr (belowOf (L.getD i.toNat 0) 1073741824 + wr (round * wr (7919 + i)))) n
theorem nextOf_lt (L : List Int) (at_ : Int) {n : Int} (hn : 1 ≤ n) (hb : n ≤ 4611686018427387904) : 0 ≤ nextOf L at_ n ∧ nextOf L at_ n < n := by
  unfold nextOf
  split
  · exact below_lt hn hb
  · exact below_lt hn hb
structure Strm (s : AHeap) (b : Nat) (Lv : AV) (L : List Int) (at_ : Int) : Prop where
  ints : IsInts Lv L
  len : L.length < 4611686018427387904
  at0 : 0 ≤ at_
  get : s.get b = some (.cells [Lv, .int .i64 at_] (some 25))
theorem rs_at {b n : Nat} {i : Int} (h0 : 0 ≤ i) (h1 : i < n) : aindexAddr tab 22 (.rs 1 b 0 n) (.int .i64 i) = some (.ptr b i.toNat) := by
  simp [aindexAddr, ty22, Tab.size, ty3, h0, h1]
theorem rs_at63 {b n : Nat} {i : Int} (h0 : 0 ≤ i) (h1 : i < n) : aindexAddr tab 75 (.rs 1 b 0 n) (.int .i64 i) = some (.ptr b i.toNat) := by
  simp [aindexAddr, ty75, Tab.size, ty9, h0, h1]
end Go.S1
end
