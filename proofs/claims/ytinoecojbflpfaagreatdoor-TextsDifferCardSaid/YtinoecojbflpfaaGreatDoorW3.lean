/- Part 3 of a proof: texts of this work, put together. -/
import Derived.Test.YtinoecojbflpfaaGreatDoorW2
set_option linter.unusedVariables false
set_option linter.unusedSimpArgs false
section
namespace Go.S1
open Go Go.Am Go.Proofs
set_option maxRecDepth 100000
structure Ed where
  at_ : Int
  cut : Int
  new : List UInt8
def Ed.enc (e : Ed) : AV := .agg [.int .i64 e.at_, .int .i64 e.cut, .str e.new]
def SlE (v : AV) (l : List Ed) : Prop := (∃ f, v = .vs 3 f (l.map Ed.enc)) ∨ (v = .nils ∧ l = [])
theorem SlE.len {v : AV} {l : List Ed} (h : SlE v l) : alen tab 28 v = some (.int .i64 l.length) := by
  rcases h with ⟨f, rfl⟩ | ⟨rfl, rfl⟩ <;> simp [alen, ty28]
theorem SlE.at {v : AV} {l : List Ed} (h : SlE v l) {i : Nat} {e : Ed} (he : l[i]? = some e) : aindexAddr tab 28 v (.int .i64 i) = some (.rptr [.int .i64 e.at_, .int .i64 e.cut, .str e.new]) := by
  rcases h with ⟨f, rfl⟩ | ⟨rfl, rfl⟩
  · simp [aindexAddr, ty28, Tab.size, ty44, he, Ed.enc, AV.israw, AV.cells]
  · simp at he
def Sub (s t : AHeap) : Prop := s.nx ≤ t.nx ∧ ∀ b o, b < s.nx → s.get b = some o → t.get b = some o
theorem Sub.refl (s : AHeap) : Sub s s := ⟨Nat.le_refl _, fun _ _ _ h => h⟩
theorem Sub.trans {s t u : AHeap} (h : Sub s t) (h' : Sub t u) : Sub s u := ⟨Nat.le_trans h.1 h'.1, fun b o hb e => h'.2 b o (Nat.lt_of_lt_of_le hb h.1) (h.2 b o hb e)⟩
theorem Sub.new {s t : AHeap} (h : Sub s t) (o : AObj) : Sub s (t.new o) := ⟨by rw [AHeap.nx_new]; have := h.1; omega, fun b o' hb e => by
  rw [AHeap.get_new, if_neg (by have := h.1; omega)]; exact h.2 b o' hb e⟩
theorem Sub.upd {s t : AHeap} (h : Sub s t) {b : Nat} (hb : s.nx ≤ b) (o : AObj) : Sub s (t.upd b o) := ⟨by rw [AHeap.nx_upd]; exact h.1, fun b' o' hb' e => by
  rw [AHeap.get_upd, if_neg (by omega)]; exact h.2 b' o' hb' e⟩
theorem Sub.del {s t : AHeap} (h : Sub s t) {b : Nat} (hb : s.nx ≤ b) : Sub s (t.del b) := ⟨by rw [AHeap.nx_del]; exact h.1, fun b' o' hb' e => by
  rw [AHeap.get_del, if_neg (by omega)]; exact h.2 b' o' hb' e⟩
end Go.S1
end
section
namespace Go.S1
open Go Go.Am Go.Proofs
set_option maxRecDepth 100000
attribute [local go_sem] lvc_seq lvc_draw lvc_ops lvc_skip lvc_block lvc_exit lops_nil lops_cons lops_guard lstep_move lstep_assign lstep_binOp lstep_unOp lstep_pick lstep_nilCheck lstep_build lstep_slice lstep_fieldAddr lstep_field lstep_indexAddr lstep_index lstep_extract lstep_makeFunc lstep_load lstep_store lstep_makeSlice lstep_buildSlice lstep_len lstep_append lstep_call lfun_func athen_normal athen_ret athen_exit ablock_normal ablock_ret ablock_exit ablock_exit_ne lvc_ret lvc_cond lvc_loop length_aput aput_none aev_same aev_ne aev_bool aev_int aev_str aev_nilIface aev_nilp aev_nils aev_nilm aev_func List.getD_cons_zero List.getD_cons_succ List.map_cons List.map_nil Option.map_some Option.map_none List.nil_append List.append_nil abin_add abin_sub abin_mul abin_eql abin_neq abin_lss abin_leq abin_gtr abin_geq abin_seql abin_sneq lval_some lmem_some bool?_bool ne_eq not_false_eq_true lpost_normal0 lpost_ret1 lpost_cell1 lcond_true lcond_false lcond_decide lcond_not lguard_decide_true lguard_decide_false lguard_true_true lguard_true_false lguard_false_false lguard_false_true apick_true apick_false decide_true decide_false lstep_min amin2_int amax2_int aun_not_decide aun_not_true aun_not_false aun_neg not_true_eq_false Classical.not_not al3 al9 al28 al44 al120 al123 al126 ld3 st3 ld4 st4 ld5 st5 ld9 st9 len9 ld22 st22 len22r fa25_0p fa25_1p ld28 st28 fa44_0p fa44_1p fa44_2p ld44 st44 ld118 st118 len118r fa120_1p ld121 st121 len121n len121r fa123_0p fa123_1p ld123 st123 fa126_0p fa126_1p ld126 st126 len189r acellsAt_r acellsAt_p astoreAt_p cells?_some Option.bind_some AV.ofV AV.ofOne AV.israw AV.cells splice AHeap.get_new AHeap.get_upd AHeap.nx_new AHeap.nx_upd List.drop_zero List.drop_succ_cons List.take_succ_cons List.take_zero List.length_cons List.length_nil List.all_cons List.all_nil AV.one List.set_cons_zero List.set_cons_succ List.getElem?_cons_zero List.getElem?_cons_succ Nat.zero_add Nat.add_zero Bool.and_true and_self and_true true_and if_true if_false ite_true ite_false Bool.false_eq_true Bool.true_eq_false List.toList_toArray Nat.le_refl List.drop_nil List.take_nil get_bump nx_bump
def longOf (n : Int) (l : List Ed) : Int := l.foldl (fun n e => IntKind.i64.wrap (n + IntKind.i64.wrap (e.new.length - e.cut))) n
end Go.S1
end
section
namespace Go.S1
open Go Go.Am Go.Proofs
set_option maxRecDepth 100000
attribute [local go_sem] lvc_seq lvc_draw lvc_ops lvc_skip lvc_block lvc_exit lops_nil lops_cons lops_guard lstep_move lstep_assign lstep_binOp lstep_unOp lstep_pick lstep_nilCheck lstep_build lstep_slice lstep_fieldAddr lstep_field lstep_indexAddr lstep_index lstep_extract lstep_makeFunc lstep_load lstep_store lstep_makeSlice lstep_buildSlice lstep_len lstep_append lstep_call lfun_func athen_normal athen_ret athen_exit ablock_normal ablock_ret ablock_exit ablock_exit_ne lvc_ret lvc_cond lvc_loop length_aput aput_none aev_same aev_ne aev_bool aev_int aev_str aev_nilIface aev_nilp aev_nils aev_nilm aev_func List.getD_cons_zero List.getD_cons_succ List.map_cons List.map_nil Option.map_some Option.map_none List.nil_append List.append_nil abin_add abin_sub abin_mul abin_eql abin_neq abin_lss abin_leq abin_gtr abin_geq abin_seql abin_sneq lval_some lmem_some bool?_bool ne_eq not_false_eq_true lpost_normal0 lpost_ret1 lpost_cell1 lcond_true lcond_false lcond_decide lcond_not lguard_decide_true lguard_decide_false lguard_true_true lguard_true_false lguard_false_false lguard_false_true apick_true apick_false decide_true decide_false lstep_min amin2_int amax2_int aun_not_decide aun_not_true aun_not_false aun_neg not_true_eq_false Classical.not_not al3 al9 al28 al44 al120 al123 al126 ld3 st3 ld4 st4 ld5 st5 ld9 st9 len9 ld22 st22 len22r fa25_0p fa25_1p ld28 st28 fa44_0p fa44_1p fa44_2p ld44 st44 ld118 st118 len118r fa120_1p ld121 st121 len121n len121r fa123_0p fa123_1p ld123 st123 fa126_0p fa126_1p ld126 st126 len189r acellsAt_r acellsAt_p astoreAt_p cells?_some Option.bind_some AV.ofV AV.ofOne AV.israw AV.cells splice AHeap.get_new AHeap.get_upd AHeap.nx_new AHeap.nx_upd List.drop_zero List.drop_succ_cons List.take_succ_cons List.take_zero List.length_cons List.length_nil List.all_cons List.all_nil AV.one List.set_cons_zero List.set_cons_succ List.getElem?_cons_zero List.getElem?_cons_succ Nat.zero_add Nat.add_zero Bool.and_true and_self and_true true_and if_true if_false ite_true ite_false Bool.false_eq_true Bool.true_eq_false List.toList_toArray Nat.le_refl List.drop_nil List.take_nil get_bump nx_bump
theorem in_ok (n lo hi : Int) (s : AHeap) : ACall Tryz.prog 85 [.int .i64 n, .int .i64 lo, .int .i64 hi] s fun v t => v = .bool (decide (lo ≤ n ∧ n ≤ hi)) ∧ t = s := by
  refine go85 (by simp) ?_
  intro tm hlen harg
  simp +contextual only [L85, hlen, harg, go_sem, Nat.reduceLT, Nat.reduceEqDiff, Nat.reduceAdd, Nat.reduceLeDiff, reduceIte, reduceCtorEq]
  refine ⟨fun h => by simp [h], fun h => by simp [h]⟩
theorem refin_ok (n lo hi : Int) (s : AHeap) : ACall Tryz.prog 89 [.int .i64 n, .int .i64 lo, .int .i64 hi] s fun v t => v = .bool (decide (lo ≤ n ∧ n ≤ hi)) ∧ t = s := by
  refine go89 (by simp) ?_
  intro tm hlen harg
  simp +contextual only [L89, hlen, harg, go_sem, Nat.reduceLT, Nat.reduceEqDiff, Nat.reduceAdd, Nat.reduceLeDiff, reduceIte, reduceCtorEq]
  refine ⟨fun h => by simp [h], fun h => by simp [h]⟩
def scan (n : Int) : Int → List Ed → Int
  | _, [] => 0
  | behind, e :: r =>
    if ¬ (0 ≤ e.at_ ∧ e.at_ ≤ n) then 1
    else if ¬ (0 ≤ e.cut ∧ e.cut ≤ n - e.at_) then 1
    else if e.cut = 0 ∧ e.new = [] then 3
    else if e.at_ ≤ behind then 7
    else scan n (e.at_ + e.cut) r
def faultOf (n : Int) (l : List Ed) : Int :=
  if ¬ (0 ≤ n ∧ n ≤ 20000) then 1
  else if 2000 < l.length then 2
  else if scan n (-1) l ≠ 0 then scan n (-1) l
  else if 20000 < longOf n l then 2
  else 0
theorem faultOf_scan {n : Int} {l : List Ed} {f : Int} (hn : 0 ≤ n ∧ n ≤ 20000) (h2 : ¬ 2000 < (l.length : Int)) (h : scan n (-1) l = f) (hf : f ≠ 0) : faultOf n l = f := by
  rw [faultOf, if_neg (Classical.not_not.2 hn), if_neg (by omega), if_pos (by rw [h]; exact hf), h]
theorem faultOf_end {n : Int} {l : List Ed} (hn : 0 ≤ n ∧ n ≤ 20000) (h2 : ¬ 2000 < (l.length : Int)) (h : scan n (-1) l = 0) : faultOf n l = if 20000 < longOf n l then 2 else 0 := by
  rw [faultOf, if_neg (Classical.not_not.2 hn), if_neg (by omega), if_neg (by rw [h]; simp)]
end Go.S1
end
section
namespace Go.S1
open Go Go.Am Go.Proofs
set_option maxRecDepth 100000
attribute [local go_sem] lvc_seq lvc_draw lvc_ops lvc_skip lvc_block lvc_exit lops_nil lops_cons lops_guard lstep_move lstep_assign lstep_binOp lstep_unOp lstep_pick lstep_nilCheck lstep_build lstep_slice lstep_fieldAddr lstep_field lstep_indexAddr lstep_index lstep_extract lstep_makeFunc lstep_load lstep_store lstep_makeSlice lstep_buildSlice lstep_len lstep_append lstep_call lfun_func athen_normal athen_ret athen_exit ablock_normal ablock_ret ablock_exit ablock_exit_ne lvc_ret lvc_cond lvc_loop length_aput aput_none aev_same aev_ne aev_bool aev_int aev_str aev_nilIface aev_nilp aev_nils aev_nilm aev_func List.getD_cons_zero List.getD_cons_succ List.map_cons List.map_nil Option.map_some Option.map_none List.nil_append List.append_nil abin_add abin_sub abin_mul abin_eql abin_neq abin_lss abin_leq abin_gtr abin_geq abin_seql abin_sneq lval_some lmem_some bool?_bool ne_eq not_false_eq_true lpost_normal0 lpost_ret1 lpost_cell1 lcond_true lcond_false lcond_decide lcond_not lguard_decide_true lguard_decide_false lguard_true_true lguard_true_false lguard_false_false lguard_false_true apick_true apick_false decide_true decide_false lstep_min amin2_int amax2_int aun_not_decide aun_not_true aun_not_false aun_neg not_true_eq_false Classical.not_not al3 al9 al28 al44 al120 al123 al126 ld3 st3 ld4 st4 ld5 st5 ld9 st9 len9 ld22 st22 len22r fa25_0p fa25_1p ld28 st28 fa44_0p fa44_1p fa44_2p ld44 st44 ld118 st118 len118r fa120_1p ld121 st121 len121n len121r fa123_0p fa123_1p ld123 st123 fa126_0p fa126_1p ld126 st126 len189r acellsAt_r acellsAt_p astoreAt_p cells?_some Option.bind_some AV.ofV AV.ofOne AV.israw AV.cells splice AHeap.get_new AHeap.get_upd AHeap.nx_new AHeap.nx_upd List.drop_zero List.drop_succ_cons List.take_succ_cons List.take_zero List.length_cons List.length_nil List.all_cons List.all_nil AV.one List.set_cons_zero List.set_cons_succ List.getElem?_cons_zero List.getElem?_cons_succ Nat.zero_add Nat.add_zero Bool.and_true and_self and_true true_and if_true if_false ite_true ite_false Bool.false_eq_true Bool.true_eq_false List.toList_toArray Nat.le_refl List.drop_nil List.take_nil get_bump nx_bump
theorem fault_ok (n : Int) (v : AV) (l : List Ed) (hv : SlE v l) (hl : l.length < 4611686018427387904) (s : AHeap) : ACall Tryz.prog 76 [.int .i64 n, v] s fun r t => r = .int .i64 (faultOf n l) ∧ Sub s t := by
  refine go76 (by simp) ?_
  intro tm hlen harg
  simp +contextual only [L76, hlen, harg, go_sem, Nat.reduceLT, Nat.reduceEqDiff, Nat.reduceAdd, Nat.reduceLeDiff, reduceIte, reduceCtorEq]
  refine lcall_eq (refin_ok _ _ _ _) ?_
  simp +contextual only [hlen, harg, hv.len, go_sem, Nat.reduceLT, Nat.reduceEqDiff, Nat.reduceAdd, Nat.reduceLeDiff, reduceIte, reduceCtorEq]
  refine ⟨fun hn => ?_, fun hn => ⟨fun h2 => ?_, fun h2 => ?_⟩⟩
  · exact ⟨by simp only [faultOf, if_pos hn], .refl s⟩
  · exact ⟨by rw [faultOf, if_neg (Classical.not_not.2 hn), if_pos (by omega)], .refl s⟩
  · refine ⟨fun k tm' s' => ∃ (i : Nat) (B : Int), k + i = l.length ∧ tm'.length = 70 ∧ aev tm' (.tmp 0) = .int .i64 n ∧ aev tm' (.tmp 1) = v ∧ aev tm' (.tmp 5) = .int .i64 B ∧ -1 ≤ B ∧ B ≤ n ∧ aev tm' (.tmp 6) = .int .i64 (longOf n (l.take i)) ∧ aev tm' (.tmp 18) = v ∧
        aev tm' (.tmp 19) = .int .i64 l.length ∧ aev tm' (.tmp 20) = .int .i64 i ∧ scan n (-1) l = scan n B (l.drop i) ∧ Sub s s', l.length, ⟨0, -1, by simp, ?_⟩, ?_⟩
    · simp [length_aput, hlen, aev_same, aev_ne, harg, Sub.refl, longOf]
      omega
    · rintro k tm1 s1 ⟨i, B, hk, hlen1, q0, q1, q5, hB0, hB1, q6, q16, q17, q18, hsc, hs⟩
      simp +contextual only [hlen1, q0, q1, q5, q6, q16, q17, q18, go_sem, Nat.reduceLT, Nat.reduceEqDiff, Nat.reduceAdd, Nat.reduceLeDiff, reduceIte, reduceCtorEq]
      refine ⟨fun hlt => ?_, fun hge => ?_⟩
      · have hi : i < l.length := by omega
        have he := List.getElem?_eq_getElem hi
        have hdrop := List.drop_eq_getElem_cons hi
        obtain ⟨e, hei⟩ : ∃ e, l[i] = e := ⟨_, rfl⟩
        rw [hei] at he hdrop
        have hS := (hs.new (.cells [.int .i64 0, .int .i64 0, .str []] (some 44))).upd hs.1 (.cells [.int .i64 e.at_, .int .i64 e.cut, .str e.new] (some 44))
        simp +contextual only [hlen1, q0, q1, q5, q6, q16, q17, q18, hv.at he, go_sem, Nat.reduceLT, Nat.reduceEqDiff, Nat.reduceAdd, Nat.reduceLeDiff, reduceIte, reduceCtorEq]
        refine lcall_eq (refin_ok _ _ _ _) ?_
        simp +contextual only [hlen1, q0, q1, q5, q6, q16, q17, q18, go_sem, Nat.reduceLT, Nat.reduceEqDiff, Nat.reduceAdd, Nat.reduceLeDiff, reduceIte, reduceCtorEq]
        have hw1 : IntKind.i64.wrap ((i : Int) + 1) = ((i + 1 : Nat) : Int) := by rw [wrap_id (by omega)]; rfl
        rw [hdrop] at hsc
        refine ⟨fun c1 => ⟨?_, hS⟩, fun c1 => ?_⟩
        · rw [faultOf_scan hn h2 (by rw [hsc, scan, if_pos c1]) (by decide)]
        · have hw2 : IntKind.i64.wrap (n - e.at_) = n - e.at_ := wrap_id (by omega)
          simp only [hw2]
          refine lcall_eq (refin_ok _ _ _ _) ?_
          simp +contextual only [hlen1, q0, q1, q5, q6, q16, q17, q18, go_sem, Nat.reduceLT, Nat.reduceEqDiff, Nat.reduceAdd, Nat.reduceLeDiff, reduceIte, reduceCtorEq]
          have hSS : ∀ o o', Sub s ((s1.new o).upd s1.nx o') := fun o o' => (hs.new o).upd hs.1 o'
          have c1' := Classical.not_not.2 c1
          have fin : ∀ B', B' = e.at_ + e.cut → (0 ≤ e.cut ∧ e.cut ≤ n - e.at_) → ¬ (e.cut = 0 ∧ e.new = []) → ¬ e.at_ ≤ B → scan n (-1) l = scan n B' (l.drop (i + 1)) := by
            rintro B' rfl c2 c3 c4
            rw [hsc, scan, if_neg c1', if_neg (Classical.not_not.2 c2), if_neg c3, if_neg c4]
          refine ⟨fun c2 => ⟨?_, hSS _ _⟩, fun c2 => ⟨fun c3 => ⟨fun c4 => ⟨?_, hSS _ _⟩, fun c4 => ⟨fun c5 => ⟨?_, hSS _ _⟩, fun c5 => ?_⟩⟩, fun c3 => ⟨fun c5 => ⟨?_, hSS _ _⟩, fun c5 => ?_⟩⟩⟩
          · rw [faultOf_scan hn h2 (by rw [hsc, scan, if_neg c1', if_pos c2]) (by decide)]
          · rw [faultOf_scan hn h2 (by rw [hsc, scan, if_neg c1', if_neg (Classical.not_not.2 c2), if_pos ⟨c3, c4⟩]) (by decide)]
          · rw [faultOf_scan hn h2 (by rw [hsc, scan, if_neg c1', if_neg (Classical.not_not.2 c2), if_neg (fun q => c4 q.2), if_pos c5]) (by decide)]
          · refine ⟨k - 1, by omega, i + 1, e.at_, by omega, by rw [wrap_id (by omega), Int.add_zero], by omega, by omega, ?_, by rw [hw1], ?_, hSS _ _⟩
            · rw [List.take_succ_eq_append_getElem hi]
              simp only [longOf, List.foldl_append, List.foldl_cons, List.foldl_nil, hei, c3]
            exact fin e.at_ (by omega) c2 (fun q => c4 q.2) c5
          · rw [faultOf_scan hn h2 (by rw [hsc, scan, if_neg c1', if_neg (Classical.not_not.2 c2), if_neg (fun q => c3 q.1), if_pos c5]) (by decide)]
          · refine ⟨k - 1, by omega, i + 1, e.at_ + e.cut, by omega, by rw [wrap_id (by omega)], by omega, by omega, ?_, by rw [hw1], ?_, hSS _ _⟩
            · rw [List.take_succ_eq_append_getElem hi]
              simp only [longOf, List.foldl_append, List.foldl_cons, List.foldl_nil, hei]
            exact fin _ rfl c2 (fun q => c3 q.1) c5
      · have hi : i = l.length := by omega
        have hz : scan n (-1) l = 0 := by rw [hsc, hi, List.drop_length]; rfl
        rw [faultOf_end hn h2 hz, hi, List.take_length]
        refine ⟨fun c => ⟨by rw [if_pos c], hs⟩, fun c => ⟨by rw [if_neg c], hs⟩⟩
end Go.S1
end
section
namespace Go.S1
open Go Go.Am Go.Proofs
set_option maxRecDepth 100000
end Go.S1
end
section
namespace Go.S1
open Go Go.Am Go.Proofs
set_option maxRecDepth 100000
attribute [local go_sem] lvc_seq lvc_draw lvc_ops lvc_skip lvc_block lvc_exit lops_nil lops_cons lops_guard lstep_move lstep_assign lstep_binOp lstep_unOp lstep_pick lstep_nilCheck lstep_build lstep_slice lstep_fieldAddr lstep_field lstep_indexAddr lstep_index lstep_extract lstep_makeFunc lstep_load lstep_store lstep_makeSlice lstep_buildSlice lstep_len lstep_append lstep_call lfun_func athen_normal athen_ret athen_exit ablock_normal ablock_ret ablock_exit ablock_exit_ne lvc_ret lvc_cond lvc_loop length_aput aput_none aev_same aev_ne aev_bool aev_int aev_str aev_nilIface aev_nilp aev_nils aev_nilm aev_func List.getD_cons_zero List.getD_cons_succ List.map_cons List.map_nil Option.map_some Option.map_none List.nil_append List.append_nil abin_add abin_sub abin_mul abin_eql abin_neq abin_lss abin_leq abin_gtr abin_geq abin_seql abin_sneq lval_some lmem_some bool?_bool ne_eq not_false_eq_true lpost_normal0 lpost_ret1 lpost_cell1 lcond_true lcond_false lcond_decide lcond_not lguard_decide_true lguard_decide_false lguard_true_true lguard_true_false lguard_false_false lguard_false_true apick_true apick_false decide_true decide_false lstep_min amin2_int amax2_int aun_not_decide aun_not_true aun_not_false aun_neg not_true_eq_false Classical.not_not al3 al9 al28 al44 al120 al123 al126 ld3 st3 ld4 st4 ld5 st5 ld9 st9 len9 ld22 st22 len22r fa25_0p fa25_1p ld28 st28 fa44_0p fa44_1p fa44_2p ld44 st44 ld118 st118 len118r fa120_1p ld121 st121 len121n len121r fa123_0p fa123_1p ld123 st123 fa126_0p fa126_1p ld126 st126 len189r acellsAt_r acellsAt_p astoreAt_p cells?_some Option.bind_some AV.ofV AV.ofOne AV.israw AV.cells splice AHeap.get_new AHeap.get_upd AHeap.nx_new AHeap.nx_upd List.drop_zero List.drop_succ_cons List.take_succ_cons List.take_zero List.length_cons List.length_nil List.all_cons List.all_nil AV.one List.set_cons_zero List.set_cons_succ List.getElem?_cons_zero List.getElem?_cons_succ Nat.zero_add Nat.add_zero Bool.and_true and_self and_true true_and if_true if_false ite_true ite_false Bool.false_eq_true Bool.true_eq_false List.toList_toArray Nat.le_refl List.drop_nil List.take_nil get_bump nx_bump
end Go.S1
end
section
namespace Go.S1
open Go Go.Am Go.Proofs
set_option maxRecDepth 100000
attribute [local go_sem] lvc_seq lvc_draw lvc_ops lvc_skip lvc_block lvc_exit lops_nil lops_cons lops_guard lstep_move lstep_assign lstep_binOp lstep_unOp lstep_pick lstep_nilCheck lstep_build lstep_slice lstep_fieldAddr lstep_field lstep_indexAddr lstep_index lstep_extract lstep_makeFunc lstep_load lstep_store lstep_makeSlice lstep_buildSlice lstep_len lstep_append lstep_call lfun_func athen_normal athen_ret athen_exit ablock_normal ablock_ret ablock_exit ablock_exit_ne lvc_ret lvc_cond lvc_loop length_aput aput_none aev_same aev_ne aev_bool aev_int aev_str aev_nilIface aev_nilp aev_nils aev_nilm aev_func List.getD_cons_zero List.getD_cons_succ List.map_cons List.map_nil Option.map_some Option.map_none List.nil_append List.append_nil abin_add abin_sub abin_mul abin_eql abin_neq abin_lss abin_leq abin_gtr abin_geq abin_seql abin_sneq lval_some lmem_some bool?_bool ne_eq not_false_eq_true lpost_normal0 lpost_ret1 lpost_cell1 lcond_true lcond_false lcond_decide lcond_not lguard_decide_true lguard_decide_false lguard_true_true lguard_true_false lguard_false_false lguard_false_true apick_true apick_false decide_true decide_false lstep_min amin2_int amax2_int aun_not_decide aun_not_true aun_not_false aun_neg not_true_eq_false Classical.not_not al3 al9 al28 al44 al120 al123 al126 ld3 st3 ld4 st4 ld5 st5 ld9 st9 len9 ld22 st22 len22r fa25_0p fa25_1p ld28 st28 fa44_0p fa44_1p fa44_2p ld44 st44 ld118 st118 len118r fa120_1p ld121 st121 len121n len121r fa123_0p fa123_1p ld123 st123 fa126_0p fa126_1p ld126 st126 len189r acellsAt_r acellsAt_p astoreAt_p cells?_some Option.bind_some AV.ofV AV.ofOne AV.israw AV.cells splice AHeap.get_new AHeap.get_upd AHeap.nx_new AHeap.nx_upd List.drop_zero List.drop_succ_cons List.take_succ_cons List.take_zero List.length_cons List.length_nil List.all_cons List.all_nil AV.one List.set_cons_zero List.set_cons_succ List.getElem?_cons_zero List.getElem?_cons_succ Nat.zero_add Nat.add_zero Bool.and_true and_self and_true true_and if_true if_false ite_true ite_false Bool.false_eq_true Bool.true_eq_false List.toList_toArray Nat.le_refl List.drop_nil List.take_nil get_bump nx_bump
def bytes (x : List UInt8) : List AV := x.map fun b => .int .u8 b.toNat
structure Bld (s : AHeap) (b : Nat) (y : AV) (x : List UInt8) : Prop where
  get : ∃ p, (p = .nilp ∨ p = .ptr b 0) ∧ s.get b = some (.cells [p, y] (some 120))
  lt : b < s.nx
  buf : (y = .nils ∧ x = []) ∨ ∃ c, c ≠ b ∧ c < s.nx ∧ y = .rs 1 c 0 x.length ∧ x ≠ [] ∧ s.get c = some (.cells (bytes x) (some 5))
def Own (y : AV) (m : Nat) : Prop := ∃ n, y = .rs 1 m 0 n
structure Wrote (s : AHeap) (b : Nat) (y : AV) (x : List UInt8) (t : AHeap) : Prop where
  nx : s.nx ≤ t.nx
  keep : ∀ m o, m < s.nx → m ≠ b → ¬ Own y m → s.get m = some o → t.get m = some o
  bld : ∃ y', Bld t b y' x ∧ ∀ m, Own y' m → Own y m ∨ s.nx ≤ m
theorem cc_ok {s : AHeap} {b : Nat} {y : AV} {x : List UInt8} (h : Bld s b y x) : ACall Tryz.prog 137 [.ptr b 0] s fun v t => v = .tuple [] ∧ t.nx = s.nx ∧ (∀ m, m ≠ b → t.get m = s.get m) ∧ t.get b = some (.cells [.ptr b 0, y] (some 120)) := by
  obtain ⟨p, hp, hg⟩ := h.get
  rcases hp with rfl | rfl
  · have : aCopyCheck 120 [.ptr b 0] s = some (.tuple [], s.upd b (.cells [.ptr b 0, y] (some 120))) := by simp [aCopyCheck, hg]
    refine (aCopyCheck_ok ccWalks this).mono ?_
    rintro v t ⟨rfl, rfl⟩
    exact ⟨rfl, AHeap.nx_upd _ _ _, fun m hm => by rw [AHeap.get_upd, if_neg hm], by rw [AHeap.get_upd, if_pos rfl]⟩
  · have : aCopyCheck 120 [.ptr b 0] s = some (.tuple [], s) := by simp [aCopyCheck, hg]
    refine (aCopyCheck_ok ccWalks this).mono ?_
    rintro v t ⟨rfl, rfl⟩
    exact ⟨rfl, rfl, fun m hm => rfl, hg⟩
theorem app_bytes {s : AHeap} {b : Nat} {y : AV} {x : List UInt8} (h : Bld s b y x) {z : AV} {l : List UInt8} {n : Nat} (hz : acellsOf s 1 z = some (bytes l, n)) (hn : n = l.length) (hb : (2 * (x.length + l.length) + 512) ≤ 281474976710656) :
    ∃ y' t, aappend tab 5 s y z = some (y', t) ∧ s.nx ≤ t.nx ∧ (∀ m o, m < s.nx → ¬ Own y m → s.get m = some o → t.get m = some o) ∧ (∀ m, Own y' m → Own y m ∨ s.nx ≤ m) ∧
      ((y' = .nils ∧ x ++ l = []) ∨ ∃ c, c ≠ b ∧ c < t.nx ∧ y' = .rs 1 c 0 (x ++ l).length ∧ x ++ l ≠ [] ∧ t.get c = some (.cells (bytes (x ++ l)) (some 5))) := by
  subst hn
  by_cases hl : l = []
  · subst hl
    refine ⟨y, s, ?_, Nat.le_refl _, fun _ _ _ _ h => h, fun m h => .inl h, ?_⟩
    · rcases h.buf with ⟨rfl, rfl⟩ | ⟨c, h1, h2, rfl, h3, h4⟩ <;> simp [aappend, ty5, hz]
    · rw [List.append_nil]; exact h.buf
  · have hl0 : l.length ≠ 0 := by simpa using hl
    rcases h.buf with ⟨rfl, rfl⟩ | ⟨c, h1, h2, rfl, h3, h4⟩
    · refine ⟨.rs 1 s.nx 0 l.length, s.new (.cells (bytes l) (some 5)), ?_, by rw [AHeap.nx_new]; omega, ?_, ?_, .inr ⟨s.nx, ?_, by rw [AHeap.nx_new]; omega, by simp, by simpa using hl, by rw [AHeap.get_new, if_pos rfl]; simp⟩⟩
      · have : 2 * l.length + 512 ≤ 281474976710656 := by simp at hb; omega
        simp [aappend, ty5, hz, hl, this]
      · intro m o hm _ hg
        rw [AHeap.get_new, if_neg (by omega)]; exact hg
      · rintro m ⟨n, e⟩; cases e; exact .inr (Nat.le_refl _)
      · have := h.lt; omega
    · refine ⟨.rs 1 s.nx 0 (x.length + l.length), (s.del c).new (.cells (bytes x ++ bytes l) (some 5)), ?_, by rw [AHeap.nx_new, AHeap.nx_del]; omega, ?_, ?_, .inr ⟨s.nx, ?_, by rw [AHeap.nx_new, AHeap.nx_del]; omega, by simp, by simp [hl], by rw [AHeap.get_new, AHeap.nx_del, if_pos rfl]; simp [bytes]⟩⟩
      · have hall : (bytes l).all AV.one = true := by simp [bytes, AV.one]
        have ht : List.take x.length (bytes x) = bytes x := List.take_of_length_le (by simp [bytes])
        simp only [aappend, ty5, hz]
        simp only [Nat.reduceEqDiff, or_self, if_false, hl0, h4, AObj.cells?, List.drop_zero, Nat.mul_one, Nat.zero_add, hall, ht, and_true, true_and]
        rw [if_pos ⟨by simp [bytes], hb⟩]
        rfl
      · intro m o hm hno hg
        have : m ≠ c := by rintro rfl; exact hno ⟨_, rfl⟩
        rw [AHeap.get_new, AHeap.nx_del, if_neg (by omega), AHeap.get_del, if_neg this]; exact hg
      · rintro m ⟨n, e⟩; cases e; exact .inr (Nat.le_refl _)
      · have := h.lt; omega
theorem string_ok {s : AHeap} {b : Nat} {y : AV} {x : List UInt8} (h : Bld s b y x) (hb : x.length ≤ 4611686018427387904) :
    ACall Tryz.prog 79 [.ptr b 0] s fun v t => v = .str x ∧ t.nx = s.nx ∧ ∀ m o, ¬ Own y m → s.get m = some o → t.get m = some o := by
  have hbi : ∀ l : List UInt8, abytesIn (bytes l) = some l := by
    intro l
    induction l with
    | nil => rfl
    | cons a l ih =>
      have h1 : (0 : Int) ≤ (a.toNat : Int) ∧ (a.toNat : Int) < 256 := ⟨by omega, by have := a.toNat_lt; omega⟩
      show abytesIn (.int .u8 a.toNat :: bytes l) = _
      simp only [abytesIn, if_pos h1, ih, Option.map_some]
      simp
  obtain ⟨p, hp, hg⟩ := h.get
  rcases h.buf with ⟨rfl, rfl⟩ | ⟨c, h1, h2, rfl, h3, h4⟩
  · have : aBString 5 [.ptr b 0] s = some (.str [], s) := by simp [aBString, hg]
    refine (aBString_ok (ρ := Tryz.lays169_ren) Tryz.lays169 Tryz.Builder_Extra_169 this).mono ?_
    rintro v t ⟨rfl, rfl⟩
    exact ⟨rfl, rfl, fun m o _ hm => hm⟩
  · obtain ⟨n, hn⟩ : ∃ n, x.length = n + 1 := ⟨x.length - 1, by have := List.length_pos_iff.2 h3; omega⟩
    have : aBString 5 [.ptr b 0] s = some (.str x, s.del c) := by
      have ht : List.take (n + 1) (bytes x) = bytes x := List.take_of_length_le (by simp [bytes, hn])
      have hlen : n + 1 ≤ (bytes x).length := by simp [bytes, hn]
      have hsm : n + 1 ≤ 9223372036854775807 := by omega
      simp only [aBString, hg, hn, h4, ht, hbi, hlen, hsm, and_self, if_true]
    refine (aBString_ok (ρ := Tryz.lays169_ren) Tryz.lays169 Tryz.Builder_Extra_169 this).mono ?_
    rintro v t ⟨rfl, rfl⟩
    refine ⟨rfl, AHeap.nx_del _ _, fun m o hno hm => ?_⟩
    rw [AHeap.get_del, if_neg (by rintro rfl; exact hno ⟨_, rfl⟩)]; exact hm
theorem writeByte_ok {s : AHeap} {b : Nat} {y : AV} {x : List UInt8} (h : Bld s b y x) (c : UInt8) (hb : (2 * (x.length + 1) + 512) ≤ 281474976710656) :
    ACall Tryz.prog 78 [.ptr b 0, .int .u8 c.toNat] s fun v t => v = .nili ∧ Wrote s b y (x ++ [c]) t := by
  refine go78 (by simp) ?_
  intro tm hlen harg
  simp +contextual only [L78, hlen, harg, go_sem, Nat.reduceLT, Nat.reduceEqDiff, Nat.reduceAdd, Nat.reduceLeDiff, reduceIte, reduceCtorEq]
  refine lcall_of (cc_ok h) ?_
  rintro _ s1 ⟨rfl, hn1, hk1, hg1⟩
  have h1 : Bld s1 b y x := ⟨⟨_, .inr rfl, hg1⟩, by rw [hn1]; exact h.lt, by
    rcases h.buf with q | ⟨c, q1, q2, q3, q4, q5⟩
    · exact .inl q
    · exact .inr ⟨c, q1, by rw [hn1]; exact q2, q3, q4, by rw [hk1 c q1]; exact q5⟩⟩
  have hbs : abuildSlice tab false 118 1 [(0, AV.int IntKind.u8 c.toNat)] s1 = some (.rs 1 s1.nx 0 1, s1.new (.cells [.int .u8 c.toNat] (some 5))) := by
    simp [abuildSlice, ty118, ty5, AV.israw, AV.ofV, AV.ofOne, afill, AV.cells, splice]
  have h2 : Bld (s1.new (.cells [.int .u8 c.toNat] (some 5))) b y x := by
    obtain ⟨p, hp, hg⟩ := h1.get
    refine ⟨⟨p, hp, by rw [AHeap.get_new, if_neg (by have := h1.lt; omega)]; exact hg⟩, by rw [AHeap.nx_new]; have := h1.lt; omega, ?_⟩
    rcases h1.buf with q | ⟨c', q1, q2, q3, q4, q5⟩
    · exact .inl q
    · exact .inr ⟨c', q1, by rw [AHeap.nx_new]; omega, q3, q4, by rw [AHeap.get_new, if_neg (by omega)]; exact q5⟩
  obtain ⟨y', t, happ, hnx, hkeep, hown, hbuf⟩ := app_bytes h2 (z := .rs 1 s1.nx 0 1) (l := [c]) (n := 1) (by simp [acellsOf, bytes, AHeap.get_new, AObj.cells?]) rfl (by simpa using hb)
  rw [AHeap.nx_new] at hnx hkeep hown
  have hnb : ¬ Own y b := by
    rintro ⟨n, e⟩
    rcases h.buf with ⟨q, _⟩ | ⟨c, q1, q2, q3, q4, q5⟩
    · rw [q] at e; cases e
    · rw [q3] at e; cases e; exact q1 rfl
  have hgb := hkeep b _ (by have := h.lt; omega) hnb (by rw [AHeap.get_new, if_neg (by have := h.lt; omega)]; exact hg1)
  have hW : Wrote s b y (x ++ [c]) (t.upd b (.cells [.ptr b 0, y'] (some 120))) := by
    refine ⟨by rw [AHeap.nx_upd]; omega, ?_, y', ⟨⟨_, .inr rfl, by rw [AHeap.get_upd, if_pos rfl]⟩, by rw [AHeap.nx_upd]; have := h.lt; omega, ?_⟩, fun m hm => by rcases hown m hm with q | q; exact .inl q; exact .inr (by omega)⟩
    · intro m o hm hne hno hg
      rw [AHeap.get_upd, if_neg hne]
      exact hkeep m o (by omega) hno (by rw [AHeap.get_new, if_neg (by omega), hk1 m hne]; exact hg)
    · rcases hbuf with q | ⟨c, q1, q2, q3, q4, q5⟩
      · exact .inl q
      · exact .inr ⟨c, q1, by rw [AHeap.nx_upd]; exact q2, q3, q4, by rw [AHeap.get_upd, if_neg q1]; exact q5⟩
  rcases hbuf with ⟨rfl, _⟩ | ⟨c', _, _, rfl, _, _⟩
  · simp +contextual only [hlen, harg, hg1, hgb, hbs, ty118, ty9, happ, go_sem, Nat.reduceLT, Nat.reduceEqDiff, Nat.reduceAdd, Nat.reduceLeDiff, reduceIte, reduceCtorEq]
    exact hW
  · simp +contextual only [hlen, harg, hg1, hgb, hbs, ty118, ty9, happ, go_sem, Nat.reduceLT, Nat.reduceEqDiff, Nat.reduceAdd, Nat.reduceLeDiff, reduceIte, reduceCtorEq]
    exact hW
end Go.S1
end
section
namespace Go.S1
open Go Go.Am Go.Proofs
set_option maxRecDepth 100000
attribute [local go_sem] lvc_seq lvc_draw lvc_ops lvc_skip lvc_block lvc_exit lops_nil lops_cons lops_guard lstep_move lstep_assign lstep_binOp lstep_unOp lstep_pick lstep_nilCheck lstep_build lstep_slice lstep_fieldAddr lstep_field lstep_indexAddr lstep_index lstep_extract lstep_makeFunc lstep_load lstep_store lstep_makeSlice lstep_buildSlice lstep_len lstep_append lstep_call lfun_func athen_normal athen_ret athen_exit ablock_normal ablock_ret ablock_exit ablock_exit_ne lvc_ret lvc_cond lvc_loop length_aput aput_none aev_same aev_ne aev_bool aev_int aev_str aev_nilIface aev_nilp aev_nils aev_nilm aev_func List.getD_cons_zero List.getD_cons_succ List.map_cons List.map_nil Option.map_some Option.map_none List.nil_append List.append_nil abin_add abin_sub abin_mul abin_eql abin_neq abin_lss abin_leq abin_gtr abin_geq abin_seql abin_sneq lval_some lmem_some bool?_bool ne_eq not_false_eq_true lpost_normal0 lpost_ret1 lpost_cell1 lcond_true lcond_false lcond_decide lcond_not lguard_decide_true lguard_decide_false lguard_true_true lguard_true_false lguard_false_false lguard_false_true apick_true apick_false decide_true decide_false lstep_min amin2_int amax2_int aun_not_decide aun_not_true aun_not_false aun_neg not_true_eq_false Classical.not_not al3 al9 al28 al44 al120 al123 al126 ld3 st3 ld4 st4 ld5 st5 ld9 st9 len9 ld22 st22 len22r fa25_0p fa25_1p ld28 st28 fa44_0p fa44_1p fa44_2p ld44 st44 ld118 st118 len118r fa120_1p ld121 st121 len121n len121r fa123_0p fa123_1p ld123 st123 fa126_0p fa126_1p ld126 st126 len189r acellsAt_r acellsAt_p astoreAt_p cells?_some Option.bind_some AV.ofV AV.ofOne AV.israw AV.cells splice AHeap.get_new AHeap.get_upd AHeap.nx_new AHeap.nx_upd List.drop_zero List.drop_succ_cons List.take_succ_cons List.take_zero List.length_cons List.length_nil List.all_cons List.all_nil AV.one List.set_cons_zero List.set_cons_succ List.getElem?_cons_zero List.getElem?_cons_succ Nat.zero_add Nat.add_zero Bool.and_true and_self and_true true_and if_true if_false ite_true ite_false Bool.false_eq_true Bool.true_eq_false List.toList_toArray Nat.le_refl List.drop_nil List.take_nil get_bump nx_bump ldrun_nil ldrun_cons ldrun_guard ldval_some ldstep_move ldstep_build ldstep_fieldAddr ldstep_index ldstep_load List.cons_append lallocs ldlen_some ldmem_some ldstep_buildSlice AHeap.upds List.foldl_nil List.foldl_cons
theorem Bld.keep {s t : AHeap} {b : Nat} {y : AV} {x : List UInt8} (h : Bld s b y x) (hn : s.nx ≤ t.nx) (hk : ∀ m o, (m = b ∨ Own y m) → s.get m = some o → t.get m = some o) : Bld t b y x := by
  obtain ⟨p, hp, hg⟩ := h.get
  refine ⟨⟨p, hp, hk b _ (.inl rfl) hg⟩, Nat.lt_of_lt_of_le h.lt hn, ?_⟩
  rcases h.buf with q | ⟨c, q1, q2, q3, q4, q5⟩
  · exact .inl q
  · exact .inr ⟨c, q1, Nat.lt_of_lt_of_le q2 hn, q3, q4, hk c _ (.inr ⟨_, q3⟩) q5⟩
theorem Bld.own_lt {s : AHeap} {b : Nat} {y : AV} {x : List UInt8} (h : Bld s b y x) {m : Nat} (hm : m = b ∨ Own y m) : m < s.nx := by
  rcases hm with rfl | ⟨n, e⟩
  · exact h.lt
  · rcases h.buf with ⟨q, _⟩ | ⟨c, q1, q2, q3, q4, q5⟩
    · rw [q] at e; cases e
    · rw [q3] at e; cases e; exact q2
theorem abin_sadd {t : TypeId} {a b : List UInt8} (h : a.length + b.length ≤ 9223372036854775807) : abin tab .add t (.str a) (.str b) = some (.str (a ++ b)) := by
  have hm : IntKind.i64.max = 9223372036854775807 := rfl
  have : ¬ (((a.length + b.length : Nat) : Int) > IntKind.i64.max) := by rw [hm]; omega
  simp only [abin, abin1, astr, if_neg this]
def applyFrom (x : List UInt8) : Nat → List Ed → List UInt8
  | f, [] => x.drop f
  | f, e :: r => (x.drop f).take (e.at_.toNat - f) ++ e.new ++ applyFrom x (e.at_ + e.cut).toNat r
theorem scan_cons {n B : Int} {e : Ed} {r : List Ed} (h : scan n B (e :: r) = 0) : 0 ≤ e.at_ ∧ e.at_ ≤ n ∧ 0 ≤ e.cut ∧ e.cut ≤ n - e.at_ ∧ B < e.at_ ∧ scan n (e.at_ + e.cut) r = 0 := by
  rw [scan] at h
  split at h
  · cases h
  · split at h
    · cases h
    · split at h
      · cases h
      · split at h
        · cases h
        · omega
end Go.S1
end
section
namespace Go.S1
open Go Go.Am Go.Proofs
set_option maxRecDepth 100000
theorem build35_3 {a b : Int} {c : List UInt8} : abuild tab 44 [(0, .int .i64 a), (1, .int .i64 b), (2, .str c)] = some (.agg [.int .i64 a, .int .i64 b, .str c]) := by
  simp [abuild, ty44, Tab.size, ty3, ty9, AV.ofV, AV.ofOne, afill, AV.israw, AV.cells, splice]
end Go.S1
end
section
namespace Go.S1
open Go Go.Am Go.Proofs
set_option maxRecDepth 100000
attribute [local go_sem] lvc_seq lvc_draw lvc_ops lvc_skip lvc_block lvc_exit lops_nil lops_cons lops_guard lstep_move lstep_assign lstep_binOp lstep_unOp lstep_pick lstep_nilCheck lstep_build lstep_slice lstep_fieldAddr lstep_field lstep_indexAddr lstep_index lstep_extract lstep_makeFunc lstep_load lstep_store lstep_makeSlice lstep_buildSlice lstep_len lstep_append lstep_call lfun_func athen_normal athen_ret athen_exit ablock_normal ablock_ret ablock_exit ablock_exit_ne lvc_ret lvc_cond lvc_loop length_aput aput_none aev_same aev_ne aev_bool aev_int aev_str aev_nilIface aev_nilp aev_nils aev_nilm aev_func List.getD_cons_zero List.getD_cons_succ List.map_cons List.map_nil Option.map_some Option.map_none List.nil_append List.append_nil abin_add abin_sub abin_mul abin_eql abin_neq abin_lss abin_leq abin_gtr abin_geq abin_seql abin_sneq lval_some lmem_some bool?_bool ne_eq not_false_eq_true lpost_normal0 lpost_ret1 lpost_cell1 lcond_true lcond_false lcond_decide lcond_not lguard_decide_true lguard_decide_false lguard_true_true lguard_true_false lguard_false_false lguard_false_true apick_true apick_false decide_true decide_false lstep_min amin2_int amax2_int aun_not_decide aun_not_true aun_not_false aun_neg not_true_eq_false Classical.not_not al3 al9 al28 al44 al120 al123 al126 ld3 st3 ld4 st4 ld5 st5 ld9 st9 len9 ld22 st22 len22r fa25_0p fa25_1p ld28 st28 fa44_0p fa44_1p fa44_2p ld44 st44 ld118 st118 len118r fa120_1p ld121 st121 len121n len121r fa123_0p fa123_1p ld123 st123 fa126_0p fa126_1p ld126 st126 len189r acellsAt_r acellsAt_p astoreAt_p cells?_some Option.bind_some AV.ofV AV.ofOne AV.israw AV.cells splice AHeap.get_new AHeap.get_upd AHeap.nx_new AHeap.nx_upd List.drop_zero List.drop_succ_cons List.take_succ_cons List.take_zero List.length_cons List.length_nil List.all_cons List.all_nil AV.one List.set_cons_zero List.set_cons_succ List.getElem?_cons_zero List.getElem?_cons_succ Nat.zero_add Nat.add_zero Bool.and_true and_self and_true true_and if_true if_false ite_true ite_false Bool.false_eq_true Bool.true_eq_false List.toList_toArray Nat.le_refl List.drop_nil List.take_nil get_bump nx_bump
def letters (L : List (Int × UInt8)) : List AV := L.flatMap fun p => [.int .i64 p.1, .int .u8 p.2.toNat]
theorem letters_length (L : List (Int × UInt8)) : (letters L).length = L.length * 2 := by
  induction L with
  | nil => rfl
  | cons a L ih =>
    show (AV.int .i64 a.1 :: AV.int .u8 a.2.toNat :: letters L).length = _
    simp only [List.length_cons, ih]
    omega
theorem letters_append (a b : List (Int × UInt8)) : letters (a ++ b) = letters a ++ letters b := by simp [letters]
def Own2 (y : AV) (m : Nat) : Prop := ∃ n, y = .rs 2 m 0 n
structure Flow (s : AHeap) (F : Nat) (n : Int) (y : AV) (L : List (Int × UInt8)) : Prop where
  get : s.get F = some (.cells [.int .i64 n, y] (some 123))
  lt : F < s.nx
  buf : (y = .nils ∧ L = []) ∨ ∃ c, c ≠ F ∧ c < s.nx ∧ y = .rs 2 c 0 L.length ∧ L ≠ [] ∧ s.get c = some (.cells (letters L) (some 126))
theorem Flow.own_lt {s : AHeap} {F : Nat} {n : Int} {y : AV} {L : List (Int × UInt8)} (h : Flow s F n y L) {m : Nat} (hm : m = F ∨ Own2 y m) : m < s.nx := by
  rcases hm with rfl | ⟨n, e⟩
  · exact h.lt
  · rcases h.buf with ⟨q, _⟩ | ⟨c, q1, q2, q3, q4, q5⟩
    · rw [q] at e; cases e
    · rw [q3] at e; cases e; exact q2
theorem Flow.keep {s t : AHeap} {F : Nat} {n : Int} {y : AV} {L : List (Int × UInt8)} (h : Flow s F n y L) (hn : s.nx ≤ t.nx) (hk : ∀ m o, (m = F ∨ Own2 y m) → s.get m = some o → t.get m = some o) : Flow t F n y L := by
  refine ⟨hk F _ (.inl rfl) h.get, Nat.lt_of_lt_of_le h.lt hn, ?_⟩
  rcases h.buf with q | ⟨c, q1, q2, q3, q4, q5⟩
  · exact .inl q
  · exact .inr ⟨c, q1, Nat.lt_of_lt_of_le q2 hn, q3, q4, hk c _ (.inr ⟨_, q3⟩) q5⟩
theorem Flow.notOwn {s : AHeap} {F : Nat} {n : Int} {y : AV} {L : List (Int × UInt8)} (h : Flow s F n y L) : ¬ Own2 y F := by
  rintro ⟨n, e⟩
  rcases h.buf with ⟨q, _⟩ | ⟨c, q1, q2, q3, q4, q5⟩
  · rw [q] at e; cases e
  · rw [q3] at e; cases e; exact q1 rfl
theorem app_letter {s : AHeap} {F : Nat} {n : Int} {y : AV} {L : List (Int × UInt8)} (h : Flow s F n y L) (a : Int) (c : UInt8) {g : Nat} (hg : s.get g = some (.cells [.int .i64 a, .int .u8 c.toNat] (some 126))) (hb : L.length ≤ 1000000000) :
    ∃ y' t, aappend tab 126 s y (.rs 2 g 0 1) = some (y', t) ∧ s.nx ≤ t.nx ∧ (∀ m o, m < s.nx → ¬ Own2 y m → s.get m = some o → t.get m = some o) ∧ (∀ m, Own2 y' m → s.nx ≤ m) ∧
      ∃ d, d ≠ F ∧ d < t.nx ∧ y' = .rs 2 d 0 (L ++ [(a, c)]).length ∧ t.get d = some (.cells (letters (L ++ [(a, c)])) (some 126)) := by
  have hz : acellsOf s 2 (.rs 2 g 0 1) = some ([.int .i64 a, .int .u8 c.toNat], 1) := by simp [acellsOf, hg, AObj.cells?]
  have hb2 : (2 * (L.length + 1) + 512) * 16 ≤ 281474976710656 := by omega
  rcases h.buf with ⟨rfl, rfl⟩ | ⟨d, h1, h2, rfl, h3, h4⟩
  · refine ⟨.rs 2 s.nx 0 1, s.new (.cells [.int .i64 a, .int .u8 c.toNat] (some 126)), ?_, by rw [AHeap.nx_new]; omega, ?_, ?_, s.nx, ?_, by rw [AHeap.nx_new]; omega, by simp, by rw [AHeap.get_new, if_pos rfl]; simp [letters]⟩
    · simp [aappend, ty126, hz]
    · intro m o hm _ hg
      rw [AHeap.get_new, if_neg (by omega)]; exact hg
    · rintro m ⟨n, e⟩; cases e; exact Nat.le_refl _
    · have := h.lt; omega
  · refine ⟨.rs 2 s.nx 0 (L.length + 1), (s.del d).new (.cells (letters L ++ [.int .i64 a, .int .u8 c.toNat]) (some 126)), ?_, by rw [AHeap.nx_new, AHeap.nx_del]; omega, ?_, ?_, s.nx, ?_, by rw [AHeap.nx_new, AHeap.nx_del]; omega, by simp, by rw [AHeap.get_new, AHeap.nx_del, if_pos rfl]; simp [letters]⟩
    · have ht : List.take (L.length * 2) (letters L) = letters L := List.take_of_length_le (by rw [letters_length]; omega)
      simp only [aappend, ty126, hz]
      simp only [Nat.reduceEqDiff, or_self, if_false, h4, AObj.cells?, List.drop_zero, Nat.zero_add, ht, and_true, true_and]
      rw [if_pos ⟨by rw [letters_length]; omega, by simp [AV.one], hb2⟩]
      rfl
    · intro m o hm hno hg
      have : m ≠ d := by rintro rfl; exact hno ⟨_, rfl⟩
      rw [AHeap.get_new, AHeap.nx_del, if_neg (by omega), AHeap.get_del, if_neg this]; exact hg
    · rintro m ⟨n, e⟩; cases e; exact Nat.le_refl _
    · have := h.lt; omega
theorem build121_1 {a : Int} : abuild tab 126 [(0, .int .i64 a)] = some (.agg [.int .i64 a, .int .u8 0]) := by
  simp [abuild, ty126, Tab.size, ty3, ty5, AV.ofV, AV.ofOne, afill, AV.israw, AV.cells, splice]
theorem build121_2 {a : Int} {c : Int} : abuild tab 126 [(0, .int .i64 a), (1, .int .u8 c)] = some (.agg [.int .i64 a, .int .u8 c]) := by
  simp [abuild, ty126, Tab.size, ty3, ty5, AV.ofV, AV.ofOne, afill, AV.israw, AV.cells, splice]
theorem bs121 {a c : Int} {s : AHeap} : abuildSlice tab false 121 1 [(0, .agg [.int .i64 a, .int .u8 c])] s = some (.rs 2 s.nx 0 1, s.new (.cells [.int .i64 a, .int .u8 c] (some 126))) := by
  simp [abuildSlice, ty121, ty126, AV.israw, AV.ofV, AV.ofOne, afill, AV.cells, splice]
def runOf (a k : Nat) : List (Int × UInt8) := (List.range' a k).map fun (i : Nat) => ((i : Int), (0 : UInt8))
theorem runOf_succ (a k : Nat) : runOf a (k + 1) = runOf a k ++ [(((a + k : Nat) : Int), 0)] := by
  simp [runOf, List.range'_1_concat]
structure Flowed (s : AHeap) (F A : Nat) (n : Int) (y : AV) (L : List (Int × UInt8)) (a : Int) (t : AHeap) : Prop where
  nx : s.nx ≤ t.nx
  keep : ∀ m o, m < s.nx → m ≠ F → m ≠ A → ¬ Own2 y m → s.get m = some o → t.get m = some o
  at_ : t.get A = some (.cells [.int .i64 a] (some 3))
  flow : ∃ y', Flow t F n y' L ∧ ¬ Own2 y' A ∧ ∀ m, Own2 y' m → Own2 y m ∨ s.nx ≤ m
theorem keep_ok {s : AHeap} {F A : Nat} {n : Int} {y : AV} {L : List (Int × UInt8)} (h : Flow s F n y L) (a to : Nat) (hA : s.get A = some (.cells [.int .i64 a] (some 3))) (hAF : A ≠ F) (hAn : A < s.nx) (hAo : ¬ Own2 y A)
    (hto : to ≤ 100000) (ha : a ≤ 100000) (hL : L.length ≤ 900000000) :
    ACall Tryz.prog 136 [.int .i64 to, .ptr A 0, .ptr F 0] s fun v t => v = .tuple [] ∧ Flowed s F A n y (L ++ runOf a (to - a)) (max a to : Nat) t := by
  refine go136 (by simp) ?_
  intro tm hlen harg
  simp +contextual only [L136, hlen, harg, go_sem, Nat.reduceLT, Nat.reduceEqDiff, Nat.reduceAdd, Nat.reduceLeDiff, reduceIte, reduceCtorEq]
  refine ⟨fun k tm' s' => ∃ (j : Nat), k + j = to - a ∧ tm'.length = 16 ∧ aev tm' (.tmp 0) = .int .i64 to ∧ aev tm' (.tmp 1) = .ptr A 0 ∧ aev tm' (.tmp 2) = .ptr F 0 ∧ Flowed s F A n y (L ++ runOf a j) (a + j : Nat) s', to - a, ⟨0, by simp, hlen, ?_, ?_, ?_, ?_⟩, ?_⟩
  · simp [harg]
  · simp [harg]
  · simp [harg]
  · exact ⟨Nat.le_refl _, fun _ _ _ _ _ _ h => h, by simpa using hA, y, by simpa [runOf] using h, hAo, fun m h => .inl h⟩
  · rintro k tm1 s1 ⟨j, hk, hlen1, q0, q1, q2, hfl⟩
    obtain ⟨y1, hf1, hA1, ho1⟩ := hfl.flow
    have hgA := hfl.at_
    have hgF := hf1.get
    simp +contextual only [hlen1, q0, q1, q2, hgA, hgF, go_sem, Nat.reduceLT, Nat.reduceEqDiff, Nat.reduceAdd, Nat.reduceLeDiff, reduceIte, reduceCtorEq]
    refine ⟨fun hlt => ?_, fun hge => ?_⟩
    · have hlen2 : (L ++ runOf a j).length ≤ 1000000000 := by simp [runOf]; omega
      have hw1 : IntKind.i64.wrap (((a + j : Nat) : Int) + 1) = ((a + (j + 1) : Nat) : Int) := by rw [wrap_id (by omega)]; omega
      have hf2 : Flow (s1.new (.cells [.int .i64 (a + j : Nat), .int .u8 0] (some 126))) F n y1 (L ++ runOf a j) :=
        hf1.keep (by rw [AHeap.nx_new]; omega) fun m o hm hg => by rw [AHeap.get_new, if_neg (by have := hf1.own_lt hm; omega)]; exact hg
      have hA1n : A < s1.nx := Nat.lt_of_lt_of_le hAn hfl.nx
      obtain ⟨y', t, happ, hnx, hkeep, hown, d, hd1, hd2, hd3, hd4⟩ := app_letter hf2 (a + j : Nat) 0 (g := s1.nx) (by rw [AHeap.get_new, if_pos rfl]; rfl) hlen2
      rw [AHeap.nx_new] at hnx hkeep hown
      have hgA2 := hkeep A _ (by omega) hA1 (by rw [AHeap.get_new, if_neg (by omega)]; exact hgA)
      have hFn := hf1.lt
      have hgF2 := hkeep F _ (by omega) hf1.notOwn (by rw [AHeap.get_new, if_neg (by omega)]; exact hgF)
      subst hd3
      have happ' : aappend tab 126 (s1.new (.cells [.int .i64 (a + j : Nat), .int .u8 0] (some 126))) y1 (.rs 2 s1.nx 0 1) = some (.rs 2 d 0 (L ++ runOf a j ++ [(((a + j : Nat) : Int), (0 : UInt8))]).length, t) := happ
      generalize hLL : (L ++ runOf a j ++ [(((a + j : Nat) : Int), (0 : UInt8))]).length = len at *
      simp +contextual only [hlen1, q0, q1, q2, hgA, hgF, hgA2, hgF2, hAF, build121_1, bs121, ty121, happ', go_sem, Nat.reduceLT, Nat.reduceEqDiff, Nat.reduceAdd, Nat.reduceLeDiff, reduceIte, reduceCtorEq]
      have hnew := fun m hm => hown m hm
      refine ⟨k - 1, by omega, j + 1, by omega, ?_⟩
      have hs1 := hfl.nx
      refine ⟨by rw [AHeap.nx_upd, AHeap.nx_upd]; omega, ?_, by rw [AHeap.get_upd, if_pos rfl, hw1], .rs 2 d 0 len, ⟨?_, ?_, .inr ⟨d, hd1, ?_, ?_, ?_, ?_⟩⟩, ?_, ?_⟩
      · intro m o hm hmF hmA hmo hg
        rw [AHeap.get_upd, if_neg hmA, AHeap.get_upd, if_neg hmF]
        refine hkeep m o (by omega) (fun q => ?_) ?_
        · rcases ho1 m q with r | r
          · exact hmo r
          · omega
        · rw [AHeap.get_new, if_neg (by omega)]; exact hfl.keep m o hm hmF hmA hmo hg
      · rw [AHeap.get_upd, if_neg (Ne.symm hAF), AHeap.get_upd, if_pos rfl]
      · rw [AHeap.nx_upd, AHeap.nx_upd]; omega
      · rw [AHeap.nx_upd, AHeap.nx_upd]; exact hd2
      · rw [runOf_succ, ← List.append_assoc, hLL]
      · rw [runOf_succ]; simp
      · have := hnew d ⟨_, rfl⟩
        rw [AHeap.get_upd, if_neg (by omega), AHeap.get_upd, if_neg hd1, runOf_succ, ← List.append_assoc]; exact hd4
      · intro q; have := hnew A q; omega
      · intro m q; have := hnew m q; exact .inr (by omega)
    · have hj : j = to - a := by omega
      subst hj
      have e : ((a + (to - a) : Nat) : Int) = ((max a to : Nat) : Int) := by omega
      rw [e] at hfl
      exact hfl
end Go.S1
end
section
namespace Go.S1
open Go Go.Am Go.Proofs
set_option maxRecDepth 100000
attribute [local go_sem] lvc_seq lvc_draw lvc_ops lvc_skip lvc_block lvc_exit lops_nil lops_cons lops_guard lstep_move lstep_assign lstep_binOp lstep_unOp lstep_pick lstep_nilCheck lstep_build lstep_slice lstep_fieldAddr lstep_field lstep_indexAddr lstep_index lstep_extract lstep_makeFunc lstep_load lstep_store lstep_makeSlice lstep_buildSlice lstep_len lstep_append lstep_call lfun_func athen_normal athen_ret athen_exit ablock_normal ablock_ret ablock_exit ablock_exit_ne lvc_ret lvc_cond lvc_loop length_aput aput_none aev_same aev_ne aev_bool aev_int aev_str aev_nilIface aev_nilp aev_nils aev_nilm aev_func List.getD_cons_zero List.getD_cons_succ List.map_cons List.map_nil Option.map_some Option.map_none List.nil_append List.append_nil abin_add abin_sub abin_mul abin_eql abin_neq abin_lss abin_leq abin_gtr abin_geq abin_seql abin_sneq lval_some lmem_some bool?_bool ne_eq not_false_eq_true lpost_normal0 lpost_ret1 lpost_cell1 lcond_true lcond_false lcond_decide lcond_not lguard_decide_true lguard_decide_false lguard_true_true lguard_true_false lguard_false_false lguard_false_true apick_true apick_false decide_true decide_false lstep_min amin2_int amax2_int aun_not_decide aun_not_true aun_not_false aun_neg not_true_eq_false Classical.not_not al3 al9 al28 al44 al120 al123 al126 ld3 st3 ld4 st4 ld5 st5 ld9 st9 len9 ld22 st22 len22r fa25_0p fa25_1p ld28 st28 fa44_0p fa44_1p fa44_2p ld44 st44 ld118 st118 len118r fa120_1p ld121 st121 len121n len121r fa123_0p fa123_1p ld123 st123 fa126_0p fa126_1p ld126 st126 len189r acellsAt_r acellsAt_p astoreAt_p cells?_some Option.bind_some AV.ofV AV.ofOne AV.israw AV.cells splice AHeap.get_new AHeap.get_upd AHeap.nx_new AHeap.nx_upd List.drop_zero List.drop_succ_cons List.take_succ_cons List.take_zero List.length_cons List.length_nil List.all_cons List.all_nil AV.one List.set_cons_zero List.set_cons_succ List.getElem?_cons_zero List.getElem?_cons_succ Nat.zero_add Nat.add_zero Bool.and_true and_self and_true true_and if_true if_false ite_true ite_false Bool.false_eq_true Bool.true_eq_false List.toList_toArray Nat.le_refl List.drop_nil List.take_nil get_bump nx_bump ldrun_nil ldrun_cons ldrun_guard ldval_some ldstep_move ldstep_build ldstep_fieldAddr ldstep_index ldstep_load List.cons_append lallocs ldlen_some ldmem_some ldstep_buildSlice AHeap.upds List.foldl_nil List.foldl_cons
def flowFrom (n : Nat) : Nat → List Ed → List (Int × UInt8)
  | a, [] => runOf a (n - a)
  | a, e :: r => runOf a (e.at_.toNat - a) ++ e.new.map (fun c => ((-1 : Int), c)) ++ flowFrom n (e.at_ + e.cut).toNat r
theorem flowOf_ok (n : Nat) (v : AV) (l : List Ed) (hv : SlE v l) (hl : l.length ≤ 2000) (hn : n ≤ 20000) (hnew : ∀ e ∈ l, e.new.length ≤ 100000) (hsc : scan n (-1) l = 0) (s : AHeap) :
    ACall Tryz.prog 77 [.int .i64 n, v] s fun r t => (∃ y, r = .agg [.int .i64 n, y] ∧ ((y = .nils ∧ flowFrom n 0 l = []) ∨ ∃ c, s.nx ≤ c ∧ c < t.nx ∧ y = .rs 2 c 0 (flowFrom n 0 l).length ∧ flowFrom n 0 l ≠ [] ∧
      t.get c = some (.cells (letters (flowFrom n 0 l)) (some 126)))) ∧ Sub s t := by
  refine go77 (by simp) ?_
  intro tm hlen harg
  have b118 : abuild tab 123 [(0, .int .i64 n)] = some (.agg [.int .i64 n, .nils]) := by
    simp [abuild, ty123, Tab.size, ty3, ty121, AV.ofV, AV.ofOne, afill, AV.israw, AV.cells, splice]
  simp +contextual only [L77, hlen, harg, hv.len, b118, go_sem, Nat.reduceLT, Nat.reduceEqDiff, Nat.reduceAdd, Nat.reduceLeDiff, reduceIte, reduceCtorEq]
  refine ⟨fun k tm' s' => ∃ (i a : Nat) (B : Int) (L : List (Int × UInt8)) (y : AV), k + i = l.length ∧ tm'.length = 51 ∧ aev tm' (.tmp 0) = .int .i64 n ∧ aev tm' (.tmp 4) = .ptr s.nx 0 ∧ aev tm' (.tmp 5) = .ptr (s.nx + 1) 0 ∧
      aev tm' (.tmp 6) = .ptr (s.nx + 1 + 1) 0 ∧ aev tm' (.tmp 7) = .func (.func 136) [] [.ptr (s.nx + 1 + 1) 0, .ptr (s.nx + 1) 0] ∧ aev tm' (.tmp 14) = v ∧ aev tm' (.tmp 15) = .int .i64 l.length ∧ aev tm' (.tmp 16) = .int .i64 i ∧
      Flow s' (s.nx + 1) n y L ∧ s'.get (s.nx + 1 + 1) = some (.cells [.int .i64 a] (some 3)) ∧ (∀ m, Own2 y m → s.nx + 3 ≤ m) ∧ Sub s s' ∧ s'.get s.nx = some (.cells [.int .i64 0, .nils] (some 123)) ∧ s.nx + 3 ≤ s'.nx ∧
      a ≤ n ∧ (B = a ∨ (B = -1 ∧ a = 0)) ∧ scan n B (l.drop i) = 0 ∧ L ++ flowFrom n a (l.drop i) = flowFrom n 0 l ∧ L.length ≤ a + i * 100000, l.length, ⟨0, 0, -1, [], .nils, by simp, ?_⟩, ?_⟩
  · simp [length_aput, hlen, aev_same, aev_ne, harg, hsc]
    refine ⟨⟨?_, ?_, .inl ⟨rfl, rfl⟩⟩, ?_, ?_, ?_, ?_, ?_⟩
    · simp [AHeap.get_upd, AHeap.get_new, AHeap.nx_new, AHeap.nx_upd]
    · simp [AHeap.nx_new, AHeap.nx_upd]
    · simp [AHeap.get_upd]
    · rintro m ⟨n, e⟩; cases e
    · refine Sub.upd (Sub.new (Sub.upd (Sub.new (Sub.new (Sub.refl s) _) _) (by omega) _) _) (by omega) _
    · simp [AHeap.get_upd, AHeap.get_new, AHeap.nx_new, AHeap.nx_upd]
      rw [if_neg (by omega), if_neg (by omega)]
    · simp [AHeap.nx_new, AHeap.nx_upd]
  · rintro k tm1 s1 ⟨i, a, B, L, y, hk, hlen1, q0, q4, q5, q6, q7, q14, q15, q16, hf, hA, hown, hs, hz, hn3, ha, hB, hs0, hL, hLl⟩
    simp +contextual only [hlen1, q0, q4, q5, q6, q7, q14, q15, q16, go_sem, Nat.reduceLT, Nat.reduceEqDiff, Nat.reduceAdd, Nat.reduceLeDiff, reduceIte, reduceCtorEq]
    refine ⟨fun hlt => ?_, fun hge => ?_⟩
    · have hi : i < l.length := by omega
      have he := List.getElem?_eq_getElem hi
      have hmem : l[i] ∈ l := List.getElem_mem hi
      have hdrop := List.drop_eq_getElem_cons hi
      generalize l[i] = e at he hdrop hmem
      have hen := hnew e hmem
      rw [hdrop] at hs0 hL
      obtain ⟨c1, c2, c3, c4, c5, c6⟩ := scan_cons hs0
      have hat : e.at_ = (e.at_.toNat : Int) := by omega
      simp +contextual only [hlen1, q0, q4, q5, q6, q7, q14, q15, q16, hv.at he, go_sem, Nat.reduceLT, Nat.reduceEqDiff, Nat.reduceAdd, Nat.reduceLeDiff, reduceIte, reduceCtorEq]
      have hAo : ¬ Own2 y (s.nx + 1 + 1) := fun q => by have := hown _ q; omega
      have hi2 : i * 100000 ≤ 2000 * 100000 := Nat.mul_le_mul_right _ (by omega)
      have hSn := (hs.new (.cells [.int .i64 0, .int .i64 0, .str []] (some 44))).upd hs.1 (.cells [.int .i64 e.at_, .int .i64 e.cut, .str e.new] (some 44))
      have hk2 : ∀ m o, m < s1.nx → s1.get m = some o → ((s1.new (.cells [.int .i64 0, .int .i64 0, .str []] (some 44))).upd s1.nx (.cells [.int .i64 e.at_, .int .i64 e.cut, .str e.new] (some 44))).get m = some o := by
        intro m o hm hg
        rw [AHeap.get_upd, if_neg (by omega), AHeap.get_new, if_neg (by omega)]; exact hg
      have hge2 : ((s1.new (.cells [.int .i64 0, .int .i64 0, .str []] (some 44))).upd s1.nx (.cells [.int .i64 e.at_, .int .i64 e.cut, .str e.new] (some 44))).get s1.nx = some (.cells [.int .i64 e.at_, .int .i64 e.cut, .str e.new] (some 44)) := by rw [AHeap.get_upd, if_pos rfl]
      have hnx2 : ((s1.new (.cells [.int .i64 0, .int .i64 0, .str []] (some 44))).upd s1.nx (.cells [.int .i64 e.at_, .int .i64 e.cut, .str e.new] (some 44))).nx = s1.nx + 1 := by rw [AHeap.nx_upd, AHeap.nx_new]
      generalize (s1.new (.cells [.int .i64 0, .int .i64 0, .str []] (some 44))).upd s1.nx (.cells [.int .i64 e.at_, .int .i64 e.cut, .str e.new] (some 44)) = s2 at hSn hk2 hge2 hnx2 ⊢
      have hf2 : Flow s2 (s.nx + 1) n y L := hf.keep (by omega) fun m o hm hg => hk2 m o (hf.own_lt hm) hg
      have hkp := keep_ok hf2 a e.at_.toNat (hk2 _ _ (by omega) hA) (by omega) (by omega) hAo (by omega) (by omega) (by omega)
      rw [← hat] at hkp
      refine lcall_of hkp ?_
      intro r t hrt
      have hfl := And.right hrt
      have hr : r = .tuple [] := And.left hrt
      clear hrt
      rw [hr]
      obtain ⟨y', hf', hA', ho'⟩ := hfl.flow
      have hzt := hfl.keep s.nx _ (by omega) (by omega) (by omega) (fun q => by have := hown _ q; omega) (hk2 _ _ (by omega) hz)
      have hno : ∀ y'' : AV, (∀ m, Own2 y'' m → m < s1.nx) → ¬ Own2 y'' s1.nx := fun y'' h q => by have := h _ q; omega
      have hget := hfl.keep s1.nx _ (by omega) (by omega) (by omega) (hno y fun m q => hf.own_lt (.inr q)) hge2
      have hSt : Sub s t := ⟨by have := hfl.nx; have := hSn.1; omega, fun m o hm hg => hfl.keep m o (by omega) (by omega) (by omega) (fun q => by have := hown _ q; omega) (hSn.2 m o hm hg)⟩
      have hin : ∀ m, Own2 y' m → s.nx + 3 ≤ m ∧ m ≠ s1.nx := fun m q => by
        rcases ho' m q with r | r
        · exact ⟨hown m r, by have := hf.own_lt (.inr r); omega⟩
        · exact ⟨by omega, by omega⟩
      have hnxt := hfl.nx
      simp +contextual only [hlen1, q0, q4, q5, q6, q7, q14, q15, q16, hget, go_sem, Nat.reduceLT, Nat.reduceEqDiff, Nat.reduceAdd, Nat.reduceLeDiff, reduceIte, reduceCtorEq]
      refine ⟨fun k2 tm' s' => ∃ (p : Nat) (y2 : AV), k2 + p = e.new.length ∧ tm'.length = 51 ∧ aev tm' (.tmp 0) = .int .i64 n ∧ aev tm' (.tmp 4) = .ptr s.nx 0 ∧ aev tm' (.tmp 5) = .ptr (s.nx + 1) 0 ∧
        aev tm' (.tmp 6) = .ptr (s.nx + 1 + 1) 0 ∧ aev tm' (.tmp 7) = .func (.func 136) [] [.ptr (s.nx + 1 + 1) 0, .ptr (s.nx + 1) 0] ∧ aev tm' (.tmp 14) = v ∧ aev tm' (.tmp 15) = .int .i64 l.length ∧ aev tm' (.tmp 16) = .int .i64 i ∧
        aev tm' (.tmp 9) = .ptr s1.nx 0 ∧ aev tm' (.tmp 26) = .int .i64 e.new.length ∧ aev tm' (.tmp 27) = .int .i64 p ∧ Flow s' (s.nx + 1) n y2 (L ++ runOf a (e.at_.toNat - a) ++ (e.new.take p).map (fun c => ((-1 : Int), c))) ∧
        s'.get (s.nx + 1 + 1) = some (.cells [.int .i64 (max a e.at_.toNat : Nat)] (some 3)) ∧ (∀ m, Own2 y2 m → s.nx + 3 ≤ m ∧ m ≠ s1.nx) ∧ Sub s s' ∧ s'.get s.nx = some (.cells [.int .i64 0, .nils] (some 123)) ∧
        s'.get s1.nx = some (.cells [.int .i64 e.at_, .int .i64 e.cut, .str e.new] (some 44)) ∧ s1.nx < s'.nx, e.new.length, ⟨0, y', by simp, ?_⟩, ?_⟩
      · simp only [length_aput, hlen1, aev_same, aev_ne, ne_eq, Nat.reduceEqDiff, not_false_eq_true, q0, q4, q5, q6, q7, q14, q15, q16, Nat.reduceLT, true_and]
        exact ⟨rfl, by simpa using hf', hfl.at_, hin, hSt, hzt, hget, by omega⟩
      · rintro k2 tm2 s3 ⟨p, y2, hkp2, hlen2, r0, r4, r5, r6, r7, r14, r15, r16, r9, r26, r27, hf3, hA3, hin3, hs3, hz3, hge3, hn33⟩
        simp +contextual only [hlen2, r0, r4, r5, r6, r7, r14, r15, r16, r9, r26, r27, hge3, hA3, go_sem, Nat.reduceLT, Nat.reduceEqDiff, Nat.reduceAdd, Nat.reduceLeDiff, reduceIte, reduceCtorEq]
        refine ⟨fun hp => ?_, fun hp => ?_⟩
        · refine ldraw_call (fun _ _ _ => none) (by intro f a s v t h; cases h) [(1, 1)] 8 (by decide) ?_
          have hgF := hf3.get
          have hpx : (0 : Int) ≤ p := Int.natCast_nonneg p
          obtain ⟨ch, hch⟩ : ∃ ch, e.new[p]? = some ch := ⟨_, List.getElem?_eq_getElem (by omega)⟩
          have hix : aindex tab 9 (.str e.new) (.int .i64 p) = some (.int .u8 ch.toNat) := by simp [aindex, ty9, hch]
          have hAn : ¬ s.nx + 1 = s3.nx := by omega
          simp +contextual only [hlen2, r0, r4, r5, r6, r7, r14, r15, r16, r9, r26, r27, hge3, hA3, hgF, hix, build121_2, bs121, go_sem, Nat.reduceLT, Nat.reduceEqDiff, Nat.reduceAdd, Nat.reduceLeDiff, reduceIte, reduceCtorEq]
          have hnF : ¬ s.nx + 1 = s3.nx + 8 := by omega
          refine ⟨by kernel_rfl, ?_, ?_⟩
          · rw [ldyn_cons rfl]
            simp +contextual only [hlen2, r0, r5, hgF, hnF, ldyn_nil, ltmTo, aquiet_load, Option.bind_some, go_sem, Nat.reduceLT, Nat.reduceEqDiff, Nat.reduceAdd, Nat.reduceLeDiff, reduceIte, reduceCtorEq]
          · have hf4 : Flow ((bump s3 8).new (.cells [.int .i64 (-1), .int .u8 ch.toNat] (some 126))) (s.nx + 1) n y2 (L ++ runOf a (e.at_.toNat - a) ++ (e.new.take p).map (fun c => ((-1 : Int), c))) :=
              hf3.keep (by rw [AHeap.nx_new, nx_bump]; omega) fun m o hm hg => by rw [AHeap.get_new, nx_bump, if_neg (by have := hf3.own_lt hm; omega)]; exact hg
            obtain ⟨y4, t4, happ, hnx4, hkeep4, hown4, d, hd1, hd2, hd3, hd4⟩ := app_letter hf4 (-1) ch (g := s3.nx + 8) (by rw [AHeap.get_new, nx_bump, if_pos rfl]) (by simp [runOf]; omega)
            subst hd3
            rw [AHeap.nx_new, nx_bump] at hnx4 hkeep4 hown4
            have hk4 : ∀ m o, m < s3.nx → ¬ Own2 y2 m → s3.get m = some o → t4.get m = some o := fun m o hm hno hg => hkeep4 m o (by omega) hno (by rw [AHeap.get_new, nx_bump, if_neg (by omega)]; exact hg)
            have hFl := hf3.lt
            have hgF4 := hk4 _ _ hFl hf3.notOwn hgF
            have hA4 := hk4 _ _ (by omega) (fun q => by have := (hin3 _ q).1; omega) hA3
            have hz4 := hk4 _ _ (by omega) (fun q => by have := (hin3 _ q).1; omega) hz3
            have he4 := hk4 _ _ hn33 (fun q => (hin3 _ q).2 rfl) hge3
            have hs4 : Sub s t4 := ⟨by omega, fun m o hm hg => hk4 m o (by omega) (fun q => by have := (hin3 _ q).1; omega) (hs3.2 m o hm hg)⟩
            have htk : e.new.take (p + 1) = e.new.take p ++ [ch] := by rw [List.take_add_one, hch]; rfl
            have hLL : L ++ runOf a (e.at_.toNat - a) ++ (e.new.take (p + 1)).map (fun c => ((-1 : Int), c)) = L ++ runOf a (e.at_.toNat - a) ++ (e.new.take p).map (fun c => ((-1 : Int), c)) ++ [((-1 : Int), ch)] := by
              rw [htk]; simp
            have hdn := hown4 d ⟨_, rfl⟩
            rw [← hLL] at happ hd4
            have hfl4 : Flow (t4.upd (s.nx + 1) (.cells [.int .i64 n, .rs 2 d 0 (L ++ runOf a (e.at_.toNat - a) ++ (e.new.take (p + 1)).map (fun c => ((-1 : Int), c))).length] (some 123))) (s.nx + 1) n
                (.rs 2 d 0 (L ++ runOf a (e.at_.toNat - a) ++ (e.new.take (p + 1)).map (fun c => ((-1 : Int), c))).length) (L ++ runOf a (e.at_.toNat - a) ++ (e.new.take (p + 1)).map (fun c => ((-1 : Int), c))) := by
              refine ⟨by rw [AHeap.get_upd, if_pos rfl], by rw [AHeap.nx_upd]; omega, .inr ⟨d, hd1, by rw [AHeap.nx_upd]; exact hd2, rfl, by rw [hLL]; simp, by rw [AHeap.get_upd, if_neg hd1]; exact hd4⟩⟩
            have hw5 : IntKind.i64.wrap ((p : Int) + 1) = ((p + 1 : Nat) : Int) := by rw [wrap_id (by omega)]; rfl
            clear hd4 hLL
            generalize hlen4 : (L ++ runOf a (e.at_.toNat - a) ++ (e.new.take (p + 1)).map (fun c => ((-1 : Int), c))).length = len at happ hfl4
            simp +contextual only [hlen2, r0, r4, r5, r6, r7, r14, r15, r16, r9, r26, r27, ty121, happ, hgF4, go_sem, Nat.reduceLT, Nat.reduceEqDiff, Nat.reduceAdd, Nat.reduceLeDiff, reduceIte, reduceCtorEq]
            refine ⟨k2 - 1, by omega, p + 1, .rs 2 d 0 len, by omega, by rw [hw5], hfl4, by rw [if_neg (by omega)]; exact hA4, fun m q => ?_, hs4.upd (by omega) _, by rw [if_neg (by omega)]; exact hz4, by rw [if_neg (by omega)]; exact he4, by omega⟩
            obtain ⟨zz, hzz⟩ := q
            cases hzz
            exact ⟨by omega, by omega⟩
        · have hpn : p = e.new.length := by omega
          subst hpn
          rw [List.take_length] at hf3
          have hw1 : IntKind.i64.wrap ((i : Int) + 1) = ((i + 1 : Nat) : Int) := by rw [wrap_id (by omega)]; rfl
          have hw2 : IntKind.i64.wrap (e.at_ + e.cut) = ((e.at_ + e.cut).toNat : Int) := by rw [wrap_id (by omega)]; omega
          rw [hw2]
          refine ⟨k - 1, by omega, i + 1, (e.at_ + e.cut).toNat, e.at_ + e.cut, _, y2, by omega, by rw [hw1], hf3.keep (by rw [AHeap.nx_upd]; omega) ?_, rfl, fun m q => (hin3 m q).1, hs3.upd (by omega) _, by rw [if_neg (by omega)]; exact hz3, by omega, by omega, .inl (by omega), c6, ?_, ?_⟩
          · intro m o hm hg
            rw [AHeap.get_upd, if_neg ?_]; exact hg
            rcases hm with rfl | q
            · omega
            · have := (hin3 m q).1; omega
          · rw [← hL, flowFrom]; simp
          · simp only [List.length_append, runOf, List.length_map, List.length_range']
            have : (i + 1) * 100000 = i * 100000 + 100000 := by omega
            omega
    · have hi : i = l.length := by omega
      have hdl : l.drop i = [] := by rw [hi, List.drop_length]
      rw [hdl] at hL hs0
      have hAo : ¬ Own2 y (s.nx + 1 + 1) := fun q => by have := hown _ q; omega
      have hi2 : i * 100000 ≤ 2000 * 100000 := Nat.mul_le_mul_right _ (by omega)
      rw [flowFrom] at hL
      refine lcall_of (keep_ok hf a n hA (by omega) (by omega) hAo (by omega) (by omega) (by omega)) ?_
      intro r t hrt
      have hfl := And.right hrt
      have hr : r = .tuple [] := And.left hrt
      rw [hr]
      rw [hL] at hfl
      obtain ⟨y', hf', hA', ho'⟩ := hfl.flow
      have hzt := hfl.keep s.nx _ (by omega) (by omega) (by omega) (fun q => by have := hown _ q; omega) hz
      have hgF := hf'.get
      have hin : ∀ m, Own2 y' m → s.nx + 3 ≤ m := fun m q => by
        rcases ho' m q with r | r
        · exact hown m r
        · omega
      have hSt : Sub s t := ⟨by have := hfl.nx; omega, fun m o hm hg => hfl.keep m o (by omega) (by omega) (by omega) (fun q => by have := hown _ q; omega) (hs.2 m o hm hg)⟩
      have hfin : ∀ y', Flow t (s.nx + 1) n y' (flowFrom n 0 l) → (∀ m, Own2 y' m → s.nx + 3 ≤ m) → ((y' = .nils ∧ flowFrom n 0 l = []) ∨ ∃ c, s.nx ≤ c ∧ c < (t.upd s.nx (.cells [.int .i64 n, y'] (some 123))).nx ∧ y' = .rs 2 c 0 (flowFrom n 0 l).length ∧ ¬ flowFrom n 0 l = [] ∧
          (t.upd s.nx (.cells [.int .i64 n, y'] (some 123))).get c = some (.cells (letters (flowFrom n 0 l)) (some 126))) := by
        intro y' hf' hin
        rcases hf'.buf with q | ⟨c, g1, g2, g3, g4, g5⟩
        · exact .inl q
        · have := hin c ⟨_, g3⟩
          exact .inr ⟨c, by omega, by rw [AHeap.nx_upd]; exact g2, g3, g4, by rw [AHeap.get_upd, if_neg (by omega)]; exact g5⟩
      have hres := hfin y' hf' hin
      rcases hf'.buf with ⟨rfl, _⟩ | ⟨c, _, _, rfl, _, _⟩
      · simp +contextual only [hlen1, q0, q4, q5, hgF, hzt, go_sem, Nat.reduceLT, Nat.reduceEqDiff, Nat.reduceAdd, Nat.reduceLeDiff, reduceIte, reduceCtorEq]
        exact ⟨_, rfl, ⟨_, rfl, by simpa only [AHeap.nx_upd, AHeap.get_upd] using hres⟩, hSt.upd (Nat.le_refl _) _⟩
      · generalize (flowFrom n 0 l).length = len at *
        simp +contextual only [hlen1, q0, q4, q5, hgF, hzt, go_sem, Nat.reduceLT, Nat.reduceEqDiff, Nat.reduceAdd, Nat.reduceLeDiff, reduceIte, reduceCtorEq]
        exact ⟨_, rfl, ⟨_, rfl, by simpa only [AHeap.nx_upd, AHeap.get_upd] using hres⟩, hSt.upd (Nat.le_refl _) _⟩
end Go.S1
end
section
namespace Go.S1
open Go Go.Am Go.Proofs
set_option maxRecDepth 100000
attribute [local go_sem] lvc_seq lvc_draw lvc_ops lvc_skip lvc_block lvc_exit lops_nil lops_cons lops_guard lstep_move lstep_assign lstep_binOp lstep_unOp lstep_pick lstep_nilCheck lstep_build lstep_slice lstep_fieldAddr lstep_field lstep_indexAddr lstep_index lstep_extract lstep_makeFunc lstep_load lstep_store lstep_makeSlice lstep_buildSlice lstep_len lstep_append lstep_call lfun_func athen_normal athen_ret athen_exit ablock_normal ablock_ret ablock_exit ablock_exit_ne lvc_ret lvc_cond lvc_loop length_aput aput_none aev_same aev_ne aev_bool aev_int aev_str aev_nilIface aev_nilp aev_nils aev_nilm aev_func List.getD_cons_zero List.getD_cons_succ List.map_cons List.map_nil Option.map_some Option.map_none List.nil_append List.append_nil abin_add abin_sub abin_mul abin_eql abin_neq abin_lss abin_leq abin_gtr abin_geq abin_seql abin_sneq lval_some lmem_some bool?_bool ne_eq not_false_eq_true lpost_normal0 lpost_ret1 lpost_cell1 lcond_true lcond_false lcond_decide lcond_not lguard_decide_true lguard_decide_false lguard_true_true lguard_true_false lguard_false_false lguard_false_true apick_true apick_false decide_true decide_false lstep_min amin2_int amax2_int aun_not_decide aun_not_true aun_not_false aun_neg not_true_eq_false Classical.not_not al3 al9 al28 al44 al120 al123 al126 ld3 st3 ld4 st4 ld5 st5 ld9 st9 len9 ld22 st22 len22r fa25_0p fa25_1p ld28 st28 fa44_0p fa44_1p fa44_2p ld44 st44 ld118 st118 len118r fa120_1p ld121 st121 len121n len121r fa123_0p fa123_1p ld123 st123 fa126_0p fa126_1p ld126 st126 len189r acellsAt_r acellsAt_p astoreAt_p cells?_some Option.bind_some AV.ofV AV.ofOne AV.israw AV.cells splice AHeap.get_new AHeap.get_upd AHeap.nx_new AHeap.nx_upd List.drop_zero List.drop_succ_cons List.take_succ_cons List.take_zero List.length_cons List.length_nil List.all_cons List.all_nil AV.one List.set_cons_zero List.set_cons_succ List.getElem?_cons_zero List.getElem?_cons_succ Nat.zero_add Nat.add_zero Bool.and_true and_self and_true true_and if_true if_false ite_true ite_false Bool.false_eq_true Bool.true_eq_false List.toList_toArray Nat.le_refl List.drop_nil List.take_nil get_bump nx_bump
def say (x : List UInt8) (p : Int × UInt8) : UInt8 := if 0 ≤ p.1 then x.getD p.1.toNat 0 else p.2
theorem say_run (x : List UInt8) : ∀ (k a : Nat), a + k ≤ x.length → (runOf a k).map (say x) = (x.drop a).take k
  | 0, a, _ => by simp [runOf]
  | k + 1, a, h => by
    have hlt : a < x.length := by omega
    rw [List.drop_eq_getElem_cons hlt, List.take_succ_cons, ← say_run x k (a + 1) (by omega)]
    simp [runOf, List.range'_succ, say, List.getD_eq_getElem?_getD, hlt]
theorem say_flow (x : List UInt8) : ∀ (l : List Ed) (a : Nat) (B : Int), (B = a ∨ (B = -1 ∧ a = 0)) → a ≤ x.length → scan x.length B l = 0 → (flowFrom x.length a l).map (say x) = applyFrom x a l
  | [], a, B, hB, ha, _ => by
    rw [flowFrom, applyFrom, say_run x _ _ (by omega), List.take_of_length_le (by simp)]
  | e :: r, a, B, hB, ha, h => by
    obtain ⟨c1, c2, c3, c4, c5, c6⟩ := scan_cons h
    rw [flowFrom, applyFrom, List.map_append, List.map_append, say_run x _ _ (by omega), say_flow x r _ _ (.inl (by omega)) (by omega) c6]
    congr 2
    rw [List.map_map]
    have : ∀ c ∈ e.new, (say x ∘ fun c => ((-1 : Int), c)) c = c := by intro c _; simp [say]
    rw [List.map_congr_left this]
    simp
theorem flow_range (n : Nat) : ∀ (l : List Ed) (a : Nat) (B : Int), (B = a ∨ (B = -1 ∧ a = 0)) → a ≤ n → scan n B l = 0 → ∀ p ∈ flowFrom n a l, p.1 < n
  | [], a, B, hB, ha, _, p, hp => by
    simp only [flowFrom, runOf, List.mem_map, List.mem_range'_1] at hp
    obtain ⟨i, hi, rfl⟩ := hp
    simp only
    omega
  | e :: r, a, B, hB, ha, h, p, hp => by
    obtain ⟨c1, c2, c3, c4, c5, c6⟩ := scan_cons h
    rw [flowFrom, List.mem_append, List.mem_append] at hp
    rcases hp with (hp | hp) | hp
    · simp only [runOf, List.mem_map, List.mem_range'_1] at hp
      obtain ⟨i, hi, rfl⟩ := hp
      simp only
      omega
    · simp only [List.mem_map] at hp
      obtain ⟨c, _, rfl⟩ := hp
      simp only
      omega
    · exact flow_range n r _ _ (.inl (by omega)) (by omega) c6 p hp
theorem flow_len (n : Nat) : ∀ (l : List Ed) (a : Nat), (∀ e ∈ l, e.new.length ≤ 100000) → (∀ e ∈ l, e.at_ ≤ n) → (flowFrom n a l).length ≤ n + l.length * (n + 100000)
  | [], a, _, _ => by simp [flowFrom, runOf]
  | e :: r, a, h, h2 => by
    have ih := flow_len n r (e.at_ + e.cut).toNat (fun e he => h e (List.mem_cons_of_mem _ he)) (fun e he => h2 e (List.mem_cons_of_mem _ he))
    have h1 := h e (List.mem_cons_self)
    have h3 := h2 e (List.mem_cons_self)
    rw [flowFrom]
    simp only [List.length_append, List.length_cons, List.length_map, runOf, List.length_range']
    rw [Nat.add_mul]
    omega
theorem field118 {n : Int} {y : AV} (h : y.israw = false) : afield tab 123 (.agg [.int .i64 n, y]) 1 = some y := by
  simp [afield, ty123, ty121, apart, TD.isAgg]
theorem letters_drop : ∀ (L : List (Int × UInt8)) (i : Nat), (letters L).drop (i * 2) = letters (L.drop i)
  | L, 0 => by simp
  | [], i + 1 => by simp [letters]
  | p :: L, i + 1 => by
    show (AV.int .i64 p.1 :: AV.int .u8 p.2.toNat :: letters L).drop ((i + 1) * 2) = letters (L.drop i)
    rw [show (i + 1) * 2 = i * 2 + 1 + 1 from by omega, List.drop_succ_cons, List.drop_succ_cons, letters_drop L i]
theorem rs_at116 {b n i : Nat} (h1 : i < n) : aindexAddr tab 121 (.rs 2 b 0 n) (.int .i64 i) = some (.ptr b (i * 2)) := by
  have : (i : Int) < n := by omega
  simp [aindexAddr, ty121, Tab.size, ty126, this]
theorem applyOf_ok (x : List UInt8) (v : AV) (l : List Ed) (hv : SlE v l) (hl : l.length ≤ 2000) (hx : x.length ≤ 20000) (hnew : ∀ e ∈ l, e.new.length ≤ 100000) (hsc : scan x.length (-1) l = 0) (s : AHeap) :
    ACall Tryz.prog 12 [.str x, v] s fun r t => r = .str (applyFrom x 0 l) ∧ Sub s t := by
  refine go12 (by simp) ?_
  intro tm hlen harg
  simp +contextual only [L12, hlen, harg, hv.len, go_sem, Nat.reduceLT, Nat.reduceEqDiff, Nat.reduceAdd, Nat.reduceLeDiff, reduceIte, reduceCtorEq]
  refine lcall_of (flowOf_ok x.length v l hv hl hx hnew hsc _) ?_
  intro r t hrt
  have hSt := And.right hrt
  obtain ⟨y, hr, hy⟩ := And.left hrt
  have hraw : y.israw = false := by rcases hy with ⟨rfl, _⟩ | ⟨c, _, _, rfl, _, _⟩ <;> rfl
  have hlen' : alen tab 121 y = some (.int .i64 (flowFrom x.length 0 l).length) := by
    rcases hy with ⟨rfl, h⟩ | ⟨c, _, _, rfl, _, _⟩
    · rw [h]; exact len121n
    · exact len121r
  clear hrt
  rw [hr]
  simp +contextual only [hlen, harg, field118 hraw, hlen', go_sem, Nat.reduceLT, Nat.reduceEqDiff, Nat.reduceAdd, Nat.reduceLeDiff, reduceIte, reduceCtorEq]
  have hbl0 : Bld t s.nx .nils [] := by
    have hg := hSt.2 s.nx _ (by rw [AHeap.nx_new]; omega) (by rw [AHeap.get_new, if_pos rfl])
    exact ⟨⟨.nilp, .inl rfl, hg⟩, by have := hSt.1; rw [AHeap.nx_new] at this; omega, .inl ⟨rfl, rfl⟩⟩
  have hS0 : Sub s t := ((Sub.refl s).new _).trans hSt
  have hflow := flow_range x.length l 0 (-1) (.inr ⟨rfl, rfl⟩) (by omega) hsc
  have hsay := say_flow x l 0 (-1) (.inr ⟨rfl, rfl⟩) (by omega) hsc
  have hlenb : (flowFrom x.length 0 l).length ≤ 300000000 := by
    have hat : ∀ (l : List Ed) (B : Int), scan x.length B l = 0 → ∀ e ∈ l, e.at_ ≤ x.length := by
      intro l
      induction l with
      | nil => intro B _ z hz; cases hz
      | cons a l ih =>
        intro B h z hz
        obtain ⟨d1, d2, d3, d4, d5, d6⟩ := scan_cons h
        rcases List.mem_cons.1 hz with rfl | hz
        · exact d2
        · exact ih _ d6 z hz
    have h1 := flow_len x.length l 0 hnew (hat l (-1) hsc)
    have h2 : l.length * (x.length + 100000) ≤ 2000 * (20000 + 100000) := Nat.mul_le_mul hl (by omega)
    omega
  rw [← hsay]
  generalize flowFrom x.length 0 l = L at *
  refine ⟨fun k tm' s' => ∃ (i : Nat) (yb : AV), k + i = L.length ∧ tm'.length = 31 ∧ aev tm' (.tmp 0) = .str x ∧ aev tm' (.tmp 5) = .ptr s.nx 0 ∧ aev tm' (.tmp 12) = y ∧ aev tm' (.tmp 13) = .int .i64 L.length ∧ aev tm' (.tmp 14) = .int .i64 i ∧
      Bld s' s.nx yb ((L.take i).map (say x)) ∧ (∀ m, Own yb m → s.nx ≤ m) ∧ Sub s s' ∧ (∀ c, y = .rs 2 c 0 L.length → s'.get c = some (.cells (letters L) (some 126)) ∧ ¬ Own yb c ∧ c < s'.nx ∧ s.nx < c), L.length, ⟨0, .nils, by simp, ?_⟩, ?_⟩
  · simp only [length_aput, hlen, aev_same, aev_ne, ne_eq, Nat.reduceEqDiff, not_false_eq_true, harg, Nat.reduceLT, true_and, List.getD_cons_zero, List.getD_cons_succ]
    refine ⟨rfl, by simpa using hbl0, (by rintro m ⟨n, e⟩; cases e), hS0, ?_⟩
    rintro c rfl
    rcases hy with ⟨q, _⟩ | ⟨c', g1, g2, g3, g4, g5⟩
    · cases q
    · cases g3
      rw [AHeap.nx_new] at g1
      exact ⟨g5, (by rintro ⟨n, e⟩; cases e), g2, by omega⟩
  · rintro k tm1 s1 ⟨i, yb, hk, hlen1, q0, q5, q12, q13, q14, hb, hown, hs, hc⟩
    simp +contextual only [hlen1, q0, q5, q12, q13, q14, go_sem, Nat.reduceLT, Nat.reduceEqDiff, Nat.reduceAdd, Nat.reduceLeDiff, reduceIte, reduceCtorEq]
    refine ⟨fun hlt => ?_, fun hge => ?_⟩
    · have hi : i < L.length := by omega
      obtain ⟨c, hyc⟩ : ∃ c, y = .rs 2 c 0 L.length := by
        rcases hy with ⟨_, q⟩ | ⟨c, _, _, q, _, _⟩
        · rw [q] at hi; simp at hi
        · exact ⟨c, q⟩
      obtain ⟨hgc, hnc, hcn, hsc2⟩ := hc c hyc
      have hgL := List.getElem?_eq_getElem hi
      have hmem : L[i] ∈ L := List.getElem_mem hi
      have htake := List.take_succ_eq_append_getElem hi
      have hdrop := List.drop_eq_getElem_cons hi
      generalize L[i] = p at hgL hmem htake hdrop
      have hd : (letters L).drop (i * 2) = .int .i64 p.1 :: .int .u8 p.2.toNat :: letters (L.drop (i + 1)) := by rw [letters_drop, hdrop]; rfl
      have hw1 : IntKind.i64.wrap ((i : Int) + 1) = ((i + 1 : Nat) : Int) := by rw [wrap_id (by omega)]; rfl
      have hatL : aindexAddr tab 121 y (.int .i64 i) = some (.ptr c (i * 2)) := by rw [hyc]; exact rs_at116 hi
      simp +contextual only [hlen1, q0, q5, q12, q13, q14, hatL, hgc, hd, go_sem, Nat.reduceLT, Nat.reduceEqDiff, Nat.reduceAdd, Nat.reduceLeDiff, reduceIte, reduceCtorEq]
      have hpr := hflow p hmem
      have htk : (L.take (i + 1)).map (say x) = (L.take i).map (say x) ++ [say x p] := by rw [htake]; simp
      have step : ∀ o o' o'' ch, ch = say x p → ∀ s2, (s2 = (s1.new o).upd s1.nx o' ∨ s2 = ((s1.new o).upd s1.nx o').upd s1.nx o'') → Bld s2 s.nx yb ((L.take i).map (say x)) ∧ s2.nx = s1.nx + 1 ∧ (∀ m o, m < s1.nx → s1.get m = some o → s2.get m = some o) := by
        intro o o' o'' ch _ s2 h2
        have key : s2.nx = s1.nx + 1 ∧ (∀ m o, m < s1.nx → s1.get m = some o → s2.get m = some o) := by
          rcases h2 with rfl | rfl
          · exact ⟨by rw [AHeap.nx_upd, AHeap.nx_new], fun m o hm hg => by rw [AHeap.get_upd, if_neg (by omega), AHeap.get_new, if_neg (by omega)]; exact hg⟩
          · exact ⟨by rw [AHeap.nx_upd, AHeap.nx_upd, AHeap.nx_new], fun m o hm hg => by rw [AHeap.get_upd, if_neg (by omega), AHeap.get_upd, if_neg (by omega), AHeap.get_new, if_neg (by omega)]; exact hg⟩
        exact ⟨hb.keep (by omega) fun m o hm hg => key.2 m o (hb.own_lt hm) hg, key⟩
      have fin : ∀ s2 t, Bld s2 s.nx yb ((L.take i).map (say x)) → s2.nx = s1.nx + 1 → (∀ m o, m < s1.nx → s1.get m = some o → s2.get m = some o) → Wrote s2 s.nx yb ((L.take i).map (say x) ++ [say x p]) t →
          ∃ yb', Bld t s.nx yb' ((L.take (i + 1)).map (say x)) ∧ (∀ m, Own yb' m → s.nx ≤ m) ∧ Sub s t ∧ (∀ c, y = .rs 2 c 0 L.length → t.get c = some (.cells (letters L) (some 126)) ∧ ¬ Own yb' c ∧ c < t.nx ∧ s.nx < c) := by
        intro s2 t hb2 hn2 hk2 hW
        obtain ⟨yb', hb3, ho3⟩ := hW.bld
        have hnx := hW.nx
        refine ⟨yb', by rw [htk]; exact hb3, fun m q => ?_, ⟨by have := hs.1; omega, fun m o hm hg => ?_⟩, fun c' hc' => ?_⟩
        · rcases ho3 m q with r | r
          · exact hown m r
          · have := hs.1; omega
        · exact hW.keep m o (by have := hs.1; omega) (by omega) (fun q => by have := hown m q; omega) (hk2 m o (by have := hs.1; omega) (hs.2 m o hm hg))
        · obtain ⟨g1, g2, g3, g4⟩ := hc c' hc'
          refine ⟨hW.keep c' _ (by omega) (by omega) g2 (hk2 _ _ g3 g1), fun q => ?_, by omega, g4⟩
          rcases ho3 c' q with r | r
          · exact g2 r
          · omega
      have hlt2 : ((L.take i).map (say x)).length = i := by simp; omega
      refine ⟨fun hp => ?_, fun hp => ?_⟩
      · obtain ⟨ch, hch⟩ : ∃ ch, x[p.1.toNat]? = some ch := ⟨_, List.getElem?_eq_getElem (by omega)⟩
        have hix : aindex tab 9 (.str x) (.int .i64 p.1) = some (.int .u8 ch.toNat) := by simp [aindex, ty9, hch, hp]
        have hs' : say x p = ch := by simp [say, hp, List.getD_eq_getElem?_getD, hch]
        simp +contextual only [hlen1, q0, q5, q12, q13, q14, hix, go_sem, Nat.reduceLT, Nat.reduceEqDiff, Nat.reduceAdd, Nat.reduceLeDiff, reduceIte, reduceCtorEq]
        obtain ⟨b1, b2, b3⟩ := step _ _ _ ch hs'.symm _ (.inr rfl)
        refine lcall_of (writeByte_ok b1 ch (by rw [hlt2]; omega)) ?_
        rintro _ t2 ⟨rfl, hW⟩
        obtain ⟨yb', f1, f2, f3, f4⟩ := fin _ t2 b1 b2 b3 (by rw [hs']; exact hW)
        simp +contextual only [hlen1, q0, q5, q12, q13, q14, go_sem, Nat.reduceLT, Nat.reduceEqDiff, Nat.reduceAdd, Nat.reduceLeDiff, reduceIte, reduceCtorEq]
        exact ⟨k - 1, by omega, i + 1, yb', by omega, by rw [hw1], f1, f2, f3, f4⟩
      · have hs' : say x p = p.2 := by simp [say, hp]
        obtain ⟨b1, b2, b3⟩ := step _ _ (.cells [] none) p.2 hs'.symm _ (.inl rfl)
        refine lcall_of (writeByte_ok b1 p.2 (by rw [hlt2]; omega)) ?_
        rintro _ t2 ⟨rfl, hW⟩
        obtain ⟨yb', f1, f2, f3, f4⟩ := fin _ t2 b1 b2 b3 (by rw [hs']; exact hW)
        simp +contextual only [hlen1, q0, q5, q12, q13, q14, go_sem, Nat.reduceLT, Nat.reduceEqDiff, Nat.reduceAdd, Nat.reduceLeDiff, reduceIte, reduceCtorEq]
        exact ⟨k - 1, by omega, i + 1, yb', by omega, by rw [hw1], f1, f2, f3, f4⟩
    · have hi : i = L.length := by omega
      rw [hi, List.take_length] at hb
      refine lcall_of (string_ok hb (by simp; omega)) ?_
      rintro _ t2 ⟨rfl, hn2, hk2⟩
      simp +contextual only [hlen1, go_sem, Nat.reduceLT, Nat.reduceEqDiff, Nat.reduceAdd, Nat.reduceLeDiff, reduceIte, reduceCtorEq]
      exact ⟨by have := hs.1; omega, fun m o hm hg => hk2 m o (fun q => by have := hown m q; omega) (hs.2 m o hm hg)⟩
end Go.S1
end
section
namespace Go.S1
open Go Go.Am Go.Proofs
set_option maxRecDepth 100000
attribute [local go_sem] lvc_seq lvc_draw lvc_ops lvc_skip lvc_block lvc_exit lops_nil lops_cons lops_guard lstep_move lstep_assign lstep_binOp lstep_unOp lstep_pick lstep_nilCheck lstep_build lstep_slice lstep_fieldAddr lstep_field lstep_indexAddr lstep_index lstep_extract lstep_makeFunc lstep_load lstep_store lstep_makeSlice lstep_buildSlice lstep_len lstep_append lstep_call lfun_func athen_normal athen_ret athen_exit ablock_normal ablock_ret ablock_exit ablock_exit_ne lvc_ret lvc_cond lvc_loop length_aput aput_none aev_same aev_ne aev_bool aev_int aev_str aev_nilIface aev_nilp aev_nils aev_nilm aev_func List.getD_cons_zero List.getD_cons_succ List.map_cons List.map_nil Option.map_some Option.map_none List.nil_append List.append_nil abin_add abin_sub abin_mul abin_eql abin_neq abin_lss abin_leq abin_gtr abin_geq abin_seql abin_sneq lval_some lmem_some bool?_bool ne_eq not_false_eq_true lpost_normal0 lpost_ret1 lpost_cell1 lcond_true lcond_false lcond_decide lcond_not lguard_decide_true lguard_decide_false lguard_true_true lguard_true_false lguard_false_false lguard_false_true apick_true apick_false decide_true decide_false lstep_min amin2_int amax2_int aun_not_decide aun_not_true aun_not_false aun_neg not_true_eq_false Classical.not_not al3 al9 al28 al44 al120 al123 al126 ld3 st3 ld4 st4 ld5 st5 ld9 st9 len9 ld22 st22 len22r fa25_0p fa25_1p ld28 st28 fa44_0p fa44_1p fa44_2p ld44 st44 ld118 st118 len118r fa120_1p ld121 st121 len121n len121r fa123_0p fa123_1p ld123 st123 fa126_0p fa126_1p ld126 st126 len189r acellsAt_r acellsAt_p astoreAt_p cells?_some Option.bind_some AV.ofV AV.ofOne AV.israw AV.cells splice AHeap.get_new AHeap.get_upd AHeap.nx_new AHeap.nx_upd List.drop_zero List.drop_succ_cons List.take_succ_cons List.take_zero List.length_cons List.length_nil List.all_cons List.all_nil AV.one List.set_cons_zero List.set_cons_succ List.getElem?_cons_zero List.getElem?_cons_succ Nat.zero_add Nat.add_zero Bool.and_true and_self and_true true_and if_true if_false ite_true ite_false Bool.false_eq_true Bool.true_eq_false List.toList_toArray Nat.le_refl List.drop_nil List.take_nil get_bump nx_bump ldrun_nil ldrun_cons ldrun_guard ldval_some ldstep_move ldstep_build ldstep_fieldAddr ldstep_index ldstep_load List.cons_append lallocs ldlen_some ldmem_some ldstep_buildSlice AHeap.upds List.foldl_nil List.foldl_cons
def wr (n : Int) : Int := IntKind.i64.wrap n
def belowOf (x n : Int) : Int := if n < 1 then 0 else if x.tmod n < 0 then wr (x.tmod n + n) else x.tmod n
theorem below_ok (x n : Int) (s : AHeap) : ACall Tryz.prog 135 [.int .i64 x, .int .i64 n] s fun v t => v = .int .i64 (belowOf x n) ∧ t = s := by
  refine go135 (by simp) ?_
  intro tm hlen harg
  simp +contextual only [L135, hlen, harg, go_sem, Nat.reduceLT, Nat.reduceEqDiff, Nat.reduceAdd, Nat.reduceLeDiff, reduceIte, reduceCtorEq]
  refine ⟨fun h => ?_, fun h => ?_⟩
  · simp [belowOf, h]
  · have hn : n ≠ 0 := by omega
    simp +contextual only [hlen, harg, abin_rem hn, go_sem, Nat.reduceLT, Nat.reduceEqDiff, Nat.reduceAdd, Nat.reduceLeDiff, reduceIte, reduceCtorEq]
    refine ⟨fun h2 => ?_, fun h2 => ?_⟩
    · simp only [belowOf, if_neg h, if_pos h2, wr, and_self]
    · simp only [belowOf, if_neg h, if_neg h2, and_self]
theorem below_lt {x n : Int} (hn : 1 ≤ n) (hb : n ≤ 4611686018427387904) : 0 ≤ belowOf x n ∧ belowOf x n < n := by
  unfold belowOf
  rw [if_neg (by omega)]
  have h1 := Int.tmod_lt_of_pos x (show 0 < n by omega)
  have h2 := Int.lt_tmod_of_pos x (show 0 < n by omega)
  split
  · rw [wr, wrap_id (by omega)]; omega
  · omega
def IsInts (v : AV) (l : List Int) : Prop := (∃ f, v = .vs 1 f (l.map (AV.int .i64))) ∨ (v = .nils ∧ l = []) ∨ ∃ g, v = .av g l
theorem IsInts.len {v : AV} {l : List Int} (h : IsInts v l) : alen tab 22 v = some (.int .i64 l.length) := by
  rcases h with ⟨f, rfl⟩ | ⟨rfl, rfl⟩ | ⟨g, rfl⟩ <;> simp [alen, ty22]
theorem IsInts.at {v : AV} {l : List Int} (h : IsInts v l) {n : Int} (h0 : 0 ≤ n) {x : Int} (he : l[n.toNat]? = some x) : aindexAddr tab 22 v (.int .i64 n) = some (.rptr [.int .i64 x]) := by
  rcases h with ⟨f, rfl⟩ | ⟨rfl, rfl⟩ | ⟨g, rfl⟩
  · simp [aindexAddr, ty22, Tab.size, ty3, he, h0, AV.israw, AV.cells]
  · simp at he
  · simp [aindexAddr, ty22, Tab.size, ty3, he, h0]
def nextOf (L : List Int) (at_ n : Int) : Int :=
  if L = [] then belowOf (wr (wr (at_ + 1) * 7919)) n
  else
    let i := (wr (wr (at_ + 1) - 1)).tmod L.length
    let round := wr ((wr (wr (at_ + 1) - 1)).tdiv L.length)
    belowOf (wr (belowOf (L.getD i.toNat 0) 1073741824 + wr (round * wr (7919 + i)))) n
def nextT (s : AHeap) (b : Nat) (Lv : AV) (L : List Int) (at_ : Int) : AHeap :=
  if L = [] then s.upd b (.cells [Lv, .int .i64 (at_ + 1)] (some 25)) else bump (bump (s.upd b (.cells [Lv, .int .i64 (at_ + 1)] (some 25))) 10) 10
theorem nextT_get (s : AHeap) (b : Nat) (Lv : AV) (L : List Int) (at_ : Int) (m : Nat) : (nextT s b Lv L at_).get m = if m = b then some (.cells [Lv, .int .i64 (at_ + 1)] (some 25)) else s.get m := by
  unfold nextT
  split <;> simp only [get_bump, AHeap.get_upd]
theorem nextOf_lt (L : List Int) (at_ : Int) {n : Int} (hn : 1 ≤ n) (hb : n ≤ 4611686018427387904) : 0 ≤ nextOf L at_ n ∧ nextOf L at_ n < n := by
  unfold nextOf
  split
  · exact below_lt hn hb
  · exact below_lt hn hb
structure Strm (s : AHeap) (b : Nat) (Lv : AV) (L : List Int) (at_ : Int) : Prop where
  ints : IsInts Lv L
  len : L.length < 4611686018427387904
  at0 : 0 ≤ at_
  get : s.get b = some (.cells [Lv, .int .i64 at_] (some 25))
theorem Strm.next {s : AHeap} {b : Nat} {Lv : AV} {L : List Int} {at_ : Int} (h : Strm s b Lv L at_) : Strm (nextT s b Lv L at_) b Lv L (at_ + 1) :=
  ⟨h.ints, h.len, by have := h.at0; omega, by rw [nextT_get, if_pos rfl]⟩
theorem rs_at {b n : Nat} {i : Int} (h0 : 0 ≤ i) (h1 : i < n) : aindexAddr tab 22 (.rs 1 b 0 n) (.int .i64 i) = some (.ptr b i.toNat) := by
  simp [aindexAddr, ty22, Tab.size, ty3, h0, h1]
theorem rs_at63 {b n : Nat} {i : Int} (h0 : 0 ≤ i) (h1 : i < n) : aindexAddr tab 189 (.rs 1 b 0 n) (.int .i64 i) = some (.ptr b i.toNat) := by
  simp [aindexAddr, ty189, Tab.size, ty9, h0, h1]
end Go.S1
end
