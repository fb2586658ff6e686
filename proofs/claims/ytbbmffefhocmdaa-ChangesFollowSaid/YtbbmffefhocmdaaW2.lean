/- Part 2 of a proof: texts of this work, put together. -/
import Derived.Test.YtbbmffefhocmdaaW1
section
set_option linter.unusedVariables false
set_option linter.unusedSimpArgs false
namespace Go.S1
open Go Go.Am Go.Proofs
set_option maxRecDepth 100000
set_option linter.unusedSimpArgs false
attribute [local go_sem] lvc_seq lvc_draw lvc_ops lvc_skip lvc_block lvc_exit lops_nil lops_cons lops_guard lstep_move lstep_assign lstep_binOp lstep_unOp lstep_pick lstep_nilCheck lstep_build lstep_slice lstep_fieldAddr lstep_field lstep_indexAddr lstep_index lstep_extract lstep_makeFunc lstep_load lstep_store lstep_makeSlice lstep_buildSlice lstep_len lstep_append lstep_call lfun_func athen_normal athen_ret athen_exit ablock_normal ablock_ret ablock_exit ablock_exit_ne lvc_ret lvc_cond lvc_loop length_aput aput_none aev_same aev_ne aev_bool aev_int aev_str aev_nilIface aev_nilp aev_nils aev_nilm aev_func List.getD_cons_zero List.getD_cons_succ List.map_cons List.map_nil Option.map_some Option.map_none List.nil_append List.append_nil abin_add abin_sub abin_mul abin_eql abin_neq abin_lss abin_leq abin_gtr abin_geq abin_seql abin_sneq lval_some lmem_some bool?_bool ne_eq not_false_eq_true lpost_ret0 lpost_normal0 lpost_ret1 lpost_ret2 lpost_ret3 lpost_cell1 lpost_cell2 lpost_cell3 lcond_true lcond_false lcond_decide lcond_not lguard_decide_true lguard_decide_false lguard_true_true lguard_true_false lguard_false_false lguard_false_true apick_true apick_false decide_true decide_false lstep_min lstep_max amin2_int amax2_int aun_not_decide aun_not_true aun_not_false aun_neg not_true_eq_false Classical.not_not al3 al4 al5 al9 al22 al23 al24 al25 al27 al31 al35 al63 al107 al112 al113 al115 al116 al117 al118 al119 al121 ld3 st3 ld4 st4 ld5 st5 ld9 st9 len9 ld22 st22 len22n len22v len22r ld23 st23 fa24_0p fa24_0r fa24_1p fa24_1r ld24 st24 fa25_0p fa25_0r fa25_1p fa25_1r ld25 st25 ld27 st27 len27n len27v len27r ld31 st31 fa35_0p fa35_0r fa35_1p fa35_1r fa35_2p fa35_2r ld35 st35 ld63 st63 len63n len63v len63r ld107 st107 len107n len107v len107r ld112 st112 ld113 st113 len113n len113v len113r fa115_0p fa115_0r fa115_1p fa115_1r ld115 st115 ld116 st116 len116n len116v len116r fa117_0p fa117_0r fa117_1p fa117_1r ld117 st117 fa118_0p fa118_0r fa118_1p fa118_1r ld118 st118 ld119 st119 fa121_0p fa121_0r fa121_1p fa121_1r ld121 st121 acellsAt_r acellsAt_p astoreAt_p cells?_some Option.bind_some AV.ofV AV.ofOne AV.israw AV.cells splice AHeap.get_new AHeap.get_upd AHeap.nx_new AHeap.nx_upd List.drop_zero List.drop_succ_cons List.take_succ_cons List.take_zero List.length_cons List.length_nil List.all_cons List.all_nil AV.one List.set_cons_zero List.set_cons_succ List.getElem?_cons_zero List.getElem?_cons_succ Nat.zero_add Nat.add_zero Bool.and_true and_self and_true true_and if_true if_false ite_true ite_false Bool.false_eq_true Bool.true_eq_false List.toList_toArray Nat.le_refl List.drop_nil List.take_nil get_bump nx_bump

def say (x : List UInt8) (p : Int × UInt8) : UInt8 := if 0 ≤ p.1 then x.getD p.1.toNat 0 else p.2

theorem say_run (x : List UInt8) : ∀ (k a : Nat), a + k ≤ x.length → (runOf a k).map (say x) = (x.drop a).take k
  | 0, a, _ => by simp [runOf]
  | k + 1, a, h => by
    have hlt : a < x.length := by omega
    rw [List.drop_eq_getElem_cons hlt, List.take_succ_cons, ← say_run x k (a + 1) (by omega)]
    simp [runOf, List.range'_succ, say, List.getD_eq_getElem?_getD, hlt]

theorem say_flow (x : List UInt8) : ∀ (l : List Ed) (a : Nat) (B : Int), (B = a ∨ (B = -1 ∧ a = 0)) → a ≤ x.length → scan x.length B l = 0 → (flowFrom x.length a l).map (say x) = applyFrom x a l
  | [], a, B, hB, ha, _ => by
    rw [flowFrom, applyFrom, say_run x _ _ (by omega), List.take_of_length_le (by simp)]
  | e :: r, a, B, hB, ha, h => by
    obtain ⟨c1, c2, c3, c4, c5, c6⟩ := scan_cons h
    rw [flowFrom, applyFrom, List.map_append, List.map_append, say_run x _ _ (by omega), say_flow x r _ _ (.inl (by omega)) (by omega) c6]
    congr 2
    rw [List.map_map]
    have : ∀ c ∈ e.new, (say x ∘ fun c => ((-1 : Int), c)) c = c := by intro c _; simp [say]
    rw [List.map_congr_left this]
    simp

theorem flow_range (n : Nat) : ∀ (l : List Ed) (a : Nat) (B : Int), (B = a ∨ (B = -1 ∧ a = 0)) → a ≤ n → scan n B l = 0 → ∀ p ∈ flowFrom n a l, p.1 < n
  | [], a, B, hB, ha, _, p, hp => by
    simp only [flowFrom, runOf, List.mem_map, List.mem_range'_1] at hp
    obtain ⟨i, hi, rfl⟩ := hp
    simp only
    omega
  | e :: r, a, B, hB, ha, h, p, hp => by
    obtain ⟨c1, c2, c3, c4, c5, c6⟩ := scan_cons h
    rw [flowFrom, List.mem_append, List.mem_append] at hp
    rcases hp with (hp | hp) | hp
    · simp only [runOf, List.mem_map, List.mem_range'_1] at hp
      obtain ⟨i, hi, rfl⟩ := hp
      simp only
      omega
    · simp only [List.mem_map] at hp
      obtain ⟨c, _, rfl⟩ := hp
      simp only
      omega
    · exact flow_range n r _ _ (.inl (by omega)) (by omega) c6 p hp

theorem flow_len (n : Nat) : ∀ (l : List Ed) (a : Nat), (∀ e ∈ l, e.new.length ≤ 100000) → (∀ e ∈ l, e.at_ ≤ n) → (flowFrom n a l).length ≤ n + l.length * (n + 100000)
  | [], a, _, _ => by simp [flowFrom, runOf]
  | e :: r, a, h, h2 => by
    have ih := flow_len n r (e.at_ + e.cut).toNat (fun e he => h e (List.mem_cons_of_mem _ he)) (fun e he => h2 e (List.mem_cons_of_mem _ he))
    have h1 := h e (List.mem_cons_self)
    have h3 := h2 e (List.mem_cons_self)
    rw [flowFrom]
    simp only [List.length_append, List.length_cons, List.length_map, runOf, List.length_range']
    rw [Nat.add_mul]
    omega

theorem field118 {n : Int} {y : AV} (h : y.israw = false) : afield tab 118 (.agg [.int .i64 n, y]) 1 = some y := by
  simp [afield, ty118, ty116, apart, TD.isAgg]

theorem letters_drop : ∀ (L : List (Int × UInt8)) (i : Nat), (letters L).drop (i * 2) = letters (L.drop i)
  | L, 0 => by simp
  | [], i + 1 => by simp [letters]
  | p :: L, i + 1 => by
    show (AV.int .i64 p.1 :: AV.int .u8 p.2.toNat :: letters L).drop ((i + 1) * 2) = letters (L.drop i)
    rw [show (i + 1) * 2 = i * 2 + 1 + 1 from by omega, List.drop_succ_cons, List.drop_succ_cons, letters_drop L i]

theorem rs_at116 {b n i : Nat} (h1 : i < n) : aindexAddr tab 116 (.rs 2 b 0 n) (.int .i64 i) = some (.ptr b (i * 2)) := by
  have : (i : Int) < n := by omega
  simp [aindexAddr, ty116, Tab.size, ty121, this]

theorem applyOf_ok (x : List UInt8) (v : AV) (l : List Ed) (hv : SlE v l) (hl : l.length ≤ 2000) (hx : x.length ≤ 20000) (hnew : ∀ e ∈ l, e.new.length ≤ 100000) (hsc : scan x.length (-1) l = 0) (s : AHeap) :
    ACall Try.prog 26 [.str x, v] s fun r t => r = .str (applyFrom x 0 l) ∧ Sub s t := by
  refine go26 (by simp) ?_
  intro tm hlen harg
  simp (config := { contextual := true }) only [L26, hlen, harg, hv.len, go_sem, Nat.reduceLT, Nat.reduceEqDiff, Nat.reduceAdd, Nat.reduceLeDiff, reduceIte, reduceCtorEq]
  refine lcall_of (flowOf_ok x.length v l hv hl hx hnew hsc _) ?_
  intro r t hrt
  have hSt := And.right hrt
  obtain ⟨y, hr, hy⟩ := And.left hrt
  have hraw : y.israw = false := by rcases hy with ⟨rfl, _⟩ | ⟨c, _, _, rfl, _, _⟩ <;> rfl
  have hlen' : alen tab 116 y = some (.int .i64 (flowFrom x.length 0 l).length) := by
    rcases hy with ⟨rfl, h⟩ | ⟨c, _, _, rfl, _, _⟩
    · rw [h]; exact len116n
    · exact len116r
  clear hrt
  rw [hr]
  simp (config := { contextual := true }) only [hlen, harg, field118 hraw, hlen', go_sem, Nat.reduceLT, Nat.reduceEqDiff, Nat.reduceAdd, Nat.reduceLeDiff, reduceIte, reduceCtorEq]
  have hbl0 : Bld t s.nx .nils [] := by
    have hg := hSt.2 s.nx _ (by rw [AHeap.nx_new]; omega) (by rw [AHeap.get_new, if_pos rfl])
    exact ⟨⟨.nilp, .inl rfl, hg⟩, by have := hSt.1; rw [AHeap.nx_new] at this; omega, .inl ⟨rfl, rfl⟩⟩
  have hS0 : Sub s t := ((Sub.refl s).new _).trans hSt
  have hflow := flow_range x.length l 0 (-1) (.inr ⟨rfl, rfl⟩) (by omega) hsc
  have hsay := say_flow x l 0 (-1) (.inr ⟨rfl, rfl⟩) (by omega) hsc
  have hlenb : (flowFrom x.length 0 l).length ≤ 300000000 := by
    have hat : ∀ (l : List Ed) (B : Int), scan x.length B l = 0 → ∀ e ∈ l, e.at_ ≤ x.length := by
      intro l
      induction l with
      | nil => intro B _ z hz; cases hz
      | cons a l ih =>
        intro B h z hz
        obtain ⟨d1, d2, d3, d4, d5, d6⟩ := scan_cons h
        rcases List.mem_cons.1 hz with rfl | hz
        · exact d2
        · exact ih _ d6 z hz
    have h1 := flow_len x.length l 0 hnew (hat l (-1) hsc)
    have h2 : l.length * (x.length + 100000) ≤ 2000 * (20000 + 100000) := Nat.mul_le_mul hl (by omega)
    omega
  rw [← hsay]
  generalize flowFrom x.length 0 l = L at *
  refine ⟨fun k tm' s' => ∃ (i : Nat) (yb : AV), k + i = L.length ∧ tm'.length = 31 ∧ aev tm' (.tmp 0) = .str x ∧ aev tm' (.tmp 5) = .ptr s.nx 0 ∧ aev tm' (.tmp 12) = y ∧ aev tm' (.tmp 13) = .int .i64 L.length ∧ aev tm' (.tmp 14) = .int .i64 i ∧
      Bld s' s.nx yb ((L.take i).map (say x)) ∧ (∀ m, Own yb m → s.nx ≤ m) ∧ Sub s s' ∧ (∀ c, y = .rs 2 c 0 L.length → s'.get c = some (.cells (letters L) (some 121)) ∧ ¬ Own yb c ∧ c < s'.nx ∧ s.nx < c), L.length, ⟨0, .nils, by simp, ?_⟩, ?_⟩
  · simp only [length_aput, hlen, aev_same, aev_ne, ne_eq, Nat.reduceEqDiff, not_false_eq_true, harg, Nat.reduceLT, true_and, List.getD_cons_zero, List.getD_cons_succ]
    refine ⟨rfl, by simpa using hbl0, (by rintro m ⟨n, e⟩; cases e), hS0, ?_⟩
    rintro c rfl
    rcases hy with ⟨q, _⟩ | ⟨c', g1, g2, g3, g4, g5⟩
    · cases q
    · cases g3
      rw [AHeap.nx_new] at g1
      exact ⟨g5, (by rintro ⟨n, e⟩; cases e), g2, by omega⟩
  · rintro k tm1 s1 ⟨i, yb, hk, hlen1, q0, q5, q12, q13, q14, hb, hown, hs, hc⟩
    simp (config := { contextual := true }) only [hlen1, q0, q5, q12, q13, q14, go_sem, Nat.reduceLT, Nat.reduceEqDiff, Nat.reduceAdd, Nat.reduceLeDiff, reduceIte, reduceCtorEq]
    refine ⟨fun hlt => ?_, fun hge => ?_⟩
    · have hi : i < L.length := by omega
      obtain ⟨c, hyc⟩ : ∃ c, y = .rs 2 c 0 L.length := by
        rcases hy with ⟨_, q⟩ | ⟨c, _, _, q, _, _⟩
        · rw [q] at hi; simp at hi
        · exact ⟨c, q⟩
      obtain ⟨hgc, hnc, hcn, hsc2⟩ := hc c hyc
      have hgL := List.getElem?_eq_getElem hi
      have hmem : L[i] ∈ L := List.getElem_mem hi
      have htake := List.take_succ_eq_append_getElem hi
      have hdrop := List.drop_eq_getElem_cons hi
      generalize L[i] = p at hgL hmem htake hdrop
      have hd : (letters L).drop (i * 2) = .int .i64 p.1 :: .int .u8 p.2.toNat :: letters (L.drop (i + 1)) := by rw [letters_drop, hdrop]; rfl
      have hw1 : IntKind.i64.wrap ((i : Int) + 1) = ((i + 1 : Nat) : Int) := by rw [wrap_id (by omega)]; rfl
      have hatL : aindexAddr tab 116 y (.int .i64 i) = some (.ptr c (i * 2)) := by rw [hyc]; exact rs_at116 hi
      simp (config := { contextual := true }) only [hlen1, q0, q5, q12, q13, q14, hatL, hgc, hd, go_sem, Nat.reduceLT, Nat.reduceEqDiff, Nat.reduceAdd, Nat.reduceLeDiff, reduceIte, reduceCtorEq]
      have hpr := hflow p hmem
      have htk : (L.take (i + 1)).map (say x) = (L.take i).map (say x) ++ [say x p] := by rw [htake]; simp
      have step : ∀ o o' o'' ch, ch = say x p → ∀ s2, (s2 = (s1.new o).upd s1.nx o' ∨ s2 = ((s1.new o).upd s1.nx o').upd s1.nx o'') → Bld s2 s.nx yb ((L.take i).map (say x)) ∧ s2.nx = s1.nx + 1 ∧ (∀ m o, m < s1.nx → s1.get m = some o → s2.get m = some o) := by
        intro o o' o'' ch _ s2 h2
        have key : s2.nx = s1.nx + 1 ∧ (∀ m o, m < s1.nx → s1.get m = some o → s2.get m = some o) := by
          rcases h2 with rfl | rfl
          · exact ⟨by rw [AHeap.nx_upd, AHeap.nx_new], fun m o hm hg => by rw [AHeap.get_upd, if_neg (by omega), AHeap.get_new, if_neg (by omega)]; exact hg⟩
          · exact ⟨by rw [AHeap.nx_upd, AHeap.nx_upd, AHeap.nx_new], fun m o hm hg => by rw [AHeap.get_upd, if_neg (by omega), AHeap.get_upd, if_neg (by omega), AHeap.get_new, if_neg (by omega)]; exact hg⟩
        exact ⟨hb.keep (by omega) fun m o hm hg => key.2 m o (hb.own_lt hm) hg, key⟩
      have fin : ∀ s2 t, Bld s2 s.nx yb ((L.take i).map (say x)) → s2.nx = s1.nx + 1 → (∀ m o, m < s1.nx → s1.get m = some o → s2.get m = some o) → Wrote s2 s.nx yb ((L.take i).map (say x) ++ [say x p]) t →
          ∃ yb', Bld t s.nx yb' ((L.take (i + 1)).map (say x)) ∧ (∀ m, Own yb' m → s.nx ≤ m) ∧ Sub s t ∧ (∀ c, y = .rs 2 c 0 L.length → t.get c = some (.cells (letters L) (some 121)) ∧ ¬ Own yb' c ∧ c < t.nx ∧ s.nx < c) := by
        intro s2 t hb2 hn2 hk2 hW
        obtain ⟨yb', hb3, ho3⟩ := hW.bld
        have hnx := hW.nx
        refine ⟨yb', by rw [htk]; exact hb3, fun m q => ?_, ⟨by have := hs.1; omega, fun m o hm hg => ?_⟩, fun c' hc' => ?_⟩
        · rcases ho3 m q with r | r
          · exact hown m r
          · have := hs.1; omega
        · exact hW.keep m o (by have := hs.1; omega) (by omega) (fun q => by have := hown m q; omega) (hk2 m o (by have := hs.1; omega) (hs.2 m o hm hg))
        · obtain ⟨g1, g2, g3, g4⟩ := hc c' hc'
          refine ⟨hW.keep c' _ (by omega) (by omega) g2 (hk2 _ _ g3 g1), fun q => ?_, by omega, g4⟩
          rcases ho3 c' q with r | r
          · exact g2 r
          · omega
      have hlt2 : ((L.take i).map (say x)).length = i := by simp; omega
      refine ⟨fun hp => ?_, fun hp => ?_⟩
      · obtain ⟨ch, hch⟩ : ∃ ch, x[p.1.toNat]? = some ch := ⟨_, List.getElem?_eq_getElem (by omega)⟩
        have hix : aindex tab 9 (.str x) (.int .i64 p.1) = some (.int .u8 ch.toNat) := by simp [aindex, ty9, hch, hp]
        have hs' : say x p = ch := by simp [say, hp, List.getD_eq_getElem?_getD, hch]
        simp (config := { contextual := true }) only [hlen1, q0, q5, q12, q13, q14, hix, go_sem, Nat.reduceLT, Nat.reduceEqDiff, Nat.reduceAdd, Nat.reduceLeDiff, reduceIte, reduceCtorEq]
        obtain ⟨b1, b2, b3⟩ := step _ _ _ ch hs'.symm _ (.inr rfl)
        refine lcall_of (writeByte_ok b1 ch (by rw [hlt2]; omega)) ?_
        rintro _ t2 ⟨rfl, hW⟩
        obtain ⟨yb', f1, f2, f3, f4⟩ := fin _ t2 b1 b2 b3 (by rw [hs']; exact hW)
        simp (config := { contextual := true }) only [hlen1, q0, q5, q12, q13, q14, go_sem, Nat.reduceLT, Nat.reduceEqDiff, Nat.reduceAdd, Nat.reduceLeDiff, reduceIte, reduceCtorEq]
        exact ⟨k - 1, by omega, i + 1, yb', by omega, by rw [hw1], f1, f2, f3, f4⟩
      · have hs' : say x p = p.2 := by simp [say, hp]
        obtain ⟨b1, b2, b3⟩ := step _ _ (.cells [] none) p.2 hs'.symm _ (.inl rfl)
        refine lcall_of (writeByte_ok b1 p.2 (by rw [hlt2]; omega)) ?_
        rintro _ t2 ⟨rfl, hW⟩
        obtain ⟨yb', f1, f2, f3, f4⟩ := fin _ t2 b1 b2 b3 (by rw [hs']; exact hW)
        simp (config := { contextual := true }) only [hlen1, q0, q5, q12, q13, q14, go_sem, Nat.reduceLT, Nat.reduceEqDiff, Nat.reduceAdd, Nat.reduceLeDiff, reduceIte, reduceCtorEq]
        exact ⟨k - 1, by omega, i + 1, yb', by omega, by rw [hw1], f1, f2, f3, f4⟩
    · have hi : i = L.length := by omega
      rw [hi, List.take_length] at hb
      refine lcall_of (string_ok hb (by simp; omega)) ?_
      rintro _ t2 ⟨rfl, hn2, hk2⟩
      simp (config := { contextual := true }) only [hlen1, go_sem, Nat.reduceLT, Nat.reduceEqDiff, Nat.reduceAdd, Nat.reduceLeDiff, reduceIte, reduceCtorEq]
      exact ⟨by have := hs.1; omega, fun m o hm hg => hk2 m o (fun q => by have := hown m q; omega) (hs.2 m o hm hg)⟩
end Go.S1
end
section
set_option linter.unusedVariables false
set_option linter.unusedSimpArgs false
namespace Go.S1
open Go Go.Am Go.Proofs
set_option maxRecDepth 100000
set_option linter.unusedSimpArgs false
attribute [local go_sem] lvc_seq lvc_draw lvc_ops lvc_skip lvc_block lvc_exit lops_nil lops_cons lops_guard lstep_move lstep_assign lstep_binOp lstep_unOp lstep_pick lstep_nilCheck lstep_build lstep_slice lstep_fieldAddr lstep_field lstep_indexAddr lstep_index lstep_extract lstep_makeFunc lstep_load lstep_store lstep_makeSlice lstep_buildSlice lstep_len lstep_append lstep_call lfun_func athen_normal athen_ret athen_exit ablock_normal ablock_ret ablock_exit ablock_exit_ne lvc_ret lvc_cond lvc_loop length_aput aput_none aev_same aev_ne aev_bool aev_int aev_str aev_nilIface aev_nilp aev_nils aev_nilm aev_func List.getD_cons_zero List.getD_cons_succ List.map_cons List.map_nil Option.map_some Option.map_none List.nil_append List.append_nil abin_add abin_sub abin_mul abin_eql abin_neq abin_lss abin_leq abin_gtr abin_geq abin_seql abin_sneq lval_some lmem_some bool?_bool ne_eq not_false_eq_true lpost_ret0 lpost_normal0 lpost_ret1 lpost_ret2 lpost_ret3 lpost_cell1 lpost_cell2 lpost_cell3 lcond_true lcond_false lcond_decide lcond_not lguard_decide_true lguard_decide_false lguard_true_true lguard_true_false lguard_false_false lguard_false_true apick_true apick_false decide_true decide_false lstep_min lstep_max amin2_int amax2_int aun_not_decide aun_not_true aun_not_false aun_neg not_true_eq_false Classical.not_not al3 al4 al5 al9 al22 al23 al24 al25 al27 al31 al35 al63 al107 al112 al113 al115 al116 al117 al118 al119 al121 ld3 st3 ld4 st4 ld5 st5 ld9 st9 len9 ld22 st22 len22n len22v len22r ld23 st23 fa24_0p fa24_0r fa24_1p fa24_1r ld24 st24 fa25_0p fa25_0r fa25_1p fa25_1r ld25 st25 ld27 st27 len27n len27v len27r ld31 st31 fa35_0p fa35_0r fa35_1p fa35_1r fa35_2p fa35_2r ld35 st35 ld63 st63 len63n len63v len63r ld107 st107 len107n len107v len107r ld112 st112 ld113 st113 len113n len113v len113r fa115_0p fa115_0r fa115_1p fa115_1r ld115 st115 ld116 st116 len116n len116v len116r fa117_0p fa117_0r fa117_1p fa117_1r ld117 st117 fa118_0p fa118_0r fa118_1p fa118_1r ld118 st118 ld119 st119 fa121_0p fa121_0r fa121_1p fa121_1r ld121 st121 acellsAt_r acellsAt_p astoreAt_p cells?_some Option.bind_some AV.ofV AV.ofOne AV.israw AV.cells splice AHeap.get_new AHeap.get_upd AHeap.nx_new AHeap.nx_upd List.drop_zero List.drop_succ_cons List.take_succ_cons List.take_zero List.length_cons List.length_nil List.all_cons List.all_nil AV.one List.set_cons_zero List.set_cons_succ List.getElem?_cons_zero List.getElem?_cons_succ Nat.zero_add Nat.add_zero Bool.and_true and_self and_true true_and if_true if_false ite_true ite_false Bool.false_eq_true Bool.true_eq_false List.toList_toArray Nat.le_refl List.drop_nil List.take_nil get_bump nx_bump ldrun_nil ldrun_cons ldrun_guard ldval_some ldstep_move ldstep_assign ldstep_binOp ldstep_unOp ldstep_build ldstep_slice ldstep_fieldAddr ldstep_field ldstep_indexAddr ldstep_index ldstep_extract ldstep_load List.cons_append lallocs ldlen_some ldstep_len ldstep_min ldstep_max ldstep_nilCheck ldmem_some ldstep_store ldstep_buildSlice ldstep_append dal3 zc3 dal4 zc4 dal5 zc5 dal9 zc9 dal22 zc22 dal23 zc23 dal24 zc24 dal25 zc25 dal27 zc27 dal31 zc31 dal35 zc35 dal63 zc63 dal107 zc107 dal112 zc112 dal113 zc113 dal115 zc115 dal116 zc116 dal117 zc117 dal118 zc118 dal119 zc119 dal121 zc121 AHeap.upds List.foldl_nil List.foldl_cons

def wr (n : Int) : Int := IntKind.i64.wrap n

def belowOf (x n : Int) : Int := if n < 1 then 0 else if x.tmod n < 0 then wr (x.tmod n + n) else x.tmod n

theorem below_ok (x n : Int) (s : AHeap) : ACall Try.prog 116 [.int .i64 x, .int .i64 n] s fun v t => v = .int .i64 (belowOf x n) ∧ t = s := by
  refine go116 (by simp) ?_
  intro tm hlen harg
  simp (config := { contextual := true }) only [L116, hlen, harg, go_sem, Nat.reduceLT, Nat.reduceEqDiff, Nat.reduceAdd, Nat.reduceLeDiff, reduceIte, reduceCtorEq]
  refine ⟨fun h => ?_, fun h => ?_⟩
  · simp [belowOf, h]
  · have hn : n ≠ 0 := by omega
    simp (config := { contextual := true }) only [hlen, harg, abin_rem hn, go_sem, Nat.reduceLT, Nat.reduceEqDiff, Nat.reduceAdd, Nat.reduceLeDiff, reduceIte, reduceCtorEq]
    refine ⟨fun h2 => ?_, fun h2 => ?_⟩
    · simp only [belowOf, if_neg h, if_pos h2, wr, and_self]
    · simp only [belowOf, if_neg h, if_neg h2, and_self]

theorem below_lt {x n : Int} (hn : 1 ≤ n) (hb : n ≤ 4611686018427387904) : 0 ≤ belowOf x n ∧ belowOf x n < n := by
  unfold belowOf
  rw [if_neg (by omega)]
  have h1 := Int.tmod_lt_of_pos x (show 0 < n by omega)
  have h2 := Int.lt_tmod_of_pos x (show 0 < n by omega)
  split
  · rw [wr, wrap_id (by omega)]; omega
  · omega

def IsInts (v : AV) (l : List Int) : Prop := (∃ f, v = .vs 1 f (l.map (AV.int .i64))) ∨ (v = .nils ∧ l = [])

theorem IsInts.len {v : AV} {l : List Int} (h : IsInts v l) : alen tab 22 v = some (.int .i64 l.length) := by
  rcases h with ⟨f, rfl⟩ | ⟨rfl, rfl⟩ <;> simp [alen, ty22]

theorem IsInts.at {v : AV} {l : List Int} (h : IsInts v l) {n : Int} (h0 : 0 ≤ n) {x : Int} (he : l[n.toNat]? = some x) : aindexAddr tab 22 v (.int .i64 n) = some (.rptr [.int .i64 x]) := by
  rcases h with ⟨f, rfl⟩ | ⟨rfl, rfl⟩
  · simp [aindexAddr, ty22, Tab.size, ty3, he, h0, AV.israw, AV.cells]
  · simp at he

/-- the stream's next number -/
def nextOf (L : List Int) (at_ n : Int) : Int :=
  if L = [] then belowOf (wr (wr (at_ + 1) * 7919)) n
  else
    let i := (wr (wr (at_ + 1) - 1)).tmod L.length
    let round := wr ((wr (wr (at_ + 1) - 1)).tdiv L.length)
    belowOf (wr (belowOf (L.getD i.toNat 0) 1073741824 + wr (round * wr (7919 + i)))) n


def nextT (s : AHeap) (b : Nat) (Lv : AV) (L : List Int) (at_ : Int) : AHeap :=
  if L = [] then s.upd b (.cells [Lv, .int .i64 (at_ + 1)] (some 25)) else bump (bump (s.upd b (.cells [Lv, .int .i64 (at_ + 1)] (some 25))) 10) 10

theorem next_ok (b : Nat) (Lv : AV) (L : List Int) (hL : IsInts Lv L) (hl : L.length < 4611686018427387904) (at_ n : Int) (h0 : 0 ≤ at_) (h1 : at_ < 4611686018427387904) (s : AHeap)
    (hb : s.get b = some (.cells [Lv, .int .i64 at_] (some 25))) :
    ACall Try.prog 68 [.ptr b 0, .int .i64 n] s fun v t => v = .int .i64 (nextOf L at_ n) ∧ t = nextT s b Lv L at_ := by
  refine go68 (by simp) ?_
  intro tm hlen harg
  have e1 : IntKind.i64.wrap (at_ + 1) = at_ + 1 := wrap_id (by omega)
  simp (config := { contextual := true }) only [L68, hlen, harg, hb, e1, hL.len, go_sem, Nat.reduceLT, Nat.reduceEqDiff, Nat.reduceAdd, Nat.reduceLeDiff, reduceIte, reduceCtorEq]
  refine ⟨fun hz => ?_, fun hz => ?_⟩
  · have hL0 : L = [] := List.eq_nil_of_length_eq_zero (by omega)
    refine lcall_eq (below_ok _ _ _) ?_
    simp (config := { contextual := true }) only [hlen, go_sem, Nat.reduceLT, Nat.reduceEqDiff, Nat.reduceAdd, Nat.reduceLeDiff, reduceIte, reduceCtorEq]
    subst hL0
    simp [nextOf, e1, wr, nextT]
  · have hL0 : L ≠ [] := by rintro rfl; simp at hz
    have hlz : (L.length : Int) ≠ 0 := hz
    have e2 : IntKind.i64.wrap (at_ + 1 - 1) = at_ := by rw [wrap_id (by omega)]; omega
    refine ldraw_plain 10 (by decide) ?_
    simp (config := { contextual := true }) only [hlen, harg, hb, e1, e2, hL.len, abin_rem hlz, go_sem, Nat.reduceLT, Nat.reduceEqDiff, Nat.reduceAdd, Nat.reduceLeDiff, reduceIte, reduceCtorEq]
    refine ⟨by kernel_rfl, ?_⟩
    refine ldraw_plain 10 (by decide) ?_
    simp (config := { contextual := true }) only [hlen, harg, hb, e1, e2, hL.len, abin_quo hlz, go_sem, Nat.reduceLT, Nat.reduceEqDiff, Nat.reduceAdd, Nat.reduceLeDiff, reduceIte, reduceCtorEq]
    refine ⟨by kernel_rfl, ?_⟩
    have hi0 : 0 ≤ at_.tmod L.length := Int.tmod_nonneg _ h0
    have hi1 : at_.tmod L.length < L.length := Int.tmod_lt_of_pos _ (by omega)
    obtain ⟨x, hx⟩ : ∃ x, L[(at_.tmod L.length).toNat]? = some x := ⟨_, List.getElem?_eq_getElem (by omega)⟩
    simp (config := { contextual := true }) only [hlen, harg, hb, e1, e2, hL.len, hL.at hi0 hx, go_sem, Nat.reduceLT, Nat.reduceEqDiff, Nat.reduceAdd, Nat.reduceLeDiff, reduceIte, reduceCtorEq]
    refine lcall_eq (below_ok _ _ _) ?_
    simp (config := { contextual := true }) only [hlen, harg, go_sem, Nat.reduceLT, Nat.reduceEqDiff, Nat.reduceAdd, Nat.reduceLeDiff, reduceIte, reduceCtorEq]
    refine lcall_eq (below_ok _ _ _) ?_
    simp (config := { contextual := true }) only [hlen, go_sem, Nat.reduceLT, Nat.reduceEqDiff, Nat.reduceAdd, Nat.reduceLeDiff, reduceIte, reduceCtorEq]
    refine ⟨?_, ?_⟩
    · have hx' : L.getD (at_.tmod L.length).toNat 0 = x := by rw [List.getD_eq_getElem?_getD, hx]; rfl
      simp only [nextOf, if_neg hL0, wr, e1, e2, hx']
    · simp only [nextT, if_neg hL0]

theorem nextT_get (s : AHeap) (b : Nat) (Lv : AV) (L : List Int) (at_ : Int) (m : Nat) : (nextT s b Lv L at_).get m = if m = b then some (.cells [Lv, .int .i64 (at_ + 1)] (some 25)) else s.get m := by
  unfold nextT
  split <;> simp only [get_bump, AHeap.get_upd]

theorem nextT_nx (s : AHeap) (b : Nat) (Lv : AV) (L : List Int) (at_ : Int) : (nextT s b Lv L at_).nx = if L = [] then s.nx else s.nx + 20 := by
  unfold nextT
  split <;> simp only [nx_bump, AHeap.nx_upd]

theorem nextOf_lt (L : List Int) (at_ : Int) {n : Int} (hn : 1 ≤ n) (hb : n ≤ 4611686018427387904) : 0 ≤ nextOf L at_ n ∧ nextOf L at_ n < n := by
  unfold nextOf
  split
  · exact below_lt hn hb
  · exact below_lt hn hb

/-- what is known of a stream: its block, its list, its place -/
structure Strm (s : AHeap) (b : Nat) (Lv : AV) (L : List Int) (at_ : Int) : Prop where
  ints : IsInts Lv L
  len : L.length < 4611686018427387904
  at0 : 0 ≤ at_
  get : s.get b = some (.cells [Lv, .int .i64 at_] (some 25))

theorem Strm.next {s : AHeap} {b : Nat} {Lv : AV} {L : List Int} {at_ : Int} (h : Strm s b Lv L at_) : Strm (nextT s b Lv L at_) b Lv L (at_ + 1) :=
  ⟨h.ints, h.len, by have := h.at0; omega, by rw [nextT_get, if_pos rfl]⟩

theorem next_strm {s : AHeap} {b : Nat} {Lv : AV} {L : List Int} {at_ : Int} (h : Strm s b Lv L at_) (h1 : at_ < 4611686018427387904) (n : Int) :
    ACall Try.prog 68 [.ptr b 0, .int .i64 n] s fun v t => v = .int .i64 (nextOf L at_ n) ∧ t = nextT s b Lv L at_ :=
  next_ok b Lv L h.ints h.len at_ n h.at0 h1 s h.get

theorem rs_at {b n : Nat} {i : Int} (h0 : 0 ≤ i) (h1 : i < n) : aindexAddr tab 22 (.rs 1 b 0 n) (.int .i64 i) = some (.ptr b i.toNat) := by
  simp [aindexAddr, ty22, Tab.size, ty3, h0, h1]

theorem rs_at63 {b n : Nat} {i : Int} (h0 : 0 ≤ i) (h1 : i < n) : aindexAddr tab 63 (.rs 1 b 0 n) (.int .i64 i) = some (.ptr b i.toNat) := by
  simp [aindexAddr, ty63, Tab.size, ty9, h0, h1]

theorem flip_ok {s : AHeap} {b : Nat} {Lv : AV} {L : List Int} {at_ : Int} (h : Strm s b Lv L at_) (h1 : at_ < 4611686018427387904) (n : Int) :
    ACall Try.prog 11 [.ptr b 0, .int .i64 n] s fun v t => v = .bool (decide (nextOf L at_ n = 0)) ∧ t = nextT s b Lv L at_ := by
  refine go11 (by simp) ?_
  intro tm hlen harg
  simp (config := { contextual := true }) only [L11, hlen, harg, go_sem, Nat.reduceLT, Nat.reduceEqDiff, Nat.reduceAdd, Nat.reduceLeDiff, reduceIte, reduceCtorEq]
  refine lcall_eq (next_strm h h1 _) ?_
  simp (config := { contextual := true }) only [hlen, go_sem, Nat.reduceLT, Nat.reduceEqDiff, Nat.reduceAdd, Nat.reduceLeDiff, reduceIte, reduceCtorEq, and_self]

theorem range_ok {s : AHeap} {b : Nat} {Lv : AV} {L : List Int} {at_ : Int} (h : Strm s b Lv L at_) (h1 : at_ < 4611686018427387904) (lo hi : Int) (hlo : -4611686018427387904 < lo) (hlh : lo ≤ hi) (hhi : hi < 2000000000000000000) (hlo2 : lo < 2000000000000000000) (hl2 : -2000000000000000000 < lo) :
    ACall Try.prog 10 [.ptr b 0, .int .i64 lo, .int .i64 hi] s fun v t => v = .int .i64 (lo + nextOf L at_ (hi - lo + 1)) ∧ t = nextT s b Lv L at_ := by
  refine go10 (by simp) ?_
  intro tm hlen harg
  have e1 : IntKind.i64.wrap (hi - lo) = hi - lo := wrap_id (by omega)
  have e2 : IntKind.i64.wrap (hi - lo + 1) = hi - lo + 1 := wrap_id (by omega)
  have hb := nextOf_lt L at_ (show 1 ≤ hi - lo + 1 by omega) (by omega)
  have e3 : IntKind.i64.wrap (lo + nextOf L at_ (hi - lo + 1)) = lo + nextOf L at_ (hi - lo + 1) := wrap_id (by omega)
  have hlt : ¬ hi < lo := by omega
  simp (config := { contextual := true }) only [L10, hlen, harg, e1, e2, hlt, go_sem, Nat.reduceLT, Nat.reduceEqDiff, Nat.reduceAdd, Nat.reduceLeDiff, reduceIte, reduceCtorEq]
  refine lcall_eq (next_strm h h1 _) ?_
  simp (config := { contextual := true }) only [hlen, harg, e3, go_sem, Nat.reduceLT, Nat.reduceEqDiff, Nat.reduceAdd, Nat.reduceLeDiff, reduceIte, reduceCtorEq, and_self]

theorem pick_ok {s : AHeap} {b : Nat} {Lv : AV} {L : List Int} {at_ : Int} (h : Strm s b Lv L at_) (h1 : at_ < 4611686018427387904) (c : Nat) (l : List Int) (To : Option TypeId) (hl : l ≠ []) (hl2 : l.length < 1000) (hc : s.get c = some (.cells (l.map (AV.int .i64)) To)) (hne : c ≠ b) :
    ACall Try.prog 20 [.ptr b 0, .rs 1 c 0 l.length] s fun v t => v = .int .i64 (l.getD (nextOf L at_ l.length).toNat 0) ∧ t = nextT s b Lv L at_ := by
  refine go20 (by simp) ?_
  intro tm hlen harg
  have hpos : 0 < l.length := List.length_pos_iff.2 hl
  have hb := nextOf_lt L at_ (n := l.length) (by omega) (by omega)
  obtain ⟨x, hx⟩ : ∃ x, l[(nextOf L at_ l.length).toNat]? = some x := ⟨_, List.getElem?_eq_getElem (by omega)⟩
  have hgc : (nextT s b Lv L at_).get c = some (.cells (l.map (AV.int .i64)) To) := by rw [nextT_get, if_neg hne, hc]
  have hd : (List.drop (nextOf L at_ l.length).toNat (l.map (AV.int .i64)))[0]? = some (.int .i64 x) := by simp [hx]
  simp (config := { contextual := true }) only [L20, hlen, harg, go_sem, Nat.reduceLT, Nat.reduceEqDiff, Nat.reduceAdd, Nat.reduceLeDiff, reduceIte, reduceCtorEq]
  refine lcall_eq (next_strm h h1 _) ?_
  simp (config := { contextual := true }) only [hlen, harg, rs_at hb.1 hb.2, hgc, hd, go_sem, Nat.reduceLT, Nat.reduceEqDiff, Nat.reduceAdd, Nat.reduceLeDiff, reduceIte, reduceCtorEq]
  rw [List.getD_eq_getElem?_getD, hx]
  rfl

theorem some_ok {s : AHeap} {b : Nat} {Lv : AV} {L : List Int} {at_ : Int} (h : Strm s b Lv L at_) (h1 : at_ < 4611686018427387904) (c : Nat) (l : List (List UInt8)) (To : Option TypeId) (hl : l ≠ []) (hl2 : l.length < 1000) (hc : s.get c = some (.cells (l.map AV.str) To)) (hne : c ≠ b) :
    ACall Try.prog 66 [.ptr b 0, .rs 1 c 0 l.length] s fun v t => v = .str (l.getD (nextOf L at_ l.length).toNat []) ∧ t = nextT s b Lv L at_ := by
  refine go66 (by simp) ?_
  intro tm hlen harg
  have hpos : 0 < l.length := List.length_pos_iff.2 hl
  have hb := nextOf_lt L at_ (n := l.length) (by omega) (by omega)
  obtain ⟨x, hx⟩ : ∃ x, l[(nextOf L at_ l.length).toNat]? = some x := ⟨_, List.getElem?_eq_getElem (by omega)⟩
  have hgc : (nextT s b Lv L at_).get c = some (.cells (l.map AV.str) To) := by rw [nextT_get, if_neg hne, hc]
  have hd : (List.drop (nextOf L at_ l.length).toNat (l.map AV.str))[0]? = some (.str x) := by simp [hx]
  simp (config := { contextual := true }) only [L66, hlen, harg, go_sem, Nat.reduceLT, Nat.reduceEqDiff, Nat.reduceAdd, Nat.reduceLeDiff, reduceIte, reduceCtorEq]
  refine lcall_eq (next_strm h h1 _) ?_
  simp (config := { contextual := true }) only [hlen, harg, rs_at63 hb.1 hb.2, hgc, hd, go_sem, Nat.reduceLT, Nat.reduceEqDiff, Nat.reduceAdd, Nat.reduceLeDiff, reduceIte, reduceCtorEq]
  rw [List.getD_eq_getElem?_getD, hx]
  rfl
end Go.S1
end
