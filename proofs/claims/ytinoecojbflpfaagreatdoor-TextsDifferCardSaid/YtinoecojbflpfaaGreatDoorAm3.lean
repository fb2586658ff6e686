/- Part 3 of a proof: texts of this work, put together. -/
import Derived.Test.YtinoecojbflpfaaGreatDoorAm2
set_option linter.unusedVariables false
set_option linter.unusedSimpArgs false
noncomputable section
namespace Go.Am
open Go
section
variable {P : Program} {T : Tab} {ops : Array Oper} {p : Plan} {tm0 : List AV} {s0 : AHeap} {Q : APost}
theorem tail_rule (h : DrawOk P T ops p tm0 s0) {Qx : Exit → Act → World → Prop} : ∀ (fuel : Nat) (listed : Array Bool) (q : Nat) (act : Act) (w : World), p.m ≤ q → q + fuel = ops.size → listed.size = ops.size →
    (∀ i, i < ops.size → (listed.getD i false = true ↔ i < q)) → wpOps P ops Qx (List.range' q fuel) act w → wpAny P .any ops Qx fuel listed act w
  | 0, listed, q, act, w, hm, hq, hl, hs, hw => by
    refine ⟨?_, hw⟩
    apply List.eq_nil_iff_forall_not_mem.2
    intro i hi
    rw [mem_ready] at hi
    obtain ⟨h0, o, ho, _⟩ := hi
    have hlt : i < ops.size := (Array.getElem?_eq_some_iff.1 ho).1
    have := (hs i hlt).2 (by omega)
    rw [Array.getD_eq_getD_getElem?, Array.getElem?_eq_getElem (by omega)] at h0 this
    simp at h0 this
    rw [h0] at this; cases this
  | fuel + 1, listed, q, act, w, hm, hq, hl, hs, hw => by
    have gd : ∀ i, i < ops.size → listed.getD i true = listed.getD i false := by
      intro i hi
      rw [Array.getD_eq_getD_getElem?, Array.getD_eq_getD_getElem?, Array.getElem?_eq_getElem (by omega)]
      rfl
    have hqs : q < ops.size := by omega
    have hqr : q ∈ Region.ready .any ops listed := by
      rw [mem_ready]
      refine ⟨?_, ops[q], Array.getElem?_eq_getElem hqs, fun e he hb => ?_⟩
      · rw [gd q hqs]
        cases hv : listed.getD q false with
        | false => rfl
        | true => have := (hs q hqs).1 hv; omega
      · have := h.edges q _ (Array.getElem?_eq_getElem hqs) e he hb
        exact (hs e.on (by omega)).2 this
    refine ⟨fun hr => absurd hqr (by rw [hr]; simp), ?_⟩
    intro i hi
    rw [mem_ready] at hi
    obtain ⟨h0, o, ho, hpre⟩ := hi
    have hlt : i < ops.size := (Array.getElem?_eq_some_iff.1 ho).1
    have hiq : q ≤ i := by
      rcases Nat.lt_or_ge i q with h1 | h1
      · have := (hs i hlt).2 h1
        rw [← gd i hlt, h0] at this; cases this
      · exact h1
    have hieq : i = q := by
      rcases Nat.eq_or_lt_of_le hiq with h1 | h1
      · exact h1.symm
      · exfalso
        have hA := h.tail i (by omega) hlt q h1
        have hcl := h.clos (fun j => j == i || listed.getD j false) (by
          intro j oj hj hoj e he hb
          simp only [Bool.or_eq_true, beq_iff_eq] at hj ⊢
          rcases hj with rfl | hj
          · rw [ho] at hoj; cases hoj
            exact .inr (hpre e he hb)
          · have hjl : j < ops.size := (Array.getElem?_eq_some_iff.1 hoj).1
            have hjq := (hs j hjl).1 hj
            have := h.edges j oj hoj e he hb
            exact .inr ((hs e.on (by omega)).2 (by omega))) i q hlt (by simp) hA
        simp only [Bool.or_eq_true, beq_iff_eq] at hcl
        rcases hcl with h2 | h2
        · omega
        · have := (hs q hqs).1 h2; omega
    subst hieq
    rw [List.range'_succ, wpOps_cons] at hw
    refine wpOp_mono (fun a w' hw' => tail_rule h fuel (listed.setIfInBounds i true) (i + 1) a w' (by omega) (by omega) (by simpa using hl) ?_ hw') hw
    intro j hj
    by_cases e : j = i
    · subst e
      rw [Array.getD_eq_getD_getElem?]
      simp [hl, hj]
    · rw [getD_set_ne false (Ne.symm e), hs j hj]
      omega
theorem draw_main (hT : T.Ok P) (h : DrawOk P T ops p tm0 s0) {K0 : Know} {w0 : World} {Qx : Exit → Act → World → Prop}
    (hend : ∀ K act w, Inv T ops p tm0 s0 K0 w0 (fun i => decide (i < p.m)) K act w → wpOps P ops Qx (List.range' p.m (ops.size - p.m)) act w) :
    ∀ (fuel : Nat) (listed : Array Bool) (K : Know) (act : Act) (w : World), listed.size = ops.size → cntTo (fun i => listed.getD i false) ops.size + fuel = ops.size →
      DSet ops p (fun i => listed.getD i false) → Inv T ops p tm0 s0 K0 w0 (fun i => listed.getD i false) K act w → wpAny P .any ops Qx fuel listed act w := by
  -- where all ahead of the tail is done
  have full : ∀ (listed : Array Bool) (K : Know) (act : Act) (w : World), listed.size = ops.size → DSet ops p (fun i => listed.getD i false) → (∀ i, i < p.m → listed.getD i false = true) →
      Inv T ops p tm0 s0 K0 w0 (fun i => listed.getD i false) K act w → wpAny P .any ops Qx (ops.size - p.m) listed act w := by
    intro listed K act w hl hD hall hv
    have he : (fun i => listed.getD i false) = fun i => decide (i < p.m) := by
      funext i
      cases hv' : listed.getD i false with
      | true => have := hD.below i hv'; simp [this]
      | false =>
        rcases Nat.lt_or_ge i p.m with q | q
        · rw [hall i q] at hv'; cases hv'
        · have : ¬ i < p.m := by omega
          simp [this]
    rw [he] at hv
    refine tail_rule h (ops.size - p.m) listed p.m act w (Nat.le_refl _) (by have := h.hm; omega) hl (fun i hi => ?_) (hend K act w hv)
    have := congrFun he i
    rw [show listed.getD i false = decide (i < p.m) from this]
    simp
  intro fuel
  induction fuel with
  | zero =>
    intro listed K act w hl hc hD hv
    have hall := cntTo_all (f := fun i => listed.getD i false) (m := ops.size) (by omega)
    have hm : p.m = ops.size := by
      rcases Nat.lt_or_ge p.m ops.size with q | q
      · have := hD.below p.m (hall p.m q); omega
      · have := h.hm; omega
    have := full listed K act w hl hD (fun i hi => hall i (by omega)) hv
    rwa [hm, Nat.sub_self] at this
  | succ fuel ih =>
    intro listed K act w hl hc hD hv
    have gd : ∀ i, i < ops.size → listed.getD i true = listed.getD i false := by
      intro i hi
      rw [Array.getD_eq_getD_getElem?, Array.getD_eq_getD_getElem?, Array.getElem?_eq_getElem (by omega)]
      rfl
    by_cases hfull : ∀ i, i < p.m → listed.getD i false = true
    · have hcm : cntTo (fun i => listed.getD i false) ops.size = p.m := by
        have e1 : cntTo (fun i => listed.getD i false) ops.size = cntTo (fun i => decide (i < p.m)) ops.size := by
          refine cntTo_congr fun i hi => ?_
          cases hv' : listed.getD i false with
          | true => have := hD.below i hv'; simp [this]
          | false =>
            rcases Nat.lt_or_ge i p.m with q | q
            · rw [hfull i q] at hv'; cases hv'
            · have : ¬ i < p.m := by omega
              simp [this]
        rw [e1]
        have : ∀ n, cntTo (fun i => decide (i < p.m)) n = min n p.m := by
          intro n
          induction n with
          | zero => simp [cntTo]
          | succ n ih =>
            simp only [cntTo, ih]
            by_cases hn : n < p.m
            · simp [hn]; omega
            · simp [hn]; omega
        rw [this]
        have := h.hm
        omega
      have := full listed K act w hl hD hfull hv
      rwa [show ops.size - p.m = fuel + 1 from by omega] at this
    · -- something ahead of the tail is left
      obtain ⟨i0, hi0, hn0⟩ : ∃ i, i < p.m ∧ listed.getD i false = false := by
        apply Classical.byContradiction
        intro hno
        apply hfull
        intro i hi
        cases hv' : listed.getD i false with
        | true => rfl
        | false => exact absurd ⟨i, hi, hv'⟩ hno
      -- the least one can come
      obtain ⟨i1, hi1, hn1, hmin⟩ : ∃ i, i < p.m ∧ listed.getD i false = false ∧ ∀ j, j < i → listed.getD j false = true := by
        have : ∀ n, (∃ i, i < n ∧ listed.getD i false = false) → ∃ i, i < n ∧ listed.getD i false = false ∧ ∀ j, j < i → listed.getD j false = true := by
          intro n
          induction n with
          | zero => rintro ⟨i, hi, _⟩; omega
          | succ n ihn =>
            rintro ⟨i, hi, hv'⟩
            by_cases hex : ∃ i, i < n ∧ listed.getD i false = false
            · obtain ⟨j, h1, h2, h3⟩ := ihn hex
              exact ⟨j, by omega, h2, h3⟩
            · refine ⟨i, hi, hv', fun j hj => ?_⟩
              cases hv2 : listed.getD j false with
              | true => rfl
              | false => exact absurd ⟨j, by omega, hv2⟩ hex
        exact this p.m ⟨i0, hi0, hn0⟩
      have hr : i1 ∈ Region.ready .any ops listed := by
        have hlt : i1 < ops.size := Nat.lt_of_lt_of_le hi1 h.hm
        rw [mem_ready]
        exact ⟨by rw [gd i1 hlt]; exact hn1, ops[i1], Array.getElem?_eq_getElem hlt, fun e he hb => hmin e.on (h.edges i1 _ (Array.getElem?_eq_getElem hlt) e he hb)⟩
      refine ⟨fun hr0 => absurd hr (by rw [hr0]; simp), ?_⟩
      intro i hi
      rw [mem_ready] at hi
      obtain ⟨h0, o, ho, hpre⟩ := hi
      have hlt : i < ops.size := (Array.getElem?_eq_some_iff.1 ho).1
      have him : i < p.m := by
        rcases Nat.lt_or_ge i p.m with q | q
        · exact q
        · exfalso
          have hA := h.tail i q hlt i0 (by omega)
          have hcl := h.clos (fun j => j == i || listed.getD j false) (by
            intro j oj hj hoj e he hb
            simp only [Bool.or_eq_true, beq_iff_eq] at hj ⊢
            rcases hj with rfl | hj
            · rw [ho] at hoj; cases hoj
              exact .inr (hpre e he hb)
            · exact .inr (hD.closed j oj hj hoj e he hb)) i i0 hlt (by simp) hA
          simp only [Bool.or_eq_true, beq_iff_eq] at hcl
          rcases hcl with h2 | h2
          · omega
          · rw [hn0] at h2; cases h2
      have hn : DNext ops p (fun i => listed.getD i false) i o := ⟨ho, him, by rw [← gd i hlt]; exact h0, hpre⟩
      have hfun : (fun j => (listed.setIfInBounds i true).getD j false) = fun j => j == i || listed.getD j false := by
        funext j
        by_cases e : j = i
        · subst e
          rw [Array.getD_eq_getD_getElem?]
          simp [hl, hlt]
        · rw [getD_set_ne false (Ne.symm e)]
          have : (j == i) = false := by simpa using e
          simp [this]
      refine hv.step hT h hD hn ?_
      intro K' act' w' hv'
      rw [← hfun] at hv'
      refine ih (listed.setIfInBounds i true) K' act' w' (by simpa using hl) ?_ (by rw [hfun]; exact hn.dset hD) hv'
      rw [hfun]
      have := cntTo_set (f := fun j => listed.getD j false) (i := i) hn.new hlt
      rw [this]
      omega
theorem effs_none : effs p (fun _ => false) = 0 := by
  have hcnt0 : ∀ n, cntTo (fun _ => false) n = 0 := by
    intro n
    induction n with
    | zero => rfl
    | succ n ih => simp [cntTo, ih]
  unfold effs
  rw [show (fun i => false && (p.kind i).isEff) = fun _ => false from by funext i; simp]
  exact hcnt0 _
theorem tmTo_none : ∀ n, tmTo ops p tm0 (fun _ => false) n = tm0 := by
  intro n
  induction n with
  | zero => rfl
  | succ n ih => simp [tmTo, ih]
theorem Inv.start (h : DrawOk P T ops p tm0 s0) {K0 : Know} {w0 : World} {act0 : Act} (hw0 : WR K0 s0 w0) (ha0 : RA K0 tm0 act0) :
    Inv T ops p tm0 s0 K0 w0 (fun _ => false) K0 act0 { w0 with drawn := w0.drawn + 1 } := by
  have hlike : WR K0 s0 { w0 with drawn := w0.drawn + 1 } := hw0.like rfl
  have hext0 : Ext K0 s0 w0 K0 s0 { w0 with drawn := w0.drawn + 1 } := Ext.like ⟨rfl, rfl, rfl⟩ rfl
  obtain ⟨hc, hcn⟩ := h.core0
  have hpre : ∀ q ∈ alTo p T s0.nx (fun _ => false) p.m, s0.get q.1 = some q.2 ∧ (p.core 0).get q.1 = none := by
    intro q hq
    rw [mem_alTo] at hq
    obtain ⟨i, hi, hq⟩ := hq
    rcases hq with ⟨hq, _⟩ | ⟨_, hq⟩
    · cases hq
    · unfold alPre at hq
      split at hq
      · rename_i q' nw hk
        rw [List.mem_singleton] at hq
        subst hq
        exact h.pre i q.1 q.2 nw hi hk
      · simp at hq
  refine ⟨?_, ?_, by rw [tmTo_none]; exact ha0, fun i hi _ => ?_, ?_, ?_, hw0, by rw [effs_none, hcn]; exact Nat.le_refl _⟩
  · rw [effs_none]
    exact ⟨hlike.frz, hlike.dim, fun b o e => hlike.own b o (hc b o e), fun b b' o o' g i j e e' p q => hlike.inj b b' o o' g i j (hc b o e) (hc b' o' e') p q,
      fun b o g base e => hlike.sep b o g base (hc b o e), fun b g base e => by have := hlike.bnd b g base e; rw [hcn]; exact ⟨by omega, this.2⟩⟩
  · rw [effs_none]
    refine ⟨fun q hq => ?_, fun q hq r hr g i j e e' => ?_, fun q hq r hr e => ?_⟩
    · obtain ⟨h1, h2⟩ := hpre q hq
      obtain ⟨g, base, h3, h4⟩ := hlike.own _ _ h1
      refine ⟨g, base, h3, h4, ?_, hlike.sep _ _ g base h1 h3⟩
      rintro ⟨b, o, bs, e1, e2⟩
      have := hlike.inj b q.1 o q.2 g bs base (hc b o e1) h1 e2 h3
      subst this
      rw [h2] at e1; cases e1
    · exact hlike.inj q.1 r.1 q.2 r.2 g i j (hpre q hq).1 (hpre r hr).1 e e'
    · have h1 := (hpre q hq).1
      have h2 := (hpre r hr).1
      rw [e, h2] at h1
      cases q; cases r
      simp only at e h1
      injection h1 with h1
      rw [e, h1]
  · cases e : K0.phi (s0.nx + i) with
    | none => rfl
    | some q =>
      obtain ⟨g, base⟩ := q
      have := (hw0.bnd _ _ _ e).1
      omega
  · rw [effs_none]
    refine ⟨hext0.le, hext0.phi, by rw [hcn]; exact Nat.le_add_right _ _, hext0.os, hext0.tape, hext0.output, hext0.size, hext0.block, ?_, hext0.frz⟩
    rintro g ⟨b, o, base, e1, e2⟩
    exact .inl ⟨b, o, base, hc b o e1, e2⟩
  · intro q hq g j e
    exact .inl ⟨q.1, q.2, j, (hpre q hq).1, e⟩
theorem Inv.close {K0 : Know} {w0 : World} {D : Nat → Bool} {K : Know} {act : Act} {w : World} (hv : Inv T ops p tm0 s0 K0 w0 D K act w) :
    WR K ((p.core (effs p D)).upds (alTo p T s0.nx D p.m)) w ∧ Ext K0 s0 w0 K ((p.core (effs p D)).upds (alTo p T s0.nx D p.m)) w := by
  refine ⟨hv.al.join hv.wr, hv.ext.le, hv.ext.phi, by rw [AHeap.nx_upds]; exact hv.ext.nx, hv.ext.os, hv.ext.tape, hv.ext.output, hv.ext.size, hv.ext.block, ?_, hv.ext.frz⟩
  rintro g ⟨b, o, base, hb, hp⟩
  rcases AHeap.get_upds _ _ b o hb with ⟨h1, _⟩ | h1
  · exact hv.ext.own g ⟨b, o, base, h1, hp⟩
  · exact hv.new _ h1 g base hp
theorem awp_draw (hT : T.Ok P) (hm : P.follows .mixedOrders = true) {id : Nat} (h : DrawOk P T ops p tm0 s0)
    (hend : awpOps P ops Q (List.range' p.m (ops.size - p.m)) (tmTo ops p tm0 (fun i => decide (i < p.m)) p.m)
      ((p.core (effs p fun i => decide (i < p.m))).upds (alTo p T s0.nx (fun i => decide (i < p.m)) p.m))) : awp P (.region id ops true) Q tm0 s0 := by
  intro K0 w0 act0 hw0 ha0
  refine wp_region_any hm ?_
  have hD0 : (fun i => (Array.replicate ops.size false).getD i false) = fun _ => false := by
    funext i
    rw [Array.getD_eq_getD_getElem?, Array.getElem?_replicate]
    split <;> rfl
  have hcnt0 : ∀ n, cntTo (fun _ => false) n = 0 := by
    intro n
    induction n with
    | zero => rfl
    | succ n ih => simp [cntTo, ih]
  refine draw_main hT h (K0 := K0) (w0 := w0) ?_ ops.size (Array.replicate ops.size false) K0 act0 _ (by simp) (by rw [hD0, hcnt0]; omega) ?_ ?_
  · intro K act w hv
    obtain ⟨hj, hx⟩ := hv.close
    have := hend K w act hj hv.ra
    exact wpOps_mono (fun e a w' hl => lift_ext hx hl) _ _ _ this
  · rw [hD0]
    exact ⟨fun i o hi => by simp at hi, fun i hi => by simp at hi⟩
  · rw [hD0]
    exact .start h hw0 ha0
end
end Go.Am
end
noncomputable section
namespace Go.Am
open Go
section
variable {T : Tab}
theorem map_parts_congr {ev ev' : Operand → AV} : ∀ (l : List (Nat × Operand)), (∀ x ∈ l.map (·.2), ev x = ev' x) → l.map (fun p => (p.1, ev p.2)) = l.map (fun p => (p.1, ev' p.2))
  | [], _ => rfl
  | p :: l, h => by
    simp only [List.map_cons]
    rw [h p.2 (by simp), map_parts_congr l (fun x hx => h x (by simp only [List.map_cons, List.mem_cons]; exact .inr hx))]
theorem map_congr' {ev ev' : Operand → AV} {l : List Operand} (h : ∀ x ∈ l, ev x = ev' x) : l.map ev = l.map ev' := List.map_congr_left h
theorem optmap_congr {ev ev' : Operand → AV} {x : Option Operand} (h : ∀ y ∈ x.toList, ev y = ev' y) : x.map ev = x.map ev' := by
  cases x with
  | none => rfl
  | some y => simp only [Option.map_some]; rw [h y (by simp)]
theorem apure_congr {ev ev' : Operand → AV} (op : Op) (h : ∀ x ∈ op.operands.toList, ev x = ev' x) : apure T ev op = apure T ev' op := by
  cases op <;> simp only [apure]
  case move x => rw [h x (by simp [Op.operands])]
  case assign x => rw [h x (by simp [Op.operands])]
  case pick c a b => rw [h c (by simp [Op.operands]), h a (by simp [Op.operands]), h b (by simp [Op.operands])]
  case build t parts => rw [map_parts_congr parts.toList (by simpa [Op.operands] using h)]
  case nilCheck x => rw [h x (by simp [Op.operands])]
  case binOp op t x y yt => rw [h x (by simp [Op.operands]), h y (by simp [Op.operands])]
  case unOp op t x => rw [h x (by simp [Op.operands])]
  case convert a b x => rw [h x (by simp [Op.operands])]
  case makeFunc fn fi ca =>
    simp only [Op.operands, Array.toList_append, List.mem_append] at h
    rw [map_congr' (l := fi.toList) (fun x hx => h x (.inl hx)), map_congr' (l := ca.toList) (fun x hx => h x (.inr hx))]
  case slice t x lo hi mx =>
    simp only [Op.operands, Array.toList_append, List.mem_append, Option.toList_toArray] at h
    rw [h x (by simp), optmap_congr (x := lo) (fun y hy => h y (by simp only [hy]; simp)), optmap_congr (x := hi) (fun y hy => h y (by simp only [hy]; simp)), optmap_congr (x := mx) (fun y hy => h y (by simp only [hy]; simp))]
  case fieldAddr t x f => rw [h x (by simp [Op.operands])]
  case field t x f => rw [h x (by simp [Op.operands])]
  case indexAddr t x y => rw [h x (by simp [Op.operands]), h y (by simp [Op.operands])]
  case index t x y => rw [h x (by simp [Op.operands]), h y (by simp [Op.operands])]
  case extract x i => rw [h x (by simp [Op.operands])]
  case call c =>
    obtain ⟨callee, args, argTypes⟩ := c
    obtain ⟨args⟩ := args
    simp only [Op.operands, Call.operands, Array.toList_append, List.mem_append] at h ⊢
    have ha : ∀ x ∈ args, ev x = ev' x := fun x hx => h x (.inr hx)
    split
    · rename_i x; rw [ha x (by simp)]
    · rename_i x; rw [ha x (by simp)]
    · rename_i x r; rw [ha x (by simp), map_congr' (l := r) (fun y hy => ha y (by simp [hy]))]
    · rename_i x r; rw [ha x (by simp), map_congr' (l := r) (fun y hy => ha y (by simp [hy]))]
    · rfl
theorem amem_congr {ev ev' : Operand → AV} (cf : Cfg) (o : Oper) (s : AHeap) (h : ∀ x ∈ o.op.operands.toList, ev x = ev' x) : amem T cf ev o s = amem T cf ev' o s := by
  obtain ⟨dst, op, ty, pos, after, guard⟩ := o
  cases op <;> simp only [amem]
  case box t x => rw [h x (by simp [Op.operands])]
  case load t x => rw [h x (by simp [Op.operands])]
  case store t x y => rw [h x (by simp [Op.operands]), h y (by simp [Op.operands])]
  case makeSlice t x y => rw [h x (by simp [Op.operands]), h y (by simp [Op.operands])]
  case buildSlice t len parts => rw [map_parts_congr parts.toList (by simpa [Op.operands] using h)]
  case range t x => rw [h x (by simp [Op.operands])]
  case next it b => cases b <;> simp only [h it (by simp [Op.operands])]
  case makeMap t r =>
    simp only [Op.operands, Option.toList_toArray] at h
    rw [optmap_congr (x := r) h]
  case lookup t x y ok => rw [h x (by simp [Op.operands]), h y (by simp [Op.operands])]
  case mapUpdate t x y z => rw [h x (by simp [Op.operands]), h y (by simp [Op.operands]), h z (by simp [Op.operands])]
  case insert t x y z => rw [h x (by simp [Op.operands]), h y (by simp [Op.operands]), h z (by simp [Op.operands])]
  case convert a b x => rw [h x (by simp [Op.operands])]
  case call c =>
    obtain ⟨callee, args, argTypes⟩ := c
    obtain ⟨args⟩ := args
    simp only [Op.operands, Call.operands, Array.toList_append, List.mem_append] at h ⊢
    have ha : ∀ x ∈ args, ev x = ev' x := fun x hx => h x (.inr hx)
    split
    · rename_i x y; rw [ha x (by simp), ha y (by simp)]
    · rename_i x y; rw [ha x (by simp), ha y (by simp)]
    · rename_i x; rw [ha x (by simp)]
    · rename_i x; rw [ha x (by simp)]
    · rfl
theorem aop_congr {ev ev' : Operand → AV} (cf : Cfg) (o : Oper) (s : AHeap) (h : ∀ x ∈ o.op.operands.toList, ev x = ev' x) : aop T cf ev o s = aop T cf ev' o s := by
  unfold aop
  rw [apure_congr o.op h, amem_congr cf o s h]
def aquiet (T : Tab) (ev : Operand → AV) (op : Op) (s : AHeap) : Option AV :=
  match apure T ev op with
  | some v => some v
  | none => match op with
    | .load t x => aload T t (ev x) s
    | .lookup t x k ok => alookup T t (ev x) (ev k) ok s
    | _ => none
theorem aquiet_aop {ev : Operand → AV} {cf : Cfg} {o : Oper} {s : AHeap} {v : AV} (h : aquiet T ev o.op s = some v) : aop T cf ev o s = some (v, s) := by
  unfold aquiet at h
  unfold aop
  cases hp : apure T ev o.op with
  | some r => simp only [hp] at h ⊢; cases h; rfl
  | none =>
    simp only [hp] at h ⊢
    unfold amem
    split at h
    · rename_i t x ho; rw [ho]; simp only [h, Option.map_some]
    · rename_i t x k ok ho; rw [ho]; simp only [h, Option.map_some]
    · cases h
end
mutual
def AV.beq : AV → AV → Bool
  | .bool a, .bool b => a == b
  | .int k a, .int k' b => k == k' && a == b
  | .str a, .str b => a == b
  | .nilp, .nilp => true
  | .ptr a b, .ptr c d => Nat.beq a c && Nat.beq b d
  | .rptr a, .rptr b => AV.beqs a b
  | .nils, .nils => true
  | .vs a b c, .vs d e f => Nat.beq a d && b == e && AV.beqs c f
  | .rs a b c d, .rs e f g h => Nat.beq a e && Nat.beq b f && Nat.beq c g && Nat.beq d h
  | .rc a b c d k, .rc e f g h k' => Nat.beq a e && Nat.beq b f && Nat.beq c g && Nat.beq d h && Nat.beq k k'
  | .av g l, .av g2 l2 => Nat.beq g g2 && l == l2
  | .fp a b l, .fp c d l2 => Nat.beq a c && Nat.beq b d && AV.beqs l l2
  | .emp, .emp => true
  | .func f a b, .func g c d => decide (f = g) && AV.beqs a c && AV.beqs b d
  | .nilf, .nilf => true
  | .nilm, .nilm => true
  | .map a, .map b => Nat.beq a b
  | .iface t v, .iface u w => Nat.beq t u && AV.beq v w
  | .nili, .nili => true
  | .agg a, .agg b => AV.beqs a b
  | .tuple a, .tuple b => AV.beqs a b
  | _, _ => false
def AV.beqs : List AV → List AV → Bool
  | [], [] => true
  | a :: l, b :: r => AV.beq a b && AV.beqs l r
  | _, _ => false
end
mutual
theorem AV.eq_of_beq : ∀ {a b : AV}, AV.beq a b = true → a = b
  | .bool a, b, h => by cases b <;> simp_all [AV.beq]
  | .int k a, b, h => by cases b <;> simp_all [AV.beq]
  | .str a, b, h => by cases b <;> simp_all [AV.beq]
  | .nilp, b, h => by cases b <;> simp_all [AV.beq]
  | .ptr x y, b, h => by cases b <;> simp_all [AV.beq]
  | .rptr l, b, h => by
    cases b <;> simp only [AV.beq] at h <;> try (cases h; done)
    rw [AV.eqs_of_beqs h]
  | .nils, b, h => by cases b <;> simp_all [AV.beq]
  | .vs x y l, b, h => by
    cases b <;> simp only [AV.beq] at h <;> try (cases h; done)
    simp only [Bool.and_eq_true] at h
    rw [Nat.eq_of_beq_eq_true h.1.1, (beq_iff_eq.1 h.1.2), AV.eqs_of_beqs h.2]
  | .rs x y z u, b, h => by cases b <;> simp_all [AV.beq]
  | .rc x y z u k, b, h => by cases b <;> simp_all [AV.beq]
  | .av x y, b, h => by cases b <;> simp_all [AV.beq]
  | .fp x y l, b, h => by
    cases b <;> simp only [AV.beq] at h <;> try (cases h; done)
    simp only [Bool.and_eq_true] at h
    rw [Nat.eq_of_beq_eq_true h.1.1, Nat.eq_of_beq_eq_true h.1.2, AV.eqs_of_beqs h.2]
  | .emp, b, h => by cases b <;> simp_all [AV.beq]
  | .func f l r, b, h => by
    cases b <;> simp only [AV.beq] at h <;> try (cases h; done)
    simp only [Bool.and_eq_true] at h
    rw [of_decide_eq_true h.1.1, AV.eqs_of_beqs h.1.2, AV.eqs_of_beqs h.2]
  | .nilf, b, h => by cases b <;> simp_all [AV.beq]
  | .nilm, b, h => by cases b <;> simp_all [AV.beq]
  | .map x, b, h => by cases b <;> simp_all [AV.beq]
  | .iface t v, b, h => by
    cases b <;> simp only [AV.beq] at h <;> try (cases h; done)
    simp only [Bool.and_eq_true] at h
    rw [Nat.eq_of_beq_eq_true h.1, AV.eq_of_beq h.2]
  | .nili, b, h => by cases b <;> simp_all [AV.beq]
  | .agg l, b, h => by
    cases b <;> simp only [AV.beq] at h <;> try (cases h; done)
    rw [AV.eqs_of_beqs h]
  | .tuple l, b, h => by
    cases b <;> simp only [AV.beq] at h <;> try (cases h; done)
    rw [AV.eqs_of_beqs h]
  | .raw v, b, h => by cases b <;> simp [AV.beq] at h
theorem AV.eqs_of_beqs : ∀ {a b : List AV}, AV.beqs a b = true → a = b
  | [], [], _ => rfl
  | [], _ :: _, h => by simp [AV.beqs] at h
  | _ :: _, [], h => by simp [AV.beqs] at h
  | x :: l, y :: r, h => by
    simp only [AV.beqs, Bool.and_eq_true] at h
    rw [AV.eq_of_beq h.1, AV.eqs_of_beqs h.2]
end
end Go.Am
end
noncomputable section
namespace Go.Am
open Go
def edgeMask (acc : List Nat) : List Edge → Option Nat
  | [] => some 0
  | e :: es => match Region.binds .any e with
    | true => match acc[e.on]?, edgeMask acc es with
      | some m, some k => some (k ||| m ||| 2 ^ e.on)
      | _, _ => none
    | false => edgeMask acc es
def masks : List Oper → List Nat → Option (List Nat)
  | [], acc => some acc
  | o :: r, acc => match edgeMask acc o.after.toList with
    | some m => masks r (acc ++ [m])
    | none => none
def headLen : List Nat → Nat → Nat → Nat
  | [], _, best => best
  | m :: r, i, best => headLen r (i + 1) (if m = 2 ^ i - 1 then best else i + 1)
abbrev CallF := FuncId → List AV → AHeap → Option (AV × AHeap)
def isCallOp : Op → Bool
  | .call { callee := .value _, .. } => true
  | _ => false
structure DSt where
  tm : List AV
  cores : List AHeap
  ress : List AV
  kinds : List DKind
def sideTry (T : Tab) (cf : Cfg) (nx0 i : Nat) (o : Oper) (tm : List AV) (pre : Option (Nat × AObj)) : Option (DKind × AV) :=
  match aop T cf (aev tm) o (small pre (nx0 + i)) with
  | none => none
  | some (v, t) => match Nat.beq t.nx (nx0 + i) with
    | true => some (.side pre none, v)
    | false => match Nat.beq t.nx (nx0 + i + 1), t.get (nx0 + i) with
      | true, some ob => some (.side pre (some ob), v)
      | _, _ => none
def isAppend : Op → Bool
  | .call { callee := .builtin .append, .. } => true
  | _ => false
def DKind.noPost : DKind → Bool
  | .side _ (some _) => false
  | _ => true
def sideBlock (ev : Operand → AV) : Op → Option Nat
  | .call c => match c.callee, c.args.toList with
    | .builtin .append, x :: _ => match ev x with
      | .rs _ b _ _ => some b
      | _ => none
    | _, _ => none
  | _ => none
def sideOf (T : Tab) (cf : Cfg) (ops : Array Oper) (nx0 i : Nat) (o : Oper) (tm : List AV) : Option (DKind × AV) :=
  match cf.side with
  | none => none
  | some s0 => match (onames ops o).all fun t => lowB (nx0 + i) (tm.getD t aundef) with
    | false => none
    | true => match sideTry T cf nx0 i o tm none with
      | some (k, v) => match k.noPost || isAppend o.op with
        | true => some (k, v)
        | false => none
      | none => match sideBlock (aev tm) o.op with
        | none => none
        | some b => match s0.get b with
          | none => none
          | some ob => sideTry T cf nx0 i o tm (some (b, ob))
def dstep (T : Tab) (cf : Cfg) (call : CallF) (ops : Array Oper) (nx0 i : Nat) (o : Oper) (tm : List AV) (s : AHeap) : Option (DKind × AV × Option AHeap) :=
  match awanted ops tm o with
  | none => none
  | some false => some (.off, aundef, none)
  | some true => match o.op with
    | .alloc e => match o.guard, T.ty e with
      | none, some ti => if (AV.ofV ti.zero).israw then none else some (.alloc e, .ptr (nx0 + i) 0, none)
      | _, _ => none
    | op => match aquiet T (aev tm) op s with
      | some v => some (.quiet, v, none)
      | none => match sideOf T cf ops nx0 i o tm with
        | some (k, v) => some (k, v, none)
        | none => match op with
          | .call c => match c.callee with
            | .value fop => match aev tm fop with
              | .func (.func f) first captured => match call f (first ++ c.args.toList.map (aev tm) ++ captured) s with
                | some (v, t) => some (.eff, v, some t)
                | none => none
              | _ => none
            | _ => match aop T cf (aev tm) o s with
              | some (v, t) => some (.eff, v, some t)
              | none => none
          | _ => match aop T cf (aev tm) o s with
            | some (v, t) => some (.eff, v, some t)
            | none => none
def drun (T : Tab) (cf : Cfg) (call : CallF) (ops : Array Oper) (nx0 : Nat) : List Oper → Nat → DSt → AHeap → Option DSt
  | [], _, st, _ => some st
  | o :: r, i, st, s => match dstep T cf call ops nx0 i o st.tm s with
    | none => none
    | some (k, v, t) => drun T cf call ops nx0 r (i + 1)
        ⟨aput st.tm o.dst v, (match t with | some t => st.cores ++ [t] | none => st.cores), st.ress ++ [v], st.kinds ++ [k]⟩ (t.getD s)
def DSt.plan (st : DSt) (m : Nat) (ms : List Nat) : Plan :=
  { m := m, kind := fun i => st.kinds.getD i .off, res := fun i => st.ress.getD i aundef, core := fun k => st.cores.getD k .empty, A := fun i j => (ms.getD i 0).testBit j }
def allBelow (n : Nat) (f : Nat → Bool) : Bool := match n with
  | 0 => true
  | n + 1 => allBelow n f && f n
def planOk (T : Tab) (ops : Array Oper) (p : Plan) (tm0 : List AV) : Bool :=
  allBelow p.m fun i => match ops[i]? with
    | none => false
    | some o =>
      allBelow p.m (fun j => Nat.beq i j || p.A i j || p.A j i ||
        (match odst ops j with | some t => !(onames ops o).contains t | none => true) && !((p.kind i).isEff && (p.kind j).isEff)) &&
      (match p.kind i with
        | .eff => Nat.beq (lo p i) (cntTo (fun j => (p.kind j).isEff) i)
        | .quiet => (match o.op with
          | .load .. | .lookup .. => allBelow (hi p i + 1) fun k => Nat.blt k (lo p i) ||
              (match aquiet T (aev (tmTo ops p tm0 (fun _ => true) i)) o.op (p.core k) with | some v => AV.beq v (p.res i) | none => false)
          | _ => true)
        | _ => true)
def takenBy : List DKind → List Nat
  | [] => []
  | .side (some (b, _)) _ :: r => b :: takenBy r
  | _ :: r => takenBy r
def AHeap.dels : AHeap → List Nat → AHeap
  | s, [] => s
  | s, b :: r => (s.del b).dels r
def takenOk (p : Plan) : Bool :=
  allBelow p.m fun i => match p.kind i with
    | .side (some (b, _)) _ => (match (p.core 0).get b with | none => true | some _ => false) &&
        allBelow p.m fun j => Nat.beq i j || (match p.kind j with | .side (some (b', _)) _ => !Nat.beq b b' | _ => true)
    | _ => true
def adrawS (T : Tab) (cf : Cfg) (call : CallF) (ops : Array Oper) (tm0 : List AV) (s0 : AHeap) : Option (List AV × AHeap) :=
  match masks ops.toList [] with
  | none => none
  | some ms =>
    let m := headLen ms 0 0
    let c0 : AHeap := { s0 with nx := s0.nx + m }
    let cf1 : Cfg := { ro := cf.ro, bv := fun _ => true, side := some s0 }
    match drun T cf1 call ops s0.nx (ops.toList.take m) 0 ⟨tm0, [c0], [], []⟩ c0 with
    | none => none
    | some st0 =>
      let c1 := c0.dels (takenBy st0.kinds)
      match drun T cf1 call ops s0.nx (ops.toList.take m) 0 ⟨tm0, [c1], [], []⟩ c1 with
      | none => none
      | some st =>
        let p := st.plan m ms
        match planOk T ops p tm0 && takenOk p with
        | false => none
        | true => aregion T cf call ops (ops.toList.drop m) st.tm ((p.core (effs p fun i => decide (i < m))).upds (alTo p T s0.nx (fun i => decide (i < m)) m))
def adraw1 (T : Tab) (cf : Cfg) (call : CallF) (ops : Array Oper) (tm0 : List AV) (s0 : AHeap) : Option (List AV × AHeap) :=
  match masks ops.toList [] with
  | none => none
  | some ms =>
    let m := headLen ms 0 0
    let c0 : AHeap := { s0 with nx := s0.nx + m }
    match drun T { ro := cf.ro, bv := cf.bv } call ops s0.nx (ops.toList.take m) 0 ⟨tm0, [c0], [], []⟩ c0 with
    | none => none
    | some st =>
      let p := st.plan m ms
      match planOk T ops p tm0 with
      | false => none
      | true => aregion T cf call ops (ops.toList.drop m) st.tm ((p.core (effs p fun i => decide (i < m))).upds (alTo p T s0.nx (fun i => decide (i < m)) m))
def adraw (T : Tab) (cf : Cfg) (call : CallF) (ops : Array Oper) (tm0 : List AV) (s0 : AHeap) : Option (List AV × AHeap) :=
  match adraw1 T cf call ops tm0 s0 with
  | some r => some r
  | none => adrawS T cf call ops tm0 s0
end Go.Am
end
noncomputable section
namespace Go.Am
open Go
theorem masks_prefix : ∀ {l : List Oper} {acc ms : List Nat}, masks l acc = some ms → acc <+: ms ∧ ms.length = acc.length + l.length
  | [], acc, ms, h => by cases h; exact ⟨List.prefix_refl _, rfl⟩
  | o :: r, acc, ms, h => by
    simp only [masks] at h
    cases he : edgeMask acc o.after.toList with
    | none => simp [he] at h
    | some m =>
      simp only [he] at h
      obtain ⟨h1, h2⟩ := masks_prefix h
      refine ⟨(List.prefix_append acc [m]).trans h1, ?_⟩
      rw [h2]; simp; omega
theorem prefix_get {α : Type} {l l' : List α} (h : l <+: l') {i : Nat} (hi : i < l.length) : l'[i]? = l[i]? := by
  obtain ⟨t, rfl⟩ := h
  exact List.getElem?_append_left hi
theorem masks_at : ∀ {l : List Oper} {acc ms : List Nat}, masks l acc = some ms → ∀ j o, l[j]? = some o → ∃ m, ms[acc.length + j]? = some m ∧ edgeMask (ms.take (acc.length + j)) o.after.toList = some m
  | [], acc, ms, h, j, o, ho => by simp at ho
  | o' :: r, acc, ms, h, 0, o, ho => by
    simp only [List.getElem?_cons_zero, Option.some.injEq] at ho
    subst ho
    simp only [masks] at h
    cases he : edgeMask acc o'.after.toList with
    | none => simp [he] at h
    | some m =>
      simp only [he] at h
      obtain ⟨h1, h2⟩ := masks_prefix h
      refine ⟨m, ?_, ?_⟩
      · rw [prefix_get h1 (by simp)]; simp
      · obtain ⟨t, rfl⟩ := h1
        rw [Nat.add_zero, List.append_assoc, List.take_left]
        exact he
  | o' :: r, acc, ms, h, j + 1, o, ho => by
    simp only [List.getElem?_cons_succ] at ho
    simp only [masks] at h
    cases he : edgeMask acc o'.after.toList with
    | none => simp [he] at h
    | some m =>
      simp only [he] at h
      have := masks_at h j o ho
      simp only [List.length_append, List.length_singleton] at this
      rwa [show acc.length + 1 + j = acc.length + (j + 1) from by omega] at this
theorem edgeMask_on {acc : List Nat} : ∀ {es : List Edge} {m : Nat}, edgeMask acc es = some m → ∀ e ∈ es, Region.binds .any e = true → e.on < acc.length
  | [], m, h, e, he, _ => by simp at he
  | e' :: es, m, h, e, he, hb => by
    simp only [edgeMask] at h
    simp only [List.mem_cons] at he
    split at h
    · split at h
      · rename_i m1 k h1 h2
        rcases he with rfl | he
        · rcases Nat.lt_or_ge e.on acc.length with q | q
          · exact q
          · rw [List.getElem?_eq_none q] at h1; cases h1
        · exact edgeMask_on h2 e he hb
      · cases h
    · rename_i hb'
      rcases he with rfl | he
      · rw [hb] at hb'; cases hb'
      · exact edgeMask_on h e he hb
theorem edgeMask_bit {acc : List Nat} : ∀ {es : List Edge} {m j : Nat}, edgeMask acc es = some m → m.testBit j = true →
    ∃ e ∈ es, Region.binds .any e = true ∧ (j = e.on ∨ (acc.getD e.on 0).testBit j = true)
  | [], m, j, h, hj => by cases h; simp at hj
  | e :: es, m, j, h, hj => by
    simp only [edgeMask] at h
    split at h
    · rename_i hb
      split at h
      · rename_i m1 k h1 h2
        cases h
        simp only [Nat.testBit_or, Bool.or_eq_true] at hj
        rcases hj with (hj | hj) | hj
        · obtain ⟨e', he', hb', h3⟩ := edgeMask_bit h2 hj
          exact ⟨e', List.mem_cons_of_mem _ he', hb', h3⟩
        · exact ⟨e, List.mem_cons_self .., hb, .inr (by rw [List.getD_eq_getElem?_getD, h1]; exact hj)⟩
        · rw [Nat.testBit_two_pow] at hj
          simp only [decide_eq_true_eq] at hj
          exact ⟨e, List.mem_cons_self .., hb, .inl hj.symm⟩
      · cases h
    · obtain ⟨e', he', hb', h3⟩ := edgeMask_bit h hj
      exact ⟨e', List.mem_cons_of_mem _ he', hb', h3⟩
theorem headLen_tail : ∀ (l : List Nat) (i best : Nat), best ≤ i → best ≤ headLen l i best ∧ headLen l i best ≤ i + l.length ∧
    ∀ j m, l[j]? = some m → headLen l i best ≤ i + j → m = 2 ^ (i + j) - 1
  | [], i, best, hb => ⟨Nat.le_refl _, by simpa [headLen] using hb, fun j m h => by simp at h⟩
  | m :: l, i, best, hb => by
    simp only [headLen]
    by_cases hm : m = 2 ^ i - 1
    · rw [if_pos hm]
      obtain ⟨h1, h2, h3⟩ := headLen_tail l (i + 1) best (by omega)
      refine ⟨h1, by simp only [List.length_cons]; omega, fun j x hj hle => ?_⟩
      cases j with
      | zero => simp only [List.getElem?_cons_zero, Option.some.injEq] at hj; rw [← hj]; exact hm
      | succ j =>
        simp only [List.getElem?_cons_succ] at hj
        have := h3 j x hj (by omega)
        rwa [show i + 1 + j = i + (j + 1) from by omega] at this
    · rw [if_neg hm]
      obtain ⟨h1, h2, h3⟩ := headLen_tail l (i + 1) (i + 1) (by omega)
      refine ⟨by omega, by simp only [List.length_cons]; omega, fun j x hj hle => ?_⟩
      cases j with
      | zero => omega
      | succ j =>
        simp only [List.getElem?_cons_succ] at hj
        have := h3 j x hj (by omega)
        rwa [show i + 1 + j = i + (j + 1) from by omega] at this
section
variable {P : Program} {T : Tab} {ops : Array Oper} {Q : APost}
structure MaskOk (ops : Array Oper) (ms : List Nat) : Prop where
  len : ms.length = ops.size
  edges : ∀ i o, ops[i]? = some o → ∀ e ∈ o.after, Region.binds .any e = true → e.on < i
  bit : ∀ i o j, ops[i]? = some o → (ms.getD i 0).testBit j = true → ∃ e ∈ o.after, Region.binds .any e = true ∧ (j = e.on ∨ (ms.getD e.on 0).testBit j = true)
theorem masks_ok {ms : List Nat} (h : masks ops.toList [] = some ms) : MaskOk ops ms := by
  have hl := (masks_prefix h).2
  refine ⟨by simpa using hl, ?_, ?_⟩
  · intro i o ho e he hb
    obtain ⟨m, h1, h2⟩ := masks_at h i o (by rw [Array.getElem?_toList]; exact ho)
    have := edgeMask_on h2 e (Array.mem_toList_iff.2 he) hb
    simp only [List.length_nil, Nat.zero_add, List.length_take] at this
    omega
  · intro i o j ho hj
    obtain ⟨m, h1, h2⟩ := masks_at h i o (by rw [Array.getElem?_toList]; exact ho)
    simp only [List.length_nil, Nat.zero_add] at h1 h2
    rw [List.getD_eq_getElem?_getD, h1] at hj
    obtain ⟨e, he, hb, h3⟩ := edgeMask_bit h2 hj
    refine ⟨e, Array.mem_toList_iff.1 he, hb, h3.imp id fun h4 => ?_⟩
    have := edgeMask_on h2 e he hb
    simp only [List.length_take] at this
    rw [List.getD_eq_getElem?_getD, List.getElem?_take, if_pos (by omega)] at h4
    rw [List.getD_eq_getElem?_getD]
    exact h4
theorem MaskOk.lt {ms : List Nat} (h : MaskOk ops ms) : ∀ (i j : Nat), (ms.getD i 0).testBit j = true → j < i := by
  intro i
  induction i using Nat.strongRecOn with
  | _ i ih =>
    intro j hj
    cases ho : ops[i]? with
    | none =>
      have hi : ms[i]? = none := by
        rw [List.getElem?_eq_none_iff, h.len]
        exact Array.getElem?_eq_none_iff.1 ho
      rw [List.getD_eq_getElem?_getD, hi] at hj
      simp at hj
    | some o =>
      obtain ⟨e, he, hb, h1⟩ := h.bit i o j ho hj
      have := h.edges i o ho e he hb
      rcases h1 with rfl | h1
      · exact this
      · have := ih e.on this j h1; omega
theorem MaskOk.clos {ms : List Nat} (h : MaskOk ops ms) (D : Nat → Bool) (hD : ∀ i o, D i = true → ops[i]? = some o → ∀ e ∈ o.after, Region.binds .any e = true → D e.on = true) :
    ∀ (i j : Nat), i < ops.size → D i = true → (ms.getD i 0).testBit j = true → D j = true := by
  intro i
  induction i using Nat.strongRecOn with
  | _ i ih =>
    intro j hi hDi hj
    have ho : ops[i]? = some ops[i] := Array.getElem?_eq_getElem hi
    obtain ⟨e, he, hb, h1⟩ := h.bit i _ j ho hj
    have hDe := hD i _ hDi ho e he hb
    have := h.edges i _ ho e he hb
    rcases h1 with rfl | h1
    · exact hDe
    · exact ih e.on this j (by omega) hDe h1
theorem drun_prefix {cf : Cfg} {call : CallF} {nx0 : Nat} : ∀ {l : List Oper} {i : Nat} {st st' : DSt} {s : AHeap}, drun T cf call ops nx0 l i st s = some st' →
    st.ress <+: st'.ress ∧ st.kinds <+: st'.kinds ∧ st.cores <+: st'.cores
  | [], i, st, st', s, h => by cases h; exact ⟨List.prefix_refl _, List.prefix_refl _, List.prefix_refl _⟩
  | o :: r, i, st, st', s, h => by
    simp only [drun] at h
    cases hd : dstep T cf call ops nx0 i o st.tm s with
    | none => simp [hd] at h
    | some q =>
      obtain ⟨k, v, t⟩ := q
      simp only [hd] at h
      obtain ⟨h1, h2, h3⟩ := drun_prefix h
      refine ⟨(List.prefix_append _ _).trans h1, (List.prefix_append _ _).trans h2, ?_⟩
      cases t with
      | none => exact h3
      | some t => exact (List.prefix_append _ _).trans h3
theorem sideOf_none {nx0 i : Nat} {o : Oper} {tm : List AV} : sideOf T {} ops nx0 i o tm = none := rfl
theorem sideTry_inv {cf : Cfg} {nx0 i : Nat} {o : Oper} {tm : List AV} {pre : Option (Nat × AObj)} {k : DKind} {v : AV} (h : sideTry T cf nx0 i o tm pre = some (k, v)) :
    ∃ post, k = .side pre post ∧ ∃ t', aop T cf (aev tm) o (small pre (nx0 + i)) = some (v, t') ∧ t'.nx ≤ nx0 + i + 1 ∧ ∀ ob, post = some ob → t'.get (nx0 + i) = some ob := by
  unfold sideTry at h
  split at h
  · cases h
  · rename_i v' t' ha
    split at h
    · rename_i hb
      cases h
      have := Nat.eq_of_beq_eq_true hb
      exact ⟨none, rfl, t', ha, by omega, fun ob e => by cases e⟩
    · split at h
      · rename_i ob hb hg
        cases h
        have := Nat.eq_of_beq_eq_true hb
        exact ⟨some ob, rfl, t', ha, by omega, fun ob' e => by cases e; exact hg⟩
      · cases h
theorem sideOf_inv {cf : Cfg} {nx0 i : Nat} {o : Oper} {tm : List AV} {k : DKind} {v : AV} (h : sideOf T cf ops nx0 i o tm = some (k, v)) :
    ∃ pre post s0, cf.side = some s0 ∧ k = .side pre post ∧ (∀ x ∈ onames ops o, low (nx0 + i) (tm.getD x aundef)) ∧ (∀ b ob, pre = some (b, ob) → s0.get b = some ob) ∧
      ∃ t', aop T cf (aev tm) o (small pre (nx0 + i)) = some (v, t') ∧ t'.nx ≤ nx0 + i + 1 ∧ ∀ ob, post = some ob → t'.get (nx0 + i) = some ob := by
  unfold sideOf at h
  split at h
  · cases h
  · rename_i s0 hs
    split at h
    · cases h
    · rename_i hall
      have hlow : ∀ x ∈ onames ops o, low (nx0 + i) (tm.getD x aundef) := fun x hx => lowB_low (List.all_eq_true.1 hall x hx)
      split at h
      · rename_i k' v' ht
        split at h
        · cases h
          obtain ⟨post, h1, h2⟩ := sideTry_inv ht
          exact ⟨none, post, s0, hs, h1, hlow, (fun b ob e => by cases e), h2⟩
        · cases h
      · split at h
        · cases h
        · rename_i b hb
          split at h
          · cases h
          · rename_i ob hg
            obtain ⟨post, h1, h2⟩ := sideTry_inv h
            exact ⟨some (b, ob), post, s0, hs, h1, hlow, (fun b' ob' e => by cases e; exact hg), h2⟩
theorem dstep_eff {cf : Cfg} {call : CallF} {nx0 i : Nat} {o : Oper} {tm : List AV} {s : AHeap} {k : DKind} {v : AV} {t : Option AHeap} (h : dstep T cf call ops nx0 i o tm s = some (k, v, t)) :
    k.isEff = t.isSome := by
  unfold dstep at h
  repeat' split at h
  all_goals first
    | (cases h; done)
    | (cases h; rfl)
    | (rename_i hs; cases h; obtain ⟨pre, post, s0, _, rfl, _⟩ := sideOf_inv hs; rfl)
def Did (T : Tab) (cf : Cfg) (call : CallF) (ops : Array Oper) (nx0 : Nat) (p : Plan) (tm0 : List AV) (i : Nat) (o : Oper) : Prop :=
  ∃ t, dstep T cf call ops nx0 i o (tmTo ops p tm0 (fun _ => true) i) (p.core (cntTo (fun j => (p.kind j).isEff) i)) = some (p.kind i, p.res i, t) ∧
    ∀ t', t = some t' → t' = p.core (cntTo (fun j => (p.kind j).isEff) i + 1)
theorem getD_of_prefix {α : Type} {l l' : List α} (h : l <+: l') {i : Nat} (hi : i < l.length) (d : α) : l'.getD i d = l.getD i d := by
  rw [List.getD_eq_getElem?_getD, List.getD_eq_getElem?_getD, prefix_get h hi]
theorem drun_facts {cf : Cfg} {call : CallF} {nx0 m : Nat} {ms : List Nat} {tm0 : List AV} {st' : DSt} : ∀ {l : List Oper} {i : Nat} {st : DSt} {s : AHeap}, drun T cf call ops nx0 l i st s = some st' →
    (∀ j o, l[j]? = some o → ops[i + j]? = some o) → st.ress.length = i → st.kinds.length = i → st.cores.length = cntTo (fun j => ((st'.plan m ms).kind j).isEff) i + 1 →
    (st'.plan m ms).core (cntTo (fun j => ((st'.plan m ms).kind j).isEff) i) = s → st.tm = tmTo ops (st'.plan m ms) tm0 (fun _ => true) i →
    (∀ j o, l[j]? = some o → Did T cf call ops nx0 (st'.plan m ms) tm0 (i + j) o) ∧ st'.tm = tmTo ops (st'.plan m ms) tm0 (fun _ => true) (i + l.length)
  | [], i, st, s, h, _, _, _, _, _, htm => by
    cases h
    exact ⟨fun j o hj => by simp at hj, by simpa using htm⟩
  | o :: r, i, st, s, h, hops, hr, hk, hc, hs, htm => by
    simp only [drun] at h
    cases hd : dstep T cf call ops nx0 i o st.tm s with
    | none => simp [hd] at h
    | some q =>
      obtain ⟨k, v, t⟩ := q
      simp only [hd] at h
      obtain ⟨p1, p2, p3⟩ := drun_prefix h
      have ho : ops[i]? = some o := by have := hops 0 o rfl; simpa using this
      have hkind : (st'.plan m ms).kind i = k := by
        show st'.kinds.getD i .off = k
        rw [getD_of_prefix p2 (by simp [hk]), List.getD_eq_getElem?_getD, List.getElem?_append_right (by omega), hk]
        simp
      have hres : (st'.plan m ms).res i = v := by
        show st'.ress.getD i aundef = v
        rw [getD_of_prefix p1 (by simp [hr]), List.getD_eq_getElem?_getD, List.getElem?_append_right (by omega), hr]
        simp
      have heff := dstep_eff hd
      have hcnt : cntTo (fun j => ((st'.plan m ms).kind j).isEff) (i + 1) = cntTo (fun j => ((st'.plan m ms).kind j).isEff) i + (if t.isSome then 1 else 0) := by
        simp only [cntTo, hkind, heff]
      have hput : aput st.tm o.dst v = tmTo ops (st'.plan m ms) tm0 (fun _ => true) (i + 1) := by
        simp only [tmTo, if_true, hres, odst, ho, Option.bind_some, htm]
      have hnext : ∀ t', t = some t' → t' = (st'.plan m ms).core (cntTo (fun j => ((st'.plan m ms).kind j).isEff) i + 1) := by
        rintro t' rfl
        show t' = st'.cores.getD _ .empty
        simp only at p3
        rw [getD_of_prefix p3 (by simp; omega), List.getD_eq_getElem?_getD, List.getElem?_append_right (by omega), hc]
        simp
      have ih := drun_facts (m := m) (ms := ms) (tm0 := tm0) h (fun j o' hj => by
          have := hops (j + 1) o' (by simpa using hj)
          rwa [show i + (j + 1) = i + 1 + j from by omega] at this) (by simp [hr]) (by simp [hk])
        (by
          rw [hcnt]
          cases t with
          | none => simpa using hc
          | some t => simp [hc])
        (by
          rw [hcnt]
          cases t with
          | none => simpa using hs
          | some t => simp only [Option.isSome_some, if_true, Option.getD_some]; exact (hnext t rfl).symm)
        hput
      refine ⟨fun j o' hj => ?_, by rw [ih.2]; simp only [List.length_cons]; congr 1; omega⟩
      cases j with
      | zero =>
        simp only [List.getElem?_cons_zero, Option.some.injEq] at hj
        subst hj
        rw [Nat.add_zero]
        exact ⟨t, by rw [hkind, hres, hs, ← htm]; exact hd, hnext⟩
      | succ j =>
        simp only [List.getElem?_cons_succ] at hj
        have := ih.1 j o' hj
        rwa [show i + 1 + j = i + (j + 1) from by omega] at this
end
end Go.Am
end
noncomputable section
namespace Go.Am
open Go
section
variable {P : Program} {T : Tab} {ops : Array Oper} {Q : APost}
theorem allBelow_all {f : Nat → Bool} : ∀ {n : Nat}, allBelow n f = true → ∀ i, i < n → f i = true
  | 0, _, i, h => by omega
  | n + 1, h, i, hi => by
    simp only [allBelow, Bool.and_eq_true] at h
    by_cases e : i = n
    · subst e; exact h.2
    · exact allBelow_all h.1 i (by omega)
theorem dstep_inv {cf : Cfg} {call : CallF} {nx0 i : Nat} {o : Oper} {tm : List AV} {s : AHeap} {k : DKind} {v : AV} {t : Option AHeap} (h : dstep T cf call ops nx0 i o tm s = some (k, v, t)) :
    (awanted ops tm o = some false ∧ k = .off ∧ v = aundef ∧ t = none) ∨ (awanted ops tm o = some true ∧
      ((∃ e ti, o.op = .alloc e ∧ o.guard = none ∧ T.ty e = some ti ∧ (AV.ofV ti.zero).israw = false ∧ k = .alloc e ∧ v = .ptr (nx0 + i) 0 ∧ t = none) ∨
       (aquiet T (aev tm) o.op s = some v ∧ k = .quiet ∧ t = none) ∨
       (∃ pre post s0, cf.side = some s0 ∧ k = .side pre post ∧ t = none ∧ (∀ x ∈ onames ops o, low (nx0 + i) (tm.getD x aundef)) ∧ (∀ b ob, pre = some (b, ob) → s0.get b = some ob) ∧
         ∃ t', aop T cf (aev tm) o (small pre (nx0 + i)) = some (v, t') ∧ t'.nx ≤ nx0 + i + 1 ∧ ∀ ob, post = some ob → t'.get (nx0 + i) = some ob) ∨
       (∃ c fop f first captured t', o.op = .call c ∧ c.callee = .value fop ∧ aev tm fop = .func (.func f) first captured ∧ call f (first ++ c.args.toList.map (aev tm) ++ captured) s = some (v, t') ∧ k = .eff ∧ t = some t') ∨
       (∃ t', aop T cf (aev tm) o s = some (v, t') ∧ k = .eff ∧ t = some t'))) := by
  unfold dstep at h
  split at h
  · cases h
  · rename_i hw; cases h; exact .inl ⟨hw, rfl, rfl, rfl⟩
  · rename_i hw
    refine .inr ⟨hw, ?_⟩
    split at h
    · rename_i e hop
      split at h
      · rename_i ti hg hti
        split at h
        · cases h
        · rename_i hr
          cases h
          exact .inl ⟨e, ti, hop, hg, hti, by simpa using hr, rfl, rfl, rfl⟩
      · cases h
    · right
      split at h
      · rename_i v' hq
        cases h
        exact .inl ⟨hq, rfl, rfl⟩
      · right
        split at h
        · rename_i k' v' hsd
          cases h
          obtain ⟨pre, post, s0, h1, h2, h3⟩ := sideOf_inv hsd
          exact .inl ⟨pre, post, s0, h1, h2, rfl, h3⟩
        right
        split at h
        · rename_i c hop
          split at h
          · rename_i fop hcal
            split at h
            · rename_i f first captured hev
              split at h
              · rename_i v' t' hc
                cases h
                exact .inl ⟨c, fop, f, first, captured, t', hop, hcal, hev, hc, rfl, rfl⟩
              · cases h
            · cases h
          · split at h
            · rename_i v' t' ha
              cases h
              exact .inr ⟨t', ha, rfl, rfl⟩
            · cases h
        · split at h
          · rename_i v' t' ha
            cases h
            exact .inr ⟨t', ha, rfl, rfl⟩
          · cases h
theorem agree_aev {p : Plan} {tm0 tm : List AV} {i : Nat} {o : Oper} (h : Agree ops p tm0 i o tm) : ∀ x ∈ o.op.operands.toList, aev tm x = aev (tmTo ops p tm0 (fun _ => true) i) x := by
  intro x hx
  cases x with
  | tmp t =>
    simp only [aev]
    rw [List.getD_eq_getElem?_getD, List.getD_eq_getElem?_getD, h t ?_]
    unfold onames
    simp only [List.mem_append, List.mem_filterMap]
    exact .inl (.inr ⟨.tmp t, hx, rfl⟩)
  | _ => rfl
theorem agree_wanted {p : Plan} {tm0 tm : List AV} {i : Nat} {o : Oper} (h : Agree ops p tm0 i o tm) : awanted ops tm o = awanted ops (tmTo ops p tm0 (fun _ => true) i) o := by
  unfold awanted
  cases hg : o.guard with
  | none => rfl
  | some q =>
    obtain ⟨j, b⟩ := q
    simp only
    have : ayield ops tm j = ayield ops (tmTo ops p tm0 (fun _ => true) i) j := by
      unfold ayield
      cases hd : (ops[j]?).bind (·.dst) with
      | none => rfl
      | some t =>
        simp only [Option.bind_some]
        rw [h t ?_]
        unfold onames
        simp [hg, hd]
    have this2 : aoff ops tm j = aoff ops (tmTo ops p tm0 (fun _ => true) i) j := by
      unfold aoff
      cases hd : (ops[j]?).bind (·.dst) with
      | none => rfl
      | some t =>
        simp only [Option.bind_some]
        rw [h t ?_]
        unfold onames
        simp [hg, hd]
    rw [this, this2]
theorem aquiet_congr {ev ev' : Operand → AV} (op : Op) (s : AHeap) (h : ∀ x ∈ op.operands.toList, ev x = ev' x) : aquiet T ev op s = aquiet T ev' op s := by
  unfold aquiet
  rw [apure_congr op h]
  split
  · rfl
  · split
    · rename_i x _; rw [h x (by simp [Op.operands])]
    · rename_i x k ok _; rw [h x (by simp [Op.operands]), h k (by simp [Op.operands])]
    · rfl
theorem draw_exec (hT : T.Ok P) (hm : P.follows .mixedOrders = true) {cf cf' : Cfg} {call : CallF} (hc : CallOk P call) {id : Nat} {tm0 tm' : List AV} {s0 s' c0 : AHeap} {ms : List Nat} {m : Nat} {st : DSt}
    (hms : masks ops.toList [] = some ms) (hmd : headLen ms 0 0 = m)
    (hrun : drun T cf call ops s0.nx (ops.toList.take m) 0 ⟨tm0, [c0], [], []⟩ c0 = some st) (hpo : planOk T ops (st.plan m ms) tm0 = true)
    (hc0 : (∀ b o, c0.get b = some o → s0.get b = some o) ∧ c0.nx = s0.nx + m) (hcf : cf.side = none ∨ cf.side = some s0) (htk : takenOk (st.plan m ms) = true)
    (h : aregion T cf' call ops (ops.toList.drop m) st.tm (((st.plan m ms).core (effs (st.plan m ms) fun i => decide (i < m))).upds (alTo (st.plan m ms) T s0.nx (fun i => decide (i < m)) m)) = some (tm', s'))
    (hq : Q .normal tm' s') : awp P (.region id ops true) Q tm0 s0 := by
        have hmo := masks_ok hms
        obtain ⟨hl1, hl2, hl3⟩ := headLen_tail ms 0 0 (Nat.le_refl _)
        rw [hmd, hmo.len] at hl2
        have hlen : (ops.toList.take m).length = m := by simp; omega
        have hpre := drun_prefix hrun
        have hcore0 : (st.plan m ms).core 0 = c0 := by
          show st.cores.getD 0 .empty = _
          rw [getD_of_prefix hpre.2.2 (by simp)]; rfl
        have hops : ∀ j o, (ops.toList.take m)[j]? = some o → ops[0 + j]? = some o := by
          intro j o hj
          rw [List.getElem?_take] at hj
          split at hj
          · rw [Nat.zero_add]; simpa using hj
          · cases hj
        obtain ⟨hdid, htm⟩ := drun_facts (m := m) (ms := ms) (tm0 := tm0) hrun hops rfl rfl rfl hcore0 rfl
        rw [Nat.zero_add, hlen] at htm
        have hdid' : ∀ i o, i < m → ops[i]? = some o → Did T cf call ops s0.nx (st.plan m ms) tm0 i o := by
          intro i o hi ho
          have := hdid i o (by rw [List.getElem?_take, if_pos hi]; simpa using ho)
          rwa [Nat.zero_add] at this
        have hpl := fun i hi => allBelow_all hpo i hi
        have hpair : ∀ i j o, ops[i]? = some o → i < m → j < m → i ≠ j → (st.plan m ms).A i j = true ∨ (st.plan m ms).A j i = true ∨
            ((∀ t, odst ops j = some t → t ∉ onames ops o) ∧ ¬ (((st.plan m ms).kind i).isEff = true ∧ ((st.plan m ms).kind j).isEff = true)) := by
          intro i j o ho hi hj hne
          have := hpl i hi
          rw [ho] at this
          simp only [Bool.and_eq_true] at this
          have := allBelow_all this.1 j hj
          simp only [Bool.or_eq_true, Bool.and_eq_true, Bool.not_eq_true'] at this
          rcases this with ((h1 | h1) | h1) | ⟨h1, h2⟩
          · exact absurd (Nat.eq_of_beq_eq_true h1) hne
          · exact .inl h1
          · exact .inr (.inl h1)
          · refine .inr (.inr ⟨?_, ?_⟩)
            · intro t ht hmem
              rw [ht] at h1
              simp only [Bool.not_eq_true', List.contains_eq_mem, decide_eq_false_iff_not] at h1
              exact h1 hmem
            · rintro ⟨q1, q2⟩
              rw [q1, q2] at h2; cases h2
        have hstep : ∀ i o, i < m → ops[i]? = some o → StepOk P T ops (st.plan m ms) tm0 s0 i o := by
          intro i o hi ho
          obtain ⟨t, hd, ht⟩ := hdid' i o hi ho
          have hpi := hpl i hi
          rw [ho] at hpi
          simp only [Bool.and_eq_true] at hpi
          unfold StepOk
          rcases dstep_inv hd with ⟨hw, hk, hv, _⟩ | ⟨hw, hrest⟩
          · rw [hk]
            exact fun tm ha => ⟨by rw [agree_wanted ha]; exact hw, hv⟩
          · rcases hrest with ⟨e, ti, h1, h2, h3, h4, hk, hv, _⟩ | ⟨h1, hk, _⟩ | ⟨pre, post, s1, h1, hk, _, h2, h3, t', h4, h5, h6⟩ | ⟨c, fop, f, first, captured, t', h1, h2, h3, h4, hk, h6⟩ | ⟨t', h1, hk, h6⟩
            · rw [hk]
              exact ⟨h2, h1, hv, ti, h3, h4⟩
            · rw [hk]
              simp only
              intro k hk1 hk2 tm ha
              refine ⟨by rw [agree_wanted ha]; exact hw, ?_⟩
              have hqk : aquiet T (aev tm) o.op ((st.plan m ms).core k) = some ((st.plan m ms).res i) := by
                rw [aquiet_congr o.op _ (agree_aev ha)]
                have h12 := hpi.2
                rw [hk] at h12
                simp only at h12
                have hk3 : Nat.blt k (lo (st.plan m ms) i) = false := by
                  cases hb : Nat.blt k (lo (st.plan m ms) i) with
                  | false => rfl
                  | true =>
                    have := Nat.le_of_ble_eq_true (show Nat.ble (k + 1) (lo (st.plan m ms) i) = true from hb)
                    omega
                cases hap : apure T (aev (tmTo ops (st.plan m ms) tm0 (fun _ => true) i)) o.op with
                | some v =>
                  unfold aquiet at h1 ⊢
                  rw [hap] at h1 ⊢
                  exact h1
                | none =>
                  have : ∃ v, aquiet T (aev (tmTo ops (st.plan m ms) tm0 (fun _ => true) i)) o.op ((st.plan m ms).core k) = some v ∧ AV.beq v ((st.plan m ms).res i) = true := by
                    unfold aquiet at h1
                    rw [hap] at h1
                    simp only at h1
                    split at h1
                    · rename_i t x hop
                      rw [hop] at h12 ⊢
                      have := allBelow_all h12 k (by omega)
                      simp only [hk3, Bool.false_or] at this
                      split at this
                      · rename_i v hv; exact ⟨v, hv, this⟩
                      · cases this
                    · rename_i t x y ok hop
                      rw [hop] at h12 ⊢
                      have := allBelow_all h12 k (by omega)
                      simp only [hk3, Bool.false_or] at this
                      split at this
                      · rename_i v hv; exact ⟨v, hv, this⟩
                      · cases this
                    · cases h1
                  obtain ⟨v, hv, hb⟩ := this
                  rw [hv, AV.eq_of_beq hb]
              exact .op hT (cf := cf) (aquiet_aop hqk) ⟨rfl, rfl⟩
            · rw [hk]
              simp only
              intro tm ha
              refine ⟨by rw [agree_wanted ha]; exact hw, fun x hx => ?_, ?_⟩
              · have := h2 x hx
                rw [List.getD_eq_getElem?_getD] at this ⊢
                rw [ha x hx]
                exact this
              · exact .op hT (cf := cf) (by rw [aop_congr cf o _ (agree_aev ha)]; exact h4) ⟨rfl, h5, h6⟩
            · rw [hk]
              simp only
              have h12 := hpi.2
              rw [hk] at h12
              simp only at h12
              have hlo := Nat.eq_of_beq_eq_true h12
              have ht' := ht t' h6
              intro tm ha
              refine ⟨by rw [agree_wanted ha]; exact hw, ?_⟩
              have hmem : ∀ x ∈ o.op.operands.toList, aev tm x = aev (tmTo ops (st.plan m ms) tm0 (fun _ => true) i) x := agree_aev ha
              have hfop : aev tm fop = .func (.func f) first captured := by
                rw [hmem fop (by rw [h1]; simp [Op.operands, Call.operands, h2]), h3]
              have hargs : c.args.toList.map (aev tm) = c.args.toList.map (aev (tmTo ops (st.plan m ms) tm0 (fun _ => true) i)) :=
                List.map_congr_left fun x hx => hmem x (by rw [h1]; simp only [Op.operands, Call.operands, Array.toList_append, List.mem_append]; exact .inr hx)
              refine AOpR.call h1 h2 hfop ?_
              rw [hargs, hlo]
              refine (hc _ _ _ _ _ h4).mono ?_
              rintro v' t2 ⟨rfl, rfl⟩
              exact ⟨rfl, ht'⟩
            · rw [hk]
              simp only
              have h12 := hpi.2
              rw [hk] at h12
              simp only at h12
              have hlo := Nat.eq_of_beq_eq_true h12
              have ht' := ht t' h6
              intro tm ha
              refine ⟨by rw [agree_wanted ha]; exact hw, ?_⟩
              refine .op hT (cf := cf) (v := (st.plan m ms).res i) (s' := t') ?_ ⟨rfl, ?_⟩
              · rw [aop_congr cf o _ (agree_aev ha), hlo]; exact h1
              · rw [hlo]; exact ht'
        have hok : DrawOk P T ops (st.plan m ms) tm0 s0 := by
          refine ⟨(by simpa using hl2 : m ≤ ops.size), hmo.edges, fun D hD i j hi hDi hA => hmo.clos D hD i j hi hDi hA, fun i j hA => hmo.lt i j hA, ?_, ?_, ?_, by rw [hcore0]; exact hc0, ?_, ?_, hstep⟩
          · intro i j o ho hi hj hne t htn htd
            rcases hpair i j o ho hi hj hne with h1 | h1 | h1
            · exact .inl h1
            · exact .inr h1
            · exact absurd htn (h1.1 t htd)
          · intro i j hi hj hne hei hej
            have hi' : i < ops.size := by have : i < m := hi; omega
            have ho : ops[i]? = some ops[i] := Array.getElem?_eq_getElem hi'
            rcases hpair i j _ ho hi hj hne with h1 | h1 | h1
            · exact .inl h1
            · exact .inr h1
            · exact absurd ⟨hei, hej⟩ h1.2
          · intro i hi hlt j hj
            have hli : i < ms.length := by rw [hmo.len]; exact hlt
            have := hl3 i ms[i] (List.getElem?_eq_getElem hli) (by rw [hmd, Nat.zero_add]; exact hi)
            show (ms.getD i 0).testBit j = true
            rw [List.getD_eq_getElem?_getD, List.getElem?_eq_getElem hli, Option.getD_some, this, Nat.zero_add, Nat.testBit_two_pow_sub_one]
            simpa using hj
          · intro i b o nw hi hk
            have hi' : i < ops.size := by have : i < m := hi; omega
            obtain ⟨t, hd, _⟩ := hdid' i ops[i] hi (Array.getElem?_eq_getElem hi')
            have htk' := allBelow_all htk i hi
            rw [hk] at htk'
            simp only [Bool.and_eq_true] at htk'
            refine ⟨?_, ?_⟩
            · rcases dstep_inv hd with ⟨_, q, _⟩ | ⟨_, q⟩
              · rw [hk] at q; cases q
              · rcases q with ⟨_, _, _, _, _, _, q, _⟩ | ⟨_, q, _⟩ | ⟨pre, post, s1, h1, q, _, _, h3, _⟩ | ⟨_, _, _, _, _, _, _, _, _, _, q, _⟩ | ⟨_, _, q, _⟩ <;> rw [hk] at q <;> try (cases q; done)
                injection q with q1 q2
                rcases hcf with e | e <;> rw [h1] at e
                · cases e
                · injection e with e; subst e; exact h3 b o q1.symm
            · have := htk'.1
              split at this
              · rename_i hg; exact hg
              · cases this
          · intro i j b o nw o' nw' hi hj hki hkj
            have htk' := allBelow_all htk i hi
            rw [hki] at htk'
            simp only [Bool.and_eq_true] at htk'
            have := allBelow_all htk'.2 j hj
            rw [hkj] at this
            simp only [Bool.or_eq_true, Bool.not_eq_true'] at this
            rcases this with e | e
            · exact Nat.eq_of_beq_eq_true e
            · rw [Nat.beq_refl] at e; cases e
        have htmall : tmTo ops (st.plan m ms) tm0 (fun i => decide (i < m)) m = st.tm := by
          rw [htm]
          have : ∀ n, n ≤ m → tmTo ops (st.plan m ms) tm0 (fun i => decide (i < m)) n = tmTo ops (st.plan m ms) tm0 (fun _ => true) n := by
            intro n
            induction n with
            | zero => intro _; rfl
            | succ n ih =>
              intro hn
              simp only [tmTo]
              rw [ih (by omega)]
              have : n < m := by omega
              simp [this]
          exact this m (Nat.le_refl _)
        refine awp_draw hT hm hok ?_
        have hreg := aregion_sound (Q := Q) hT hc (ops := ops) (ops.toList.drop m) m _ _ tm' s' rfl h hq
        rw [List.length_drop, Array.length_toList] at hreg
        show awpOps P ops Q (List.range' m (ops.size - m)) (tmTo ops (st.plan m ms) tm0 (fun i => decide (i < m)) m) _
        rw [htmall]
        exact hreg
theorem getn_dels : ∀ (l : List Nat) (s : AHeap) (b : Nat) (o : AObj), (s.dels l).get b = some o → s.get b = some o
  | [], _, _, _, h => h
  | c :: r, s, b, o, h => by
    have := getn_dels r (s.del c) b o h
    rw [AHeap.get_del] at this
    split at this
    · cases this
    · exact this
theorem nx_dels : ∀ (l : List Nat) (s : AHeap), (s.dels l).nx = s.nx
  | [], _ => rfl
  | c :: r, s => by
    show ((s.del c).dels r).nx = s.nx
    rw [nx_dels r, AHeap.nx_del]
theorem adrawS_sound (hT : T.Ok P) (hm : P.follows .mixedOrders = true) {cf : Cfg} {call : CallF} (hc : CallOk P call) {id : Nat} {tm0 tm' : List AV} {s0 s' : AHeap}
    (h : adrawS T cf call ops tm0 s0 = some (tm', s')) (hq : Q .normal tm' s') : awp P (.region id ops true) Q tm0 s0 := by
  unfold adrawS at h
  split at h
  · cases h
  · rename_i ms hms
    simp only at h
    split at h
    · cases h
    · rename_i st0 _
      split at h
      · cases h
      · rename_i st hrun
        split at h
        · cases h
        · rename_i hpo
          simp only [Bool.and_eq_true] at hpo
          exact draw_exec hT hm hc hms rfl hrun hpo.1 ⟨fun b o e => show ({ s0 with nx := s0.nx + headLen ms 0 0 } : AHeap).get b = some o from getn_dels _ _ b o e, by rw [nx_dels]⟩ (.inr rfl) hpo.2 h hq
theorem drun_noside {cf : Cfg} (hcf : cf.side = none) {call : CallF} {nx0 : Nat} : ∀ {l : List Oper} {i : Nat} {st st' : DSt} {s : AHeap}, drun T cf call ops nx0 l i st s = some st' →
    (∀ k ∈ st.kinds, ∀ q nw, k ≠ .side q nw) → ∀ k ∈ st'.kinds, ∀ q nw, k ≠ .side q nw
  | [], i, st, st', s, h, hk => by cases h; exact hk
  | o :: r, i, st, st', s, h, hk => by
    simp only [drun] at h
    cases hd : dstep T cf call ops nx0 i o st.tm s with
    | none => simp [hd] at h
    | some x =>
      obtain ⟨k, v, t⟩ := x
      simp only [hd] at h
      refine drun_noside hcf h fun k' hk' => ?_
      simp only [List.mem_append, List.mem_singleton] at hk'
      rcases hk' with hk' | rfl
      · exact hk k' hk'
      · rintro q nw rfl
        rcases dstep_inv hd with ⟨_, q, _⟩ | ⟨_, q⟩
        · cases q
        · rcases q with ⟨_, _, _, _, _, _, q, _⟩ | ⟨_, q, _⟩ | ⟨pre, post, s1, h1, q, _⟩ | ⟨_, _, _, _, _, _, _, _, _, _, q, _⟩ | ⟨_, _, q, _⟩ <;> try (cases q; done)
          rw [hcf] at h1; cases h1
theorem takenOk_noside {st : DSt} {m : Nat} {ms : List Nat} (h : ∀ k ∈ st.kinds, ∀ q nw, k ≠ .side q nw) : takenOk (st.plan m ms) = true := by
  have hk : ∀ i q nw, (st.plan m ms).kind i ≠ .side q nw := by
    intro i q nw e
    have : st.kinds.getD i .off = .side q nw := e
    rw [List.getD_eq_getElem?_getD] at this
    cases hg : st.kinds[i]? with
    | none => rw [hg] at this; cases this
    | some k => rw [hg] at this; exact h k (List.mem_of_getElem? hg) q nw this
  have : ∀ n, allBelow n (fun i => match (st.plan m ms).kind i with
    | .side (some (b, _)) _ => (match ((st.plan m ms).core 0).get b with | none => true | some _ => false) &&
        allBelow (st.plan m ms).m fun j => Nat.beq i j || (match (st.plan m ms).kind j with | .side (some (b', _)) _ => !Nat.beq b b' | _ => true)
    | _ => true) = true := by
    intro n
    induction n with
    | zero => rfl
    | succ n ih =>
      simp only [allBelow, ih, Bool.true_and]
      split
      · rename_i b o nw e; exact absurd e (hk _ _ _)
      · rfl
  exact this _
theorem adraw_sound (hT : T.Ok P) (hm : P.follows .mixedOrders = true) {cf : Cfg} {call : CallF} (hc : CallOk P call) {id : Nat} {tm0 tm' : List AV} {s0 s' : AHeap}
    (h : adraw T cf call ops tm0 s0 = some (tm', s')) (hq : Q .normal tm' s') : awp P (.region id ops true) Q tm0 s0 := by
  unfold adraw at h
  split at h
  · rename_i r hr
    cases h
    unfold adraw1 at hr
    split at hr
    · cases hr
    · rename_i ms hms
      simp only at hr
      split at hr
      · cases hr
      · rename_i st hrun
        split at hr
        · cases hr
        · rename_i hpo
          exact draw_exec hT hm hc hms rfl hrun hpo ⟨fun b o e => e, rfl⟩ (.inl rfl) (takenOk_noside (drun_noside rfl hrun (by simp))) hr hq
  · exact adrawS_sound hT hm hc h hq
def acode (T : Tab) (cf : Cfg) (call : CallF) : Nat → Code → List AV → AHeap → Option (AExit × List AV × AHeap)
  | 0, _, _, _ => none
  | n + 1, c, tm, s => match c with
    | .skip => some (.normal, tm, s)
    | .region _ ops draw => match (match draw with | true => adraw T cf call ops tm s | false => aregion T cf call ops ops.toList tm s) with
      | some (tm', s') => some (.normal, tm', s')
      | none => none
    | .seq a b => match acode T cf call n a tm s with
      | some (.normal, tm', s') => acode T cf call n b tm' s'
      | r => r
    | .cond c x y => match aev tm c with
      | .bool true => acode T cf call n x tm s
      | .bool false => acode T cf call n y tm s
      | _ => none
    | .block id c => match acode T cf call n c tm s with
      | some (.exit id', tm', s') => match Nat.beq id' id with
        | true => some (.normal, tm', s')
        | false => some (.exit id', tm', s')
      | r => r
    | .loop c => match acode T cf call n c tm s with
      | some (.normal, tm', s') => acode T cf call n (.loop c) tm' s'
      | r => r
    | .exit id => some (.exit id, tm, s)
    | .ret => some (.ret, tm, s)
    | _ => none
def AExit.up : AExit → Exit
  | .normal => .normal
  | .ret => .ret
  | .exit id => .exit id
theorem acode_sound (hT : T.Ok P) (hm : P.follows .mixedOrders = true) {cf : Cfg} {call : CallF} (hc : CallOk P call) : ∀ (n : Nat) (c : Code) (Q : APost) (tm : List AV) (s : AHeap) (e : AExit) (tm' : List AV) (s' : AHeap),
    acode T cf call n c tm s = some (e, tm', s') → Q e.up tm' s' → awp P c Q tm s
  | 0, c, Q, tm, s, e, tm', s', h, hq => by simp [acode] at h
  | n + 1, c, Q, tm, s, e, tm', s', h, hq => by
    simp only [acode] at h
    split at h
    · cases h; exact awp_skip hq
    · rename_i id ops draw
      cases draw with
      | true =>
        simp only at h
        cases hd : adraw T cf call ops tm s with
        | none => simp [hd] at h
        | some r =>
          obtain ⟨tm1, s1⟩ := r
          simp only [hd] at h
          cases h
          exact adraw_sound hT hm hc hd hq
      | false =>
        simp only at h
        cases hd : aregion T cf call ops ops.toList tm s with
        | none => simp [hd] at h
        | some r =>
          obtain ⟨tm1, s1⟩ := r
          simp only [hd] at h
          cases h
          refine awp_region ?_
          have := aregion_sound (Q := Q) hT hc (ops := ops) ops.toList 0 tm s tm' s' rfl hd hq
          rwa [Array.length_toList, ← List.range_eq_range'] at this
    · rename_i a b
      refine awp_seq ?_
      cases ha : acode T cf call n a tm s with
      | none => simp [ha] at h
      | some r =>
        obtain ⟨e1, tm1, s1⟩ := r
        cases e1 with
        | normal =>
          simp only [ha] at h
          exact acode_sound hT hm hc n a _ tm s .normal tm1 s1 ha (acode_sound hT hm hc n b Q tm1 s1 e tm' s' h hq)
        | ret => simp only [ha] at h; cases h; exact acode_sound hT hm hc n a _ tm s .ret tm' s' ha hq
        | exit id => simp only [ha] at h; cases h; exact acode_sound hT hm hc n a _ tm s (.exit id) tm' s' ha hq
    · rename_i c x y
      split at h
      · rename_i hb; exact awp_cond hb (by simpa using acode_sound hT hm hc n x Q tm s e tm' s' h hq)
      · rename_i hb; exact awp_cond hb (by simpa using acode_sound hT hm hc n y Q tm s e tm' s' h hq)
      · cases h
    · rename_i id c
      refine awp_block ?_
      cases ha : acode T cf call n c tm s with
      | none => simp [ha] at h
      | some r =>
        obtain ⟨e1, tm1, s1⟩ := r
        cases e1 with
        | normal => simp only [ha] at h; cases h; exact acode_sound hT hm hc n c _ tm s .normal tm' s' ha hq
        | ret => simp only [ha] at h; cases h; exact acode_sound hT hm hc n c _ tm s .ret tm' s' ha hq
        | exit id' =>
          simp only [ha] at h
          refine acode_sound hT hm hc n c _ tm s (.exit id') tm1 s1 ha ?_
          show ablock id Q (.exit id') tm1 s1
          simp only [ablock]
          split at h
          · rename_i hb
            cases h
            rw [if_pos (Nat.eq_of_beq_eq_true hb)]; exact hq
          · rename_i hb
            cases h
            rw [if_neg (Nat.ne_of_beq_eq_false hb)]; exact hq
    · rename_i c
      -- a loop: by its rounds
      have key : ∀ (k : Nat), k ≤ n + 1 → ∀ (tm : List AV) (s : AHeap), acode T cf call k (.loop c) tm s = some (e, tm', s') → arounds P c Q k tm s := by
        intro k
        induction k with
        | zero => intro _ tm s h; simp [acode] at h
        | succ k ih =>
          intro hk tm s h
          simp only [acode] at h
          show awp P c (athen (arounds P c Q k) Q) tm s
          cases ha : acode T cf call k c tm s with
          | none => simp [ha] at h
          | some r =>
            obtain ⟨e1, tm1, s1⟩ := r
            have hsz : k ≤ n := by omega
            cases e1 with
            | normal =>
              simp only [ha] at h
              exact acode_sound hT hm hc k c _ tm s .normal tm1 s1 ha (ih (by omega) tm1 s1 h)
            | ret => simp only [ha] at h; cases h; exact acode_sound hT hm hc k c _ tm s .ret tm' s' ha hq
            | exit id => simp only [ha] at h; cases h; exact acode_sound hT hm hc k c _ tm s (.exit id) tm' s' ha hq
      exact awp_loop_n (n + 1) (key (n + 1) (Nat.le_refl _) tm s (by simp only [acode]; exact h))
    · cases h; exact awp_exit hq
    · cases h; exact awp_ret hq
    · cases h
termination_by n => n
def afun (T : Tab) (cf : FuncId → Cfg) (ov : Over) (rounds : Nat) : Nat → CallF
  | 0 => fun _ _ _ => none
  | n + 1 => fun f args s => match ov f with
    | some g => g args s
    | none => match T.fn f with
      | none => none
      | some fn => match fn.body with
        | none => none
        | some c => match acode T (cf f) (afun T cf ov rounds n) rounds c (args ++ List.replicate (fn.ntmps - args.length) aundef) s with
          | some (.exit _, _, _) => none
          | some (_, tm, s') => (aresultOf T s' tm fn.results.toList).map fun v => (v, s')
          | none => none
theorem afun_ok (hT : T.Ok P) (hm : P.follows .mixedOrders = true) {cf : FuncId → Cfg} {ov : Over} (ho : ov.Ok P) (rounds : Nat) : ∀ n, CallOk P (afun T cf ov rounds n)
  | 0 => by intro f args s v s' h; simp [afun] at h
  | n + 1 => by
    intro f args s v s' h
    simp only [afun] at h
    cases hov : ov f with
    | some g => simp only [hov] at h; exact ho f g args s v s' hov h
    | none =>
      simp only [hov] at h
      cases hfn : T.fn f with
      | none => simp [hfn] at h
      | some fn =>
        simp only [hfn] at h
        obtain ⟨h1, h2⟩ := hT.fn f fn hfn
        cases hb : fn.body with
        | none => simp [hb] at h
        | some c =>
          simp only [hb] at h
          refine ACall.body hT h1 hb h2 ?_
          have ih := afun_ok hT hm ho rounds n (cf := cf)
          cases ha : acode T (cf f) (afun T cf ov rounds n) rounds c (args ++ List.replicate (fn.ntmps - args.length) aundef) s with
          | none => simp [ha] at h
          | some r =>
            obtain ⟨e, tm, s1⟩ := r
            cases e with
            | exit id => simp [ha] at h
            | normal =>
              simp only [ha] at h
              cases hr : aresultOf T s1 tm fn.results.toList with
              | none => simp [hr] at h
              | some u =>
                simp only [hr, Option.map_some] at h
                cases h
                exact acode_sound hT hm ih rounds c _ _ s .normal tm s' ha ⟨v, hr, rfl, rfl⟩
            | ret =>
              simp only [ha] at h
              cases hr : aresultOf T s1 tm fn.results.toList with
              | none => simp [hr] at h
              | some u =>
                simp only [hr, Option.map_some] at h
                cases h
                exact acode_sound hT hm ih rounds c _ _ s .ret tm s' ha ⟨v, hr, rfl, rfl⟩
end
end Go.Am
end
noncomputable section
namespace Go.Am
open Go
def vbeq1 : Value → Value → Bool
  | .bool a, .bool b => a == b
  | .int k a, .int k' b => k == k' && a == b
  | .string a, .string b => a.data.toList == b.data.toList
  | .pointer none, .pointer none => true
  | .slice none a b, .slice none c d => Nat.beq a c && Nat.beq b d
  | .map none, .map none => true
  | .chan none, .chan none => true
  | .nilFunc, .nilFunc => true
  | .nilIface, .nilIface => true
  | _, _ => false
theorem vbeq1_eq {a b : Value} (h : vbeq1 a b = true) : a = b := by
  unfold vbeq1 at h
  split at h <;> first | rfl | (cases h; done) | skip
  · simp only [beq_iff_eq] at h; rw [h]
  · simp only [Bool.and_eq_true, beq_iff_eq] at h; rw [h.1, h.2]
  · rename_i x y
    simp only [beq_iff_eq] at h
    obtain ⟨⟨x⟩⟩ := x
    obtain ⟨⟨y⟩⟩ := y
    simp only at h
    rw [h]
  · simp only [Bool.and_eq_true] at h
    rw [Nat.eq_of_beq_eq_true h.1, Nat.eq_of_beq_eq_true h.2]
def vbeqs : List Value → List Value → Bool
  | [], [] => true
  | a :: l, b :: r => vbeq1 a b && vbeqs l r
  | _, _ => false
theorem vbeqs_eq : ∀ {a b : List Value}, vbeqs a b = true → a = b
  | [], [], _ => rfl
  | [], _ :: _, h => by simp [vbeqs] at h
  | _ :: _, [], h => by simp [vbeqs] at h
  | x :: l, y :: r, h => by
    simp only [vbeqs, Bool.and_eq_true] at h
    rw [vbeq1_eq h.1, vbeqs_eq h.2]
def vbeq : Value → Value → Bool
  | .agg a, .agg b => vbeqs a.toList b.toList
  | a, b => vbeq1 a b
theorem vbeq_eq {a b : Value} (h : vbeq a b = true) : a = b := by
  unfold vbeq at h
  split at h
  · rename_i x y
    have := vbeqs_eq h
    obtain ⟨x⟩ := x
    obtain ⟨y⟩ := y
    simp only at this
    rw [this]
  · exact vbeq1_eq h
def fieldsB : List (TypeId × Nat × Bool) → List Field → Bool
  | [], [] => true
  | (a, b, c) :: l, f :: r => Nat.beq a f.type && Nat.beq b f.offset && c == (f.name != "_") && fieldsB l r
  | _, _ => false
theorem fieldsB_eq : ∀ {l : List (TypeId × Nat × Bool)} {r : List Field}, fieldsB l r = true → l = r.map fun f => (f.type, f.offset, f.name != "_")
  | [], [], _ => rfl
  | [], _ :: _, h => by simp [fieldsB] at h
  | _ :: _, [], h => by simp [fieldsB] at h
  | (a, b, c) :: l, f :: r, h => by
    simp only [fieldsB, Bool.and_eq_true, beq_iff_eq] at h
    obtain ⟨⟨⟨h1, h2⟩, h3⟩, h4⟩ := h
    rw [fieldsB_eq h4, Nat.eq_of_beq_eq_true h1, Nat.eq_of_beq_eq_true h2, h3]
    rfl
def tdB : TD → TypeDesc → Bool
  | .bool, .bool => true
  | .int k, .int k' => k == k'
  | .str, .string => true
  | .ptr e, .pointer e' => Nat.beq e e'
  | .slice e, .slice e' => Nat.beq e e'
  | .arr n e, .array n' e' => Nat.beq n n' && Nat.beq e e'
  | .map k e, .map k' e' => Nat.beq k k' && Nat.beq e e'
  | .struct fs, .struct fs' => fieldsB fs fs'.toList
  | .func, .func _ _ _ => true
  | .iface, .interface _ => true
  | .other, .unsafePointer => true
  | .other, .tuple _ => true
  | _, _ => false
theorem tdB_ok {i : TD} {d : TypeDesc} (h : tdB i d = true) : TDok i d := by
  unfold tdB at h
  split at h <;> first
    | trivial
    | (cases h; done)
    | (simp only [beq_iff_eq] at h; exact h)
    | exact Nat.eq_of_beq_eq_true h
    | (simp only [Bool.and_eq_true] at h; exact ⟨Nat.eq_of_beq_eq_true h.1, Nat.eq_of_beq_eq_true h.2⟩)
    | exact fieldsB_eq h
def checkTy (P : Program) (t : TypeId) (i : TI) : Bool :=
  match P.info? t, P.underlying t with
  | some inf, some d => tdB i.td d && Nat.beq inf.size i.size && Nat.beq inf.bytes i.bytes && (match inf.zero with | some z => vbeq z i.zero | none => false) && Nat.beq i.zero.cells.size i.size &&
      (!i.eqok || (!P.eqGuardType P.depth t && !P.stoodInHeld t))
  | _, _ => false
theorem checkTy_ok {P : Program} {t : TypeId} {i : TI} (h : checkTy P t i = true) : ∃ inf d, P.info? t = some inf ∧ P.underlying t = some d ∧ TDok i.td d ∧ inf.size = i.size ∧ inf.bytes = i.bytes ∧
    inf.zero = some i.zero ∧ i.zero.cells.size = i.size ∧ (i.eqok = true → P.eqGuardType P.depth t = false ∧ P.stoodInHeld t = false) := by
  unfold checkTy at h
  split at h
  · rename_i inf d h1 h2
    simp only [Bool.and_eq_true, Bool.or_eq_true, Bool.not_eq_true'] at h
    obtain ⟨⟨⟨⟨⟨h3, h4⟩, h5⟩, h6⟩, h8⟩, h7⟩ := h
    refine ⟨inf, d, h1, h2, tdB_ok h3, Nat.eq_of_beq_eq_true h4, Nat.eq_of_beq_eq_true h5, ?_, Nat.eq_of_beq_eq_true h8, fun he => ?_⟩
    · split at h6
      · rename_i z hz; rw [hz, vbeq_eq h6]
      · cases h6
    · rcases h7 with h7 | h7
      · rw [he] at h7; cases h7
      · exact h7
  · cases h
def findN {α : Type} : List (Nat × α) → Nat → Option α
  | [], _ => none
  | (k, v) :: r, n => match Nat.beq k n with
    | true => some v
    | false => findN r n
theorem findN_mem {α : Type} : ∀ {l : List (Nat × α)} {n : Nat} {v : α}, findN l n = some v → (n, v) ∈ l
  | [], n, v, h => by simp [findN] at h
  | (k, x) :: r, n, v, h => by
    simp only [findN] at h
    split at h
    · rename_i hb
      cases h
      rw [Nat.eq_of_beq_eq_true hb]
      exact List.mem_cons_self ..
    · exact List.mem_cons_of_mem _ (findN_mem h)
def FnOk (P : Program) (p : Nat × Func) : Prop := P.funcs[p.1]? = some p.2 ∧ (p.2.name == "runtime.NumGoroutine") = false
inductive BT (α : Type) where
  | nil
  | node (k : Nat) (v : α) (l r : BT α)
def BT.find {α : Type} : BT α → Nat → Option α
  | .nil, _ => none
  | .node k v l r, n => match Nat.beq n k with
    | true => some v
    | false => match Nat.blt n k with
      | true => l.find n
      | false => r.find n
def BT.all {α : Type} (p : Nat → α → Bool) : BT α → Bool
  | .nil => true
  | .node k v l r => p k v && (l.all p && r.all p)
theorem BT.find_all {α : Type} {p : Nat → α → Bool} : ∀ {t : BT α} {n : Nat} {v : α}, t.all p = true → t.find n = some v → p n v = true
  | .nil, n, v, _, h => by simp [BT.find] at h
  | .node k x l r, n, v, ha, h => by
    simp only [BT.all, Bool.and_eq_true] at ha
    simp only [BT.find] at h
    split at h
    · rename_i hb
      cases h
      rw [Nat.eq_of_beq_eq_true hb]
      exact ha.1
    · split at h
      · exact BT.find_all ha.2.1 h
      · exact BT.find_all ha.2.2 h
def BT.All {α : Type} (p : Nat → α → Prop) : BT α → Prop
  | .nil => True
  | .node k v l r => p k v ∧ l.All p ∧ r.All p
theorem BT.find_All {α : Type} {p : Nat → α → Prop} : ∀ {t : BT α} {n : Nat} {v : α}, t.All p → t.find n = some v → p n v
  | .nil, n, v, _, h => by simp [BT.find] at h
  | .node k x l r, n, v, ha, h => by
    simp only [BT.find] at h
    split at h
    · rename_i hb
      cases h
      rw [Nat.eq_of_beq_eq_true hb]
      exact ha.1
    · split at h
      · exact BT.find_All ha.2.1 h
      · exact BT.find_All ha.2.2 h
def Tab.ofTrees (tys : BT TI) (fns : BT Func) : Tab := { ty := tys.find, fn := fns.find }
theorem Tab.ofTrees_ok {P : Program} {tys : BT TI} {fns : BT Func} (h1 : tys.all (checkTy P) = true) (h2 : fns.All fun f fn => FnOk P (f, fn)) : (Tab.ofTrees tys fns).Ok P :=
  ⟨fun t i h => checkTy_ok (BT.find_all h1 h), fun f fn h => BT.find_All h2 h⟩
end Go.Am
end
noncomputable section
namespace Go.Am
open Go
section
variable {P : Program} {T : Tab} {Q : APost} {ops : Array Oper}
theorem draw_runS (hT : T.Ok P) (hm : P.follows .mixedOrders = true) {cf : Cfg} {call : CallF} (hc : CallOk P call) {id : Nat} {tm0 : List AV} {s0 c0 : AHeap} {ms : List Nat} {m : Nat} {st : DSt}
    (hcf : cf.side = none ∨ cf.side = some s0) (hc0 : (∀ b o, c0.get b = some o → s0.get b = some o) ∧ c0.nx = s0.nx + m)
    (htk : ∀ i b o nw, i < m → (st.plan m ms).kind i = .side (some (b, o)) nw → c0.get b = none)
    (htk1 : ∀ i j b o nw o' nw', i < m → j < m → (st.plan m ms).kind i = .side (some (b, o)) nw → (st.plan m ms).kind j = .side (some (b, o')) nw' → i = j)
    (hms : masks ops.toList [] = some ms) (hmd : headLen ms 0 0 = m)
    (hrun : drun T cf call ops s0.nx (ops.toList.take m) 0 ⟨tm0, [c0], [], []⟩ c0 = some st)
    (hpair : ∀ i j o, ops[i]? = some o → i < m → j < m → i ≠ j → (st.plan m ms).A i j = true ∨ (st.plan m ms).A j i = true ∨
      ((∀ t, odst ops j = some t → t ∉ onames ops o) ∧ ¬ (((st.plan m ms).kind i).isEff = true ∧ ((st.plan m ms).kind j).isEff = true)))
    (heff : ∀ i o, i < m → ops[i]? = some o → ((st.plan m ms).kind i).isEff = true → lo (st.plan m ms) i = cntTo (fun j => ((st.plan m ms).kind j).isEff) i)
    (hld : ∀ i o, i < m → ops[i]? = some o → (st.plan m ms).kind i = .quiet → aquiet T (aev (tmTo ops (st.plan m ms) tm0 (fun _ => true) i)) o.op ((st.plan m ms).core (cntTo (fun j => ((st.plan m ms).kind j).isEff) i)) = some ((st.plan m ms).res i) →
      apure T (aev (tmTo ops (st.plan m ms) tm0 (fun _ => true) i)) o.op = none → ∀ k, lo (st.plan m ms) i ≤ k → k ≤ hi (st.plan m ms) i →
      aquiet T (aev (tmTo ops (st.plan m ms) tm0 (fun _ => true) i)) o.op ((st.plan m ms).core k) = some ((st.plan m ms).res i))
    (hend : awpOps P ops Q (List.range' m (ops.size - m)) st.tm (((st.plan m ms).core (effs (st.plan m ms) fun i => decide (i < m))).upds (alTo (st.plan m ms) T s0.nx (fun i => decide (i < m)) m))) :
    awp P (.region id ops true) Q tm0 s0 := by
  have hmo := masks_ok hms
  obtain ⟨hl1, hl2, hl3⟩ := headLen_tail ms 0 0 (Nat.le_refl _)
  rw [hmd, hmo.len] at hl2
  have hlen : (ops.toList.take m).length = m := by simp; omega
  have hpre := drun_prefix hrun
  have hcore0 : (st.plan m ms).core 0 = c0 := by
    show st.cores.getD 0 .empty = _
    rw [getD_of_prefix hpre.2.2 (by simp)]; rfl
  have hops : ∀ j o, (ops.toList.take m)[j]? = some o → ops[0 + j]? = some o := by
    intro j o hj
    rw [List.getElem?_take] at hj
    split at hj
    · rw [Nat.zero_add]; simpa using hj
    · cases hj
  obtain ⟨hdid, htm⟩ := drun_facts (m := m) (ms := ms) (tm0 := tm0) hrun hops rfl rfl rfl hcore0 rfl
  rw [Nat.zero_add, hlen] at htm
  have hdid' : ∀ i o, i < m → ops[i]? = some o → Did T cf call ops s0.nx (st.plan m ms) tm0 i o := by
    intro i o hi ho
    have := hdid i o (by rw [List.getElem?_take, if_pos hi]; simpa using ho)
    rwa [Nat.zero_add] at this
  have hstep : ∀ i o, i < m → ops[i]? = some o → StepOk P T ops (st.plan m ms) tm0 s0 i o := by
    intro i o hi ho
    obtain ⟨t, hd, ht⟩ := hdid' i o hi ho
    unfold StepOk
    rcases dstep_inv hd with ⟨hw, hk, hv, _⟩ | ⟨hw, hrest⟩
    · rw [hk]
      exact fun tm ha => ⟨by rw [agree_wanted ha]; exact hw, hv⟩
    · rcases hrest with ⟨e, ti, h1, h2, h3, h4, hk, hv, _⟩ | ⟨h1, hk, _⟩ | ⟨pre, post, s1, h1, hk, _, h2, h3, t', h4, h5, h6⟩ | ⟨c, fop, f, first, captured, t', h1, h2, h3, h4, hk, h6⟩ | ⟨t', h1, hk, h6⟩
      · rw [hk]
        exact ⟨h2, h1, hv, ti, h3, h4⟩
      · rw [hk]
        simp only
        intro k hk1 hk2 tm ha
        refine ⟨by rw [agree_wanted ha]; exact hw, ?_⟩
        have hqk : aquiet T (aev tm) o.op ((st.plan m ms).core k) = some ((st.plan m ms).res i) := by
          rw [aquiet_congr o.op _ (agree_aev ha)]
          cases hap : apure T (aev (tmTo ops (st.plan m ms) tm0 (fun _ => true) i)) o.op with
          | some v =>
            unfold aquiet at h1 ⊢
            rw [hap] at h1 ⊢
            exact h1
          | none => exact hld i o hi ho hk h1 hap k hk1 hk2
        exact .op hT (cf := cf) (aquiet_aop hqk) ⟨rfl, rfl⟩
      · rw [hk]
        simp only
        intro tm ha
        refine ⟨by rw [agree_wanted ha]; exact hw, fun x hx => ?_, ?_⟩
        · have := h2 x hx
          rw [List.getD_eq_getElem?_getD] at this ⊢
          rw [ha x hx]
          exact this
        · exact .op hT (cf := cf) (by rw [aop_congr cf o _ (agree_aev ha)]; exact h4) ⟨rfl, h5, h6⟩
      · rw [hk]
        simp only
        have hlo := heff i o hi ho (by rw [hk]; rfl)
        have ht' := ht t' h6
        intro tm ha
        refine ⟨by rw [agree_wanted ha]; exact hw, ?_⟩
        have hmem : ∀ x ∈ o.op.operands.toList, aev tm x = aev (tmTo ops (st.plan m ms) tm0 (fun _ => true) i) x := agree_aev ha
        have hfop : aev tm fop = .func (.func f) first captured := by
          rw [hmem fop (by rw [h1]; simp [Op.operands, Call.operands, h2]), h3]
        have hargs : c.args.toList.map (aev tm) = c.args.toList.map (aev (tmTo ops (st.plan m ms) tm0 (fun _ => true) i)) :=
          List.map_congr_left fun x hx => hmem x (by rw [h1]; simp only [Op.operands, Call.operands, Array.toList_append, List.mem_append]; exact .inr hx)
        refine AOpR.call h1 h2 hfop ?_
        rw [hargs, hlo]
        refine (hc _ _ _ _ _ h4).mono ?_
        rintro v' t2 ⟨rfl, rfl⟩
        exact ⟨rfl, ht'⟩
      · rw [hk]
        simp only
        have hlo := heff i o hi ho (by rw [hk]; rfl)
        have ht' := ht t' h6
        intro tm ha
        refine ⟨by rw [agree_wanted ha]; exact hw, ?_⟩
        refine .op hT (cf := cf) (v := (st.plan m ms).res i) (s' := t') ?_ ⟨rfl, ?_⟩
        · rw [aop_congr cf o _ (agree_aev ha), hlo]; exact h1
        · rw [hlo]; exact ht'
  have hpre : ∀ i b o nw, i < m → (st.plan m ms).kind i = .side (some (b, o)) nw → s0.get b = some o := by
    intro i b o nw hi hk
    have hi' : i < ops.size := by omega
    obtain ⟨t, hd, _⟩ := hdid' i ops[i] hi (Array.getElem?_eq_getElem hi')
    rcases dstep_inv hd with ⟨_, q, _⟩ | ⟨_, q⟩
    · rw [hk] at q; cases q
    · rcases q with ⟨_, _, _, _, _, _, q, _⟩ | ⟨_, q, _⟩ | ⟨pre, post, s1, h1, q, _, _, h3, _⟩ | ⟨_, _, _, _, _, _, _, _, _, _, q, _⟩ | ⟨_, _, q, _⟩ <;> rw [hk] at q <;> try (cases q; done)
      injection q with q1 q2
      rcases hcf with e | e <;> rw [h1] at e
      · cases e
      · injection e with e; subst e; exact h3 b o q1.symm
  have hok : DrawOk P T ops (st.plan m ms) tm0 s0 := by
    refine ⟨(by simpa using hl2 : m ≤ ops.size), hmo.edges, fun D hD i j hi hDi hA => hmo.clos D hD i j hi hDi hA, fun i j hA => hmo.lt i j hA, ?_, ?_, ?_, by rw [hcore0]; exact hc0, fun i b o nw hi hk => ⟨hpre i b o nw hi hk, by rw [hcore0]; exact htk i b o nw hi hk⟩, htk1, hstep⟩
    · intro i j o ho hi hj hne t htn htd
      rcases hpair i j o ho hi hj hne with h1 | h1 | h1
      · exact .inl h1
      · exact .inr h1
      · exact absurd htn (h1.1 t htd)
    · intro i j hi hj hne hei hej
      have hi' : i < ops.size := by have : i < m := hi; omega
      have ho : ops[i]? = some ops[i] := Array.getElem?_eq_getElem hi'
      rcases hpair i j _ ho hi hj hne with h1 | h1 | h1
      · exact .inl h1
      · exact .inr h1
      · exact absurd ⟨hei, hej⟩ h1.2
    · intro i hi hlt j hj
      have hli : i < ms.length := by rw [hmo.len]; exact hlt
      have := hl3 i ms[i] (List.getElem?_eq_getElem hli) (by rw [hmd, Nat.zero_add]; exact hi)
      show (ms.getD i 0).testBit j = true
      rw [List.getD_eq_getElem?_getD, List.getElem?_eq_getElem hli, Option.getD_some, this, Nat.zero_add, Nat.testBit_two_pow_sub_one]
      simpa using hj
  have htmall : tmTo ops (st.plan m ms) tm0 (fun i => decide (i < m)) m = st.tm := by
    rw [htm]
    have : ∀ n, n ≤ m → tmTo ops (st.plan m ms) tm0 (fun i => decide (i < m)) n = tmTo ops (st.plan m ms) tm0 (fun _ => true) n := by
      intro n
      induction n with
      | zero => intro _; rfl
      | succ n ih =>
        intro hn
        simp only [tmTo]
        rw [ih (by omega)]
        have : n < m := by omega
        simp [this]
    exact this m (Nat.le_refl _)
  refine awp_draw hT hm hok ?_
  show awpOps P ops Q (List.range' m (ops.size - m)) (tmTo ops (st.plan m ms) tm0 (fun i => decide (i < m)) m) _
  rw [htmall]
  exact hend
theorem draw_run (hT : T.Ok P) (hm : P.follows .mixedOrders = true) {cf : Cfg} (hcf : cf.side = none) {call : CallF} (hc : CallOk P call) {id : Nat} {tm0 : List AV} {s0 : AHeap} {ms : List Nat} {m : Nat} {st : DSt}
    (hms : masks ops.toList [] = some ms) (hmd : headLen ms 0 0 = m)
    (hrun : drun T cf call ops s0.nx (ops.toList.take m) 0 ⟨tm0, [{ s0 with nx := s0.nx + m }], [], []⟩ { s0 with nx := s0.nx + m } = some st)
    (hpair : ∀ i j o, ops[i]? = some o → i < m → j < m → i ≠ j → (st.plan m ms).A i j = true ∨ (st.plan m ms).A j i = true ∨
      ((∀ t, odst ops j = some t → t ∉ onames ops o) ∧ ¬ (((st.plan m ms).kind i).isEff = true ∧ ((st.plan m ms).kind j).isEff = true)))
    (heff : ∀ i o, i < m → ops[i]? = some o → ((st.plan m ms).kind i).isEff = true → lo (st.plan m ms) i = cntTo (fun j => ((st.plan m ms).kind j).isEff) i)
    (hld : ∀ i o, i < m → ops[i]? = some o → (st.plan m ms).kind i = .quiet → aquiet T (aev (tmTo ops (st.plan m ms) tm0 (fun _ => true) i)) o.op ((st.plan m ms).core (cntTo (fun j => ((st.plan m ms).kind j).isEff) i)) = some ((st.plan m ms).res i) →
      apure T (aev (tmTo ops (st.plan m ms) tm0 (fun _ => true) i)) o.op = none → ∀ k, lo (st.plan m ms) i ≤ k → k ≤ hi (st.plan m ms) i →
      aquiet T (aev (tmTo ops (st.plan m ms) tm0 (fun _ => true) i)) o.op ((st.plan m ms).core k) = some ((st.plan m ms).res i))
    (hend : awpOps P ops Q (List.range' m (ops.size - m)) st.tm (((st.plan m ms).core (effs (st.plan m ms) fun i => decide (i < m))).upds (alTo (st.plan m ms) T s0.nx (fun i => decide (i < m)) m))) :
    awp P (.region id ops true) Q tm0 s0 := by
  have hk : ∀ i q nw, (st.plan m ms).kind i ≠ .side q nw := by
    intro i q nw e
    have h := drun_noside hcf hrun (by simp)
    have : st.kinds.getD i .off = .side q nw := e
    rw [List.getD_eq_getElem?_getD] at this
    cases hg : st.kinds[i]? with
    | none => rw [hg] at this; cases this
    | some k => rw [hg] at this; exact h k (List.mem_of_getElem? hg) q nw this
  exact draw_runS (c0 := { s0 with nx := s0.nx + m }) hT hm hc (.inl hcf) ⟨fun _ _ e => e, rfl⟩ (fun i b o nw _ e => absurd e (hk _ _ _)) (fun i j b o nw o' nw' _ _ e => absurd e (hk _ _ _)) hms hmd hrun hpair heff hld hend
end
end Go.Am
end
