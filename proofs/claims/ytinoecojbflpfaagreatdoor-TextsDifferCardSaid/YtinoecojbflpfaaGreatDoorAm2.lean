/- Part 2 of a proof: texts of this work, put together. -/
import Derived.Test.YtinoecojbflpfaaGreatDoorAm1
import Derived.Orders
set_option linter.unusedVariables false
set_option linter.unusedSimpArgs false
noncomputable section
namespace Go.Am
open Go
def onames (ops : Array Oper) (o : Oper) : List Tmp :=
  o.dst.toList ++ o.op.operands.toList.filterMap (fun | .tmp t => some t | _ => none) ++
    (match o.guard with | some (j, _) => ((ops[j]?).bind (·.dst)).toList | none => [])
inductive DKind where
  | quiet | eff | alloc (e : TypeId) | off
  /-- its value is the same whatever the heap -/
  | free
  /-- done aside: the block that it takes, the block that it leaves under its own number -/
  | side (pre : Option (Nat × AObj)) (post : Option AObj)
def DKind.isEff : DKind → Bool | .eff => true | _ => false
def DKind.isAl : DKind → Bool | .alloc _ => true | .side .. => true | _ => false
structure Plan where
  m : Nat
  kind : Nat → DKind
  res : Nat → AV
  core : Nat → AHeap
  A : Nat → Nat → Bool
section
variable (ops : Array Oper) (p : Plan) (tm0 : List AV)
def odst (i : Nat) : Option Tmp := (ops[i]?).bind (·.dst)
def tmTo (D : Nat → Bool) : Nat → List AV
  | 0 => tm0
  | i + 1 => if D i then aput (tmTo D i) (odst ops i) (p.res i) else tmTo D i
def cntTo (f : Nat → Bool) : Nat → Nat
  | 0 => 0
  | i + 1 => cntTo f i + (if f i then 1 else 0)
def zcells (T : Tab) (e : TypeId) : List AV := match T.ty e with | some ti => (AV.ofV ti.zero).cells | none => []
def alOne (T : Tab) (nx0 i : Nat) : List (Nat × AObj) := match p.kind i with
  | .alloc e => [(nx0 + i, .cells (zcells T e) (some e))]
  | .side _ (some o) => [(nx0 + i, o)]
  | _ => []
def alPre (i : Nat) : List (Nat × AObj) := match p.kind i with
  | .side (some q) _ => [q]
  | _ => []
def alTo (T : Tab) (nx0 : Nat) (D : Nat → Bool) : Nat → List (Nat × AObj)
  | 0 => []
  | i + 1 => alTo T nx0 D i ++ (if D i then alOne p T nx0 i else alPre p i)
end
theorem cntTo_congr {f g : Nat → Bool} : ∀ {m : Nat}, (∀ i, i < m → f i = g i) → cntTo f m = cntTo g m
  | 0, _ => rfl
  | m + 1, h => by simp only [cntTo]; rw [cntTo_congr (fun i hi => h i (by omega)), h m (by omega)]
theorem cntTo_le {f g : Nat → Bool} : ∀ {m : Nat}, (∀ i, i < m → f i = true → g i = true) → cntTo f m ≤ cntTo g m
  | 0, _ => Nat.le_refl _
  | m + 1, h => by
    simp only [cntTo]
    have h1 := cntTo_le (m := m) (fun i hi => h i (by omega))
    have h2 := h m (by omega)
    cases hf : f m
    · simp only [Bool.false_eq_true, if_false]; omega
    · rw [h2 hf]; simp only [if_true]; omega
theorem cntTo_set {f : Nat → Bool} {i : Nat} (hf : f i = false) : ∀ {m : Nat}, i < m → cntTo (fun j => j == i || f j) m = cntTo f m + 1
  | 0, h => by omega
  | m + 1, h => by
    simp only [cntTo]
    by_cases e : m = i
    · subst e
      rw [cntTo_congr (g := f) (m := m) (fun j hj => by have : (j == m) = false := by simp; omega
                                                        simp [this])]
      simp [hf]
    · rw [cntTo_set hf (m := m) (by omega)]
      have : (m == i) = false := by simpa using e
      simp only [this, Bool.false_or]
      omega
theorem cntTo_all {f : Nat → Bool} : ∀ {m : Nat}, cntTo f m = m → ∀ i, i < m → f i = true
  | 0, _, i, h => by omega
  | m + 1, h, i, hi => by
    simp only [cntTo] at h
    have hle : ∀ (m : Nat), cntTo f m ≤ m := by
      intro m
      induction m with
      | zero => exact Nat.le_refl _
      | succ m ih => simp only [cntTo]; split <;> omega
    have h1 := hle m
    cases hf : f m
    · simp only [hf, Bool.false_eq_true, if_false] at h; omega
    · simp only [hf, if_true] at h
      by_cases e : i = m
      · subst e; exact hf
      · exact cntTo_all (m := m) (by omega) i (by omega)
section
variable {P : Program} {T : Tab} {ops : Array Oper} {p : Plan} {tm0 : List AV} {s0 : AHeap}
theorem tmTo_length (D : Nat → Bool) : ∀ i, (tmTo ops p tm0 D i).length = tm0.length
  | 0 => rfl
  | i + 1 => by
    simp only [tmTo]
    split
    · unfold aput; split
      · rw [List.length_set]; exact tmTo_length D i
      · exact tmTo_length D i
    · exact tmTo_length D i
theorem tmTo_get {D D' : Nat → Bool} {t : Tmp} : ∀ {i : Nat}, (∀ j, j < i → odst ops j = some t → D j = D' j) → (tmTo ops p tm0 D i)[t]? = (tmTo ops p tm0 D' i)[t]?
  | 0, _ => rfl
  | i + 1, h => by
    have ih := tmTo_get (D := D) (D' := D') (t := t) (i := i) (fun j hj => h j (by omega))
    have hl : (tmTo ops p tm0 D i).length = (tmTo ops p tm0 D' i).length := by rw [tmTo_length, tmTo_length]
    simp only [tmTo]
    by_cases hd : odst ops i = some t
    · rw [← h i (by omega) hd]
      split
      · rw [hd]
        simp only [aput, List.getElem?_set, hl, ih]
      · exact ih
    · have keep : ∀ (l : List AV), (aput l (odst ops i) (p.res i))[t]? = l[t]? := by
        intro l
        unfold aput
        split
        · rename_i d hd'
          rw [List.getElem?_set_ne]
          rintro rfl
          exact hd hd'
        · rfl
      split <;> split <;> simp only [keep, ih]
theorem tmTo_stop {D : Nat → Bool} {t : Tmp} {i : Nat} : ∀ {m : Nat}, i ≤ m → (∀ j, i ≤ j → j < m → odst ops j = some t → D j = false) → (tmTo ops p tm0 D m)[t]? = (tmTo ops p tm0 D i)[t]?
  | 0, h, _ => by have : i = 0 := by omega
                  subst this; rfl
  | m + 1, h, hD => by
    by_cases e : i = m + 1
    · subst e; rfl
    · rw [← tmTo_stop (m := m) (by omega) (fun j h1 h2 => hD j h1 (by omega))]
      simp only [tmTo]
      split
      · rename_i hd
        unfold aput
        split
        · rename_i d hd'
          rw [List.getElem?_set_ne]
          rintro rfl
          rw [hD m (by omega) (by omega) hd'] at hd
          cases hd
        · rfl
      · rfl
theorem tmTo_put {D : Nat → Bool} {i m : Nat} (hi : i < m) (hDi : D i = false) (hw : ∀ j, i < j → j < m → D j = true → ∀ t, odst ops i = some t → odst ops j ≠ some t) :
    tmTo ops p tm0 (fun j => j == i || D j) m = aput (tmTo ops p tm0 D m) (odst ops i) (p.res i) := by
  apply List.ext_getElem?
  intro t
  cases hd : odst ops i with
  | none =>
    simp only [aput]
    refine tmTo_get fun j _ hj => ?_
    have : j ≠ i := by rintro rfl; rw [hd] at hj; cases hj
    have : (j == i) = false := by simpa using this
    simp [this]
  | some d =>
    by_cases e : d = t
    · subst e
      rw [tmTo_stop (i := i + 1) (D := fun j => j == i || D j) (by omega) (fun j h1 h2 h3 => by
        have hne : (j == i) = false := by simp; omega
        simp only [hne, Bool.false_or]
        cases hDj : D j with
        | false => rfl
        | true => exact absurd h3 (hw j (by omega) h2 hDj d hd))]
      have e2 : (tmTo ops p tm0 (fun j => j == i || D j) (i + 1)) = aput (tmTo ops p tm0 (fun j => j == i || D j) i) (odst ops i) (p.res i) := by
        simp [tmTo]
      rw [e2, hd]
      simp only [aput, List.getElem?_set, tmTo_length, if_true]
    · have keep : (aput (tmTo ops p tm0 D m) (some d) (p.res i))[t]? = (tmTo ops p tm0 D m)[t]? := by
        simp only [aput]
        rw [List.getElem?_set_ne e]
      rw [keep]
      refine tmTo_get fun j _ hj => ?_
      have : j ≠ i := by rintro rfl; rw [hd] at hj; exact e (Option.some.inj hj)
      have : (j == i) = false := by simpa using this
      simp [this]
end
end Go.Am
end
noncomputable section
namespace Go.Am
open Go
section
variable {P : Program} {T : Tab} {ops : Array Oper} {p : Plan} {tm0 : List AV} {s0 : AHeap} {Q : APost}
def effs (p : Plan) (D : Nat → Bool) : Nat := cntTo (fun i => D i && (p.kind i).isEff) p.m
def lo (p : Plan) (i : Nat) : Nat := cntTo (fun j => p.A i j && (p.kind j).isEff) p.m
def hi (p : Plan) (i : Nat) : Nat := cntTo (fun j => (j != i && !p.A j i) && (p.kind j).isEff) p.m
def Agree (ops : Array Oper) (p : Plan) (tm0 : List AV) (i : Nat) (o : Oper) (tm : List AV) : Prop :=
  ∀ t ∈ onames ops o, tm[t]? = (tmTo ops p tm0 (fun _ => true) i)[t]?
def small (pre : Option (Nat × AObj)) (n : Nat) : AHeap := match pre with
  | some q => { AHeap.empty.upd q.1 q.2 with nx := n }
  | none => { AHeap.empty with nx := n }
theorem nx_small {pre : Option (Nat × AObj)} {n : Nat} : (small pre n).nx = n := by unfold small; split <;> rfl
theorem get_withnx (s : AHeap) (n b : Nat) : ({ s with nx := n } : AHeap).get b = s.get b := rfl
theorem get_small {pre : Option (Nat × AObj)} {n b : Nat} {o : AObj} (h : (small pre n).get b = some o) : pre = some (b, o) := by
  unfold small at h
  split at h
  · rename_i q
    rw [get_withnx, AHeap.get_upd] at h
    split at h
    · rename_i e; subst e; cases h; rfl
    · rw [AHeap.get_empty] at h; cases h
  · rw [get_withnx, AHeap.get_empty] at h; cases h
def StepOk (P : Program) (T : Tab) (ops : Array Oper) (p : Plan) (tm0 : List AV) (s0 : AHeap) (i : Nat) (o : Oper) : Prop :=
  match p.kind i with
  | .quiet => ∀ k, lo p i ≤ k → k ≤ hi p i → ∀ tm, Agree ops p tm0 i o tm → awanted ops tm o = some true ∧ AOpR P o tm (p.core k) fun v t => v = p.res i ∧ t = p.core k
  | .eff => ∀ tm, Agree ops p tm0 i o tm → awanted ops tm o = some true ∧ AOpR P o tm (p.core (lo p i)) fun v t => v = p.res i ∧ t = p.core (lo p i + 1)
  | .alloc e => o.guard = none ∧ o.op = .alloc e ∧ p.res i = .ptr (s0.nx + i) 0 ∧ ∃ ti, T.ty e = some ti ∧ (AV.ofV ti.zero).israw = false
  | .off => ∀ tm, Agree ops p tm0 i o tm → awanted ops tm o = some false ∧ p.res i = aundef
  | .free => ∀ s tm, Agree ops p tm0 i o tm → awanted ops tm o = some true ∧ AOpR P o tm s fun v t => v = p.res i ∧ t = s
  | .side pre post => ∀ tm, Agree ops p tm0 i o tm → awanted ops tm o = some true ∧ (∀ t ∈ onames ops o, low (s0.nx + i) (tm.getD t aundef)) ∧
      AOpR P o tm (small pre (s0.nx + i)) fun v t => v = p.res i ∧ t.nx ≤ s0.nx + i + 1 ∧ ∀ ob, post = some ob → t.get (s0.nx + i) = some ob
structure DrawOk (P : Program) (T : Tab) (ops : Array Oper) (p : Plan) (tm0 : List AV) (s0 : AHeap) : Prop where
  hm : p.m ≤ ops.size
  edges : ∀ i o, ops[i]? = some o → ∀ e ∈ o.after, Region.binds .any e = true → e.on < i
  clos : ∀ D : Nat → Bool, (∀ i o, D i = true → ops[i]? = some o → ∀ e ∈ o.after, Region.binds .any e = true → D e.on = true) → ∀ i j, i < ops.size → D i = true → p.A i j = true → D j = true
  lt : ∀ i j, p.A i j = true → j < i
  tmps : ∀ i j o, ops[i]? = some o → i < p.m → j < p.m → i ≠ j → ∀ t ∈ onames ops o, odst ops j = some t → p.A i j = true ∨ p.A j i = true
  effs : ∀ i j, i < p.m → j < p.m → i ≠ j → (p.kind i).isEff = true → (p.kind j).isEff = true → p.A i j = true ∨ p.A j i = true
  tail : ∀ i, p.m ≤ i → i < ops.size → ∀ j, j < i → p.A i j = true
  core0 : (∀ b o, (p.core 0).get b = some o → s0.get b = some o) ∧ (p.core 0).nx = s0.nx + p.m
  pre : ∀ i b o nw, i < p.m → p.kind i = .side (some (b, o)) nw → s0.get b = some o ∧ (p.core 0).get b = none
  pre1 : ∀ i j b o nw o' nw', i < p.m → j < p.m → p.kind i = .side (some (b, o)) nw → p.kind j = .side (some (b, o')) nw' → i = j
  step : ∀ i o, i < p.m → ops[i]? = some o → StepOk P T ops p tm0 s0 i o
structure DSet (ops : Array Oper) (p : Plan) (D : Nat → Bool) : Prop where
  closed : ∀ i o, D i = true → ops[i]? = some o → ∀ e ∈ o.after, Region.binds .any e = true → D e.on = true
  below : ∀ i, D i = true → i < p.m
theorem DSet.A (h : DrawOk P T ops p tm0 s0) {D : Nat → Bool} (hD : DSet ops p D) {i j : Nat} (hi : D i = true) (ha : p.A i j = true) : D j = true :=
  h.clos D hD.closed i j (Nat.lt_of_lt_of_le (hD.below i hi) h.hm) hi ha
structure DNext (ops : Array Oper) (p : Plan) (D : Nat → Bool) (i : Nat) (o : Oper) : Prop where
  get : ops[i]? = some o
  lt : i < p.m
  new : D i = false
  pre : ∀ e ∈ o.after, Region.binds .any e = true → D e.on = true
theorem DNext.dset {D : Nat → Bool} {i : Nat} {o : Oper} (hD : DSet ops p D) (hn : DNext ops p D i o) : DSet ops p (fun j => j == i || D j) := by
  refine ⟨?_, ?_⟩
  · intro j oj hj hoj e he hb
    simp only [Bool.or_eq_true, beq_iff_eq] at hj ⊢
    rcases hj with rfl | hj
    · rw [hn.get] at hoj; cases hoj
      exact .inr (hn.pre e he hb)
    · exact .inr (hD.closed j oj hj hoj e he hb)
  · intro j hj
    simp only [Bool.or_eq_true, beq_iff_eq] at hj
    rcases hj with rfl | hj
    · exact hn.lt
    · exact hD.below j hj
theorem DNext.A (h : DrawOk P T ops p tm0 s0) {D : Nat → Bool} {i j : Nat} {o : Oper} (hD : DSet ops p D) (hn : DNext ops p D i o) (ha : p.A i j = true) : D j = true := by
  have := (hn.dset hD).A h (i := i) (j := j) (by simp) ha
  have hlt := h.lt i j ha
  simp only [Bool.or_eq_true, beq_iff_eq] at this
  rcases this with rfl | h1
  · omega
  · exact h1
theorem DNext.notA (h : DrawOk P T ops p tm0 s0) {D : Nat → Bool} {i j : Nat} {o : Oper} (hD : DSet ops p D) (hn : DNext ops p D i o) (hj : D j = true) : p.A j i = false := by
  cases ha : p.A j i with
  | false => rfl
  | true =>
    have := hD.A h hj ha
    rw [hn.new] at this; cases this
theorem DNext.agree (h : DrawOk P T ops p tm0 s0) {D : Nat → Bool} {i : Nat} {o : Oper} (hD : DSet ops p D) (hn : DNext ops p D i o) : Agree ops p tm0 i o (tmTo ops p tm0 D p.m) := by
  intro t ht
  have stop := tmTo_stop (ops := ops) (p := p) (tm0 := tm0) (D := D) (t := t) (i := i) (m := p.m) (Nat.le_of_lt hn.lt) (fun j h1 h2 h3 => by
    cases hDj : D j with
    | false => rfl
    | true =>
      have hne : i ≠ j := by rintro rfl; rw [hn.new] at hDj; cases hDj
      rcases h.tmps i j o hn.get hn.lt h2 hne t ht h3 with h4 | h4
      · have := h.lt _ _ h4; omega
      · rw [hn.notA h hD hDj] at h4; cases h4)
  rw [stop]
  refine tmTo_get fun j hj hd => ?_
  have hne : i ≠ j := by omega
  rcases h.tmps i j o hn.get hn.lt (by have := hn.lt; omega) hne t ht hd with h4 | h4
  · exact hn.A h hD h4
  · have := h.lt _ _ h4; omega
theorem DNext.put (h : DrawOk P T ops p tm0 s0) {D : Nat → Bool} {i : Nat} {o : Oper} (hD : DSet ops p D) (hn : DNext ops p D i o) :
    tmTo ops p tm0 (fun j => j == i || D j) p.m = aput (tmTo ops p tm0 D p.m) o.dst (p.res i) := by
  have hod : odst ops i = o.dst := by simp [odst, hn.get]
  rw [← hod]
  refine tmTo_put hn.lt hn.new fun j h1 h2 h3 t ht hjt => ?_
  have hne : i ≠ j := by omega
  have htn : t ∈ onames ops o := by
    unfold onames
    rw [hod] at ht
    simp [ht]
  rcases h.tmps i j o hn.get hn.lt h2 hne t htn hjt with h4 | h4
  · have := h.lt _ _ h4; omega
  · rw [hn.notA h hD h3] at h4; cases h4
theorem DNext.lo (h : DrawOk P T ops p tm0 s0) {D : Nat → Bool} {i : Nat} {o : Oper} (hD : DSet ops p D) (hn : DNext ops p D i o) : lo p i ≤ effs p D := by
  refine cntTo_le fun j hj hf => ?_
  simp only [Bool.and_eq_true] at hf ⊢
  exact ⟨hn.A h hD hf.1, hf.2⟩
theorem DNext.hi (h : DrawOk P T ops p tm0 s0) {D : Nat → Bool} {i : Nat} {o : Oper} (hD : DSet ops p D) (hn : DNext ops p D i o) : effs p D ≤ hi p i := by
  refine cntTo_le fun j hj hf => ?_
  simp only [Bool.and_eq_true, bne_iff_ne, Bool.not_eq_true'] at hf ⊢
  refine ⟨⟨?_, hn.notA h hD hf.1⟩, hf.2⟩
  rintro rfl
  rw [hn.new] at hf
  cases hf.1
theorem DNext.eff (h : DrawOk P T ops p tm0 s0) {D : Nat → Bool} {i : Nat} {o : Oper} (hD : DSet ops p D) (hn : DNext ops p D i o) (he : (p.kind i).isEff = true) : effs p D = Am.lo p i := by
  refine cntTo_congr fun j hj => ?_
  cases hej : (p.kind j).isEff with
  | false => simp
  | true =>
    simp only [Bool.and_true]
    cases hDj : D j with
    | true =>
      have hne : i ≠ j := by rintro rfl; rw [hn.new] at hDj; cases hDj
      rcases h.effs i j hn.lt hj hne he hej with h4 | h4
      · exact h4.symm
      · rw [hn.notA h hD hDj] at h4; cases h4
    | false =>
      cases ha : p.A i j with
      | false => rfl
      | true => rw [hn.A h hD ha] at hDj; cases hDj
structure Inv (T : Tab) (ops : Array Oper) (p : Plan) (tm0 : List AV) (s0 : AHeap) (K0 : Know) (w0 : World) (D : Nat → Bool) (K : Know) (act : Act) (w : World) : Prop where
  wr : WR K (p.core (effs p D)) w
  al : Aside K (p.core (effs p D)) w (alTo p T s0.nx D p.m)
  ra : RA K (tmTo ops p tm0 D p.m) act
  fresh : ∀ i, i < p.m → D i = false → K.phi (s0.nx + i) = none
  ext : Ext K0 s0 w0 K (p.core (effs p D)) w
  new : ∀ q ∈ alTo p T s0.nx D p.m, ∀ g i, K.phi q.1 = some (g, i) → owned K0 s0 g ∨ w0.heap.size ≤ g
  wr0 : WR K0 s0 w0
  nx : s0.nx + p.m ≤ (p.core (effs p D)).nx
theorem mem_alTo {nx0 : Nat} {D : Nat → Bool} {q : Nat × AObj} : ∀ {m : Nat}, q ∈ alTo p T nx0 D m ↔ ∃ i, i < m ∧ ((D i = true ∧ q ∈ alOne p T nx0 i) ∨ (D i = false ∧ q ∈ alPre p i))
  | 0 => by simp [alTo]
  | m + 1 => by
    have ih := mem_alTo (nx0 := nx0) (D := D) (q := q) (m := m)
    simp only [alTo, List.mem_append, ih]
    constructor
    · rintro (⟨i, h1, h2⟩ | h)
      · exact ⟨i, by omega, h2⟩
      · cases hd : D m with
        | false => rw [hd] at h; exact ⟨m, by omega, .inr ⟨hd, by simpa using h⟩⟩
        | true => rw [hd] at h; exact ⟨m, by omega, .inl ⟨hd, by simpa using h⟩⟩
    · rintro ⟨i, h1, h2⟩
      by_cases hi : i = m
      · subst hi; right
        rcases h2 with ⟨h2, h3⟩ | ⟨h2, h3⟩ <;> rw [h2] <;> simpa using h3
      · exact .inl ⟨i, by omega, h2⟩
theorem Aside.subset {K : Know} {s : AHeap} {w : World} {l l' : List (Nat × AObj)} (h : Aside K s w l) (hs : ∀ q ∈ l', q ∈ l) : Aside K s w l' :=
  ⟨fun q hq => h.at_ q (hs q hq), fun q hq r hr => h.inj q (hs q hq) r (hs r hr), fun q hq r hr => h.one q (hs q hq) r (hs r hr)⟩
theorem alOne_alloc {nx0 i : Nat} {e : TypeId} (h : p.kind i = .alloc e) : alOne p T nx0 i = [(nx0 + i, .cells (zcells T e) (some e))] := by simp [alOne, h]
theorem alOne_not {nx0 i : Nat} (h : (p.kind i).isAl = false) : alOne p T nx0 i = [] := by
  unfold alOne
  cases hk : p.kind i <;> simp_all [DKind.isAl]
theorem mem_alTo_turn {nx0 : Nat} {D : Nat → Bool} {i : Nat} {q : Nat × AObj} (h : q ∈ alTo p T nx0 (fun j => j == i || D j) p.m) :
    q ∈ alOne p T nx0 i ∨ ∃ j, j < p.m ∧ j ≠ i ∧ ((D j = true ∧ q ∈ alOne p T nx0 j) ∨ (D j = false ∧ q ∈ alPre p j)) := by
  rw [mem_alTo] at h
  obtain ⟨j, h1, h2⟩ := h
  by_cases e : j = i
  · subst e
    rcases h2 with ⟨_, h2⟩ | ⟨h2, _⟩
    · exact .inl h2
    · simp at h2
  · have hf : (j == i) = false := by simpa using e
    simp only [hf, Bool.false_or] at h2
    exact .inr ⟨j, h1, e, h2⟩
theorem mem_alTo_set {nx0 : Nat} {D : Nat → Bool} {i : Nat} {q : Nat × AObj} (hi : i < p.m) (hD : D i = false) (hp : alPre p i = []) :
    q ∈ alTo p T nx0 (fun j => j == i || D j) p.m ↔ q ∈ alTo p T nx0 D p.m ∨ q ∈ alOne p T nx0 i := by
  constructor
  · intro h
    rcases mem_alTo_turn h with h1 | ⟨j, h1, _, h2⟩
    · exact .inr h1
    · exact .inl (mem_alTo.2 ⟨j, h1, h2⟩)
  · intro h
    rw [mem_alTo] at h ⊢
    rcases h with ⟨j, h1, h2⟩ | h
    · by_cases e : j = i
      · subst e
        rcases h2 with ⟨h2, _⟩ | ⟨_, h2⟩
        · rw [hD] at h2; cases h2
        · rw [hp] at h2; simp at h2
      · have hf : (j == i) = false := by simpa using e
        exact ⟨j, h1, by simpa only [hf, Bool.false_or] using h2⟩
    · exact ⟨i, hi, .inl ⟨by simp, h⟩⟩
theorem alPre_not {i : Nat} (h : ∀ q nw, p.kind i ≠ .side (some q) nw) : alPre p i = [] := by
  unfold alPre
  split
  · rename_i q nw hk; exact absurd hk (h _ _)
  · rfl
theorem effs_set {D : Nat → Bool} {i : Nat} (hD : D i = false) (hi : i < p.m) : effs p (fun j => j == i || D j) = effs p D + (if (p.kind i).isEff then 1 else 0) := by
  unfold effs
  cases he : (p.kind i).isEff with
  | true =>
    simp only [if_true]
    rw [← cntTo_set (f := fun j => D j && (p.kind j).isEff) (i := i) (by simp [hD]) hi]
    refine cntTo_congr fun j hj => ?_
    by_cases e : j = i
    · subst e; simp [he]
    · have : (j == i) = false := by simpa using e
      simp [this]
  | false =>
    simp only [Bool.false_eq_true, if_false, Nat.add_zero]
    refine cntTo_congr fun j hj => ?_
    by_cases e : j = i
    · subst e; simp [he]
    · have : (j == i) = false := by simpa using e
      simp [this]
def tmCut (ops : Array Oper) (o : Oper) (tm : List AV) (us : List Value) : Nat → List AV
  | 0 => []
  | n + 1 => tmCut ops o tm us n ++ [if n ∈ onames ops o then tm.getD n aundef else .raw (us.getD n undef)]
theorem tmCut_get {o : Oper} {tm : List AV} {us : List Value} : ∀ {n t : Nat}, t < n → (tmCut ops o tm us n)[t]? = some (if t ∈ onames ops o then tm.getD t aundef else .raw (us.getD t undef))
  | 0, t, h => by omega
  | n + 1, t, h => by
    have hl : ∀ n, (tmCut ops o tm us n).length = n := by
      intro n
      induction n with
      | zero => rfl
      | succ n ih => simp [tmCut, ih]
    simp only [tmCut]
    by_cases e : t = n
    · subst e
      rw [List.getElem?_append_right (by rw [hl]; omega), hl, Nat.sub_self]
      rfl
    · rw [List.getElem?_append_left (by rw [hl]; omega)]
      exact tmCut_get (by omega)
theorem tmCut_length {o : Oper} {tm : List AV} {us : List Value} : ∀ n, (tmCut ops o tm us n).length = n
  | 0 => rfl
  | n + 1 => by simp [tmCut, tmCut_length n]
theorem RVs_of_get {K : Know} : ∀ {l : List AV} {us : List Value}, l.length = us.length → (∀ (i : Nat) (x : AV) (u : Value), l[i]? = some x → us[i]? = some u → RV K x u) → RVs K l us
  | [], [], _, _ => .nil
  | [], _ :: _, h, _ => by simp at h
  | _ :: _, [], h, _ => by simp at h
  | x :: xs, u :: us, h, hg => .cons _ _ _ _ (hg 0 x u rfl rfl) (RVs_of_get (by simpa using h) fun i x u h1 h2 => hg (i + 1) x u (by simpa using h1) (by simpa using h2))
theorem Inv.side (h : DrawOk P T ops p tm0 s0) {K0 K : Know} {w0 w : World} {D : Nat → Bool} {act : Act} {i : Nat} {o : Oper} (hn : DNext ops p D i o)
    (hv : Inv T ops p tm0 s0 K0 w0 D K act w) {Qx : Exit → Act → World → Prop} {next : Act → World → Prop} {pre : Option (Nat × AObj)} {post : Option AObj} (hkind : p.kind i = .side pre post)
    (heff : effs p (fun j => j == i || D j) = effs p D)
    (hput : tmTo ops p tm0 (fun j => j == i || D j) p.m = aput (tmTo ops p tm0 D p.m) o.dst (p.res i))
    (hag : Agree ops p tm0 i o (tmTo ops p tm0 D p.m))
    (hst : ∀ tm, Agree ops p tm0 i o tm → awanted ops tm o = some true ∧ (∀ t ∈ onames ops o, low (s0.nx + i) (tm.getD t aundef)) ∧
      AOpR P o tm (small pre (s0.nx + i)) fun v t => v = p.res i ∧ t.nx ≤ s0.nx + i + 1 ∧ ∀ ob, post = some ob → t.get (s0.nx + i) = some ob)
    (hk : ∀ K' act' w', Inv T ops p tm0 s0 K0 w0 (fun j => j == i || D j) K' act' w' → next act' w') : o.wp P act w next Qx := by
  have hlow := (hst _ hag).2.1
  generalize hn0 : s0.nx + i = n at hst hlow
  generalize htm : tmTo ops p tm0 D p.m = tm at hput hag hlow
  have hra := hv.ra
  rw [htm] at hra
  have hN := hv.wr.fresh
  have hlen : tm.length = act.tmps.toList.length := hra.1.length
  -- the temporaries that are named
  have hagr : Agree ops p tm0 i o (tmCut ops o tm act.tmps.toList tm.length) := by
    intro t ht
    rw [← hag t ht]
    rcases Nat.lt_or_ge t tm.length with q | q
    · rw [tmCut_get q, if_pos ht, List.getD_eq_getElem?_getD, List.getElem?_eq_getElem q]; rfl
    · rw [List.getElem?_eq_none q, List.getElem?_eq_none (by rw [tmCut_length]; exact q)]
  have hrar : RA (K.cut n) (tmCut ops o tm act.tmps.toList tm.length) act := by
    refine ⟨RVs_of_get (by rw [tmCut_length]; exact hlen) fun t x u h1 h2 => ?_, hra.2.1, hra.2.2⟩
    have q : t < tm.length := by
      have := (List.getElem?_eq_some_iff.1 h1).1
      rwa [tmCut_length] at this
    rw [tmCut_get q] at h1
    have hu : act.tmps.toList.getD t undef = u := by rw [List.getD_eq_getElem?_getD, h2]; rfl
    split at h1
    · rename_i ht
      cases h1
      have := (hra.1.getD t).cut hN (hlow t ht)
      rwa [hu] at this
    · cases h1
      rw [hu]
      exact .raw _
  -- the block that is taken
  have hpre : ∀ b ob, pre = some (b, ob) → ∃ g base, K.phi b = some (g, base) ∧ WO K w g base ob ∧ ¬ owned K (p.core (effs p D)) g ∧ (∀ i, K.frz g i = none) ∧ b < s0.nx ∧ lowO n ob ∧ K0.phi b = some (g, base) ∧ s0.get b = some ob := by
    rintro b ob rfl
    obtain ⟨g, base, h1, h2, h3, h4⟩ := hv.al.at_ (b, ob) (mem_alTo.2 ⟨i, hn.lt, .inr ⟨hn.new, by simp [alPre, hkind]⟩⟩)
    obtain ⟨h5, h6⟩ := h.pre i b ob post hn.lt hkind
    obtain ⟨g0, base0, h7, h8⟩ := hv.wr0.own b ob h5
    have hb := (hv.wr0.bnd _ _ _ h7).1
    have h9 := hv.ext.le.phi _ _ h7
    simp only at h1
    rw [h1] at h9; cases h9
    exact ⟨g, base, h1, h2, h3, h4, hb, h8.low (n := n) (fun b q e => by have := (hv.wr0.bnd b q.1 q.2 e).1; omega), h7, h5⟩
  have hcut : ∀ b, b < n → (K.cut n).phi b = K.phi b := fun b hb => by simp only [Know.cut]; rw [if_pos hb]
  have hown : ∀ g, owned (K.cut n) (small pre n) g → ∃ b ob base, pre = some (b, ob) ∧ K.phi b = some (g, base) := by
    rintro g ⟨b, ob, base, h1, h2⟩
    have h3 := get_small h1
    obtain ⟨g', base', h4, _, _, _, h5, _⟩ := hpre b ob h3
    rw [hcut b (by omega)] at h2
    exact ⟨b, ob, base, h3, h2⟩
  have hwr : WR (K.cut n) (small pre n) w := by
    refine ⟨hv.wr.frz, hv.wr.dim, ?_, ?_, ?_, ?_⟩
    · intro b ob e
      obtain ⟨g, base, h1, h2, h3, h4, h5, h6, _⟩ := hpre b ob (get_small e)
      exact ⟨g, base, by rw [hcut b (by omega)]; exact h1, h2.cut hN h6⟩
    · intro b b' ob ob' g base base' e e' _ _
      have h1 := get_small e
      have h2 := get_small e'
      rw [h1] at h2; cases h2; rfl
    · intro b ob g base e e2 j
      obtain ⟨g', base', h1, h2, h3, h4, h5, h6, _⟩ := hpre b ob (get_small e)
      rw [hcut b (by omega), h1] at e2
      cases e2
      exact h4 j
    · intro b g base e
      simp only [Know.cut] at e
      split at e
      · rename_i hb
        rw [nx_small]
        exact ⟨hb, (hv.wr.bnd _ _ _ e).2⟩
      · cases e
  refine (hst _ hagr).2.2 (K.cut n) w act next Qx hwr hrar ?_
  rintro v u K' t w' hvu hwr' hext ⟨rfl, hnx, hpost⟩
  have hfresh : K.phi n = none := by rw [← hn0]; exact hv.fresh i hn.lt hn.new
  have hcn : n < (p.core (effs p D)).nx := by have := hv.nx; have := hn.lt; omega
  -- what is known behind it
  have hle : K.le ⟨fun x => if x = n then K'.phi n else K.phi x, K'.frz, K'.dim⟩ := by
    refine ⟨fun b q e => ?_, fun g o u e => hext.le.frz g o u e, fun g m e => hext.le.dim g m e⟩
    have : b ≠ n := by rintro rfl; rw [hfresh] at e; cases e
    show (if b = n then K'.phi n else K.phi b) = some q
    rw [if_neg this]; exact e
  have hle' : K'.le ⟨fun x => if x = n then K'.phi n else K.phi x, K'.frz, K'.dim⟩ := by
    refine ⟨fun b q e => ?_, fun _ _ _ e => e, fun _ _ e => e⟩
    show (if b = n then K'.phi n else K.phi b) = some q
    by_cases hb : b = n
    · rw [if_pos hb, ← hb]; exact e
    · rw [if_neg hb]
      have h1 := (hwr'.bnd b q.1 q.2 e).1
      have h2 := hext.phi b (by rw [nx_small]; omega)
      rw [e, hcut b (by omega)] at h2
      exact h2.symm
  generalize hK2 : (⟨fun x => if x = n then K'.phi n else K.phi x, K'.frz, K'.dim⟩ : Know) = K2 at hle hle'
  have hphi : ∀ b, b ≠ n → K2.phi b = K.phi b := fun b hb => by rw [← hK2]; exact if_neg hb
  have hphin : K2.phi n = K'.phi n := by rw [← hK2]; exact if_pos rfl
  have hfrz2 : K2.frz = K'.frz := by rw [← hK2]
  have hdim2 : K2.dim = K'.dim := by rw [← hK2]
  have hsame : ∀ g, g < w.heap.size → ¬ (∃ b ob base, pre = some (b, ob) ∧ K.phi b = some (g, base)) → w'.heap[g]? = w.heap[g]? := fun g hg hno => hext.block g hg fun ho => hno (hown g ho)
  have hcore : ∀ b ob g base, (p.core (effs p D)).get b = some ob → K.phi b = some (g, base) → ¬ (∃ b ob base, pre = some (b, ob) ∧ K.phi b = some (g, base)) := by
    rintro b ob g base e1 e2 ⟨b', ob', base', e3, e4⟩
    obtain ⟨g', base'', h1, _, h3, _⟩ := hpre b' ob' e3
    rw [h1] at e4; cases e4
    exact h3 ⟨b, ob, base, e1, e2⟩
  have hcn2 : ∀ b ob, (p.core (effs p D)).get b = some ob → b ≠ n := by
    rintro b ob e rfl
    obtain ⟨g, base, h1, _⟩ := hv.wr.own _ _ e
    rw [hfresh] at h1; cases h1
  have hwr2 : WR K2 (p.core (effs p D)) w' := by
    refine ⟨by rw [hfrz2]; exact hwr'.frz, by rw [hdim2]; exact hwr'.dim, ?_, ?_, ?_, ?_⟩
    · intro b ob e
      obtain ⟨g, base, h1, h2⟩ := hv.wr.own b ob e
      exact ⟨g, base, hle.phi _ _ h1, (h2.mono hle).of_block (hsame g (hv.wr.bnd _ _ _ h1).2 (hcore b ob g base e h1))⟩
    · intro b b' ob ob' g j j' e e' q q'
      rw [hphi b (hcn2 b ob e)] at q
      rw [hphi b' (hcn2 b' ob' e')] at q'
      exact hv.wr.inj b b' ob ob' g j j' e e' q q'
    · intro b ob g base e q j
      rw [hphi b (hcn2 b ob e)] at q
      rw [hfrz2]
      have := hext.frz g (hv.wr.bnd _ _ _ q).2 (fun ho => hcore b ob g base e q (hown g ho)) j
      rw [this]
      exact hv.wr.sep b ob g base e q j
    · intro b g base q
      by_cases hb : b = n
      · subst hb
        rw [hphin] at q
        exact ⟨hcn, (hwr'.bnd _ _ _ q).2⟩
      · rw [hphi b hb] at q
        have := hv.wr.bnd _ _ _ q
        have := hext.size
        omega
  -- blocks that lie aside
  have hold : ∀ q, (∃ j, j < p.m ∧ j ≠ i ∧ ((D j = true ∧ q ∈ alOne p T s0.nx j) ∨ (D j = false ∧ q ∈ alPre p j))) →
      q ∈ alTo p T s0.nx D p.m ∧ ∀ b ob, pre = some (b, ob) → q.1 ≠ b := by
    rintro q ⟨j, h1, h2, h3⟩
    refine ⟨mem_alTo.2 ⟨j, h1, h3⟩, ?_⟩
    rintro b ob hb rfl
    obtain ⟨g, base, _, _, _, _, h5, _, _, _⟩ := hpre _ ob hb
    rcases h3 with ⟨_, h3⟩ | ⟨_, h3⟩
    · have : q.1 = s0.nx + j := by
        unfold alOne at h3
        split at h3
        · rw [List.mem_singleton] at h3; rw [h3]
        · rw [List.mem_singleton] at h3; rw [h3]
        · simp at h3
      omega
    · unfold alPre at h3
      split at h3
      · rename_i q' nw hkj
        rw [List.mem_singleton] at h3
        subst h3
        have := h.pre1 j i q.1 q.2 nw ob post h1 hn.lt hkj (by rw [hkind, hb])
        exact h2 this
      · simp at h3
  have hold2 : ∀ q, q ∈ alTo p T s0.nx D p.m → (∀ b ob, pre = some (b, ob) → q.1 ≠ b) → ∃ g base, K.phi q.1 = some (g, base) ∧ K2.phi q.1 = some (g, base) ∧ WO K2 w' g base q.2 ∧ ¬ owned K2 (p.core (effs p D)) g ∧
      (∀ i, K2.frz g i = none) ∧ g < w.heap.size ∧ ¬ (∃ b ob base, pre = some (b, ob) ∧ K.phi b = some (g, base)) := by
    intro q hq hne
    obtain ⟨g, base, h1, h2, h3, h4⟩ := hv.al.at_ q hq
    have hno : ¬ (∃ b ob base, pre = some (b, ob) ∧ K.phi b = some (g, base)) := by
      rintro ⟨b, ob, base', e3, e4⟩
      have hb : (b, ob) ∈ alTo p T s0.nx D p.m := mem_alTo.2 ⟨i, hn.lt, .inr ⟨hn.new, by simp [alPre, hkind, e3]⟩⟩
      exact hne b ob e3 (hv.al.inj q hq (b, ob) hb g base base' h1 e4)
    have hg := (hv.wr.bnd _ _ _ h1).2
    refine ⟨g, base, h1, hle.phi _ _ h1, (h2.mono hle).of_block (hsame g hg hno), ?_, ?_, hg, hno⟩
    · rintro ⟨b, ob, bs, e1, e2⟩
      rw [hphi b (hcn2 b ob e1)] at e2
      exact h3 ⟨b, ob, bs, e1, e2⟩
    · intro j
      rw [hfrz2, hext.frz g hg (fun ho => hno (hown g ho)) j]
      exact h4 j
  have hnew : ∀ q ∈ alOne p T s0.nx i, q.1 = n ∧ ∃ g base, K2.phi q.1 = some (g, base) ∧ WO K2 w' g base q.2 ∧ ¬ owned K2 (p.core (effs p D)) g ∧ (∀ i, K2.frz g i = none) ∧
      (w.heap.size ≤ g ∨ ∃ b ob base, pre = some (b, ob) ∧ K.phi b = some (g, base)) := by
    intro q hq
    unfold alOne at hq
    rw [hkind] at hq
    cases hpo : post with
    | none => rw [hpo] at hq; simp at hq
    | some ob =>
      rw [hpo] at hq
      simp only [List.mem_singleton] at hq
      rw [hn0] at hq
      subst hq
      have hget := hpost ob hpo
      obtain ⟨g, base, h1, h2⟩ := hwr'.own n ob hget
      have hg : w.heap.size ≤ g ∨ ∃ b ob base, pre = some (b, ob) ∧ K.phi b = some (g, base) := by
        rcases hext.own g ⟨n, ob, base, hget, h1⟩ with h3 | h3
        · exact .inr (hown g h3)
        · exact .inl h3
      refine ⟨rfl, g, base, by rw [hphin]; exact h1, h2.mono hle', ?_, ?_, hg⟩
      · rintro ⟨b, ob', bs, e1, e2⟩
        rw [hphi b (hcn2 b ob' e1)] at e2
        rcases hg with hg | hg
        · have := (hv.wr.bnd _ _ _ e2).2; omega
        · exact hcore b ob' g bs e1 e2 hg
      · intro j
        rw [hfrz2]
        exact hwr'.sep n ob g base hget h1 j
  refine hk K2 _ w' ⟨?_, ?_, ?_, ?_, ?_, ?_, hv.wr0, ?_⟩
  · rw [heff]; exact hwr2
  · rw [heff]
    refine ⟨?_, ?_, ?_⟩
    · intro q hq
      rcases mem_alTo_turn hq with h1 | h1
      · obtain ⟨_, g, base, h2, h3, h4, h5, _⟩ := hnew q h1
        exact ⟨g, base, h2, h3, h4, h5⟩
      · obtain ⟨h2, h3⟩ := hold q h1
        obtain ⟨g, base, _, h4, h5, h6, h7, _⟩ := hold2 q h2 h3
        exact ⟨g, base, h4, h5, h6, h7⟩
    · intro q hq r hr g j j' e e'
      rcases mem_alTo_turn hq with h1 | h1 <;> rcases mem_alTo_turn hr with h2 | h2
      · rw [(hnew q h1).1, (hnew r h2).1]
      · obtain ⟨_, g1, b1, q1, _, _, _, q2⟩ := hnew q h1
        obtain ⟨h3, h4⟩ := hold r h2
        obtain ⟨g2, b2, _, r1, _, _, _, r2, r3⟩ := hold2 r h3 h4
        rw [e] at q1; cases q1
        rw [e'] at r1; cases r1
        rcases q2 with q2 | q2
        · omega
        · exact absurd q2 r3
      · obtain ⟨_, g1, b1, q1, _, _, _, q2⟩ := hnew r h2
        obtain ⟨h3, h4⟩ := hold q h1
        obtain ⟨g2, b2, _, r1, _, _, _, r2, r3⟩ := hold2 q h3 h4
        rw [e'] at q1; cases q1
        rw [e] at r1; cases r1
        rcases q2 with q2 | q2
        · omega
        · exact absurd q2 r3
      · obtain ⟨h3, h4⟩ := hold q h1
        obtain ⟨g1, b1, q0, q1, _⟩ := hold2 q h3 h4
        obtain ⟨h3', h4'⟩ := hold r h2
        obtain ⟨g2, b2, r0, r1, _⟩ := hold2 r h3' h4'
        rw [e] at q1; cases q1
        rw [e'] at r1; cases r1
        exact hv.al.inj q h3 r h3' _ _ _ q0 r0
    · intro q hq r hr e
      rcases mem_alTo_turn hq with h1 | h1 <;> rcases mem_alTo_turn hr with h2 | h2
      · unfold alOne at h1 h2
        rw [hkind] at h1 h2
        cases hpo : post with
        | none => rw [hpo] at h1; simp at h1
        | some ob =>
          rw [hpo] at h1 h2
          simp only [List.mem_singleton] at h1 h2
          rw [h1, h2]
      · have h3 := (hnew q h1).1
        obtain ⟨h4, h5⟩ := hold r h2
        obtain ⟨g2, b2, r0, _⟩ := hold2 r h4 h5
        rw [← e, h3, hfresh] at r0; cases r0
      · have h3 := (hnew r h2).1
        obtain ⟨h4, h5⟩ := hold q h1
        obtain ⟨g2, b2, r0, _⟩ := hold2 q h4 h5
        rw [e, h3, hfresh] at r0; cases r0
      · exact hv.al.one q (hold q h1).1 r (hold r h2).1 e
  · rw [hput]
    exact (hra.mono hle).put (hvu.mono hle') o.dst
  · intro j hj hjD
    simp only [Bool.or_eq_false_iff] at hjD
    have hne : j ≠ i := by simpa using hjD.1
    rw [hphi _ (by omega)]
    exact hv.fresh j hj hjD.2
  · rw [heff]
    have hx := hv.ext
    have hno0 : ∀ g, ¬ owned K0 s0 g → ¬ (∃ b ob base, pre = some (b, ob) ∧ K.phi b = some (g, base)) := by
      rintro g hno ⟨b, ob, base, e1, e2⟩
      obtain ⟨g', base', h1, _, _, _, _, _, h2, h3⟩ := hpre b ob e1
      rw [h1] at e2; cases e2
      exact hno ⟨b, ob, base, h3, h2⟩
    refine ⟨hx.le.trans hle, fun b hb => ?_, hx.nx, hext.os.trans hx.os, hext.tape.trans hx.tape, hext.output.trans hx.output, Nat.le_trans hx.size hext.size, ?_, ?_, ?_⟩
    · rw [hphi b (by omega)]; exact hx.phi b hb
    · intro g hg hno
      rw [hsame g (Nat.lt_of_lt_of_le hg hx.size) (hno0 g hno)]
      exact hx.block g hg hno
    · rintro g ⟨b, ob, base, e1, e2⟩
      rw [hphi b (hcn2 b ob e1)] at e2
      exact hx.own g ⟨b, ob, base, e1, e2⟩
    · intro g hg hno j
      rw [hfrz2, hext.frz g (Nat.lt_of_lt_of_le hg hx.size) (fun ho => hno0 g hno (hown g ho)) j]
      exact hx.frz g hg hno j
  · intro q hq g j e
    rcases mem_alTo_turn hq with h1 | h1
    · obtain ⟨_, g1, b1, q1, _, _, _, q2⟩ := hnew q h1
      rw [e] at q1; cases q1
      rcases q2 with q2 | ⟨b, ob, base, e1, e2⟩
      · exact .inr (Nat.le_trans hv.ext.size q2)
      · obtain ⟨g', base', h1, _, _, _, _, _, h2, h3⟩ := hpre b ob e1
        rw [h1] at e2; cases e2
        exact .inl ⟨b, ob, base, h3, h2⟩
    · obtain ⟨h3, h4⟩ := hold q h1
      obtain ⟨g1, b1, q0, q1, _⟩ := hold2 q h3 h4
      rw [e] at q1; cases q1
      exact hv.new q h3 _ _ q0
  · rw [heff]; exact hv.nx
theorem Inv.step (hT : T.Ok P) (h : DrawOk P T ops p tm0 s0) {K0 K : Know} {w0 w : World} {D : Nat → Bool} {act : Act} {i : Nat} {o : Oper} (hD : DSet ops p D) (hn : DNext ops p D i o)
    (hv : Inv T ops p tm0 s0 K0 w0 D K act w) {Qx : Exit → Act → World → Prop} {next : Act → World → Prop}
    (hk : ∀ K' act' w', Inv T ops p tm0 s0 K0 w0 (fun j => j == i || D j) K' act' w' → next act' w') : wpOp P ops Qx i next act w := by
  have hag := hn.agree h hD
  have hput := hn.put h hD
  have heff := effs_set (p := p) hn.new hn.lt
  have hst := h.step i o hn.lt hn.get
  -- behind an operation that is no new variable
  have stay : (p.kind i).isAl = false → ∀ (v : AV) (u : Value) (K' : Know) (w' : World), RV K' v u → v = p.res i →
      WR K' (p.core (effs p (fun j => j == i || D j))) w' → Ext K (p.core (effs p D)) w K' (p.core (effs p (fun j => j == i || D j))) w' → next (act.put o.dst u) w' := by
    intro hal v u K' w' hvu hvi hwr hext
    subst hvi
    have hmem : ∀ q, q ∈ alTo p T s0.nx (fun j => j == i || D j) p.m ↔ q ∈ alTo p T s0.nx D p.m := by
      intro q
      rw [mem_alTo_set hn.lt hn.new (alPre_not fun q nw e => by rw [e] at hal; cases hal), alOne_not hal]
      simp
    refine hk K' _ w' ⟨hwr, ?_, ?_, ?_, hv.ext.trans hext, ?_, hv.wr0, Nat.le_trans hv.nx hext.nx⟩
    · exact (hv.al.step hv.wr hext).subset fun q hq => (hmem q).1 hq
    · rw [hput]
      exact (hv.ra.mono hext.le).put hvu o.dst
    · intro j hj hjD
      simp only [Bool.or_eq_false_iff] at hjD
      rw [hext.phi (s0.nx + j) (by have := hv.nx; omega)]
      exact hv.fresh j hj hjD.2
    · intro q hq g j hp
      have hq' := (hmem q).1 hq
      obtain ⟨g', base, h1, _⟩ := hv.al.at_ q hq'
      have := hext.le.phi _ _ h1
      rw [hp] at this; cases this
      exact hv.new q hq' _ _ h1
  unfold wpOp
  rw [hn.get]
  unfold StepOk at hst
  cases hkind : p.kind i with
  | quiet =>
    rw [hkind] at hst heff stay
    simp only [DKind.isEff, Bool.false_eq_true, if_false, Nat.add_zero, DKind.isAl] at hst heff stay
    obtain ⟨hw, ho⟩ := hst (effs p D) (hn.lo h hD) (hn.hi h hD) _ hag
    simp only [awanted_sound hv.ra hw, if_true]
    left
    refine ho K w act _ _ hv.wr hv.ra ?_
    rintro v u K' s' w' h1 h2 h3 ⟨rfl, rfl⟩
    rw [heff] at stay
    exact stay trivial _ u K' w' h1 rfl h2 h3
  | free =>
    rw [hkind] at hst heff stay
    simp only [DKind.isEff, Bool.false_eq_true, if_false, Nat.add_zero, DKind.isAl] at hst heff stay
    obtain ⟨hw, ho⟩ := hst (p.core (effs p D)) _ hag
    simp only [awanted_sound hv.ra hw, if_true]
    left
    refine ho K w act _ _ hv.wr hv.ra ?_
    rintro v u K' s' w' h1 h2 h3 ⟨rfl, rfl⟩
    rw [heff] at stay
    exact stay trivial _ u K' w' h1 rfl h2 h3
  | eff =>
    rw [hkind] at hst heff stay
    simp only [DKind.isEff, if_true, DKind.isAl] at hst heff stay
    have hlo := hn.eff h hD (by rw [hkind]; rfl)
    obtain ⟨hw, ho⟩ := hst _ hag
    rw [← hlo] at ho
    simp only [awanted_sound hv.ra hw, if_true]
    left
    refine ho K w act _ _ hv.wr hv.ra ?_
    rintro v u K' s' w' h1 h2 h3 ⟨rfl, rfl⟩
    rw [heff] at stay
    exact stay trivial _ u K' w' h1 rfl h2 h3
  | off =>
    rw [hkind] at hst heff stay
    simp only [DKind.isEff, Bool.false_eq_true, if_false, Nat.add_zero, DKind.isAl] at hst heff stay
    obtain ⟨hw, hr⟩ := hst _ hag
    simp only [awanted_sound hv.ra hw, Bool.false_eq_true, if_false]
    rw [heff] at stay
    exact stay trivial aundef undef K w .undef hr.symm hv.wr (.refl _ _ _)
  | alloc e =>
    rw [hkind] at hst heff
    simp only [DKind.isEff, Bool.false_eq_true, if_false, Nat.add_zero] at hst heff
    obtain ⟨hg, hop, hres, ti, hti, hraw⟩ := hst
    have hw : Region.wanted o (yielded ops act.tmps) = true := by simp [Region.wanted, hg]
    simp only [hw, if_true]
    left
    obtain ⟨inf, d, e1, e2, e3, e4, e5, e6, e8, e7⟩ := hT.ty e ti hti
    have hfresh := hv.fresh i hn.lt hn.new
    have hpre0 : alPre p i = [] := alPre_not fun q nw e => by rw [hkind] at e; cases e
    have hcells := (RV.ofV K ti.zero).cells (AV.israw_false hraw)
    have hzc : zcells T e = (AV.ofV ti.zero).cells := by simp [zcells, hti]
    have hle0 : K.le (K.add (s0.nx + i) w.heap.size (some ti.zero.cells.size)) := by
      refine ⟨?_, fun _ _ _ e => e, ?_⟩
      · intro x q hx
        have hne : x ≠ s0.nx + i := by rintro rfl; rw [hfresh] at hx; cases hx
        simp [Know.add, hne, hx]
      · intro g n hx
        have hne : g ≠ w.heap.size := by have := hv.wr.dim_lt hx; omega
        simp [Know.add, hne, hx]
    have hside := hv.wr.side (b := s0.nx + i) (ob := .cells ti.zero.cells e) (o := .cells (zcells T e) (some e)) (d := some ti.zero.cells.size)
      (w' := { w with heap := w.heap.push (.cells ti.zero.cells e) }) hv.al hfresh (by have := hv.nx; have := hn.lt; omega) ⟨rfl, rfl, rfl⟩ rfl
      ⟨ti.zero.cells, e, 0, 0, [], ti.zero.cells.toList, [], by simp, (fun T0 h => by cases h; exact ⟨rfl, rfl⟩), by intro j _; omega, by simp, rfl, by rw [hzc]; exact hcells.mono hle0, by simp [Know.add]⟩
      (fun n hn => by cases hn; exact ⟨_, _, _, rfl, rfl⟩)
    obtain ⟨hwr, hal, hle⟩ := hside
    have hrun : (execOp act.eval o).run P w = .ok (.value (.pointer (some ⟨w.heap.size, 0, none⟩))) { w with heap := w.heap.push (.cells ti.zero.cells e) } := by
      unfold execOp
      simp [hop, Instr.alloc, zeroValue, typeInfo, e1, e6, newVar, newRow]
    unfold Oper.wp
    rw [hrun]
    simp only [Oper.upon]
    have hphi0 : (K.add (s0.nx + i) w.heap.size (some ti.zero.cells.size)).phi (s0.nx + i) = some (w.heap.size, 0) := by simp [Know.add]
    refine hk (K.add (s0.nx + i) w.heap.size (some ti.zero.cells.size)) _ _ ⟨?_, ?_, ?_, ?_, ?_, ?_, hv.wr0, ?_⟩
    · rw [heff]; exact hwr
    · rw [heff]
      refine hal.subset fun q hq => ?_
      rw [mem_alTo_set hn.lt hn.new hpre0, alOne_alloc hkind] at hq
      rcases hq with hq | hq
      · exact List.mem_cons_of_mem _ hq
      · rw [List.mem_singleton] at hq; rw [hq]; exact List.mem_cons_self ..
    · rw [hput, hres]
      exact (hv.ra.mono hle).put (.ptr _ 0 _ _ hphi0) o.dst
    · intro j hj hjD
      simp only [Bool.or_eq_false_iff] at hjD
      have hne : j ≠ i := by simpa using hjD.1
      show (if s0.nx + j = s0.nx + i then _ else K.phi (s0.nx + j)) = none
      rw [if_neg (by omega)]
      exact hv.fresh j hj hjD.2
    · rw [heff]
      have hx := hv.ext
      have hown : ∀ g, owned (K.add (s0.nx + i) w.heap.size (some ti.zero.cells.size)) (p.core (effs p D)) g → owned K (p.core (effs p D)) g := by
        rintro g ⟨x, ox, base, q1, q2⟩
        refine ⟨x, ox, base, q1, ?_⟩
        obtain ⟨g', base', r1, _⟩ := hv.wr.own x ox q1
        have := hle.phi _ _ r1
        rw [q2] at this; cases this
        exact r1
      refine ⟨hx.le.trans hle, fun b hb => ?_, hx.nx, hx.os, hx.tape, hx.output, ?_, ?_, ?_, ?_⟩
      · show (if b = s0.nx + i then _ else K.phi b) = _
        rw [if_neg (by omega)]
        exact hx.phi b hb
      · have := hx.size
        simp only [Array.size_push]; omega
      · intro g hg2 hno
        have := hx.size
        show (w.heap.push _)[g]? = _
        rw [Array.getElem?_push, if_neg (by omega)]
        exact hx.block g hg2 hno
      · intro g ho
        exact hx.own g (hown g ho)
      · exact hx.frz
    · intro q hq g j hp
      rw [mem_alTo_set hn.lt hn.new hpre0, alOne_alloc hkind] at hq
      rcases hq with hq | hq
      · obtain ⟨g', base, h1, _⟩ := hv.al.at_ q hq
        have := hle.phi _ _ h1
        rw [hp] at this; cases this
        exact hv.new q hq _ _ h1
      · rw [List.mem_singleton] at hq
        rw [hq] at hp
        simp only at hp
        rw [hphi0] at hp; cases hp
        exact .inr hv.ext.size
    · rw [heff]; exact hv.nx
  | side pre post =>
    rw [hkind] at hst heff
    simp only [DKind.isEff, Bool.false_eq_true, if_false, Nat.add_zero] at hst heff
    simp only [awanted_sound hv.ra (hst _ hag).1, if_true]
    left
    exact hv.side h hn hkind heff hput hag hst hk
end
end Go.Am
end
