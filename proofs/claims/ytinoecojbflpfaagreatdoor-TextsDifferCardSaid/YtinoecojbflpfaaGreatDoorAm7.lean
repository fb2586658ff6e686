/- Part 7 of a proof: texts of this work, put together. -/
import Derived.Test.YtinoecojbflpfaaGreatDoorAm6
import Derived.Scope
set_option linter.unusedVariables false
set_option linter.unusedSimpArgs false
noncomputable section
namespace Go.Am
open Go
section
variable {P : Program} {T : Tab} {Q : APost} {tm : List AV} {s s0 : AHeap}
def bawp (P : Program) (B : Base) (c : Code) (Q : APost) (tm : List AV) (s : AHeap) : Prop :=
  ∀ K w act, WR K s w → RA K tm act → B.X K s w → c.wp P (B.lift Q) act w
theorem bawp_of_awp {B : Base} {c : Code} (h : awp P c Q tm s) : bawp P B c Q tm s :=
  fun K w act hw ha hx => wp_mono (h K w act hw ha) fun e a w' ⟨K', tm', s', h1, h2, h3, h4⟩ => ⟨K', tm', s', h1, h2, hx.ext h3, h4⟩
theorem bawp_mono {B : Base} {c : Code} {Q' : APost} (h : bawp P B c Q tm s) (hq : ∀ e tm s, Q e tm s → Q' e tm s) : bawp P B c Q' tm s :=
  fun K w act hw ha hx => wp_mono (h K w act hw ha hx) fun e a w' ⟨K', tm', s', h1, h2, h3, h4⟩ => ⟨K', tm', s', h1, h2, h3, hq _ _ _ h4⟩
theorem bawp_gh {B : Base} (hB : B.At s0) {c : Code} (h : Gh s0 (bawp P B c Q) tm s) : bawp P B c Q tm s := by
  intro K w act hw ha hx
  obtain ⟨K', tm', s', h1, h2, h3, h4⟩ := h B hB K w _ hw ha.1 hx
  exact h4 K' w act h1 ⟨h2, ha.2.1, hB.2.2.mono h3.1.le⟩ h3
theorem bawp_seq {B : Base} {x y : Code} (h : bawp P B x (athen (bawp P B y Q) Q) tm s) : bawp P B (.seq x y) Q tm s := by
  intro K w act hw ha hx
  refine wp_seq (wp_mono (h K w act hw ha hx) ?_)
  rintro e a w' ⟨K', tm', s', h1, h2, h3, h4⟩
  cases e with
  | normal => exact h4 K' w' a h1 h2 h3
  | _ => exact ⟨K', tm', s', h1, h2, h3, h4⟩
theorem bawp_cond {B : Base} {c : Operand} {x y : Code} {t : Bool} (hc : aev tm c = .bool t) (h : bawp P B (if t then x else y) Q tm s) : bawp P B (.cond c x y) Q tm s := by
  intro K w act hw ha hx
  have := ha.eval c
  rw [hc] at this
  exact wp_cond this.bool_inv (h K w act hw ha hx)
theorem bawp_block {B : Base} {id : Nat} {c : Code} (h : bawp P B c (ablock id Q) tm s) : bawp P B (.block id c) Q tm s := by
  intro K w act hw ha hx
  refine wp_block (wp_mono (h K w act hw ha hx) ?_)
  rintro e a w' ⟨K', tm', s', h1, h2, h3, h4⟩
  cases e with
  | exit id' =>
    simp only [Exit.inBlock]
    split
    · rename_i he
      simp only [ablock, he, if_true] at h4
      exact ⟨K', tm', s', h1, h2, h3, h4⟩
    · rename_i he
      simp only [ablock, he, if_false] at h4
      exact ⟨K', tm', s', h1, h2, h3, h4⟩
  | _ => exact ⟨K', tm', s', h1, h2, h3, h4⟩
def brounds (P : Program) (B : Base) (c : Code) (Q : APost) : Nat → List AV → AHeap → Prop
  | 0, _, _ => False
  | n + 1, tm, s => bawp P B c (athen (brounds P B c Q n) Q) tm s
theorem brounds_sound {B : Base} {c : Code} : ∀ (n : Nat) (tm : List AV) (s : AHeap), brounds P B c Q n tm s → ∀ K w act, WR K s w → RA K tm act → B.X K s w → Code.rounds P c (B.lift Q) n act w
  | 0, tm, s, h, K, w, act, hw, ha, hx => h.elim
  | n + 1, tm, s, h, K, w, act, hw, ha, hx => by
    rw [rounds_succ]
    refine wp_mono (h K w act hw ha hx) ?_
    rintro e a w' ⟨K', tm', s', h1, h2, h3, h4⟩
    cases e with
    | normal => exact brounds_sound n tm' s' h4 K' w' a h1 h2 h3
    | _ => exact ⟨K', tm', s', h1, h2, h3, h4⟩
theorem brounds_mono {B : Base} {c : Code} : ∀ (n m : Nat) (tm : List AV) (s : AHeap), n ≤ m → brounds P B c Q n tm s → brounds P B c Q m tm s
  | 0, _, _, _, _, h => h.elim
  | n + 1, 0, _, _, hm, h => by omega
  | n + 1, m + 1, tm, s, hm, h => bawp_mono h fun e tm s hh => by
      cases e with
      | normal => exact brounds_mono n m tm s (by omega) hh
      | _ => exact hh
theorem brounds_gh {B : Base} (hB : B.At s0) {c : Code} : ∀ {n : Nat} {tm : List AV} {s : AHeap}, Gh s0 (brounds P B c Q (n + 1)) tm s → brounds P B c Q (n + 1) tm s :=
  fun {n tm s} h => bawp_gh hB h
theorem bawp_loop {B : Base} (hB : B.At s0) {c : Code} (I : Nat → List AV → AHeap → Prop) (h0 : Gh s0 (fun tm s => ∃ n, I n tm s) tm s)
    (h : ∀ n tm s, I n tm s → bawp P B c (athen (Gh s0 fun tm' s' => ∃ m, m < n ∧ I m tm' s') Q) tm s) : bawp P B (.loop c) Q tm s := by
  have key : ∀ n tm s, I n tm s → brounds P B c Q (n + 2) tm s := by
    intro n
    induction n using Nat.strongRecOn with
    | _ n ih =>
      intro tm s hI
      refine bawp_mono (h n tm s hI) ?_
      intro e tm' s' hh
      cases e with
      | normal =>
        refine brounds_gh hB (n := n) (Gh.mono hh ?_)
        rintro vs t ⟨m, hm, hI'⟩
        exact brounds_mono (m + 2) (n + 1) vs t (by omega) (ih m hm vs t hI')
      | _ => exact hh
  refine bawp_gh hB (h0.mono ?_)
  rintro vs t ⟨n, hI⟩ K w act hw ha hx
  exact wp_loop_rounds (n + 2) (brounds_sound (n + 2) vs t (key n vs t hI) K w act hw ha hx)
def bawpOps (P : Program) (B : Base) (ops : Array Oper) (Q : APost) (l : List Nat) (tm : List AV) (s : AHeap) : Prop :=
  ∀ K w act, WR K s w → RA K tm act → B.X K s w → wpOps P ops (B.lift Q) l act w
theorem bawpOps_nil {B : Base} {ops : Array Oper} (h : Q .normal tm s) : bawpOps P B ops Q [] tm s := fun K w act hw ha hx => ⟨K, tm, s, hw, ha, hx, h⟩
theorem bawpOps_stepG {B : Base} (hB : B.At s0) {ops : Array Oper} {i : Nat} {o : Oper} {rest : List Nat} (ho : ops[i]? = some o) (hw : awanted ops tm o = some true)
    (h : Gh s0 (fun tm s => AOpR P o tm s fun v s' => bawpOps P B ops Q rest (aput tm o.dst v) s') tm s) : bawpOps P B ops Q (i :: rest) tm s := by
  intro K w act hwr ha hx
  simp only [wpOps, ho, awanted_sound ha hw, if_true]
  left
  obtain ⟨K1, tm1, s1, h1, h2, h3, h4⟩ := h B hB K w _ hwr ha.1 hx
  refine h4 K1 w act _ _ h1 ⟨h2, ha.2.1, hB.2.2.mono h3.1.le⟩ ?_
  intro v u K' s' w' hv hw' hext hn
  exact hn K' w' (act.put o.dst u) hw' ((RA.mono hext.le ⟨h2, ha.2.1, hB.2.2.mono h3.1.le⟩).put hv o.dst) (h3.ext hext)
theorem bawpOps_skip {B : Base} {ops : Array Oper} {i : Nat} {o : Oper} {rest : List Nat} (ho : ops[i]? = some o) (hw : awanted ops tm o = some false)
    (h : bawpOps P B ops Q rest (aput tm o.dst aundef) s) : bawpOps P B ops Q (i :: rest) tm s := by
  intro K w act hwr ha hx
  simp only [wpOps, ho, awanted_sound ha hw, Bool.false_eq_true, if_false]
  exact h K w _ hwr (ha.put .undef o.dst) hx
end
section
variable (P : Program) (T : Tab) (s0 : AHeap)
def lfunG (N : List AV → AHeap → Prop) (f : Operand) (args : List Operand) (d : Option Nat) (tm : List AV) (s : AHeap) (fv : AV) (av : List AV) : Prop :=
  fv = aev tm f → av = args.map (aev tm) → Gh s0 (fun tm s => lfun P N (aev tm f) (args.map (aev tm)) s d tm) tm s
def lstepB (N : List AV → AHeap → Prop) (op : Op) (d : Option Nat) (tm : List AV) (s : AHeap) : Prop :=
  match op with
  | .call c => match c.callee with
    | .value f => lfunG P s0 N f c.args.toList d tm s (aev tm f) (c.args.toList.map (aev tm))
    | _ => lmem N (lop T (aev tm) op s) d tm
  | _ => lmem N (lop T (aev tm) op s) d tm
def branchU (v : AV) (w : Bool) (x y : Prop) : Prop := match v with
  | .bool b => branch (some (b == w)) x y
  | .tuple [] => y
  | _ => False
theorem branchU_cases {v : AV} {w : Bool} {x y : Prop} (h : branchU v w x y) : (∃ c, v.bool?.map (· == w) = some c ∧ branch (some c) x y) ∨ (v = aundef ∧ y) := by
  unfold branchU at h
  split at h
  · exact .inl ⟨_, rfl, h⟩
  · exact .inr ⟨rfl, h⟩
  · exact h.elim
def lopsB (Q : APost) : List LOp → List AV → AHeap → Prop
  | [], tm, s => Q .normal tm s
  | o :: r, tm, s => match o.guard with
    | none => lstepB P T s0 (lopsB Q r) o.op o.dst tm s
    | some (t, b) => branchU (aev tm (.tmp t)) b (lstepB P T s0 (lopsB Q r) o.op o.dst tm s) (lopsB Q r (aput tm o.dst aundef) s)
def lloopB (body : APost → List AV → AHeap → Prop) (Q : APost) (tm : List AV) (s : AHeap) : Prop :=
  ∃ (α : Type) (lv : α → List (Nat × AV)) (hp : α → AHeap) (C : α → Prop) (μ : α → Nat) (a : α), C a ∧ To s0 tm s (lv a) (hp a) ∧
    ∀ a tm', C a → tm'.length = tm.length → (∀ p ∈ lv a, aev tm' (.tmp p.1) = p.2) →
      body (athen (fun tm'' s'' => tm''.length = tm.length ∧ ∃ a', C a' ∧ μ a' < μ a ∧ To s0 tm'' s'' (lv a') (hp a')) Q) tm' (hp a)
def _root_.Go.Am.DSt.free (st : DSt) (d : Option Nat) (v : AV) : DSt := ⟨aput st.tm d v, st.cores, st.ress ++ [v], st.kinds ++ [.free]⟩
def ldcall2 (N : DSt → AHeap → Prop) (f : FuncId) (args : List AV) (d : Option Nat) (st : DSt) (s : AHeap) : Prop :=
  (∃ v, (∀ s, ACall P f args s fun v' t' => v' = v ∧ t' = s) ∧ N (st.free d v) s) ∨ (∃ v t, (ACall P f args s fun v' t' => v' = v ∧ t' = t) ∧ N (st.eff d v t) t)
def ldfun (N : DSt → AHeap → Prop) (fv : AV) (av : List AV) (d : Option Nat) (st : DSt) (s : AHeap) : Prop :=
  match fv with
  | .func (.func f) first captured => ldcall2 P N f (first ++ av ++ captured) d st s
  | _ => False
def ldop (N : DSt → AHeap → Prop) (op : Op) (d : Option Nat) (st : DSt) (s : AHeap) : Prop :=
  match lop T (aev st.tm) op s with
  | some (v, t) => N (st.eff d v t) t
  | none => False
theorem _root_.Go.Am.abuildSlice_any {T : Tab} {t : TypeId} {n : Nat} {parts : List (Nat × AV)} {s1 x : AHeap} {v : AV} (h : abuildSlice T true t n parts s1 = some (v, x)) (s : AHeap) : abuildSlice T true t n parts s = some (v, s) := by
  unfold abuildSlice at h ⊢
  split at h
  · cases h
  · split at h
    · split at h
      · cases h
      · split at h
        · cases h
        · rename_i h1
          rw [if_neg h1]
          simp only [if_true] at h ⊢
          split at h
          · rename_i h2
            cases h
            rw [if_pos h2]
          · cases h
    · cases h
def ldbuild (N : DSt → AHeap → Prop) (t : TypeId) (n : Nat) (parts : List (Nat × AV)) (d : Option Nat) (st : DSt) (s : AHeap) : Prop :=
  match abuildSlice T true t n parts .empty with
  | some (v, _) => N (st.free d v) s
  | none => False
def ldstepB (eal : Nat → Bool) (nx0 i : Nat) (g : Bool) (N : DSt → AHeap → Prop) (op : Op) (d : Option Nat) (st : DSt) (s : AHeap) : Prop :=
  match op with
  | .alloc e => match eal i with
    | true => ldop T N (.alloc e) d st s
    | false => match g, T.ty e with
      | false, some ti => (AV.ofV ti.zero).israw = false ∧ N (st.al d e (.ptr (nx0 + i) 0)) s
      | _, _ => False
  | .call c => match c.callee with
    | .value f => ldfun P N (aev st.tm f) (c.args.toList.map (aev st.tm)) d st s
    | _ => match aquiet T (aev st.tm) (.call c) s with
      | some v => N (st.quiet d v) s
      | none => ldop T N (.call c) d st s
  | .load t x => match aev st.tm x with
    | .rptr c => match aload T t (.rptr c) s with
      | some v => N (st.free d v) s
      | none => False
    | y => match aload T t y s with
      | some v => N (st.quiet d v) s
      | none => False
  | .buildSlice t n parts => match eal i, d with
    | true, some x => ldbuild T N t n (parts.toList.map fun p => (p.1, aev st.tm p.2)) (some x) st s
    | _, _ => ldop T N (.buildSlice t n parts) d st s
  | op => match aquiet T (aev st.tm) op s with
    | some v => N (st.quiet d v) s
    | none => ldop T N op d st s
def ldrunB (eal : Nat → Bool) (nx0 : Nat) (N : DSt → AHeap → Prop) : List LOp → Nat → DSt → AHeap → Prop
  | [], _, st, s => N st s
  | o :: r, i, st, s => match o.guard with
    | none => ldstepB P T eal nx0 i false (ldrunB eal nx0 N r (i + 1)) o.op o.dst st s
    | some (t, b) => branchU (aev st.tm (.tmp t)) b (ldstepB P T eal nx0 i true (ldrunB eal nx0 N r (i + 1)) o.op o.dst st s) (ldrunB eal nx0 N r (i + 1) (st.off o.dst) s)
def ldrawB (Q : APost) (ms : List Nat) (l : List LOp) (tm : List AV) (s : AHeap) : Prop :=
  ∃ (eal : Nat → Bool) (dyn : List (Nat × Nat)), ldrunB P T eal s.nx (fun st t =>
    lstat l ms st.kinds (headLen ms 0 0) dyn = true ∧ ldyn T l st tm dyn ∧
      lopsB P T s0 Q (l.drop (headLen ms 0 0)) st.tm (t.upds (lallocs T s.nx st.kinds 0))) (l.take (headLen ms 0 0)) 0 ⟨tm, [bump s (headLen ms 0 0)], [], []⟩ (bump s (headLen ms 0 0))
def ascope (Q : APost) : APost
  | .goto _, _, _ => False
  | e, tm, s => Q e tm s
def lvb : LCode → APost → List AV → AHeap → Prop
  | .skip, Q, tm, s => Q .normal tm s
  | .ops l, Q, tm, s => lopsB P T s0 Q l tm s
  | .draw ms l, Q, tm, s => ldrawB P T s0 Q ms l tm s
  | .seq a b, Q, tm, s => lvb a (athen (lvb b Q) Q) tm s
  | .cond c x y, Q, tm, s => branch (aev tm c).bool? (lvb x Q tm s) (lvb y Q tm s)
  | .block id c, Q, tm, s => lvb c (ablock id Q) tm s
  | .loop c, Q, tm, s => lloopB s0 (lvb c) Q tm s
  | .exit id, Q, tm, s => Q (.exit id) tm s
  | .ret, Q, tm, s => Q .ret tm s
  | .scope c, Q, tm, s => lvb c (ascope Q) tm s
  | .label, Q, tm, s => Q .normal tm s
  | .other c, Q, tm, s => awp P c Q tm s
end
section
variable {P : Program} {T : Tab} {Q : APost} {s0 : AHeap}
theorem lstepB_sound (hT : T.Ok P) {N : List AV → AHeap → Prop} {o : Oper} {tm : List AV} {s : AHeap} (h : lstepB P T s0 N o.op o.dst tm s) :
    Gh s0 (fun tm s => AOpR P o tm s fun v s' => N (aput tm o.dst v) s') tm s := by
  have mem : lmem N (lop T (aev tm) o.op s) o.dst tm → Gh s0 (fun tm s => AOpR P o tm s fun v s' => N (aput tm o.dst v) s') tm s := by
    intro h
    rw [← lop_eq] at h
    unfold lmem at h
    split at h
    · rename_i v s' hv
      exact .now (.op hT hv h)
    · exact h.elim
  unfold lstepB at h
  split at h
  · rename_i c hop
    split at h
    · rename_i f hcal
      refine (h rfl rfl).mono ?_
      intro tm s h
      unfold lfun at h
      split at h
      · rename_i x g first captured hev
        obtain ⟨R, h1, h2⟩ := h
        exact AOpR.call hop hcal hev (h1.mono h2)
      · exact h.elim
    · exact mem h
  · exact mem h
theorem lopsB_sound (hT : T.Ok P) {B : Base} (hB : B.At s0) {ops : Array Oper} : ∀ (rest : List Oper) (l : List LOp) (k : Nat) (tm : List AV) (s : AHeap), ops.toList.drop k = rest → lightOps ops rest = some l →
    lopsB P T s0 Q l tm s → bawpOps P B ops Q (List.range' k rest.length) tm s
  | [], l, k, tm, s, hd, hl, h => by cases hl; exact bawpOps_nil h
  | o :: rest, l, k, tm, s, hd, hl, h => by
    have hk : k < ops.toList.length := by
      rcases Nat.lt_or_ge k ops.toList.length with q | q
      · exact q
      · rw [List.drop_of_length_le q] at hd; cases hd
    have ho : ops[k]? = some o := by
      rw [List.drop_eq_getElem_cons hk] at hd
      have := (List.cons.inj hd).1
      rw [← Array.getElem?_toList, List.getElem?_eq_getElem hk, this]
    have hd' : ops.toList.drop (k + 1) = rest := by
      rw [List.drop_eq_getElem_cons hk] at hd
      exact (List.cons.inj hd).2
    simp only [List.length_cons, List.range'_succ]
    simp only [lightOps] at hl
    split at hl
    · rename_i x l' hx hl'
      cases hl
      have ih := fun tm s (hh : lopsB P T s0 Q l' tm s) => lopsB_sound hT hB rest l' (k + 1) tm s hd' hl' hh
      unfold lightOp at hx
      simp only [lopsB] at h
      split at hx
      · rename_i hg
        cases hx
        simp only at h
        exact bawpOps_stepG hB ho (by simp [awanted, hg]) ((lstepB_sound hT h).mono fun tm s hh => hh.mono fun v s' hh => ih _ _ hh)
      · rename_i j b hg
        split at hx
        · rename_i t ht
          cases hx
          simp only at h
          rcases branchU_cases h with ⟨c, hc0, h⟩ | ⟨hu, h⟩
          · have hc := light_wanted hg ht c hc0
            cases c
            · exact bawpOps_skip ho hc (ih _ _ (h.2 rfl))
            · exact bawpOps_stepG hB ho hc ((lstepB_sound hT (h.1 rfl)).mono fun tm s hh => hh.mono fun v s' hh => ih _ _ hh)
          · exact bawpOps_skip ho (light_undef hg ht hu) (ih _ _ h)
        · cases hx
    · cases hl
theorem ldrunB_sound {ops : Array Oper} {eal : Nat → Bool} {nx0 : Nat} {N : DSt → AHeap → Prop} : ∀ (rest : List Oper) (l : List LOp) (k : Nat) (st : DSt) (s : AHeap), lightOps ops rest = some l → DInv st s k →
    ldrunB P T eal nx0 N l k st s → ∃ st' s', Drun P T ops nx0 rest k st s st' ∧ N st' s' ∧ DInv st' s' (k + rest.length)
  | [], l, k, st, s, hl, hi, h => by cases hl; exact ⟨st, s, rfl, h, hi⟩
  | o :: rest, l, k, st, s, hl, hi, h => by
    simp only [lightOps] at hl
    split at hl
    · rename_i x l' hx hl'
      cases hl
      obtain ⟨e1, e2, e3⟩ := lightOp_some hx
      obtain ⟨dst, op, ty, pos, after, guard⟩ := o
      simp only at e1 e2 e3
      have ih := fun st1 s1 (h1 : DInv st1 s1 (k + 1)) (hh : ldrunB P T eal nx0 N l' (k + 1) st1 s1) => ldrunB_sound rest l' (k + 1) st1 s1 hl' h1 hh
      have hlen : ∀ o : Oper, k + (o :: rest).length = k + 1 + rest.length := by intro o; simp; omega
      rw [hlen]
      simp only [ldrunB, e1, e2] at h
      simp only [Drun]
      have step : ∀ (g : Bool), (g = false → guard = none) → awanted ops st.tm ⟨dst, op, ty, pos, after, guard⟩ = some true → ldstepB P T eal nx0 k g (ldrunB P T eal nx0 N l' (k + 1)) op dst st s →
          ∃ kd v t, DStep P T ops nx0 k ⟨dst, op, ty, pos, after, guard⟩ st.tm s kd v t ∧ ∃ st1 s1, ldrunB P T eal nx0 N l' (k + 1) st1 s1 ∧ DInv st1 s1 (k + 1) ∧
            st1 = ⟨aput st.tm dst v, (match t with | some t => st.cores ++ [t] | none => st.cores), st.ress ++ [v], st.kinds ++ [kd]⟩ ∧ s1 = t.getD s := by
        intro g hg hw hs
        have fop : ldop T (ldrunB P T eal nx0 N l' (k + 1)) op dst st s → ∃ kd v t, DStep P T ops nx0 k ⟨dst, op, ty, pos, after, guard⟩ st.tm s kd v t ∧ ∃ st1 s1, ldrunB P T eal nx0 N l' (k + 1) st1 s1 ∧ DInv st1 s1 (k + 1) ∧
            st1 = ⟨aput st.tm dst v, (match t with | some t => st.cores ++ [t] | none => st.cores), st.ress ++ [v], st.kinds ++ [kd]⟩ ∧ s1 = t.getD s := by
          intro hs
          unfold ldop at hs
          split at hs
          · rename_i v t hq
            rw [← lop_eq T _ ⟨dst, op, ty, pos, after, guard⟩] at hq
            exact ⟨.eff, v, some t, .inr ⟨hw, .inr (.inr (.inr (.inr (.inr ⟨t, hq, rfl, rfl⟩))))⟩, _, _, hs, hi.turn _ _, rfl, rfl⟩
          · exact hs.elim
        have fq : (match aquiet T (aev st.tm) op s with
            | some v => ldrunB P T eal nx0 N l' (k + 1) (st.quiet dst v) s
            | none => ldop T (ldrunB P T eal nx0 N l' (k + 1)) op dst st s) → ∃ kd v t, DStep P T ops nx0 k ⟨dst, op, ty, pos, after, guard⟩ st.tm s kd v t ∧ ∃ st1 s1, ldrunB P T eal nx0 N l' (k + 1) st1 s1 ∧ DInv st1 s1 (k + 1) ∧
            st1 = ⟨aput st.tm dst v, (match t with | some t => st.cores ++ [t] | none => st.cores), st.ress ++ [v], st.kinds ++ [kd]⟩ ∧ s1 = t.getD s := by
          intro hs
          split at hs
          · rename_i v hv
            exact ⟨.quiet, v, none, .inr ⟨hw, .inr (.inl ⟨hv, rfl, rfl⟩)⟩, _, _, hs, hi.keep _ rfl _ _, rfl, rfl⟩
          · exact fop hs
        unfold ldstepB at hs
        split at hs
        · rename_i e
          split at hs
          · exact fop hs
          · split at hs
            · rename_i ti hty
              exact ⟨.alloc e, .ptr (nx0 + k) 0, none, .inr ⟨hw, .inl ⟨e, ti, rfl, hg rfl, hty, hs.1, rfl, rfl, rfl⟩⟩, _, _, hs.2, hi.keep _ rfl _ _, rfl, rfl⟩
            · exact hs.elim
        · rename_i c
          split at hs
          · rename_i f hcal
            unfold ldfun at hs
            split at hs
            · rename_i g' first captured hev
              rcases hs with ⟨v, h1, h2⟩ | ⟨v, t, h1, h2⟩
              · exact ⟨.free, v, none, .inr ⟨hw, .inr (.inr (.inr (.inl ⟨c, f, g', first, captured, rfl, hcal, hev, h1, rfl, rfl⟩)))⟩, _, _, h2, hi.keep _ rfl _ _, rfl, rfl⟩
              · exact ⟨.eff, v, some t, .inr ⟨hw, .inr (.inr (.inr (.inr (.inl ⟨c, f, g', first, captured, t, rfl, hcal, hev, h1, rfl, rfl⟩))))⟩, _, _, h2, hi.turn _ _, rfl, rfl⟩
            · exact hs.elim
          · exact fq hs
        · rename_i t x
          split at hs
          · rename_i c hev
            split at hs
            · rename_i v hv
              refine ⟨.free, v, none, .inr ⟨hw, .inr (.inr (.inl ⟨⟨{}, fun s => aquiet_aop ?_⟩, rfl, rfl⟩))⟩, _, _, hs, hi.keep _ rfl _ _, rfl, rfl⟩
              show aload T t (aev st.tm x) s = some v
              rw [hev]; exact hv
            · exact hs.elim
          · split at hs
            · rename_i v hv
              exact ⟨.quiet, v, none, .inr ⟨hw, .inr (.inl ⟨hv, rfl, rfl⟩)⟩, _, _, hs, hi.keep _ rfl _ _, rfl, rfl⟩
            · exact hs.elim
        · rename_i t n parts
          split at hs
          · rename_i x he
            unfold ldbuild at hs
            split at hs
            · rename_i v x' hv
              refine ⟨.free, v, none, .inr ⟨hw, .inr (.inr (.inl ⟨⟨{ bv := fun _ => true }, fun s => ?_⟩, rfl, rfl⟩))⟩, _, _, hs, hi.keep _ rfl _ _, rfl, rfl⟩
              show abuildSlice T true t n (parts.toList.map fun p => (p.1, aev st.tm p.2)) s = some (v, s)
              exact abuildSlice_any hv s
            · exact hs.elim
          · exact fop hs
        · exact fq hs
      rcases e3 with ⟨g1, g2⟩ | ⟨j, b, t, g1, g2, g3⟩
      · rw [g2] at h
        simp only at h
        obtain ⟨kd, v, t, hd, st1, s1, h1, h2, h3, h4⟩ := step false (fun _ => g1) (by simp [awanted, g1]) h
        subst h3 h4
        obtain ⟨st', s', q1, q2, q3⟩ := ih _ _ h2 h1
        exact ⟨st', s', ⟨kd, v, t, hd, q1⟩, q2, q3⟩
      · rw [g3] at h
        simp only at h
        rcases branchU_cases h with ⟨c, hc0, h⟩ | ⟨hu, h⟩
        · have hc := light_wanted (ops := ops) (o := ⟨dst, op, ty, pos, after, guard⟩) g1 g2 c hc0
          cases c
          · have := h.2 rfl
            obtain ⟨st', s', q1, q2, q3⟩ := ih _ _ (hi.keep .off rfl _ _) this
            exact ⟨st', s', ⟨.off, aundef, none, .inl ⟨hc, rfl, rfl, rfl⟩, q1⟩, q2, q3⟩
          · obtain ⟨kd, v, t, hd, st1, s1, h1, h2, h3, h4⟩ := step true (fun q => by cases q) hc (h.1 rfl)
            subst h3 h4
            obtain ⟨st', s', q1, q2, q3⟩ := ih _ _ h2 h1
            exact ⟨st', s', ⟨kd, v, t, hd, q1⟩, q2, q3⟩
        · have hc := light_undef (ops := ops) (o := ⟨dst, op, ty, pos, after, guard⟩) g1 g2 hu
          obtain ⟨st', s', q1, q2, q3⟩ := ih _ _ (hi.keep .off rfl _ _) h
          exact ⟨st', s', ⟨.off, aundef, none, .inl ⟨hc, rfl, rfl, rfl⟩, q1⟩, q2, q3⟩
    · cases hl
theorem ldrawB_any (hT : T.Ok P) (hm : P.follows .mixedOrders = true) {B : Base} (hB : B.At s0) {ops : Array Oper} {ms : List Nat} {l : List LOp} (hms : masks ops.toList [] = some ms) (hl : lightOps ops ops.toList = some l)
    {tm : List AV} {s : AHeap} (h : ldrawB P T s0 Q ms l tm s) : ∀ K w act, WR K s w → RA K tm act → B.X K s w →
      wpAny P .any ops (B.lift Q) ops.size (Array.replicate ops.size false) act { w with drawn := w.drawn + 1 } := by
  intro K0 w0 act0 hw0 ha0 hx0
  obtain ⟨eal, dyn, h⟩ := h
  generalize hmd : headLen ms 0 0 = m at h
  have hms' := masks_ok hms
  obtain ⟨hl1, hl2, hl3⟩ := headLen_tail ms 0 0 (Nat.le_refl _)
  rw [hmd, hms'.len] at hl2
  have hm2 : m ≤ ops.toList.length := by simpa using hl2
  obtain ⟨ht1, ht2⟩ := lightOps_take m hl
  obtain ⟨st, t, hrun, ⟨hstat, hdyn, hend⟩, hinv⟩ := ldrunB_sound (ops := ops) _ _ 0 _ _ ht1 ⟨rfl, rfl, rfl, rfl⟩ h
  have hlen : (ops.toList.take m).length = m := by simp at hm2 ⊢; omega
  rw [Nat.zero_add, hlen] at hinv
  obtain ⟨g1, g2⟩ := lightOps_get hl
  have hst := fun i hi => allBelow_all hstat i hi
  have hget : ∀ i o, ops[i]? = some o → ∃ x, l[i]? = some x ∧ lightOp ops o = some x := fun i o ho => g2 i o (by rw [Array.getElem?_toList]; exact ho)
  refine draw_anyB hT hms hmd hrun ?_ ?_ ?_ hw0 ha0 ?_
  · intro i j o ho hi hj hne
    obtain ⟨x, hx, hlx⟩ := hget i o ho
    have := hst i hi
    rw [hx] at this
    simp only [Bool.and_eq_true] at this
    have := allBelow_all this.1 j hj
    simp only [Bool.or_eq_true, Bool.and_eq_true, Bool.not_eq_true'] at this
    rcases this with ((h1 | h1) | h1) | ⟨h1, h2⟩
    · exact absurd (Nat.eq_of_beq_eq_true h1) hne
    · exact .inl h1
    · exact .inr (.inl h1)
    · refine .inr (.inr ⟨?_, ?_⟩)
      · intro t ht hmem
        unfold odst at ht
        cases hoj : ops[j]? with
        | none => rw [hoj] at ht; cases ht
        | some oj =>
          rw [hoj] at ht
          simp only [Option.bind_some] at ht
          obtain ⟨y, hy, hly⟩ := hget j oj hoj
          have hd := (lightOp_some hly).2.1
          rw [hy] at h1
          simp only [Option.bind_some, hd, ht, Bool.not_eq_true', List.contains_eq_mem, decide_eq_false_iff_not, lightOp_names hlx] at h1
          exact h1 hmem
      · rintro ⟨q1, q2⟩
        have q1' : (st.kinds.getD i .off).isEff = true := q1
        have q2' : (st.kinds.getD j .off).isEff = true := q2
        rw [q1', q2'] at h2; cases h2
  · intro i o hi ho hk
    obtain ⟨x, hx, hlx⟩ := hget i o ho
    have := hst i hi
    rw [hx] at this
    simp only [Bool.and_eq_true] at this
    have h2 := this.2
    have hk' : (st.kinds.getD i .off).isEff = true := hk
    cases hkk : st.kinds.getD i .off <;> rw [hkk] at hk' <;> try (cases hk'; done)
    rw [hkk] at h2
    exact Nat.eq_of_beq_eq_true h2
  · intro i o hi ho hk hq hap k hk1 hk2
    obtain ⟨x, hx, hlx⟩ := hget i o ho
    have hop := (lightOp_some hlx).1
    have := hst i hi
    rw [hx] at this
    simp only [Bool.and_eq_true] at this
    have h2 := this.2
    have hk' : st.kinds.getD i .off = .quiet := hk
    rw [hk'] at h2
    simp only [hop] at h2
    have fin : (allBelow (lhi ms st.kinds m i + 1) fun k => Nat.blt k (llo ms st.kinds m i) || Nat.beq k (lcnt st.kinds i) || dyn.any fun x => Nat.beq x.1 i && Nat.beq x.2 k) = true →
        aquiet T (aev (tmTo ops (st.plan m ms) tm (fun _ => true) i)) o.op ((st.plan m ms).core k) = some ((st.plan m ms).res i) := by
      intro hh
      have hk2' : k ≤ lhi ms st.kinds m i := hk2
      have hk1' : llo ms st.kinds m i ≤ k := hk1
      have := allBelow_all hh k (by omega)
      simp only [Bool.or_eq_true] at this
      rcases this with (h3 | h3) | h3
      · have := Nat.le_of_ble_eq_true (show Nat.ble (k + 1) (llo ms st.kinds m i) = true from h3)
        omega
      · have := Nat.eq_of_beq_eq_true h3
        rw [this]
        exact hq
      · obtain ⟨o', ho', hh'⟩ := ldyn_get hdyn i k h3
        rw [hx] at ho'; cases ho'
        rw [ltmTo_eq hl, ← hop]
        exact hh'
    unfold aquiet at hq
    rw [hap] at hq
    simp only at hq
    split at hq
    · rename_i t x hop'; rw [hop'] at h2; exact fin h2
    · rename_i t x y ok hop'; rw [hop'] at h2; exact fin h2
    · cases hq
  · have hcore : (st.plan m ms).core (effs (st.plan m ms) fun i => decide (i < m)) = t := by
      have he : effs (st.plan m ms) (fun i => decide (i < m)) = lcnt st.kinds m := by
        unfold effs lcnt
        exact cntTo_congr fun i hi => by
          have hi' : i < m := hi
          simp only [hi', decide_true, Bool.true_and]
          rfl
      rw [he]
      exact hinv.last
    rw [hcore, lallocs_eq hinv.kinds]
    intro K act w q1 q2 q3
    have := lopsB_sound (Q := Q) hT hB (ops := ops) (ops.toList.drop m) (l.drop m) m st.tm _ rfl ht2 hend K w act q1 q2 (hx0.ext q3)
    rwa [List.length_drop, Array.length_toList] at this
theorem ldrawB_sound (hT : T.Ok P) (hm : P.follows .mixedOrders = true) {B : Base} (hB : B.At s0) {ops : Array Oper} {ms : List Nat} {l : List LOp} (hms : masks ops.toList [] = some ms) (hl : lightOps ops ops.toList = some l)
    {id : Nat} {tm : List AV} {s : AHeap} (h : ldrawB P T s0 Q ms l tm s) : bawp P B (.region id ops true) Q tm s := fun K w act hw ha hx =>
  wp_region_any hm (ldrawB_any hT hm hB hms hl h K w act hw ha hx)
theorem lvb_sound (hT : T.Ok P) (hm : P.follows .mixedOrders = true) {B : Base} (hB : B.At s0) : ∀ (c : Code) (Q : APost) (tm : List AV) (s : AHeap), lvb P T s0 (lighten c) Q tm s → bawp P B c Q tm s
  | .skip, Q, tm, s, h => bawp_of_awp (awp_skip h)
  | .region id ops draw, Q, tm, s, h => by
    simp only [lighten] at h
    cases draw with
    | true =>
      simp only at h
      split at h
      · rename_i ms l hms hl
        exact ldrawB_sound hT hm hB hms hl h
      · exact bawp_of_awp h
    | false =>
      simp only at h
      split at h
      · rename_i l hl
        intro K w act hw ha hx
        have := lopsB_sound (Q := Q) hT hB ops.toList l 0 tm s rfl hl h K w act hw ha hx
        rw [Array.length_toList, ← List.range_eq_range'] at this
        exact wp_region this
      · exact bawp_of_awp h
  | .seq a b, Q, tm, s, h => by
    refine bawp_seq (bawp_mono (lvb_sound hT hm hB a _ tm s h) ?_)
    intro e tm' s' hh
    cases e with
    | normal => exact lvb_sound hT hm hB b Q tm' s' hh
    | _ => exact hh
  | .cond c x y, Q, tm, s, h => by
    simp only [lighten, lvb, branch] at h
    split at h
    · rename_i b hb
      refine bawp_cond (bool?_some hb) ?_
      cases b
      · exact lvb_sound hT hm hB y Q tm s (h.2 rfl)
      · exact lvb_sound hT hm hB x Q tm s (h.1 rfl)
    · exact h.elim
  | .block id c, Q, tm, s, h => bawp_block (lvb_sound hT hm hB c _ tm s h)
  | .loop c, Q, tm, s, h => by
    obtain ⟨α, lv, hp, C, μ, a0, hC, h0, h1⟩ := h
    refine bawp_loop hB (fun n tm' s' => ∃ a, C a ∧ μ a = n ∧ tm'.length = tm.length ∧ (∀ p ∈ lv a, aev tm' (.tmp p.1) = p.2) ∧ s' = hp a) (h0.mono ?_) ?_
    · rintro tm' s' ⟨rfl, g2, g3⟩
      exact ⟨μ a0, a0, hC, rfl, g2, g3, rfl⟩
    · rintro n tm' s' ⟨a, hCa, rfl, g2, g3, rfl⟩
      refine bawp_mono (lvb_sound hT hm hB c _ tm' (hp a) (h1 a tm' hCa g2 g3)) ?_
      intro e tm2 s2 hh
      cases e with
      | normal =>
        obtain ⟨g4, a', hCa', hlt, hTo⟩ := hh
        refine hTo.mono ?_
        rintro tm3 s3 ⟨rfl, g5, g6⟩
        exact ⟨μ a', hlt, a', hCa', rfl, by rw [g5, g4], g6, rfl⟩
      | _ => exact hh
  | .exit id, Q, tm, s, h => bawp_of_awp (awp_exit h)
  | .ret, Q, tm, s, h => bawp_of_awp (awp_ret h)
  | .rangeFunc .., Q, tm, s, h => bawp_of_awp h
  | .scope c, Q, tm, s, h => fun K w act hw ha hx => wp_scope_straight (wp_mono (lvb_sound hT hm hB c _ tm s h K w act hw ha hx) fun e a w' ⟨K', tm', s', h1, h2, h3, h4⟩ => (by
      cases e with
      | goto l => exact h4.elim
      | _ => exact ⟨K', tm', s', h1, h2, h3, h4⟩))
  | .label .., Q, tm, s, h => fun K w act hw ha hx => wp_label ⟨K, tm, s, hw, ha, hx, h⟩
  | .goto .., Q, tm, s, h => bawp_of_awp h
  | .refuse .., Q, tm, s, h => bawp_of_awp h
def lexit (s0 : AHeap) (R : AV → AHeap → Prop) (rv : Option AV) (s : AHeap) : Prop :=
  match rv with
  | some v => Gh s0 (fun vs t => ∃ v', vs = [v'] ∧ R v' t) [v] s
  | none => False
def lpostB (T : Tab) (s0 : AHeap) (rs : List ResultVar) (R : AV → AHeap → Prop) : APost
  | .normal, tm, s | .ret, tm, s => lexit s0 R (aresultOf T s tm rs) s
  | _, _, _ => False
theorem ACall.goB (hT : T.Ok P) (hm : P.follows .mixedOrders = true) {f : FuncId} {fn : Func} {L : LCode} (hf : P.funcs[f]? = some fn) (hb : fn.body.map lighten = some L)
    (hn : (fn.name == "runtime.NumGoroutine") = false) {rs : List ResultVar} (hr : fn.results.toList = rs) {n : Nat} (ht : fn.ntmps = n) {args : List AV} {s : AHeap} {R : AV → AHeap → Prop} (hl : args.length ≤ n)
    (h : ∀ tm, tm.length = n → (∀ i, aev tm (.tmp i) = args.getD i aundef) → lvb P T s L (lpostB T s rs R) tm (loc s 0 [])) : ACall P f args s R := by
  subst hr ht
  have hbody : ∃ c, fn.body = some c ∧ lighten c = L := by
    cases hc : fn.body with
    | none => rw [hc] at hb; cases hb
    | some c => rw [hc] at hb; cases hb; exact ⟨c, rfl, rfl⟩
  obtain ⟨c, hc, rfl⟩ := hbody
  have h := h (args ++ List.replicate (fn.ntmps - args.length) aundef) (by simp; omega) (by
    intro i
    simp only [aev]
    rw [List.getD_eq_getElem?_getD, List.getD_eq_getElem?_getD, List.getElem?_append]
    split
    · rfl
    · rename_i hi
      rw [List.getElem?_eq_none (by omega : args.length ≤ i)]
      rw [List.getElem?_replicate]
      split <;> rfl)
  intro K w vals hG hw ha
  have hrun : (callFunc f vals.toArray).run P w = .ok (.enter f vals.toArray) w := by
    have hn' : ¬ fn.name = "runtime.NumGoroutine" := by simpa using hn
    simp [callFunc, hf, hc, hn']
  rw [hrun]
  simp only
  refine calls_of_wp hf hc ?_
  have hl' := ha.length
  have hra : RA K (args ++ List.replicate (fn.ntmps - args.length) aundef) { tmps := vals.toArray ++ Array.replicate (fn.ntmps - vals.toArray.size) undef, defers := [] } := by
    refine ⟨?_, rfl, hG⟩
    simp only [Array.toList_append, Array.toList_replicate, List.size_toArray]
    rw [← hl']
    exact ha.append (.replicate .undef _)
  have hB : (Base.of K s w).At s := ⟨rfl, hw, hG⟩
  have hsub : ∀ b o, (loc s 0 []).get b = some o → s.get b = some o := by
    intro b o h
    rw [get_loc] at h
    split at h
    · exact h
    · simp [lget] at h
  have hw1 : WR K (loc s 0 []) w := hw.forget hsub rfl
  have hx1 : (Base.of K s w).X K (loc s 0 []) w := (Base.of_X K s w).forget hsub rfl
  refine wp_mono (lvb_sound hT hm hB c _ _ _ h K w _ hw1 hra hx1) ?_
  rintro e a w' ⟨K', tm', s', h1, h2, h3, h4⟩
  have fin : lexit s R (aresultOf T s' tm' fn.results.toList) s' → ∃ u, (results fn a.tmps).run P w' = .ok u w' ∧ ∃ u' v K'' s'', Ending.returned u = .returned u' ∧ RV K'' v u' ∧ WR K'' s'' w' ∧ Ext K s w K'' s'' w' ∧ R v s'' := by
    intro hx
    unfold lexit at hx
    split at hx
    · rename_i v hv
      obtain ⟨u, hu, hru⟩ := aresultOf_sound hT h1 h2 hv
      obtain ⟨K2, vs2, s2, g1, g2, g3, v', rfl, g4⟩ := hx (Base.of K s w) hB K' w' [u] h1 (.cons _ _ _ _ hru .nil) h3
      cases g2 with
      | cons _ _ _ _ q1 q2 => exact ⟨u, hu, u, v', K2, s2, rfl, q1, g1, g3.1, g4⟩
    · exact hx.elim
  cases e with
  | normal =>
    obtain ⟨u, hu, hrest⟩ := fin h4
    exact ⟨h2.2.1, u, hu, hrest⟩
  | ret =>
    obtain ⟨u, hu, hrest⟩ := fin h4
    exact ⟨h2.2.1, u, hu, hrest⟩
  | _ => exact h4.elim
theorem ACall.clean {f : FuncId} {args : List AV} {s : AHeap} {R R' : AV → AHeap → Prop} (h : ACall P f args s R) (hr : ∀ v t, R v t → Gh s (fun vs t => ∃ v', vs = [v'] ∧ R' v' t) [v] t) : ACall P f args s R' := by
  intro K w vals hG hw ha
  have := h K w vals hG hw ha
  have hB : (Base.of K s w).At s := ⟨rfl, hw, hG⟩
  generalize (callFunc f vals.toArray).run P w = r at *
  cases r with
  | halt _ _ => exact this
  | ok n w' =>
    cases n <;> simp only at this ⊢
    · obtain ⟨v, K', s', h1, h2, h3, h4⟩ := this
      obtain ⟨K2, vs2, s2, g1, g2, g3, v', rfl, g4⟩ := hr v s' h4 _ hB K' w' _ h2 (.cons _ _ _ _ h1 .nil) ((Base.of_X K s w).ext h3)
      cases g2 with
      | cons _ _ _ _ q1 q2 => exact ⟨v', K2, s2, q1, g1, g3.1, g4⟩
    · refine Calls.mono this ?_
      rintro e w'' ⟨u, v, K', s', h0, h1, h2, h3, h4⟩
      obtain ⟨K2, vs2, s2, g1, g2, g3, v', rfl, g4⟩ := hr v s' h4 _ hB K' w'' _ h2 (.cons _ _ _ _ h1 .nil) ((Base.of_X K s w).ext h3)
      cases g2 with
      | cons _ _ _ _ q1 q2 => exact ⟨u, v', K2, s2, h0, q1, g1, g3.1, g4⟩
end
end Go.Am
end
