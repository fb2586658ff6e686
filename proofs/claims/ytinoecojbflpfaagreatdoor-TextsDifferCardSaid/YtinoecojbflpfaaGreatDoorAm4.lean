/- Part 4 of a proof: texts of this work, put together. -/
import Derived.Test.YtinoecojbflpfaaGreatDoorAm3
set_option linter.unusedVariables false
set_option linter.unusedSimpArgs false
noncomputable section
namespace Go.Am
open Go
structure LOp where
  op : Op
  dst : Option Nat
  guard : Option (Nat × Bool)
inductive LCode where
  | skip
  | ops (l : List LOp)
  | draw (ms : List Nat) (l : List LOp)
  | seq (a b : LCode)
  | cond (c : Operand) (x y : LCode)
  | block (id : Nat) (c : LCode)
  | loop (c : LCode)
  | exit (id : Nat)
  | ret
  | scope (c : LCode)
  | label
  | other (c : Code)
def lightOp (ops : Array Oper) (o : Oper) : Option LOp :=
  match o.guard with
  | none => some ⟨o.op, o.dst, none⟩
  | some (j, b) => match (ops[j]?).bind (·.dst) with
    | some t => some ⟨o.op, o.dst, some (t, b)⟩
    | none => none
def lightOps (ops : Array Oper) : List Oper → Option (List LOp)
  | [] => some []
  | o :: r => match lightOp ops o, lightOps ops r with
    | some x, some l => some (x :: l)
    | _, _ => none
def lighten : Code → LCode
  | .skip => .skip
  | .region id ops draw => match draw with
    | true => match masks ops.toList [], lightOps ops ops.toList with
      | some ms, some l => .draw ms l
      | _, _ => .other (.region id ops true)
    | false => match lightOps ops ops.toList with
      | some l => .ops l
      | none => .other (.region id ops false)
  | .seq a b => .seq (lighten a) (lighten b)
  | .cond c x y => .cond c (lighten x) (lighten y)
  | .block id c => .block id (lighten c)
  | .loop c => .loop (lighten c)
  | .exit id => .exit id
  | .ret => .ret
  | .scope c => .scope (lighten c)
  | .label _ => .label
  | c => .other c
def branch (b : Option Bool) (x y : Prop) : Prop :=
  match b with
  | some b => (b = true → x) ∧ (b = false → y)
  | none => False
def AV.bool? : AV → Option Bool
  | .bool b => some b
  | _ => none
section
variable (P : Program) (T : Tab)
def lop (ev : Operand → AV) (op : Op) (s : AHeap) : Option (AV × AHeap) := aop T {} ev { op := op, dst := none, type := 0, after := #[], guard := none, pos := "" } s
theorem lop_eq (ev : Operand → AV) (o : Oper) (s : AHeap) : aop T {} ev o s = lop T ev o.op s := by
  obtain ⟨dst, op, ty, pos, after, guard⟩ := o
  unfold lop aop
  simp only
  cases hp : apure T ev op with
  | some v => rfl
  | none =>
    simp only
    cases op <;> first | rfl | (cases dst <;> rfl)
def lcall (Q : List AV → AHeap → Prop) (f : FuncId) (args : List AV) (s : AHeap) (d : Option Nat) (tm : List AV) : Prop :=
  ∃ R, ACall P f args s R ∧ ∀ v s', R v s' → Q (aput tm d v) s'
def lfun (Q : List AV → AHeap → Prop) (x : AV) (args : List AV) (s : AHeap) (d : Option Nat) (tm : List AV) : Prop :=
  match x with
  | .func (.func f) first captured => lcall P Q f (first ++ args ++ captured) s d tm
  | _ => False
def lmem (Q : List AV → AHeap → Prop) (r : Option (AV × AHeap)) (d : Option Nat) (tm : List AV) : Prop :=
  match r with
  | some (v, s') => Q (aput tm d v) s'
  | none => False
def lstep (Q : List AV → AHeap → Prop) (op : Op) (d : Option Nat) (tm : List AV) (s : AHeap) : Prop :=
  match op with
  | .call c => match c.callee with
    | .value f => lfun P Q (aev tm f) (c.args.toList.map (aev tm)) s d tm
    | _ => lmem Q (lop T (aev tm) op s) d tm
  | _ => lmem Q (lop T (aev tm) op s) d tm
def lops (Q : APost) : List LOp → List AV → AHeap → Prop
  | [], tm, s => Q .normal tm s
  | o :: r, tm, s => match o.guard with
    | none => lstep P T (lops Q r) o.op o.dst tm s
    | some (t, b) => branch ((tm[t]?.bind AV.bool?).map (· == b)) (lstep P T (lops Q r) o.op o.dst tm s) (lops Q r (aput tm o.dst aundef) s)
def lloop (body : APost → List AV → AHeap → Prop) (Q : APost) (tm : List AV) (s : AHeap) : Prop :=
  ∃ (I : Nat → List AV → AHeap → Prop) (n : Nat), I n tm s ∧ ∀ n tm s, I n tm s → body (athen (fun tm' s' => ∃ m, m < n ∧ I m tm' s') Q) tm s
def DSt.off (st : DSt) (d : Option Nat) : DSt := ⟨aput st.tm d aundef, st.cores, st.ress ++ [aundef], st.kinds ++ [.off]⟩
def DSt.quiet (st : DSt) (d : Option Nat) (v : AV) : DSt := ⟨aput st.tm d v, st.cores, st.ress ++ [v], st.kinds ++ [.quiet]⟩
def DSt.al (st : DSt) (d : Option Nat) (e : TypeId) (v : AV) : DSt := ⟨aput st.tm d v, st.cores, st.ress ++ [v], st.kinds ++ [.alloc e]⟩
def DSt.eff (st : DSt) (d : Option Nat) (v : AV) (t : AHeap) : DSt := ⟨aput st.tm d v, st.cores ++ [t], st.ress ++ [v], st.kinds ++ [.eff]⟩
def ldeff (call : CallF) (N : DSt → AHeap → Prop) (op : Op) (d : Option Nat) (st : DSt) (s : AHeap) : Prop :=
  match op with
  | .call c => match c.callee with
    | .value fop => match aev st.tm fop with
      | .func (.func f) first captured => match call f (first ++ c.args.toList.map (aev st.tm) ++ captured) s with
        | some (v, t) => N (st.eff d v t) t
        | none => False
      | _ => False
    | _ => match lop T (aev st.tm) op s with
      | some (v, t) => N (st.eff d v t) t
      | none => False
  | _ => match lop T (aev st.tm) op s with
    | some (v, t) => N (st.eff d v t) t
    | none => False
def ldstep (call : CallF) (nx0 i : Nat) (g : Bool) (N : DSt → AHeap → Prop) (op : Op) (d : Option Nat) (st : DSt) (s : AHeap) : Prop :=
  match op with
  | .alloc e => match g, T.ty e with
    | false, some ti => (AV.ofV ti.zero).israw = false ∧ N (st.al d e (.ptr (nx0 + i) 0)) s
    | _, _ => False
  | op => match aquiet T (aev st.tm) op s with
    | some v => N (st.quiet d v) s
    | none => ldeff T call N op d st s
def ldrun (call : CallF) (nx0 : Nat) (N : DSt → AHeap → Prop) : List LOp → Nat → DSt → AHeap → Prop
  | [], _, st, s => N st s
  | o :: r, i, st, s => match o.guard with
    | none => ldstep T call nx0 i false (ldrun call nx0 N r (i + 1)) o.op o.dst st s
    | some (t, b) => branch ((aev st.tm (.tmp t)).bool?.map (· == b)) (ldstep T call nx0 i true (ldrun call nx0 N r (i + 1)) o.op o.dst st s) (ldrun call nx0 N r (i + 1) (st.off o.dst) s)
def lnames (o : LOp) : List Nat :=
  o.dst.toList ++ o.op.operands.toList.filterMap (fun | .tmp t => some t | _ => none) ++ (match o.guard with | some (t, _) => [t] | none => [])
def lA (ms : List Nat) (i j : Nat) : Bool := (ms.getD i 0).testBit j
def lcnt (kinds : List DKind) (i : Nat) : Nat := cntTo (fun j => (kinds.getD j .off).isEff) i
def llo (ms : List Nat) (kinds : List DKind) (m i : Nat) : Nat := cntTo (fun j => lA ms i j && (kinds.getD j .off).isEff) m
def lhi (ms : List Nat) (kinds : List DKind) (m i : Nat) : Nat := cntTo (fun j => (j != i && !lA ms j i) && (kinds.getD j .off).isEff) m
def lstat (l : List LOp) (ms : List Nat) (kinds : List DKind) (m : Nat) (dyn : List (Nat × Nat)) : Bool :=
  allBelow m fun i => match l[i]? with
    | none => false
    | some o =>
      allBelow m (fun j => Nat.beq i j || lA ms i j || lA ms j i ||
        (match (l[j]?).bind (·.dst) with | some t => !(lnames o).contains t | none => true) && !((kinds.getD i .off).isEff && (kinds.getD j .off).isEff)) &&
      (match kinds.getD i .off with
        | .eff => Nat.beq (llo ms kinds m i) (lcnt kinds i)
        | .quiet => (match o.op with
          | .load .. | .lookup .. => allBelow (lhi ms kinds m i + 1) fun k => Nat.blt k (llo ms kinds m i) || Nat.beq k (lcnt kinds i) || dyn.any fun x => Nat.beq x.1 i && Nat.beq x.2 k
          | _ => true)
        | _ => true)
def ltmTo (l : List LOp) (ress : List AV) (tm0 : List AV) : Nat → List AV
  | 0 => tm0
  | i + 1 => aput (ltmTo l ress tm0 i) ((l[i]?).bind (·.dst)) (ress.getD i aundef)
def ldyn (l : List LOp) (st : DSt) (tm0 : List AV) : List (Nat × Nat) → Prop
  | [] => True
  | (i, k) :: r => (match l[i]? with
      | some o => aquiet T (aev (ltmTo l st.ress tm0 i)) o.op (st.cores.getD k .empty) = some (st.ress.getD i aundef)
      | none => False) ∧ ldyn l st tm0 r
def lallocs (nx0 : Nat) : List DKind → Nat → List (Nat × AObj)
  | [], _ => []
  | .alloc e :: r, i => (nx0 + i, .cells (zcells T e) (some e)) :: lallocs nx0 r (i + 1)
  | .side _ (some o) :: r, i => (nx0 + i, o) :: lallocs nx0 r (i + 1)
  | _ :: r, i => lallocs nx0 r (i + 1)
def bump (s : AHeap) (n : Nat) : AHeap := { s with nx := s.nx + n }
def ldraw (Q : APost) (ms : List Nat) (l : List LOp) (tm : List AV) (s : AHeap) : Prop :=
  ∃ (call : CallF) (dyn : List (Nat × Nat)), CallOk P call ∧ ldrun T call s.nx (fun st t =>
    lstat l ms st.kinds (headLen ms 0 0) dyn = true ∧ ldyn T l st tm dyn ∧
      lops P T Q (l.drop (headLen ms 0 0)) st.tm (t.upds (lallocs T s.nx st.kinds 0))) (l.take (headLen ms 0 0)) 0 ⟨tm, [bump s (headLen ms 0 0)], [], []⟩ (bump s (headLen ms 0 0))
def lvc : LCode → APost → List AV → AHeap → Prop
  | .skip, Q, tm, s => Q .normal tm s
  | .ops l, Q, tm, s => lops P T Q l tm s
  | .draw ms l, Q, tm, s => ldraw P T Q ms l tm s
  | .seq a b, Q, tm, s => lvc a (athen (lvc b Q) Q) tm s
  | .cond c x y, Q, tm, s => branch (aev tm c).bool? (lvc x Q tm s) (lvc y Q tm s)
  | .block id c, Q, tm, s => lvc c (ablock id Q) tm s
  | .loop c, Q, tm, s => lloop (lvc c) Q tm s
  | .exit id, Q, tm, s => Q (.exit id) tm s
  | .ret, Q, tm, s => Q .ret tm s
  | .scope _, _, _, _ => False
  | .label, _, _, _ => False
  | .other c, Q, tm, s => awp P c Q tm s
end
section
variable {P : Program} {T : Tab} {Q : APost}
theorem bool?_some {v : AV} {b : Bool} (h : v.bool? = some b) : v = .bool b := by
  cases v <;> simp [AV.bool?] at h
  rw [h]
theorem lstep_sound (hT : T.Ok P) {N : List AV → AHeap → Prop} {o : Oper} {tm : List AV} {s : AHeap} (h : lstep P T N o.op o.dst tm s) :
    AOpR P o tm s fun v s' => N (aput tm o.dst v) s' := by
  have mem : lmem N (lop T (aev tm) o.op s) o.dst tm → AOpR P o tm s fun v s' => N (aput tm o.dst v) s' := by
    intro h
    rw [← lop_eq] at h
    unfold lmem at h
    split at h
    · rename_i v s' hv
      exact .op hT hv h
    · exact h.elim
  unfold lstep at h
  split at h
  · rename_i c hop
    split at h
    · rename_i f hcal
      unfold lfun at h
      split at h
      · rename_i x g first captured hev
        obtain ⟨R, h1, h2⟩ := h
        exact AOpR.call hop hcal hev (h1.mono h2)
      · exact h.elim
    · exact mem h
  · exact mem h
theorem lops_sound (hT : T.Ok P) {ops : Array Oper} : ∀ (rest : List Oper) (l : List LOp) (k : Nat) (tm : List AV) (s : AHeap), ops.toList.drop k = rest → lightOps ops rest = some l →
    lops P T Q l tm s → awpOps P ops Q (List.range' k rest.length) tm s
  | [], l, k, tm, s, hd, hl, h => by cases hl; exact awpOps_nil h
  | o :: rest, l, k, tm, s, hd, hl, h => by
    have hk : k < ops.toList.length := by
      rcases Nat.lt_or_ge k ops.toList.length with q | q
      · exact q
      · rw [List.drop_of_length_le q] at hd; cases hd
    have ho : ops[k]? = some o := by
      rw [List.drop_eq_getElem_cons hk] at hd
      have := (List.cons.inj hd).1
      rw [← Array.getElem?_toList, List.getElem?_eq_getElem hk, this]
    have hd' : ops.toList.drop (k + 1) = rest := by
      rw [List.drop_eq_getElem_cons hk] at hd
      exact (List.cons.inj hd).2
    simp only [List.length_cons, List.range'_succ]
    simp only [lightOps] at hl
    split at hl
    · rename_i x l' hx hl'
      cases hl
      have ih := fun tm s (hh : lops P T Q l' tm s) => lops_sound hT rest l' (k + 1) tm s hd' hl' hh
      unfold lightOp at hx
      simp only [lops] at h
      split at hx
      · rename_i hg
        cases hx
        simp only at h
        exact awpOps_step ho (by simp [awanted, hg]) ((lstep_sound hT h).mono fun v s' hh => ih _ _ hh)
      · rename_i j b hg
        split at hx
        · rename_i t ht
          cases hx
          simp only at h
          have hw : ∀ c, (tm[t]?.bind AV.bool?).map (· == b) = some c → awanted ops tm o = some c := by
            intro c
            unfold awanted ayield
            rw [hg]
            simp only [ht, Option.bind_some]
            cases htm : tm[t]? with
            | none => intro q; cases q
            | some v => cases v <;> intro q <;> first | exact q | cases q
          unfold branch at h
          split at h
          · rename_i c hc0
            have hc := hw c hc0
            cases c
            · exact awpOps_skip ho hc (ih _ _ (h.2 rfl))
            · exact awpOps_step ho hc ((lstep_sound hT (h.1 rfl)).mono fun v s' hh => ih _ _ hh)
          · exact h.elim
        · cases hx
    · cases hl
theorem lightOps_get {ops : Array Oper} : ∀ {xs : List Oper} {l : List LOp}, lightOps ops xs = some l → l.length = xs.length ∧ ∀ (i : Nat) (o : Oper), xs[i]? = some o → ∃ x : LOp, l[i]? = some x ∧ lightOp ops o = some x
  | [], l, h => by cases h; exact ⟨rfl, fun i o hi => by simp at hi⟩
  | o :: xs, l, h => by
    simp only [lightOps] at h
    split at h
    · rename_i x l' hx hl
      cases h
      obtain ⟨h1, h2⟩ := lightOps_get hl
      refine ⟨by simp [h1], ?_⟩
      intro i o' hi
      cases i with
      | zero => simp at hi; subst hi; exact ⟨x, rfl, hx⟩
      | succ i => simp at hi ⊢; exact h2 i o' hi
    · cases h
theorem lightOps_take {ops : Array Oper} : ∀ {xs : List Oper} {l : List LOp} (m : Nat), lightOps ops xs = some l → lightOps ops (xs.take m) = some (l.take m) ∧ lightOps ops (xs.drop m) = some (l.drop m)
  | xs, l, 0, h => by simpa [lightOps] using h
  | [], l, m + 1, h => by cases h; simp [lightOps]
  | o :: xs, l, m + 1, h => by
    simp only [lightOps] at h
    split at h
    · rename_i x l' hx hl
      cases h
      obtain ⟨h1, h2⟩ := lightOps_take m hl
      simp [lightOps, hx, h1, h2]
    · cases h
theorem lightOp_some {ops : Array Oper} {o : Oper} {x : LOp} (h : lightOp ops o = some x) : x.op = o.op ∧ x.dst = o.dst ∧
    ((o.guard = none ∧ x.guard = none) ∨ ∃ j b t, o.guard = some (j, b) ∧ (ops[j]?).bind (·.dst) = some t ∧ x.guard = some (t, b)) := by
  unfold lightOp at h
  split at h
  · rename_i hg; cases h; exact ⟨rfl, rfl, .inl ⟨hg, rfl⟩⟩
  · rename_i j b hg
    split at h
    · rename_i t ht; cases h; exact ⟨rfl, rfl, .inr ⟨j, b, t, hg, ht, rfl⟩⟩
    · cases h
theorem lightOp_names {ops : Array Oper} {o : Oper} {x : LOp} (h : lightOp ops o = some x) : lnames x = onames ops o := by
  obtain ⟨h1, h2, h3⟩ := lightOp_some h
  unfold lnames onames
  rw [h1, h2]
  rcases h3 with ⟨g1, g2⟩ | ⟨j, b, t, g1, g2, g3⟩
  · rw [g1, g2]
    rfl
  · rw [g1, g3]
    simp only [g2]
    rfl
theorem light_wanted {ops : Array Oper} {tm : List AV} {o : Oper} {t : Nat} {b : Bool} {j : Nat} (hg : o.guard = some (j, b)) (ht : (ops[j]?).bind (·.dst) = some t) :
    ∀ c, (aev tm (.tmp t)).bool?.map (· == b) = some c → awanted ops tm o = some c := by
  intro c
  unfold awanted ayield
  rw [hg]
  simp only [ht, Option.bind_some, aev]
  rw [List.getD_eq_getElem?_getD]
  cases htm : tm[t]? with
  | none => intro q; cases q
  | some v => cases v <;> intro q <;> first | exact q | cases q
theorem light_undef {ops : Array Oper} {tm : List AV} {o : Oper} {t : Nat} {b : Bool} {j : Nat} (hg : o.guard = some (j, b)) (ht : (ops[j]?).bind (·.dst) = some t) (hu : aev tm (.tmp t) = aundef) : awanted ops tm o = some false := by
  unfold awanted ayield aoff
  rw [hg]
  simp only [ht, Option.bind_some, aev] at hu ⊢
  rw [List.getD_eq_getElem?_getD] at hu
  cases htm : tm[t]? with
  | none => rfl
  | some v =>
    rw [htm] at hu
    simp only [Option.getD_some] at hu
    subst hu
    rfl
structure DInv (st : DSt) (s : AHeap) (k : Nat) : Prop where
  ress : st.ress.length = k
  kinds : st.kinds.length = k
  cores : st.cores.length = lcnt st.kinds k + 1
  last : st.cores.getD (lcnt st.kinds k) .empty = s
theorem lcnt_snoc (kinds : List DKind) (x : DKind) {k : Nat} (h : kinds.length = k) : lcnt (kinds ++ [x]) (k + 1) = lcnt kinds k + (if x.isEff then 1 else 0) := by
  unfold lcnt
  simp only [cntTo]
  rw [cntTo_congr (g := fun j => (kinds.getD j .off).isEff) (fun i hi => by
    rw [List.getD_eq_getElem?_getD, List.getD_eq_getElem?_getD, List.getElem?_append_left (by omega)])]
  congr 2
  rw [List.getD_eq_getElem?_getD, ← h, List.getElem?_append_right (by omega)]
  simp
theorem DInv.keep {st : DSt} {s : AHeap} {k : Nat} (h : DInv st s k) (x : DKind) (hx : x.isEff = false) (tm : List AV) (v : AV) : DInv ⟨tm, st.cores, st.ress ++ [v], st.kinds ++ [x]⟩ s (k + 1) := by
  have := lcnt_snoc st.kinds x h.kinds
  rw [hx] at this
  simp only [Bool.false_eq_true, if_false, Nat.add_zero] at this
  exact ⟨by simp [h.ress], by simp [h.kinds], by rw [this]; exact h.cores, by rw [this]; exact h.last⟩
theorem DInv.turn {st : DSt} {s t : AHeap} {k : Nat} (h : DInv st s k) (tm : List AV) (v : AV) : DInv ⟨tm, st.cores ++ [t], st.ress ++ [v], st.kinds ++ [.eff]⟩ t (k + 1) := by
  have := lcnt_snoc st.kinds .eff h.kinds
  simp only [DKind.isEff, if_true] at this
  refine ⟨by simp [h.ress], by simp [h.kinds], by simp only; rw [this]; simp [h.cores], ?_⟩
  simp only
  rw [this, List.getD_eq_getElem?_getD, ← h.cores, List.getElem?_append_right (Nat.le_refl _)]
  simp
theorem ldrun_sound {ops : Array Oper} {call : CallF} {nx0 : Nat} {N : DSt → AHeap → Prop} : ∀ (rest : List Oper) (l : List LOp) (k : Nat) (st : DSt) (s : AHeap), lightOps ops rest = some l → DInv st s k →
    ldrun T call nx0 N l k st s → ∃ st' s', drun T {} call ops nx0 rest k st s = some st' ∧ N st' s' ∧ DInv st' s' (k + rest.length)
  | [], l, k, st, s, hl, hi, h => by cases hl; exact ⟨st, s, rfl, h, hi⟩
  | o :: rest, l, k, st, s, hl, hi, h => by
    simp only [lightOps] at hl
    split at hl
    · rename_i x l' hx hl'
      cases hl
      obtain ⟨e1, e2, e3⟩ := lightOp_some hx
      obtain ⟨dst, op, ty, pos, after, guard⟩ := o
      simp only at e1 e2 e3
      have ih := fun st1 s1 (h1 : DInv st1 s1 (k + 1)) (hh : ldrun T call nx0 N l' (k + 1) st1 s1) => ldrun_sound rest l' (k + 1) st1 s1 hl' h1 hh
      have hlen : ∀ o : Oper, k + (o :: rest).length = k + 1 + rest.length := by intro o; simp; omega
      rw [hlen]
      simp only [ldrun, e1, e2] at h
      simp only [drun]
      have step : ∀ (g : Bool), (g = false → guard = none) → awanted ops st.tm ⟨dst, op, ty, pos, after, guard⟩ = some true → ldstep T call nx0 k g (ldrun T call nx0 N l' (k + 1)) op dst st s →
          ∃ kd v t, dstep T {} call ops nx0 k ⟨dst, op, ty, pos, after, guard⟩ st.tm s = some (kd, v, t) ∧ ∃ st1 s1, ldrun T call nx0 N l' (k + 1) st1 s1 ∧ DInv st1 s1 (k + 1) ∧
            st1 = ⟨aput st.tm dst v, (match t with | some t => st.cores ++ [t] | none => st.cores), st.ress ++ [v], st.kinds ++ [kd]⟩ ∧ s1 = t.getD s := by
        intro g hg hw hs
        unfold dstep
        rw [hw]
        simp only
        have lopq : ∀ q, aop T {} (aev st.tm) ⟨dst, op, ty, pos, after, guard⟩ s = q → lop T (aev st.tm) op s = q := by
          intro q hq; rw [lop_eq] at hq; exact hq
        unfold ldstep at hs
        split at hs
        · rename_i e
          split at hs
          · rename_i ti hty
            refine ⟨.alloc e, .ptr (nx0 + k) 0, none, ?_, _, _, hs.2, hi.keep _ rfl _ _, rfl, rfl⟩
            simp only [hg rfl, hty, hs.1]
            rfl
          · exact hs.elim
        · rename_i hop
          split at hs
          · rename_i v hv
            refine ⟨.quiet, v, none, ?_, _, _, hs, hi.keep _ rfl _ _, rfl, rfl⟩
            simp only [hv]
          · rename_i hv
            simp only [hv, sideOf_none]
            unfold ldeff at hs
            split at hs
            · rename_i c
              simp only
              split at hs
              · rename_i fop hcal
                split at hs
                · rename_i f first captured hev
                  split at hs
                  · rename_i v t hcl
                    refine ⟨.eff, v, some t, ?_, _, _, hs, hi.turn _ _, rfl, rfl⟩
                    simp only [hcal, hev, hcl]
                  · exact hs.elim
                · exact hs.elim
              · rename_i hcal
                split at hs
                · rename_i v t hcl
                  refine ⟨.eff, v, some t, ?_, _, _, hs, hi.turn _ _, rfl, rfl⟩
                  rw [← lop_eq T _ ⟨dst, .call c, ty, pos, after, guard⟩] at hcl
                  split
                  · rename_i f hc2; exact absurd hc2 (hcal f)
                  · rw [hcl]
                · exact hs.elim
            · rename_i hop2
              split at hs
              · rename_i v t hcl
                refine ⟨.eff, v, some t, ?_, _, _, hs, hi.turn _ _, rfl, rfl⟩
                rw [← lop_eq T _ ⟨dst, op, ty, pos, after, guard⟩] at hcl
                split
                · rename_i c; exact absurd rfl (hop2 c)
                · rw [hcl]
              · exact hs.elim
      rcases e3 with ⟨g1, g2⟩ | ⟨j, b, t, g1, g2, g3⟩
      · rw [g2] at h
        simp only at h
        obtain ⟨kd, v, t, hd, st1, s1, h1, h2, h3, h4⟩ := step false (fun _ => g1) (by simp [awanted, g1]) h
        rw [hd]
        subst h3 h4
        cases t <;> exact ih _ _ h2 h1
      · rw [g3] at h
        simp only at h
        unfold branch at h
        split at h
        · rename_i c hc0
          have hc := light_wanted (ops := ops) (o := ⟨dst, op, ty, pos, after, guard⟩) g1 g2 c hc0
          cases c
          · have := h.2 rfl
            have hd : dstep T {} call ops nx0 k ⟨dst, op, ty, pos, after, guard⟩ st.tm s = some (.off, aundef, none) := by unfold dstep; rw [hc]
            rw [hd]
            exact ih _ _ (hi.keep .off rfl _ _) this
          · obtain ⟨kd, v, t, hd, st1, s1, h1, h2, h3, h4⟩ := step true (fun q => by cases q) hc (h.1 rfl)
            rw [hd]
            subst h3 h4
            cases t <;> exact ih _ _ h2 h1
        · exact h.elim
    · cases hl
theorem lallocs_snoc (nx0 : Nat) (x : DKind) : ∀ (l : List DKind) (i : Nat), lallocs T nx0 (l ++ [x]) i = lallocs T nx0 l i ++ lallocs T nx0 [x] (i + l.length)
  | [], i => by simp [lallocs]
  | y :: l, i => by
    have := lallocs_snoc nx0 x l (i + 1)
    have e : i + 1 + l.length = i + (y :: l).length := by simp; omega
    rw [e] at this
    cases y with
    | side p q => cases q <;> simp only [List.cons_append, lallocs, this]
    | _ => simp only [List.cons_append, lallocs, this]
theorem lallocs_eq {st : DSt} {ms : List Nat} {m nx0 : Nat} (hk : st.kinds.length = m) : alTo (st.plan m ms) T nx0 (fun i => decide (i < m)) m = lallocs T nx0 st.kinds 0 := by
  have key : ∀ n, n ≤ m → alTo (st.plan m ms) T nx0 (fun i => decide (i < m)) n = lallocs T nx0 (st.kinds.take n) 0 := by
    intro n
    induction n with
    | zero => intro _; simp [alTo, lallocs]
    | succ n ih =>
      intro hn
      have hlt : n < st.kinds.length := by omega
      simp only [alTo]
      rw [ih (by omega), List.take_succ_eq_append_getElem hlt, lallocs_snoc]
      congr 1
      have : decide (n < m) = true := by simpa using (by omega : n < m)
      simp only [this, if_true, alOne]
      have hkd : (st.plan m ms).kind n = st.kinds[n] := by
        show st.kinds.getD n .off = _
        rw [List.getD_eq_getElem?_getD, List.getElem?_eq_getElem hlt]; rfl
      rw [hkd]
      have hlen : 0 + (List.take n st.kinds).length = n := by simp; omega
      rw [hlen]
      cases st.kinds[n] with
      | side p q => cases q <;> simp [lallocs]
      | _ => simp [lallocs]
  rw [key m (Nat.le_refl _), List.take_of_length_le (by omega)]
theorem ltmTo_eq {ops : Array Oper} {l : List LOp} (hl : lightOps ops ops.toList = some l) {st : DSt} {ms : List Nat} {m : Nat} {tm0 : List AV} : ∀ i, tmTo ops (st.plan m ms) tm0 (fun _ => true) i = ltmTo l st.ress tm0 i
  | 0 => rfl
  | i + 1 => by
    simp only [tmTo, ltmTo, if_true]
    rw [ltmTo_eq hl i]
    congr 1
    unfold odst
    obtain ⟨h1, h2⟩ := lightOps_get hl
    cases ho : ops[i]? with
    | none =>
      have : l[i]? = none := by
        rw [List.getElem?_eq_none_iff]
        rw [Array.getElem?_eq_none_iff] at ho
        rw [h1, Array.length_toList]; exact ho
      rw [this]; rfl
    | some o =>
      obtain ⟨x, hx, hlx⟩ := h2 i o (by rw [Array.getElem?_toList]; exact ho)
      rw [hx]
      simp only [Option.bind_some]
      exact (lightOp_some hlx).2.1.symm
theorem ldyn_get {l : List LOp} {st : DSt} {tm0 : List AV} : ∀ {dyn : List (Nat × Nat)}, ldyn T l st tm0 dyn → ∀ i k, (dyn.any fun x => Nat.beq x.1 i && Nat.beq x.2 k) = true → ∃ o, l[i]? = some o ∧
    aquiet T (aev (ltmTo l st.ress tm0 i)) o.op (st.cores.getD k .empty) = some (st.ress.getD i aundef)
  | [], _, i, k, hh => by simp at hh
  | (a, b) :: r, h, i, k, hh => by
    simp only [ldyn] at h
    simp only [List.any_cons, Bool.or_eq_true, Bool.and_eq_true] at hh
    rcases hh with ⟨h1, h2⟩ | hh
    · have h1 := Nat.eq_of_beq_eq_true h1
      have h2 := Nat.eq_of_beq_eq_true h2
      subst h1 h2
      have := h.1
      split at this
      · rename_i o ho; exact ⟨o, ho, this⟩
      · exact this.elim
    · exact ldyn_get h.2 i k hh
theorem ldraw_sound (hT : T.Ok P) (hm : P.follows .mixedOrders = true) {ops : Array Oper} {ms : List Nat} {l : List LOp} (hms : masks ops.toList [] = some ms) (hl : lightOps ops ops.toList = some l)
    {id : Nat} {tm : List AV} {s : AHeap} (h : ldraw P T Q ms l tm s) : awp P (.region id ops true) Q tm s := by
  obtain ⟨call, dyn, hc, h⟩ := h
  generalize hmd : headLen ms 0 0 = m at h
  have hms' := masks_ok hms
  obtain ⟨hl1, hl2, hl3⟩ := headLen_tail ms 0 0 (Nat.le_refl _)
  rw [hmd, hms'.len] at hl2
  have hm2 : m ≤ ops.toList.length := by simpa using hl2
  obtain ⟨ht1, ht2⟩ := lightOps_take m hl
  obtain ⟨st, t, hrun, ⟨hstat, hdyn, hend⟩, hinv⟩ := ldrun_sound (ops := ops) _ _ 0 _ _ ht1 ⟨rfl, rfl, rfl, rfl⟩ h
  have hlen : (ops.toList.take m).length = m := by simp at hm2 ⊢; omega
  rw [Nat.zero_add, hlen] at hinv
  obtain ⟨g1, g2⟩ := lightOps_get hl
  have hst := fun i hi => allBelow_all hstat i hi
  have hget : ∀ i o, ops[i]? = some o → ∃ x, l[i]? = some x ∧ lightOp ops o = some x := fun i o ho => g2 i o (by rw [Array.getElem?_toList]; exact ho)
  refine draw_run hT hm rfl hc hms hmd hrun ?_ ?_ ?_ ?_
  · intro i j o ho hi hj hne
    obtain ⟨x, hx, hlx⟩ := hget i o ho
    have := hst i hi
    rw [hx] at this
    simp only [Bool.and_eq_true] at this
    have := allBelow_all this.1 j hj
    simp only [Bool.or_eq_true, Bool.and_eq_true, Bool.not_eq_true'] at this
    rcases this with ((h1 | h1) | h1) | ⟨h1, h2⟩
    · exact absurd (Nat.eq_of_beq_eq_true h1) hne
    · exact .inl h1
    · exact .inr (.inl h1)
    · refine .inr (.inr ⟨?_, ?_⟩)
      · intro t ht hmem
        unfold odst at ht
        cases hoj : ops[j]? with
        | none => rw [hoj] at ht; cases ht
        | some oj =>
          rw [hoj] at ht
          simp only [Option.bind_some] at ht
          obtain ⟨y, hy, hly⟩ := hget j oj hoj
          have hd := (lightOp_some hly).2.1
          rw [hy] at h1
          simp only [Option.bind_some, hd, ht, Bool.not_eq_true', List.contains_eq_mem, decide_eq_false_iff_not, lightOp_names hlx] at h1
          exact h1 hmem
      · rintro ⟨q1, q2⟩
        have q1' : (st.kinds.getD i .off).isEff = true := q1
        have q2' : (st.kinds.getD j .off).isEff = true := q2
        rw [q1', q2'] at h2; cases h2
  · intro i o hi ho hk
    obtain ⟨x, hx, hlx⟩ := hget i o ho
    have := hst i hi
    rw [hx] at this
    simp only [Bool.and_eq_true] at this
    have h2 := this.2
    have hk' : (st.kinds.getD i .off).isEff = true := hk
    cases hkk : st.kinds.getD i .off <;> rw [hkk] at hk' <;> try (cases hk'; done)
    rw [hkk] at h2
    exact Nat.eq_of_beq_eq_true h2
  · intro i o hi ho hk hq hap k hk1 hk2
    obtain ⟨x, hx, hlx⟩ := hget i o ho
    have hop := (lightOp_some hlx).1
    have := hst i hi
    rw [hx] at this
    simp only [Bool.and_eq_true] at this
    have h2 := this.2
    have hk' : st.kinds.getD i .off = .quiet := hk
    rw [hk'] at h2
    simp only [hop] at h2
    have fin : (allBelow (lhi ms st.kinds m i + 1) fun k => Nat.blt k (llo ms st.kinds m i) || Nat.beq k (lcnt st.kinds i) || dyn.any fun x => Nat.beq x.1 i && Nat.beq x.2 k) = true →
        aquiet T (aev (tmTo ops (st.plan m ms) tm (fun _ => true) i)) o.op ((st.plan m ms).core k) = some ((st.plan m ms).res i) := by
      intro hh
      have hk2' : k ≤ lhi ms st.kinds m i := hk2
      have hk1' : llo ms st.kinds m i ≤ k := hk1
      have := allBelow_all hh k (by omega)
      simp only [Bool.or_eq_true] at this
      rcases this with (h3 | h3) | h3
      · have := Nat.le_of_ble_eq_true (show Nat.ble (k + 1) (llo ms st.kinds m i) = true from h3)
        omega
      · have := Nat.eq_of_beq_eq_true h3
        rw [this]
        exact hq
      · obtain ⟨o', ho', hh'⟩ := ldyn_get hdyn i k h3
        rw [hx] at ho'; cases ho'
        rw [ltmTo_eq hl, ← hop]
        exact hh'
    unfold aquiet at hq
    rw [hap] at hq
    simp only at hq
    split at hq
    · rename_i t x hop'; rw [hop'] at h2; exact fin h2
    · rename_i t x y ok hop'; rw [hop'] at h2; exact fin h2
    · cases hq
  · have hcore : (st.plan m ms).core (effs (st.plan m ms) fun i => decide (i < m)) = t := by
      have he : effs (st.plan m ms) (fun i => decide (i < m)) = lcnt st.kinds m := by
        unfold effs lcnt
        exact cntTo_congr fun i hi => by
          have hi' : i < m := hi
          simp only [hi', decide_true, Bool.true_and]
          rfl
      rw [he]
      exact hinv.last
    rw [hcore, lallocs_eq hinv.kinds]
    have := lops_sound (Q := Q) hT (ops := ops) (ops.toList.drop m) (l.drop m) m st.tm _ rfl ht2 hend
    rw [List.length_drop, Array.length_toList] at this
    exact this
theorem lvc_sound (hT : T.Ok P) (hm : P.follows .mixedOrders = true) : ∀ (c : Code) (Q : APost) (tm : List AV) (s : AHeap), lvc P T (lighten c) Q tm s → awp P c Q tm s
  | .skip, Q, tm, s, h => awp_skip h
  | .region id ops draw, Q, tm, s, h => by
    simp only [lighten] at h
    cases draw with
    | true =>
      simp only at h
      split at h
      · rename_i ms l hms hl
        exact ldraw_sound hT hm hms hl h
      · exact h
    | false =>
      simp only at h
      split at h
      · rename_i l hl
        refine awp_region ?_
        have := lops_sound (Q := Q) hT ops.toList l 0 tm s rfl hl h
        rwa [Array.length_toList, ← List.range_eq_range'] at this
      · exact h
  | .seq a b, Q, tm, s, h => by
    refine awp_seq (awp_mono (lvc_sound hT hm a _ tm s h) ?_)
    intro e tm' s' hh
    cases e with
    | normal => exact lvc_sound hT hm b Q tm' s' hh
    | _ => exact hh
  | .cond c x y, Q, tm, s, h => by
    simp only [lighten, lvc, branch] at h
    split at h
    · rename_i b hb
      refine awp_cond (bool?_some hb) ?_
      cases b
      · exact lvc_sound hT hm y Q tm s (h.2 rfl)
      · exact lvc_sound hT hm x Q tm s (h.1 rfl)
    · exact h.elim
  | .block id c, Q, tm, s, h => awp_block (lvc_sound hT hm c _ tm s h)
  | .loop c, Q, tm, s, h => by
    obtain ⟨I, n, h0, h1⟩ := h
    exact awp_loop I n h0 fun n tm s hI => lvc_sound hT hm c _ tm s (h1 n tm s hI)
  | .exit id, Q, tm, s, h => awp_exit h
  | .ret, Q, tm, s, h => awp_ret h
  | .rangeFunc .., Q, tm, s, h => h
  | .scope .., Q, tm, s, h => h.elim
  | .label .., Q, tm, s, h => h.elim
  | .goto .., Q, tm, s, h => h
  | .refuse .., Q, tm, s, h => h
def lpost (T : Tab) (rs : List ResultVar) (R : AV → AHeap → Prop) : APost
  | .normal, tm, s | .ret, tm, s => ∃ v, aresultOf T s tm rs = some v ∧ R v s
  | _, _, _ => False
theorem ACall.vc (hT : T.Ok P) (hm : P.follows .mixedOrders = true) {f : FuncId} {fn : Func} {L : LCode} {args : List AV} {s : AHeap} {R : AV → AHeap → Prop} (hf : P.funcs[f]? = some fn) (hb : fn.body.map lighten = some L)
    (hn : (fn.name == "runtime.NumGoroutine") = false) {rs : List ResultVar} (hr : fn.results.toList = rs) {n : Nat} (ht : fn.ntmps = n)
    (h : lvc P T L (lpost T rs R) (args ++ List.replicate (n - args.length) aundef) s) : ACall P f args s R := by
  subst hr ht
  cases hc : fn.body with
  | none => rw [hc] at hb; cases hb
  | some c =>
    rw [hc] at hb
    cases hb
    refine ACall.body hT hf hc hn (awp_mono (lvc_sound hT hm c _ _ _ h) ?_)
    intro e tm s hh
    cases e <;> exact hh
end
end Go.Am
end
