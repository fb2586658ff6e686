/- Part 5 of a proof: texts of this work, put together. -/
import Derived.Test.YtinoecojbflpfaaGreatDoorAm4
set_option linter.unusedVariables false
set_option linter.unusedSimpArgs false
noncomputable section
namespace Go.Am
open Go
section
variable {P : Program} {T : Tab} {Q : APost} {N : List AV → AHeap → Prop} {tm : List AV} {s : AHeap}
theorem lvc_skip : lvc P T .skip Q tm s = Q .normal tm s := rfl
theorem lvc_ops {l : List LOp} : lvc P T (.ops l) Q tm s = lops P T Q l tm s := rfl
theorem lvc_seq {a b : LCode} : lvc P T (.seq a b) Q tm s = lvc P T a (athen (lvc P T b Q) Q) tm s := rfl
def lcond (P : Program) (T : Tab) (b : Option Bool) (x y : LCode) (Q : APost) (tm : List AV) (s : AHeap) : Prop := branch b (lvc P T x Q tm s) (lvc P T y Q tm s)
def lguard (P : Program) (T : Tab) (Q : APost) (b : Option Bool) (w : Bool) (op : Op) (d : Option Nat) (r : List LOp) (tm : List AV) (s : AHeap) : Prop :=
  branch (b.map (· == w)) (lstep P T (lops P T Q r) op d tm s) (lops P T Q r (aput tm d aundef) s)
theorem lvc_cond {c : Operand} {x y : LCode} : lvc P T (.cond c x y) Q tm s = lcond P T (aev tm c).bool? x y Q tm s := rfl
theorem lvc_block {id : Nat} {c : LCode} : lvc P T (.block id c) Q tm s = lvc P T c (ablock id Q) tm s := rfl
theorem lvc_loop {c : LCode} : lvc P T (.loop c) Q tm s = lloop (lvc P T c) Q tm s := rfl
theorem lvc_exit {id : Nat} : lvc P T (.exit id) Q tm s = Q (.exit id) tm s := rfl
theorem lvc_ret : lvc P T .ret Q tm s = Q .ret tm s := rfl
theorem athen_normal : athen N Q .normal tm s = N tm s := rfl
theorem athen_ret : athen N Q .ret tm s = Q .ret tm s := rfl
theorem athen_exit {id : Nat} : athen N Q (.exit id) tm s = Q (.exit id) tm s := rfl
theorem ablock_normal {id : Nat} : ablock id Q .normal tm s = Q .normal tm s := rfl
theorem ablock_ret {id : Nat} : ablock id Q .ret tm s = Q .ret tm s := rfl
theorem ablock_exit {id : Nat} : ablock id Q (.exit id) tm s = Q .normal tm s := by simp [ablock]
theorem ablock_exit_ne {id id' : Nat} (h : id' ≠ id) : ablock id Q (.exit id') tm s = Q (.exit id') tm s := by simp [ablock, h]
theorem lops_nil : lops P T Q [] tm s = Q .normal tm s := rfl
theorem lops_cons {op : Op} {d : Option Nat} {r : List LOp} : lops P T Q (⟨op, d, none⟩ :: r) tm s = lstep P T (lops P T Q r) op d tm s := rfl
theorem lops_guard {op : Op} {d : Option Nat} {t : Nat} {b : Bool} {r : List LOp} : lops P T Q (⟨op, d, some (t, b)⟩ :: r) tm s =
    lguard P T Q (aev tm (.tmp t)).bool? b op d r tm s := by
  simp only [lops, aev, lguard]
  rw [List.getD_eq_getElem?_getD]
  cases tm[t]? <;> rfl
theorem lcond_true {x y : LCode} : lcond P T (some true) x y Q tm s = lvc P T x Q tm s := by simp [lcond, branch]
theorem lcond_false {x y : LCode} : lcond P T (some false) x y Q tm s = lvc P T y Q tm s := by simp [lcond, branch]
theorem lcond_decide {p : Prop} [Decidable p] {x y : LCode} : lcond P T (some (decide p)) x y Q tm s = ((p → lvc P T x Q tm s) ∧ (¬p → lvc P T y Q tm s)) := by simp [lcond, branch]
theorem lcond_not {p : Prop} [Decidable p] {x y : LCode} : lcond P T (some (!decide p)) x y Q tm s = ((p → lvc P T y Q tm s) ∧ (¬p → lvc P T x Q tm s)) := by
  simp [lcond, branch, and_comm]
theorem lguard_true_true {op : Op} {d : Option Nat} {r : List LOp} : lguard P T Q (some true) true op d r tm s = lstep P T (lops P T Q r) op d tm s := by simp [lguard, branch]
theorem lguard_true_false {op : Op} {d : Option Nat} {r : List LOp} : lguard P T Q (some true) false op d r tm s = lops P T Q r (aput tm d aundef) s := by simp [lguard, branch]
theorem lguard_false_false {op : Op} {d : Option Nat} {r : List LOp} : lguard P T Q (some false) false op d r tm s = lstep P T (lops P T Q r) op d tm s := by simp [lguard, branch]
theorem lguard_false_true {op : Op} {d : Option Nat} {r : List LOp} : lguard P T Q (some false) true op d r tm s = lops P T Q r (aput tm d aundef) s := by simp [lguard, branch]
theorem lguard_decide_true {p : Prop} [Decidable p] {op : Op} {d : Option Nat} {r : List LOp} : lguard P T Q (some (decide p)) true op d r tm s =
    ((p → lstep P T (lops P T Q r) op d tm s) ∧ (¬p → lops P T Q r (aput tm d aundef) s)) := by simp [lguard, branch]
theorem lguard_decide_false {p : Prop} [Decidable p] {op : Op} {d : Option Nat} {r : List LOp} : lguard P T Q (some (decide p)) false op d r tm s =
    ((p → lops P T Q r (aput tm d aundef) s) ∧ (¬p → lstep P T (lops P T Q r) op d tm s)) := by simp [lguard, branch, and_comm]
theorem bool?_bool {b : Bool} : (AV.bool b).bool? = some b := rfl
theorem aput_none {v : AV} : aput tm none v = tm := rfl
theorem length_aput {d : Option Nat} {v : AV} : (aput tm d v).length = tm.length := by cases d <;> simp [aput]
theorem aev_same {d : Nat} {v : AV} (h : d < tm.length) : aev (aput tm (some d) v) (.tmp d) = v := by
  simp [aev, aput, List.getD_eq_getElem?_getD, h]
theorem aev_ne {d t : Nat} {v : AV} (h : d ≠ t) : aev (aput tm (some d) v) (.tmp t) = aev tm (.tmp t) := by
  simp [aev, aput, List.getD_eq_getElem?_getD, List.getElem?_set, h]
theorem aev_int {k : IntKind} {n : Int} : aev tm (.const (.int k n)) = .int k n := rfl
theorem aev_bool {b : Bool} : aev tm (.const (.bool b)) = .bool b := rfl
theorem aev_str {l : List UInt8} : aev tm (.const (.string ⟨⟨l⟩⟩)) = .str l := rfl
theorem aev_nilIface : aev tm (.const .nilIface) = .nili := rfl
theorem aev_nilp : aev tm (.const (.pointer none)) = .nilp := rfl
theorem aev_nils : aev tm (.const (.slice none 0 0)) = .nils := rfl
theorem aev_nilm : aev tm (.const (.map none)) = .nilm := rfl
theorem aev_func {f : FuncId} : aev tm (.func f) = .func (.func f) [] [] := rfl
def lval (N : List AV → AHeap → Prop) (r : Option AV) (d : Option Nat) (tm : List AV) (s : AHeap) : Prop :=
  match r with
  | some v => N (aput tm d v) s
  | none => False
theorem lval_some {v : AV} {d : Option Nat} : lval N (some v) d tm s = N (aput tm d v) s := rfl
theorem lmem_some {v : AV} {s' : AHeap} {d : Option Nat} : lmem N (some (v, s')) d tm = N (aput tm d v) s' := rfl
def apick : AV → AV → AV → Option AV
  | .bool true, a, _ => some a
  | .bool false, _, b => some b
  | _, _, _ => none
theorem apick_true {a b : AV} : apick (.bool true) a b = some a := rfl
theorem apick_false {a b : AV} : apick (.bool false) a b = some b := rfl
theorem lmem_pure {ev : Operand → AV} {op : Op} {d : Option Nat} (h : ∀ o, o.op = op → amem T {} ev o s = none) : lmem N (lop T ev op s) d tm = lval N (apure T ev op) d tm s := by
  unfold lop aop
  cases apure T ev op with
  | some v => rfl
  | none => simp only; rw [h _ rfl]; rfl
variable {d : Option Nat}
theorem lstep_move {x : Operand} : lstep P T N (.move x) d tm s = N (aput tm d (aev tm x)) s := rfl
theorem lstep_assign {x : Operand} : lstep P T N (.assign x) d tm s = N (aput tm d (aev tm x)) s := rfl
theorem lstep_binOp {op : BinOp} {t t' : TypeId} {x y : Operand} : lstep P T N (.binOp op t x y t') d tm s = lval N (abin T op t (aev tm x) (aev tm y)) d tm s :=
  lmem_pure fun o h => by unfold amem; rw [h]
theorem lstep_unOp {op : UnOp} {t : TypeId} {x : Operand} : lstep P T N (.unOp op t x) d tm s = lval N (aun op (aev tm x)) d tm s :=
  lmem_pure fun o h => by unfold amem; rw [h]
theorem lstep_pick {c a b : Operand} : lstep P T N (.pick c a b) d tm s = lval N (apick (aev tm c) (aev tm a) (aev tm b)) d tm s := by
  refine (lmem_pure fun o h => by unfold amem; rw [h]).trans ?_
  congr 1
  simp only [apure]
  cases aev tm c <;> try rfl
  rename_i v
  cases v <;> rfl
theorem lstep_nilCheck {x : Operand} : lstep P T N (.nilCheck x) d tm s = lval N (match aev tm x with
    | .ptr b off => some (.ptr b off)
    | .rptr l => some (.rptr l)
    | .func (.func f) fi ca => some (.func (.func f) fi ca)
    | _ => none) d tm s :=
  lmem_pure fun o h => by unfold amem; rw [h]
theorem lstep_build {t : TypeId} {parts : List (Nat × Operand)} : lstep P T N (.build t ⟨parts⟩) d tm s = lval N (abuild T t (parts.map fun p => (p.1, aev tm p.2))) d tm s :=
  lmem_pure fun o h => by unfold amem; rw [h]
theorem lstep_makeFunc {f : Fn} {a b : List Operand} : lstep P T N (.makeFunc f ⟨a⟩ ⟨b⟩) d tm s = N (aput tm d (.func f (a.map (aev tm)) (b.map (aev tm)))) s := rfl
theorem lstep_slice {t : TypeId} {x : Operand} {lo hi mx : Option Operand} : lstep P T N (.slice t x lo hi mx) d tm s = lval N (aslice T t (aev tm x) (lo.map (aev tm)) (hi.map (aev tm)) (mx.map (aev tm))) d tm s :=
  lmem_pure fun o h => by unfold amem; rw [h]
theorem lstep_fieldAddr {t : TypeId} {x : Operand} {f : Nat} : lstep P T N (.fieldAddr t x f) d tm s = lval N (afieldAddr T t (aev tm x) f) d tm s :=
  lmem_pure fun o h => by unfold amem; rw [h]
theorem lstep_field {t : TypeId} {x : Operand} {f : Nat} : lstep P T N (.field t x f) d tm s = lval N (afield T t (aev tm x) f) d tm s :=
  lmem_pure fun o h => by unfold amem; rw [h]
theorem lstep_indexAddr {t : TypeId} {x y : Operand} : lstep P T N (.indexAddr t x y) d tm s = lval N (aindexAddr T t (aev tm x) (aev tm y)) d tm s :=
  lmem_pure fun o h => by unfold amem; rw [h]
theorem lstep_index {t : TypeId} {x y : Operand} : lstep P T N (.index t x y) d tm s = lval N (aindex T t (aev tm x) (aev tm y)) d tm s :=
  lmem_pure fun o h => by unfold amem; rw [h]
theorem lstep_extract {t : Operand} {i : Nat} : lstep P T N (.extract t i) d tm s = lval N (match aev tm t with | .tuple l => l[i]? | _ => none) d tm s :=
  lmem_pure fun o h => by unfold amem; rw [h]
theorem lstep_alloc {e : TypeId} : lstep P T N (.alloc e) d tm s = lmem N (match T.ty e with
    | some i => if (AV.ofV i.zero).israw then none else some (.ptr s.nx 0, s.new (.cells (AV.ofV i.zero).cells (some e)))
    | none => none) d tm := rfl
theorem lstep_load {t : TypeId} {x : Operand} : lstep P T N (.load t x) d tm s = lval N (aload T t (aev tm x) s) d tm s := by
  show lmem N (lop T (aev tm) (.load t x) s) d tm = _
  unfold lop aop
  simp only [apure, amem]
  cases aload T t (aev tm x) s <;> rfl
theorem lstep_store {t : TypeId} {x v : Operand} : lstep P T N (.store t x v) d tm s = lmem N ((astore T t (aev tm x) (aev tm v) s).map fun s' => (aundef, s')) d tm := rfl
theorem lstep_makeSlice {t : TypeId} {l c : Operand} : lstep P T N (.makeSlice t l c) d tm s = lmem N (amakeSlice T t (aev tm l) (aev tm c) s) d tm := rfl
theorem lstep_buildSlice {t : TypeId} {n : Nat} {parts : List (Nat × Operand)} : lstep P T N (.buildSlice t n ⟨parts⟩) d tm s = lmem N (abuildSlice T false t n (parts.map fun p => (p.1, aev tm p.2)) s) d tm := rfl
theorem lstep_len {t : TypeId} {ts : List TypeId} {x : Operand} : lstep P T N (.call { callee := .builtin .len, args := ⟨[x]⟩, argTypes := ⟨t :: ts⟩ }) d tm s =
    lmem N (match alen T t (aev tm x) with
      | some v => some (v, s)
      | none => match aev tm x with
        | .map b => match AObj.map? (s.get b) with
          | some (es, _) => match T.ty t with
            | some i => match i.td with
              | .map _ _ => some (.int .i64 es.length, s)
              | _ => none
            | none => none
          | none => none
        | _ => none) d tm := by
  show lmem N (lop T (aev tm) _ s) d tm = _
  unfold lop aop
  simp only [apure, amem]
  simp only [List.getElem?_toArray, List.getElem?_cons_zero]
  cases alen T t (aev tm x) with
  | some v => rfl
  | none =>
    simp only
    cases aev tm x <;> try rfl
    rename_i b
    simp only
    generalize AObj.map? (s.get b) = r
    cases r <;> rfl
theorem lstep_min {ts : Array TypeId} {x y : Operand} : lstep P T N (.call { callee := .builtin .min, args := ⟨[x, y]⟩, argTypes := ts }) d tm s = lval N (amin2 (aev tm x) (aev tm y)) d tm s := by
  show lmem N (lop T (aev tm) _ s) d tm = _
  unfold lop aop
  simp only [apure, amem, List.map_cons, List.map_nil, afold]
  cases amin2 (aev tm x) (aev tm y) <;> rfl
theorem amin2_int {k : IntKind} {a b : Int} : amin2 (.int k a) (.int k b) = some (.int k (if b < a then b else a)) := rfl
theorem amax2_int {k : IntKind} {a b : Int} : amax2 (.int k a) (.int k b) = some (.int k (if b > a then b else a)) := rfl
theorem lstep_append {t u : TypeId} {x y : Operand} : lstep P T N (.call { callee := .builtin .append, args := ⟨[x, y]⟩, argTypes := ⟨[t, u]⟩ }) d tm s =
    lmem N (match T.ty t, T.ty u with
        | some i, some j => match i.td, j.td with
          | .slice e, .slice _ => aappend T e s (aev tm x) (aev tm y)
          | .slice e, .str => aappend T e s (aev tm x) (aev tm y)
          | .slice e, .int _ => agrow T e s (aev tm x) (aev tm y)
          | _, _ => none
        | _, _ => none) d tm := rfl
theorem lstep_call {f : Operand} {args : List Operand} {ts : Array TypeId} : lstep P T N (.call { callee := .value f, args := ⟨args⟩, argTypes := ts }) d tm s =
    lfun P N (aev tm f) (args.map (aev tm)) s d tm := rfl
theorem lfun_func {f : FuncId} {first captured args : List AV} : lfun P N (.func (.func f) first captured) args s d tm = lcall P N f (first ++ args ++ captured) s d tm := rfl
theorem lcall_eq {f : FuncId} {args : List AV} {v : AV} {t : AHeap} (h : ACall P f args s fun v' t' => v' = v ∧ t' = t) (k : N (aput tm d v) t) : lcall P N f args s d tm :=
  ⟨_, h, by rintro v' t' ⟨rfl, rfl⟩; exact k⟩
theorem lcall_of {f : FuncId} {args : List AV} {R : AV → AHeap → Prop} (h : ACall P f args s R) (k : ∀ v t, R v t → N (aput tm d v) t) : lcall P N f args s d tm := ⟨R, h, k⟩
variable {k : IntKind} {t : TypeId} {a b : Int}
theorem abin_add : abin T .add t (.int k a) (.int k b) = some (.int k (k.wrap (a + b))) := by simp [abin, abin1, aint]
theorem abin_sub : abin T .sub t (.int k a) (.int k b) = some (.int k (k.wrap (a - b))) := by simp [abin, abin1, aint]
theorem abin_mul : abin T .mul t (.int k a) (.int k b) = some (.int k (k.wrap (a * b))) := by simp [abin, abin1, aint]
theorem abin_eql : abin T .eql t (.int k a) (.int k b) = some (.bool (decide (a = b))) := by
  simp [abin, abin1, aint]
  by_cases h : a = b <;> simp [h]
theorem abin_neq : abin T .neq t (.int k a) (.int k b) = some (.bool (decide (a ≠ b))) := by
  simp [abin, abin1, aint]
  by_cases h : a = b <;> simp [h]
theorem abin_lss : abin T .lss t (.int k a) (.int k b) = some (.bool (decide (a < b))) := by simp [abin, abin1, aint]
theorem abin_leq : abin T .leq t (.int k a) (.int k b) = some (.bool (decide (a ≤ b))) := by simp [abin, abin1, aint]
theorem abin_gtr : abin T .gtr t (.int k a) (.int k b) = some (.bool (decide (b < a))) := by simp [abin, abin1, aint]
theorem abin_geq : abin T .geq t (.int k a) (.int k b) = some (.bool (decide (b ≤ a))) := by simp [abin, abin1, aint]
theorem abin_rem (h : b ≠ 0) : abin T .rem t (.int k a) (.int k b) = some (.int k (a.tmod b)) := by simp [abin, abin1, aint, h]
theorem abin_quo (h : b ≠ 0) : abin T .quo t (.int k a) (.int k b) = some (.int k (k.wrap (a.tdiv b))) := by simp [abin, abin1, aint, h]
theorem abin_seql {x y : List UInt8} : abin T .eql t (.str x) (.str y) = some (.bool (decide (x = y))) := by
  simp [abin, abin1, astr]
  by_cases h : x = y <;> simp [h]
theorem abin_sneq {x y : List UInt8} : abin T .neq t (.str x) (.str y) = some (.bool (decide (x ≠ y))) := by
  simp [abin, abin1, astr]
  by_cases h : x = y <;> simp [h]
theorem aun_not_decide {p : Prop} [Decidable p] : aun .not (.bool (decide p)) = some (.bool (decide (¬ p))) := by simp [aun]
theorem aun_not_true : aun .not (.bool true) = some (.bool false) := rfl
theorem aun_not_false : aun .not (.bool false) = some (.bool true) := rfl
theorem aun_neg {k : IntKind} {n : Int} : aun .neg (.int k n) = some (.int k (k.wrap (0 - n))) := rfl
theorem wrap_id {n : Int} (h : -9223372036854775808 ≤ n ∧ n ≤ 9223372036854775807) : IntKind.i64.wrap n = n := by
  unfold IntKind.wrap
  simp [IntKind.bits, IntKind.signed]
  omega
end
def acellsAt (s : AHeap) : AV → Option (List AV)
  | .rptr l => some l
  | .fp _ _ l => some l
  | .ptr b off => (AObj.cells? (s.get b)).map fun p => p.1.drop off
  | _ => none
def astoreAt (s : AHeap) (b o n : Nat) (v : AV) : Option AHeap :=
  match AObj.cells? (s.get b) with
  | some (c, TT) => if v.israw = false ∧ v.cells.length = n ∧ o + n ≤ c.length ∧ v.cells.all AV.one = true then some (s.upd b (.cells (splice c o v.cells) TT)) else none
  | none => none
section
variable {T : Tab} {s : AHeap} {t : TypeId} {i : TI}
theorem aload_agg (h : T.ty t = some i) (ha : i.td.isAgg = true) {x : AV} : aload T t x s = (acellsAt s x).bind fun cs => if i.size ≤ cs.length then some (.agg (cs.take i.size)) else none := by
  unfold aload acellsAt
  rw [h]
  simp only [ha, if_true]
  cases x <;> try rfl
  rename_i b off
  simp only
  cases AObj.cells? (s.get b) <;> rfl
theorem aload_one (h : T.ty t = some i) (ha : i.td.isAgg = false) {x : AV} : aload T t x s = (acellsAt s x).bind fun cs => cs[0]? := by
  unfold aload acellsAt
  rw [h]
  simp only [ha]
  cases x <;> try rfl
  rename_i b off
  simp only
  cases AObj.cells? (s.get b) <;> rfl
theorem astore_ptr (h : T.ty t = some i) {b o : Nat} {v : AV} : astore T t (.ptr b o) v s = astoreAt s b o i.size v := by
  unfold astore astoreAt
  rw [h]
  simp only
  cases AObj.cells? (s.get b) <;> rfl
theorem acellsAt_r {l : List AV} : acellsAt s (.rptr l) = some l := rfl
theorem acellsAt_f {b o : Nat} {l : List AV} : acellsAt s (.fp b o l) = some l := rfl
theorem acellsAt_p {b o : Nat} : acellsAt s (.ptr b o) = (AObj.cells? (s.get b)).bind fun p => some (p.1.drop o) := by
  unfold acellsAt
  simp only
  cases AObj.cells? (s.get b) <;> rfl
theorem astoreAt_p {b o n : Nat} {v : AV} : astoreAt s b o n v = (AObj.cells? (s.get b)).bind fun p =>
    if v.israw = false ∧ v.cells.length = n ∧ o + n ≤ p.1.length ∧ v.cells.all AV.one = true then some (s.upd b (.cells (splice p.1 o v.cells) p.2)) else none := by
  unfold astoreAt
  cases AObj.cells? (s.get b) <;> rfl
theorem cells?_some {c : List AV} {TT : Option TypeId} : AObj.cells? (some (.cells c TT)) = some (c, TT) := rfl
theorem get_bump (s : AHeap) (n b : Nat) : (bump s n).get b = s.get b := rfl
theorem nx_bump (s : AHeap) (n : Nat) : (bump s n).nx = s.nx + n := rfl
end
section
variable {P : Program} {T : Tab} {Q : APost} {tm : List AV} {s : AHeap} {call : CallF} {nx0 i : Nat} {g : Bool} {N : DSt → AHeap → Prop} {d : Option Nat} {co : List AHeap} {re : List AV} {ki : List DKind}
theorem lvc_draw {ms : List Nat} {l : List LOp} : lvc P T (.draw ms l) Q tm s = ldraw P T Q ms l tm s := rfl
theorem ldraw_call {ms : List Nat} {l : List LOp} (call : CallF) (hc : CallOk P call) (dyn : List (Nat × Nat)) (m : Nat) (hm : headLen ms 0 0 = m) (h : ldrun T call s.nx (fun st t => lstat l ms st.kinds m dyn = true ∧
    ldyn T l st tm dyn ∧ lops P T Q (l.drop m) st.tm (t.upds (lallocs T s.nx st.kinds 0))) (l.take m) 0 ⟨tm, [bump s m], [], []⟩ (bump s m)) : ldraw P T Q ms l tm s := by
  subst hm
  exact ⟨call, dyn, hc, h⟩
theorem ldrun_nil {st : DSt} : ldrun T call nx0 N [] i st s = N st s := rfl
theorem ldrun_cons {op : Op} {r : List LOp} {st : DSt} : ldrun T call nx0 N (⟨op, d, none⟩ :: r) i st s = ldstep T call nx0 i false (ldrun T call nx0 N r (i + 1)) op d st s := rfl
theorem ldrun_guard {op : Op} {r : List LOp} {st : DSt} {t : Nat} {b : Bool} : ldrun T call nx0 N (⟨op, d, some (t, b)⟩ :: r) i st s =
    branch ((aev st.tm (.tmp t)).bool?.map (· == b)) (ldstep T call nx0 i true (ldrun T call nx0 N r (i + 1)) op d st s) (ldrun T call nx0 N r (i + 1) (st.off d) s) := rfl
def ldval (N : DSt → AHeap → Prop) (r : Option AV) (d : Option Nat) (st : DSt) (s : AHeap) : Prop :=
  match r with
  | some v => N (st.quiet d v) s
  | none => False
theorem ldval_some {v : AV} : ldval N (some v) d ⟨tm, co, re, ki⟩ s = N ⟨aput tm d v, co, re ++ [v], ki ++ [.quiet]⟩ s := rfl
theorem ldstep_pure {op : Op} {st : DSt} (h1 : ∀ o, o.op = op → amem T {} (aev st.tm) o s = none) (h2 : ∀ e, op ≠ .alloc e) (h3 : ∀ c, op ≠ .call c) (h4 : ∀ t x, op ≠ .load t x) (h5 : ∀ t x k ok, op ≠ .lookup t x k ok) :
    ldstep T call nx0 i g N op d st s = ldval N (apure T (aev st.tm) op) d st s := by
  unfold ldstep ldval
  split
  · rename_i e; exact absurd rfl (h2 e)
  · unfold aquiet
    cases hp : apure T (aev st.tm) op with
    | some v => rfl
    | none =>
      have hl : lop T (aev st.tm) op s = none := by unfold lop aop; rw [hp]; exact h1 _ rfl
      simp only
      have key : ldeff T call N op d st s = False := by
        unfold ldeff
        split
        · rename_i c _; exact absurd rfl (h3 _)
        · rw [hl]
      cases op <;> first | exact key | exact absurd rfl (h4 _ _) | exact absurd rfl (h5 _ _ _ _)
theorem ldstep_move {x : Operand} : ldstep T call nx0 i g N (.move x) d ⟨tm, co, re, ki⟩ s = ldval N (some (aev tm x)) d ⟨tm, co, re, ki⟩ s :=
  ldstep_pure (fun o h => by unfold amem; rw [h]) (by intros; simp) (by intros; simp) (by intros; simp) (by intros; simp)
theorem ldstep_build {t : TypeId} {parts : List (Nat × Operand)} : ldstep T call nx0 i g N (.build t ⟨parts⟩) d ⟨tm, co, re, ki⟩ s = ldval N (abuild T t (parts.map fun p => (p.1, aev tm p.2))) d ⟨tm, co, re, ki⟩ s :=
  ldstep_pure (fun o h => by unfold amem; rw [h]) (by intros; simp) (by intros; simp) (by intros; simp) (by intros; simp)
theorem ldstep_fieldAddr {t : TypeId} {x : Operand} {f : Nat} : ldstep T call nx0 i g N (.fieldAddr t x f) d ⟨tm, co, re, ki⟩ s = ldval N (afieldAddr T t (aev tm x) f) d ⟨tm, co, re, ki⟩ s :=
  ldstep_pure (fun o h => by unfold amem; rw [h]) (by intros; simp) (by intros; simp) (by intros; simp) (by intros; simp)
theorem ldstep_index {t : TypeId} {x y : Operand} : ldstep T call nx0 i g N (.index t x y) d ⟨tm, co, re, ki⟩ s = ldval N (aindex T t (aev tm x) (aev tm y)) d ⟨tm, co, re, ki⟩ s :=
  ldstep_pure (fun o h => by unfold amem; rw [h]) (by intros; simp) (by intros; simp) (by intros; simp) (by intros; simp)
theorem ldstep_load {t : TypeId} {x : Operand} : ldstep T call nx0 i g N (.load t x) d ⟨tm, co, re, ki⟩ s = ldval N (aload T t (aev tm x) s) d ⟨tm, co, re, ki⟩ s :=
  by
  unfold ldstep ldval
  simp only [aquiet, apure]
  cases h : aload T t (aev tm x) s with
  | some v => rfl
  | none => simp [ldeff, lop, aop, apure, amem, h]
def ldlen (N : DSt → AHeap → Prop) (r : Option AV) (d : Option Nat) (st : DSt) (s : AHeap) (x : Prop) : Prop :=
  match r with
  | some v => N (st.quiet d v) s
  | none => x
theorem ldlen_some {v : AV} {x : Prop} : ldlen N (some v) d ⟨tm, co, re, ki⟩ s x = N ⟨aput tm d v, co, re ++ [v], ki ++ [.quiet]⟩ s := rfl
def ldmem (N : DSt → AHeap → Prop) (r : Option (AV × AHeap)) (d : Option Nat) (st : DSt) : Prop :=
  match r with
  | some (v, t) => N (st.eff d v t) t
  | none => False
theorem ldmem_some {v : AV} {t : AHeap} : ldmem N (some (v, t)) d ⟨tm, co, re, ki⟩ = N ⟨aput tm d v, co ++ [t], re ++ [v], ki ++ [.eff]⟩ t := rfl
theorem ldstep_buildSlice {t : TypeId} {n : Nat} {parts : List (Nat × Operand)} : ldstep T call nx0 i g N (.buildSlice t n ⟨parts⟩) d ⟨tm, co, re, ki⟩ s =
    ldmem N (abuildSlice T false t n (parts.map fun p => (p.1, aev tm p.2)) s) d ⟨tm, co, re, ki⟩ := by
  unfold ldstep ldmem
  simp only [aquiet, apure, ldeff, lop, aop, amem, hinted]
  rfl
theorem aquiet_load {ev : Operand → AV} {t : TypeId} {x : Operand} : aquiet T ev (.load t x) s = aload T t (ev x) s := rfl
theorem ldyn_nil {l : List LOp} {st : DSt} : ldyn T l st tm [] = True := rfl
theorem ldyn_cons {l : List LOp} {st : DSt} {i k : Nat} {r : List (Nat × Nat)} {o : LOp} (h : l[i]? = some o) : ldyn T l st tm ((i, k) :: r) =
    (aquiet T (aev (ltmTo l st.ress tm i)) o.op (st.cores.getD k .empty) = some (st.ress.getD i aundef) ∧ ldyn T l st tm r) := by
  simp only [ldyn, h]
end
section
variable {P : Program} {T : Tab}
theorem ACall.go (hT : T.Ok P) (hm : P.follows .mixedOrders = true) {f : FuncId} {fn : Func} {L : LCode} (hf : P.funcs[f]? = some fn) (hb : fn.body.map lighten = some L)
    (hn : (fn.name == "runtime.NumGoroutine") = false) {rs : List ResultVar} (hr : fn.results.toList = rs) {n : Nat} (ht : fn.ntmps = n) {args : List AV} {s : AHeap} {R : AV → AHeap → Prop} (hl : args.length ≤ n)
    (h : ∀ tm, tm.length = n → (∀ i, aev tm (.tmp i) = args.getD i aundef) → lvc P T L (lpost T rs R) tm s) : ACall P f args s R := by
  refine ACall.vc hT hm hf hb hn hr ht (h (args ++ List.replicate (n - args.length) aundef) (by simp; omega) ?_)
  intro i
  simp only [aev]
  rw [List.getD_eq_getElem?_getD, List.getD_eq_getElem?_getD, List.getElem?_append]
  split
  · rfl
  · rename_i hi
    rw [List.getElem?_eq_none (by omega : args.length ≤ i)]
    rw [List.getElem?_replicate]
    split <;> rfl
variable {R : AV → AHeap → Prop} {tm : List AV} {s : AHeap}
theorem lpost_normal0 : lpost T [] R .normal tm s = R (.tuple []) s := by simp [lpost, aresultOf, aresults]
theorem lpost_ret1 {t : Nat} : lpost T [.tmp t] R .ret tm s = R (aev tm (.tmp t)) s := by simp [lpost, aresultOf, aresults, aresult, aev]
theorem lpost_cell1 {a : Nat} {t : TypeId} : lpost T [.cell a t] R .ret tm s = ∃ v, aload T t (aev tm (.tmp a)) s = some v ∧ R v s := by
  simp only [lpost, aresultOf, aresults, aresult, aev]
  cases aload T t (tm.getD a aundef) s <;> simp
end
end Go.Am
end
