/- Part 8 of a proof: texts of this work, put together. -/
import Derived.Test.YtinoecojbflpfaaGreatDoorAm7
import Derived.Shelf.Sort.Plain
set_option linter.unusedVariables false
set_option linter.unusedSimpArgs false
noncomputable section
namespace Go.Am
open Go
section
variable {P : Program} {T : Tab} {Q : APost} {N : List AV → AHeap → Prop} {tm : List AV} {s s0 : AHeap}
theorem lvb_skip : lvb P T s0 .skip Q tm s = Q .normal tm s := rfl
theorem lvb_ops {l : List LOp} : lvb P T s0 (.ops l) Q tm s = lopsB P T s0 Q l tm s := rfl
theorem lvb_seq {a b : LCode} : lvb P T s0 (.seq a b) Q tm s = lvb P T s0 a (athen (lvb P T s0 b Q) Q) tm s := rfl
def lcondB (P : Program) (T : Tab) (s0 : AHeap) (b : Option Bool) (x y : LCode) (Q : APost) (tm : List AV) (s : AHeap) : Prop := branch b (lvb P T s0 x Q tm s) (lvb P T s0 y Q tm s)
def lguardB (P : Program) (T : Tab) (s0 : AHeap) (Q : APost) (b : Option Bool) (w : Bool) (op : Op) (d : Option Nat) (r : List LOp) (tm : List AV) (s : AHeap) : Prop :=
  branch (b.map (· == w)) (lstepB P T s0 (lopsB P T s0 Q r) op d tm s) (lopsB P T s0 Q r (aput tm d aundef) s)
theorem lvb_cond {c : Operand} {x y : LCode} : lvb P T s0 (.cond c x y) Q tm s = lcondB P T s0 (aev tm c).bool? x y Q tm s := rfl
theorem lvb_block {id : Nat} {c : LCode} : lvb P T s0 (.block id c) Q tm s = lvb P T s0 c (ablock id Q) tm s := rfl
theorem lvb_loop {c : LCode} : lvb P T s0 (.loop c) Q tm s = lloopB s0 (lvb P T s0 c) Q tm s := rfl
theorem lvb_exit {id : Nat} : lvb P T s0 (.exit id) Q tm s = Q (.exit id) tm s := rfl
theorem lvb_ret : lvb P T s0 .ret Q tm s = Q .ret tm s := rfl
theorem lvb_scope {c : LCode} : lvb P T s0 (.scope c) Q tm s = lvb P T s0 c (ascope Q) tm s := rfl
theorem lvb_label : lvb P T s0 .label Q tm s = Q .normal tm s := rfl
theorem ascope_normal : ascope Q .normal tm s = Q .normal tm s := rfl
theorem ascope_ret : ascope Q .ret tm s = Q .ret tm s := rfl
theorem ascope_exit {id : Nat} : ascope Q (.exit id) tm s = Q (.exit id) tm s := rfl
theorem lvb_draw {ms : List Nat} {l : List LOp} : lvb P T s0 (.draw ms l) Q tm s = ldrawB P T s0 Q ms l tm s := rfl
theorem lopsB_nil : lopsB P T s0 Q [] tm s = Q .normal tm s := rfl
theorem lopsB_cons {op : Op} {d : Option Nat} {r : List LOp} : lopsB P T s0 Q (⟨op, d, none⟩ :: r) tm s = lstepB P T s0 (lopsB P T s0 Q r) op d tm s := rfl
def lguardU (P : Program) (T : Tab) (s0 : AHeap) (Q : APost) (v : AV) (w : Bool) (op : Op) (d : Option Nat) (r : List LOp) (tm : List AV) (s : AHeap) : Prop :=
  branchU v w (lstepB P T s0 (lopsB P T s0 Q r) op d tm s) (lopsB P T s0 Q r (aput tm d aundef) s)
theorem lopsB_guard {op : Op} {d : Option Nat} {t : Nat} {b : Bool} {r : List LOp} : lopsB P T s0 Q (⟨op, d, some (t, b)⟩ :: r) tm s = lguardU P T s0 Q (aev tm (.tmp t)) b op d r tm s := rfl
theorem lguardU_bool {x : Bool} {w : Bool} {op : Op} {d : Option Nat} {r : List LOp} : lguardU P T s0 Q (.bool x) w op d r tm s = lguardB P T s0 Q (some x) w op d r tm s := rfl
theorem lguardU_undef {w : Bool} {op : Op} {d : Option Nat} {r : List LOp} : lguardU P T s0 Q aundef w op d r tm s = lopsB P T s0 Q r (aput tm d aundef) s := rfl
theorem lcondB_true {x y : LCode} : lcondB P T s0 (some true) x y Q tm s = lvb P T s0 x Q tm s := by simp [lcondB, branch]
theorem lcondB_false {x y : LCode} : lcondB P T s0 (some false) x y Q tm s = lvb P T s0 y Q tm s := by simp [lcondB, branch]
theorem cdD {p : Prop} [Decidable p] {x y : LCode} : lcondB P T s0 (some (decide p)) x y Q tm s = ((p → lvb P T s0 x Q tm s) ∧ (¬p → lvb P T s0 y Q tm s)) := by simp [lcondB, branch]
theorem cdN {p : Prop} [Decidable p] {x y : LCode} : lcondB P T s0 (some (!decide p)) x y Q tm s = ((p → lvb P T s0 y Q tm s) ∧ (¬p → lvb P T s0 x Q tm s)) := by
  simp [lcondB, branch, and_comm]
theorem lcondB_bool {b : Bool} {x y : LCode} : lcondB P T s0 (some b) x y Q tm s = ((b = true → lvb P T s0 x Q tm s) ∧ (b = false → lvb P T s0 y Q tm s)) := rfl
theorem lguardB_true_true {op : Op} {d : Option Nat} {r : List LOp} : lguardB P T s0 Q (some true) true op d r tm s = lstepB P T s0 (lopsB P T s0 Q r) op d tm s := by simp [lguardB, branch]
theorem lguardB_true_false {op : Op} {d : Option Nat} {r : List LOp} : lguardB P T s0 Q (some true) false op d r tm s = lopsB P T s0 Q r (aput tm d aundef) s := by simp [lguardB, branch]
theorem lguardB_false_false {op : Op} {d : Option Nat} {r : List LOp} : lguardB P T s0 Q (some false) false op d r tm s = lstepB P T s0 (lopsB P T s0 Q r) op d tm s := by simp [lguardB, branch]
theorem lguardB_false_true {op : Op} {d : Option Nat} {r : List LOp} : lguardB P T s0 Q (some false) true op d r tm s = lopsB P T s0 Q r (aput tm d aundef) s := by simp [lguardB, branch]
theorem gdT {p : Prop} [Decidable p] {op : Op} {d : Option Nat} {r : List LOp} : lguardB P T s0 Q (some (decide p)) true op d r tm s =
    ((p → lstepB P T s0 (lopsB P T s0 Q r) op d tm s) ∧ (¬p → lopsB P T s0 Q r (aput tm d aundef) s)) := by simp [lguardB, branch]
theorem gdF {p : Prop} [Decidable p] {op : Op} {d : Option Nat} {r : List LOp} : lguardB P T s0 Q (some (decide p)) false op d r tm s =
    ((p → lopsB P T s0 Q r (aput tm d aundef) s) ∧ (¬p → lstepB P T s0 (lopsB P T s0 Q r) op d tm s)) := by simp [lguardB, branch, and_comm]
variable {d : Option Nat}
theorem lstepB_move {x : Operand} : lstepB P T s0 N (.move x) d tm s = N (aput tm d (aev tm x)) s := rfl
theorem lstepB_assign {x : Operand} : lstepB P T s0 N (.assign x) d tm s = N (aput tm d (aev tm x)) s := rfl
theorem lstepB_binOp {op : BinOp} {t t' : TypeId} {x y : Operand} : lstepB P T s0 N (.binOp op t x y t') d tm s = lval N (abin T op t (aev tm x) (aev tm y)) d tm s := lstep_binOp (P := P)
theorem lstepB_unOp {op : UnOp} {t : TypeId} {x : Operand} : lstepB P T s0 N (.unOp op t x) d tm s = lval N (aun op (aev tm x)) d tm s := lstep_unOp (P := P)
theorem lstepB_pick {c a b : Operand} : lstepB P T s0 N (.pick c a b) d tm s = lval N (apick (aev tm c) (aev tm a) (aev tm b)) d tm s := lstep_pick (P := P)
theorem lstepB_nilCheck {x : Operand} : lstepB P T s0 N (.nilCheck x) d tm s = lval N (match aev tm x with
    | .ptr b off => some (.ptr b off)
    | .rptr l => some (.rptr l)
    | .func (.func f) fi ca => some (.func (.func f) fi ca)
    | _ => none) d tm s := lstep_nilCheck (P := P)
theorem lstepB_build {t : TypeId} {parts : List (Nat × Operand)} : lstepB P T s0 N (.build t ⟨parts⟩) d tm s = lval N (abuild T t (parts.map fun p => (p.1, aev tm p.2))) d tm s := lstep_build (P := P)
theorem lstepB_makeFunc {f : Fn} {a b : List Operand} : lstepB P T s0 N (.makeFunc f ⟨a⟩ ⟨b⟩) d tm s = N (aput tm d (.func f (a.map (aev tm)) (b.map (aev tm)))) s := rfl
theorem lstepB_slice {t : TypeId} {x : Operand} {lo hi mx : Option Operand} : lstepB P T s0 N (.slice t x lo hi mx) d tm s = lval N (aslice T t (aev tm x) (lo.map (aev tm)) (hi.map (aev tm)) (mx.map (aev tm))) d tm s := lstep_slice (P := P)
theorem lstepB_fieldAddr {t : TypeId} {x : Operand} {f : Nat} : lstepB P T s0 N (.fieldAddr t x f) d tm s = lval N (afieldAddr T t (aev tm x) f) d tm s := lstep_fieldAddr (P := P)
theorem lstepB_indexAddr {t : TypeId} {x y : Operand} : lstepB P T s0 N (.indexAddr t x y) d tm s = lval N (aindexAddr T t (aev tm x) (aev tm y)) d tm s := lstep_indexAddr (P := P)
theorem lstepB_index {t : TypeId} {x y : Operand} : lstepB P T s0 N (.index t x y) d tm s = lval N (aindex T t (aev tm x) (aev tm y)) d tm s := lstep_index (P := P)
theorem lstepB_convert {t u : TypeId} {x : Operand} : lstepB P T s0 N (.convert t u x) d tm s = lmem N (lop T (aev tm) (.convert t u x) s) d tm := rfl
theorem lstepB_extract {t : Operand} {i : Nat} : lstepB P T s0 N (.extract t i) d tm s = lval N (match aev tm t with | .tuple l => l[i]? | _ => none) d tm s := lstep_extract (P := P)
theorem lstepB_alloc {e : TypeId} : lstepB P T s0 N (.alloc e) d tm s = lmem N (match T.ty e with
    | some i => if (AV.ofV i.zero).israw then none else some (.ptr s.nx 0, s.new (.cells (AV.ofV i.zero).cells (some e)))
    | none => none) d tm := rfl
theorem lstepB_box {e : TypeId} {x : Operand} : lstepB P T s0 N (.box e x) d tm s = lmem N (if (aev tm x).israw = true then none else some (.ptr s.nx 0, s.new (.cells (aev tm x).cells (some e)))) d tm := rfl
theorem lstepB_load {t : TypeId} {x : Operand} : lstepB P T s0 N (.load t x) d tm s = lval N (aload T t (aev tm x) s) d tm s := lstep_load (P := P)
theorem lstepB_store {t : TypeId} {x v : Operand} : lstepB P T s0 N (.store t x v) d tm s = lmem N ((astore T t (aev tm x) (aev tm v) s).map fun s' => (aundef, s')) d tm := rfl
theorem lstepB_makeSlice {t : TypeId} {l c : Operand} : lstepB P T s0 N (.makeSlice t l c) d tm s = lmem N (amakeSlice T t (aev tm l) (aev tm c) s) d tm := rfl
theorem lstepB_buildSlice {t : TypeId} {n : Nat} {parts : List (Nat × Operand)} : lstepB P T s0 N (.buildSlice t n ⟨parts⟩) d tm s = lmem N (abuildSlice T false t n (parts.map fun p => (p.1, aev tm p.2)) s) d tm := rfl
theorem lstepB_min {ts : Array TypeId} {x y : Operand} : lstepB P T s0 N (.call { callee := .builtin .min, args := ⟨[x, y]⟩, argTypes := ts }) d tm s = lval N (amin2 (aev tm x) (aev tm y)) d tm s := lstep_min (P := P)
def olen (T : Tab) (t : TypeId) (v : AV) (s : AHeap) : Option AV → Option (AV × AHeap)
      | some v => some (v, s)
      | none => match v with
        | .map b => match AObj.map? (s.get b) with
          | some (es, _) => match T.ty t with
            | some i => match i.td with
              | .map _ _ => some (.int .i64 es.length, s)
              | _ => none
            | none => none
          | none => none
        | _ => none
theorem olen_some {t : TypeId} {v x : AV} : olen T t v s (some x) = some (x, s) := rfl
theorem lstepB_len {t : TypeId} {ts : List TypeId} {x : Operand} : lstepB P T s0 N (.call { callee := .builtin .len, args := ⟨[x]⟩, argTypes := ⟨t :: ts⟩ }) d tm s = lmem N (olen T t (aev tm x) s (alen T t (aev tm x))) d tm := by
  refine (lstep_len (P := P)).trans ?_
  unfold olen
  cases alen T t (aev tm x) <;> rfl
def lappend (T : Tab) (t u : TypeId) (x y : AV) (s : AHeap) : Option (AV × AHeap) := match T.ty t, T.ty u with
        | some i, some j => match i.td, j.td with
          | .slice e, .slice _ => aappend T e s x y
          | .slice e, .str => aappend T e s x y
          | .slice e, .int _ => agrow T e s x y
          | _, _ => none
        | _, _ => none
theorem lstepB_append {t u : TypeId} {x y : Operand} : lstepB P T s0 N (.call { callee := .builtin .append, args := ⟨[x, y]⟩, argTypes := ⟨[t, u]⟩ }) d tm s = lmem N (lappend T t u (aev tm x) (aev tm y) s) d tm := rfl
def lclear (T : Tab) (t : TypeId) (x : AV) (s : AHeap) : Option (AV × AHeap) := match T.ty t with
  | some i => match i.td with
    | .slice e => aclear T e s x
    | _ => none
  | none => none
theorem lstepB_cap {t : TypeId} {ts : List TypeId} {x : Operand} : lstepB P T s0 N (.call { callee := .builtin .cap, args := ⟨[x]⟩, argTypes := ⟨t :: ts⟩ }) d tm s = lval N (acap T t (aev tm x)) d tm s := by
  show lmem N (lop T (aev tm) _ s) d tm = _
  unfold lop aop apure
  simp only [List.getElem?_toArray, List.getElem?_cons_zero]
  cases acap T t (aev tm x) with
  | none => simp [amem, lval, lmem]
  | some v => rfl
theorem lstepB_clear {t : TypeId} {x : Operand} : lstepB P T s0 N (.call { callee := .builtin .clear, args := ⟨[x]⟩, argTypes := ⟨[t]⟩ }) d tm s = lmem N (lclear T t (aev tm x) s) d tm := rfl
theorem lstepB_call {f : Operand} {args : List Operand} {ts : Array TypeId} : lstepB P T s0 N (.call { callee := .value f, args := ⟨args⟩, argTypes := ts }) d tm s =
    lfunG P s0 N f args d tm s (aev tm f) (args.map (aev tm)) := rfl
section
variable {f : Operand} {args : List Operand} {g : FuncId} {av : List AV}
theorem lfunG_eq {v : AV} {t : AHeap} (h : ACall P g av s fun v' t' => v' = v ∧ t' = t) (k : N (aput tm d v) t) : lfunG P s0 N f args d tm s (.func (.func g) [] []) av := by
  intro hf ha
  refine .now ?_
  rw [← hf, ← ha]
  show lcall P N g ([] ++ av ++ []) s d tm
  rw [List.nil_append, List.append_nil]
  exact lcall_eq h k
theorem lfunG_of {R : AV → AHeap → Prop} (h : ACall P g av s R) (k : ∀ v t, R v t → N (aput tm d v) t) : lfunG P s0 N f args d tm s (.func (.func g) [] []) av := by
  intro hf ha
  refine .now ?_
  rw [← hf, ← ha]
  show lcall P N g ([] ++ av ++ []) s d tm
  rw [List.nil_append, List.append_nil]
  exact lcall_of h k
theorem pu_ofOne (v : Value) : Pu (AV.ofOne v) := by
  unfold AV.ofOne Pu
  split <;> simp only [low]
theorem pu_ofV (v : Value) : Pu (AV.ofV v) := by
  unfold AV.ofV
  split
  · simp only [Pu, low, lowL_iff, List.mem_map]
    rintro x ⟨y, _, rfl⟩
    exact pu_ofOne y
  · simp only [Pu, low, lowL_iff, List.mem_map]
    rintro x ⟨y, _, rfl⟩
    exact pu_ofOne y
  · exact pu_ofOne _
theorem aev_fz {b sz : Nat} {xs : List AV} : ∀ x : Operand, aev (fzL b sz xs tm) x = fz b sz xs (aev tm x)
  | .tmp i => aev_fzL
  | .const v => (fz_pu (pu_ofV v)).symm
  | .global g => by
    simp only [aev]
    split
    · rename_i l hl
      obtain ⟨k, z, rfl⟩ := globAt_ints hl
      exact (fz_pu (by simp only [Pu, low, lowL_iff, List.mem_map]; rintro x ⟨y, _, rfl⟩; simp only [low])).symm
    · simp only [fz]
  | .func f => by simp only [aev, fz, fzL]
theorem lfunG_freeze {s1 : AHeap} {n : Nat} {l : List (Nat × Option AObj)} {fv : AV} (k sz : Nat) (xs : List AV) {TT : Option TypeId} (hk : lget l k = some (.cells (xs.flatMap AV.cells) TT)) (hsz : ∀ x ∈ xs, x.cells.length = sz)
    (h : lfunG P s0 N f args d (fzL (nm s1.nx k) sz xs tm) (loc s1 n (lmap (fzO (nm s1.nx k) sz xs) (ldel l k))) (fz (nm s1.nx k) sz xs fv) (fzL (nm s1.nx k) sz xs av)) :
    lfunG P s0 N f args d tm (loc s1 n l) fv av := by
  intro hf ha
  refine Gh.freeze k sz xs hk hsz (h ?_ ?_)
  · rw [hf, aev_fz]
  · rw [ha, fzL_map, List.map_map]
    exact List.map_congr_left fun x _ => (aev_fz x).symm
end
section
variable {eal : Nat → Bool} {nx0 i : Nat} {g : Bool} {N : DSt → AHeap → Prop} {co : List AHeap} {re : List AV} {ki : List DKind}
def inl : List Nat → Nat → Bool
  | [], _ => false
  | x :: r, i => if x = i then true else inl r i
theorem inl_nil {i : Nat} : inl [] i = false := by cases i <;> rfl
theorem ldrawB_go {ms : List Nat} {l : List LOp} (eal : List Nat) (dyn : List (Nat × Nat)) (m : Nat) (hm : headLen ms 0 0 = m) (h : ldrunB P T (inl eal) s.nx (fun st t => lstat l ms st.kinds m dyn = true ∧
    ldyn T l st tm dyn ∧ lopsB P T s0 Q (l.drop m) st.tm (t.upds (lallocs T s.nx st.kinds 0))) (l.take m) 0 ⟨tm, [bump s m], [], []⟩ (bump s m)) : ldrawB P T s0 Q ms l tm s := by
  subst hm
  exact ⟨inl eal, dyn, h⟩
theorem ldrunB_nil {st : DSt} : ldrunB P T eal nx0 N [] i st s = N st s := rfl
theorem ldrunB_cons {op : Op} {r : List LOp} {st : DSt} : ldrunB P T eal nx0 N (⟨op, d, none⟩ :: r) i st s = ldstepB P T eal nx0 i false (ldrunB P T eal nx0 N r (i + 1)) op d st s := rfl
def ldguardB (P : Program) (T : Tab) (eal : Nat → Bool) (nx0 i : Nat) (N : DSt → AHeap → Prop) (b : Option Bool) (w : Bool) (op : Op) (d : Option Nat) (r : List LOp) (st : DSt) (s : AHeap) : Prop :=
  branch (b.map (· == w)) (ldstepB P T eal nx0 i true (ldrunB P T eal nx0 N r (i + 1)) op d st s) (ldrunB P T eal nx0 N r (i + 1) (st.off d) s)
def ldguardU (P : Program) (T : Tab) (eal : Nat → Bool) (nx0 i : Nat) (N : DSt → AHeap → Prop) (v : AV) (w : Bool) (op : Op) (d : Option Nat) (r : List LOp) (st : DSt) (s : AHeap) : Prop :=
  branchU v w (ldstepB P T eal nx0 i true (ldrunB P T eal nx0 N r (i + 1)) op d st s) (ldrunB P T eal nx0 N r (i + 1) (st.off d) s)
theorem ldrunB_guard {op : Op} {r : List LOp} {t : Nat} {b : Bool} : ldrunB P T eal nx0 N (⟨op, d, some (t, b)⟩ :: r) i ⟨tm, co, re, ki⟩ s =
    ldguardU P T eal nx0 i N (aev tm (.tmp t)) b op d r ⟨tm, co, re, ki⟩ s := rfl
theorem ldguardU_bool {x : Bool} {w : Bool} {op : Op} {r : List LOp} {st : DSt} : ldguardU P T eal nx0 i N (.bool x) w op d r st s = ldguardB P T eal nx0 i N (some x) w op d r st s := rfl
theorem ldguardU_undef {w : Bool} {op : Op} {r : List LOp} : ldguardU P T eal nx0 i N aundef w op d r ⟨tm, co, re, ki⟩ s = ldrunB P T eal nx0 N r (i + 1) ⟨aput tm d aundef, co, re ++ [aundef], ki ++ [.off]⟩ s := rfl
theorem ldguardB_tt {op : Op} {r : List LOp} {st : DSt} : ldguardB P T eal nx0 i N (some true) true op d r st s = ldstepB P T eal nx0 i true (ldrunB P T eal nx0 N r (i + 1)) op d st s := by simp [ldguardB, branch]
theorem ldguardB_tf {op : Op} {r : List LOp} : ldguardB P T eal nx0 i N (some true) false op d r ⟨tm, co, re, ki⟩ s = ldrunB P T eal nx0 N r (i + 1) ⟨aput tm d aundef, co, re ++ [aundef], ki ++ [.off]⟩ s := by simp [ldguardB, branch, DSt.off]
theorem ldguardB_ff {op : Op} {r : List LOp} {st : DSt} : ldguardB P T eal nx0 i N (some false) false op d r st s = ldstepB P T eal nx0 i true (ldrunB P T eal nx0 N r (i + 1)) op d st s := by simp [ldguardB, branch]
theorem ldguardB_ft {op : Op} {r : List LOp} : ldguardB P T eal nx0 i N (some false) true op d r ⟨tm, co, re, ki⟩ s = ldrunB P T eal nx0 N r (i + 1) ⟨aput tm d aundef, co, re ++ [aundef], ki ++ [.off]⟩ s := by simp [ldguardB, branch, DSt.off]
theorem gdD {p : Prop} [Decidable p] {w : Bool} {op : Op} {r : List LOp} {st : DSt} : ldguardB P T eal nx0 i N (some (decide p)) w op d r st s =
    ((p → ldguardB P T eal nx0 i N (some true) w op d r st s) ∧ (¬ p → ldguardB P T eal nx0 i N (some false) w op d r st s)) := by
  by_cases h : p <;> simp [h]
theorem ldstepB_pure {op : Op} {st : DSt} (h1 : ∀ o, o.op = op → amem T {} (aev st.tm) o s = none) (h2 : ∀ e, op ≠ .alloc e) (h3 : ∀ c, op ≠ .call c) (h4 : ∀ t x, op ≠ .load t x) (h5 : ∀ t x k ok, op ≠ .lookup t x k ok) (h6 : ∀ t n p, op ≠ .buildSlice t n p) :
    ldstepB P T eal nx0 i g N op d st s = ldval N (apure T (aev st.tm) op) d st s := by
  unfold ldstepB ldval
  split
  · rename_i e; exact absurd rfl (h2 e)
  · rename_i c; exact absurd rfl (h3 c)
  · rename_i t x; exact absurd rfl (h4 t x)
  · rename_i t n p; exact absurd rfl (h6 t n p)
  · unfold aquiet
    cases hp : apure T (aev st.tm) op with
    | some v => rfl
    | none =>
      have hl : lop T (aev st.tm) op s = none := by unfold lop aop; rw [hp]; exact h1 _ rfl
      simp only
      have key : ldop T N op d st s = False := by unfold ldop; rw [hl]
      cases op <;> first | exact key | exact absurd rfl (h4 _ _) | exact absurd rfl (h5 _ _ _ _)
theorem ldstepB_move {x : Operand} : ldstepB P T eal nx0 i g N (.move x) d ⟨tm, co, re, ki⟩ s = N ⟨aput tm d (aev tm x), co, re ++ [aev tm x], ki ++ [.quiet]⟩ s :=
  (ldstepB_pure (fun o h => by unfold amem; rw [h]) (by intros; simp) (by intros; simp) (by intros; simp) (by intros; simp) (by intros; simp)).trans rfl
theorem ldstepB_assign {x : Operand} : ldstepB P T eal nx0 i g N (.assign x) d ⟨tm, co, re, ki⟩ s = N ⟨aput tm d (aev tm x), co, re ++ [aev tm x], ki ++ [.quiet]⟩ s :=
  (ldstepB_pure (fun o h => by unfold amem; rw [h]) (by intros; simp) (by intros; simp) (by intros; simp) (by intros; simp) (by intros; simp)).trans rfl
theorem ldstepB_binOp {op : BinOp} {t t' : TypeId} {x y : Operand} : ldstepB P T eal nx0 i g N (.binOp op t x y t') d ⟨tm, co, re, ki⟩ s = ldval N (abin T op t (aev tm x) (aev tm y)) d ⟨tm, co, re, ki⟩ s :=
  ldstepB_pure (fun o h => by unfold amem; rw [h]) (by intros; simp) (by intros; simp) (by intros; simp) (by intros; simp) (by intros; simp)
theorem ldstepB_unOp {op : UnOp} {t : TypeId} {x : Operand} : ldstepB P T eal nx0 i g N (.unOp op t x) d ⟨tm, co, re, ki⟩ s = ldval N (aun op (aev tm x)) d ⟨tm, co, re, ki⟩ s :=
  ldstepB_pure (fun o h => by unfold amem; rw [h]) (by intros; simp) (by intros; simp) (by intros; simp) (by intros; simp) (by intros; simp)
theorem ldstepB_build {t : TypeId} {parts : List (Nat × Operand)} : ldstepB P T eal nx0 i g N (.build t ⟨parts⟩) d ⟨tm, co, re, ki⟩ s = ldval N (abuild T t (parts.map fun p => (p.1, aev tm p.2))) d ⟨tm, co, re, ki⟩ s :=
  ldstepB_pure (fun o h => by unfold amem; rw [h]) (by intros; simp) (by intros; simp) (by intros; simp) (by intros; simp) (by intros; simp)
theorem ldstepB_slice {t : TypeId} {x : Operand} {lo hi mx : Option Operand} : ldstepB P T eal nx0 i g N (.slice t x lo hi mx) d ⟨tm, co, re, ki⟩ s = ldval N (aslice T t (aev tm x) (lo.map (aev tm)) (hi.map (aev tm)) (mx.map (aev tm))) d ⟨tm, co, re, ki⟩ s :=
  ldstepB_pure (fun o h => by unfold amem; rw [h]) (by intros; simp) (by intros; simp) (by intros; simp) (by intros; simp) (by intros; simp)
theorem ldstepB_fieldAddr {t : TypeId} {x : Operand} {f : Nat} : ldstepB P T eal nx0 i g N (.fieldAddr t x f) d ⟨tm, co, re, ki⟩ s = ldval N (afieldAddr T t (aev tm x) f) d ⟨tm, co, re, ki⟩ s :=
  ldstepB_pure (fun o h => by unfold amem; rw [h]) (by intros; simp) (by intros; simp) (by intros; simp) (by intros; simp) (by intros; simp)
theorem ldstepB_indexAddr {t : TypeId} {x y : Operand} : ldstepB P T eal nx0 i g N (.indexAddr t x y) d ⟨tm, co, re, ki⟩ s = ldval N (aindexAddr T t (aev tm x) (aev tm y)) d ⟨tm, co, re, ki⟩ s :=
  ldstepB_pure (fun o h => by unfold amem; rw [h]) (by intros; simp) (by intros; simp) (by intros; simp) (by intros; simp) (by intros; simp)
theorem ldstepB_index {t : TypeId} {x y : Operand} : ldstepB P T eal nx0 i g N (.index t x y) d ⟨tm, co, re, ki⟩ s = ldval N (aindex T t (aev tm x) (aev tm y)) d ⟨tm, co, re, ki⟩ s :=
  ldstepB_pure (fun o h => by unfold amem; rw [h]) (by intros; simp) (by intros; simp) (by intros; simp) (by intros; simp) (by intros; simp)
theorem ldstepB_nilCheck {x : Operand} : ldstepB P T eal nx0 i g N (.nilCheck x) d ⟨tm, co, re, ki⟩ s = ldval N (match aev tm x with
    | .ptr b off => some (.ptr b off)
    | .rptr l => some (.rptr l)
    | .func (.func f) fi ca => some (.func (.func f) fi ca)
    | _ => none) d ⟨tm, co, re, ki⟩ s :=
  ldstepB_pure (fun o h => by unfold amem; rw [h]) (by intros; simp) (by intros; simp) (by intros; simp) (by intros; simp) (by intros; simp)
theorem ldstepB_pick {c a b : Operand} : ldstepB P T eal nx0 i g N (.pick c a b) d ⟨tm, co, re, ki⟩ s = ldval N (apick (aev tm c) (aev tm a) (aev tm b)) d ⟨tm, co, re, ki⟩ s := by
  refine (ldstepB_pure (fun o h => by unfold amem; rw [h]) (by intros; simp) (by intros; simp) (by intros; simp) (by intros; simp) (by intros; simp)).trans ?_
  congr 1
  simp only [apure]
  cases aev tm c <;> try rfl
  rename_i v
  cases v <;> rfl
def ldloadB (N : DSt → AHeap → Prop) (x : AV) (r : Option AV) (d : Option Nat) (st : DSt) (s : AHeap) : Prop :=
  match r with
  | some v => match x with
    | .rptr _ => N (st.free d v) s
    | _ => N (st.quiet d v) s
  | none => False
theorem ldloadB_r {c : List AV} {v : AV} : ldloadB N (.rptr c) (some v) d ⟨tm, co, re, ki⟩ s = N ⟨aput tm d v, co, re ++ [v], ki ++ [.free]⟩ s := rfl
theorem ldloadB_f {b o : Nat} {c : List AV} {v : AV} : ldloadB N (.fp b o c) (some v) d ⟨tm, co, re, ki⟩ s = N ⟨aput tm d v, co, re ++ [v], ki ++ [.quiet]⟩ s := rfl
theorem ldloadB_p {b o : Nat} {v : AV} : ldloadB N (.ptr b o) (some v) d ⟨tm, co, re, ki⟩ s = N ⟨aput tm d v, co, re ++ [v], ki ++ [.quiet]⟩ s := rfl
theorem ldstepB_load {t : TypeId} {x : Operand} : ldstepB P T eal nx0 i g N (.load t x) d ⟨tm, co, re, ki⟩ s = ldloadB N (aev tm x) (aload T t (aev tm x) s) d ⟨tm, co, re, ki⟩ s := by
  unfold ldstepB ldloadB
  simp only
  cases aev tm x <;> simp only <;> generalize aload T t _ s = q <;> cases q <;> rfl
def ldlenB (T : Tab) (N : DSt → AHeap → Prop) (op : Op) (d : Option Nat) (st : DSt) (s : AHeap) : Option AV → Prop
  | some v => N (st.quiet d v) s
  | none => ldop T N op d st s
theorem ldlenB_some {op : Op} {v : AV} : ldlenB T N op d ⟨tm, co, re, ki⟩ s (some v) = N ⟨aput tm d v, co, re ++ [v], ki ++ [.quiet]⟩ s := rfl
theorem ldstepB_len {t : TypeId} {ts : List TypeId} {x : Operand} : ldstepB P T eal nx0 i g N (.call { callee := .builtin .len, args := ⟨[x]⟩, argTypes := ⟨t :: ts⟩ }) d ⟨tm, co, re, ki⟩ s =
    ldlenB T N (.call { callee := .builtin .len, args := ⟨[x]⟩, argTypes := ⟨t :: ts⟩ }) d ⟨tm, co, re, ki⟩ s (alen T t (aev tm x)) := by
  unfold ldstepB ldlenB
  simp only [aquiet, apure, List.getElem?_toArray, List.getElem?_cons_zero]
  cases alen T t (aev tm x) <;> rfl
theorem ldstepB_max {ts : Array TypeId} {x y : Operand} : ldstepB P T eal nx0 i g N (.call { callee := .builtin .max, args := ⟨[x, y]⟩, argTypes := ts }) d ⟨tm, co, re, ki⟩ s =
    ldlenB T N (.call { callee := .builtin .max, args := ⟨[x, y]⟩, argTypes := ts }) d ⟨tm, co, re, ki⟩ s (amax2 (aev tm x) (aev tm y)) := by
  unfold ldstepB ldlenB
  simp only [aquiet, apure, List.map_cons, List.map_nil, afold]
  cases amax2 (aev tm x) (aev tm y) <;> rfl
theorem ldstepB_store {t : TypeId} {x v : Operand} : ldstepB P T eal nx0 i g N (.store t x v) d ⟨tm, co, re, ki⟩ s = ldmem N ((astore T t (aev tm x) (aev tm v) s).map fun s' => (aundef, s')) d ⟨tm, co, re, ki⟩ := by
  unfold ldstepB ldmem
  simp only [aquiet, apure, ldop, lop, aop, amem]
  rfl
def ldbuildV (T : Tab) (N : DSt → AHeap → Prop) (r : Option (AV × AHeap)) (d : Option Nat) (st : DSt) (s : AHeap) : Prop := match r with
  | some (v, _) => N (st.free d v) s
  | none => False
theorem ldstepB_buildSlice {t : TypeId} {n : Nat} {parts : List (Nat × Operand)} (he : eal i = false) : ldstepB P T eal nx0 i g N (.buildSlice t n ⟨parts⟩) d ⟨tm, co, re, ki⟩ s =
    ldmem N (abuildSlice T false t n (parts.map fun p => (p.1, aev tm p.2)) s) d ⟨tm, co, re, ki⟩ := by
  unfold ldstepB ldmem
  simp only [he, ldop, lop, aop, apure, amem, hinted]
  rfl
theorem ldbuildV_some {v : AV} {t : AHeap} : ldbuildV T N (some (v, t)) d ⟨tm, co, re, ki⟩ s = N ⟨aput tm d v, co, re ++ [v], ki ++ [.free]⟩ s := rfl
theorem ldstepB_call {f : Operand} {args : List Operand} {ts : Array TypeId} : ldstepB P T eal nx0 i g N (.call { callee := .value f, args := ⟨args⟩, argTypes := ts }) d ⟨tm, co, re, ki⟩ s =
    ldfun P N (aev tm f) (args.map (aev tm)) d ⟨tm, co, re, ki⟩ s := rfl
theorem ldfun_pure {f : FuncId} {av : List AV} (v : AV) (h : ∀ s, ACall P f av s fun v' t' => v' = v ∧ t' = s) (k : N ⟨aput tm d v, co, re ++ [v], ki ++ [.free]⟩ s) : ldfun P N (.func (.func f) [] []) av d ⟨tm, co, re, ki⟩ s := by
  refine .inl ⟨v, ?_, k⟩
  rw [List.nil_append, List.append_nil]; exact h
theorem ldfun_eff {f : FuncId} {av : List AV} (v : AV) (t : AHeap) (h : ACall P f av s fun v' t' => v' = v ∧ t' = t) (k : N ⟨aput tm d v, co ++ [t], re ++ [v], ki ++ [.eff]⟩ t) : ldfun P N (.func (.func f) [] []) av d ⟨tm, co, re, ki⟩ s := by
  refine .inr ⟨v, t, ?_, k⟩
  rw [List.nil_append, List.append_nil]; exact h
end
section
variable {R : AV → AHeap → Prop} {s1 : AHeap} {n : Nat} {l l' : List (Nat × Option AObj)} {v v' : AV}
theorem lexit_pure (hs : OKo s0 s1) (hv : low s0.nx v) (hR : R v s1) : lexit s0 R (some v) (loc s1 n l) := exit_pure hs hv hR
theorem lexit_freeze (k sz : Nat) (xs : List AV) {T : Option TypeId} (hk : lget l k = some (.cells (xs.flatMap AV.cells) T)) (hsz : ∀ x ∈ xs, x.cells.length = sz)
    (h : lexit s0 R (some (fz (nm s1.nx k) sz xs v)) (loc s1 n (lmap (fzO (nm s1.nx k) sz xs) (ldel l k)))) : lexit s0 R (some v) (loc s1 n l) := exit_freeze k sz xs hk hsz h
theorem lpostB_ret0 : lpostB T s0 [] R .ret tm s = lexit s0 R (some (.tuple [])) s := rfl
theorem lpostB_normal0 : lpostB T s0 [] R .normal tm s = lexit s0 R (some (.tuple [])) s := rfl
theorem lpostB_ret1 {t : Nat} : lpostB T s0 [.tmp t] R .ret tm s = lexit s0 R (some (aev tm (.tmp t))) s := rfl
theorem lpostB_ret2 {t u : Nat} : lpostB T s0 [.tmp t, .tmp u] R .ret tm s = lexit s0 R (some (.tuple [aev tm (.tmp t), aev tm (.tmp u)])) s := rfl
theorem lpostB_ret3 {t u x : Nat} : lpostB T s0 [.tmp t, .tmp u, .tmp x] R .ret tm s = lexit s0 R (some (.tuple [aev tm (.tmp t), aev tm (.tmp u), aev tm (.tmp x)])) s := rfl
theorem lpostB_cell1 {a : Nat} {t : TypeId} : lpostB T s0 [.cell a t] R .ret tm s = lexit s0 R (aload T t (aev tm (.tmp a)) s) s := by
  simp only [lpostB, aresultOf, aresults, aresult, aev]
  cases aload T t (tm.getD a aundef) s <;> rfl
theorem lpostB_cell2 {a u : Nat} {t : TypeId} : lpostB T s0 [.cell a t, .tmp u] R .ret tm s = lexit s0 R ((aload T t (aev tm (.tmp a)) s).bind fun v => some (.tuple [v, aev tm (.tmp u)])) s := by
  simp only [lpostB, aresultOf, aresults, aresult, aev]
  cases aload T t (tm.getD a aundef) s <;> rfl
end
end
theorem forall_pair_cons {α : Type} {p : Nat × α → Prop} {a : Nat × α} {l : List (Nat × α)} : (∀ x ∈ a :: l, p x) = (p a ∧ ∀ x ∈ l, p x) := by simp
theorem forall_pair_nil {α : Type} {p : Nat × α → Prop} : (∀ x ∈ ([] : List (Nat × α)), p x) = True := by simp
theorem okObjs_nil {f : Nat → Nat} {r : List Nat} {l : List (Nat × Option AObj)} : okObjs f r l [] = True := rfl
theorem okObjs_cons {f : Nat → Nat} {r : List Nat} {l t : List (Nat × Option AObj)} {j : Nat} {o : Option AObj} : okObjs f r l ((j, o) :: t) = ((match r[j]? with | some k => lget l k = o.map (renO f) | none => False) ∧ okObjs f r l t) := rfl
theorem renO_cells {f : Nat → Nat} {c : List AV} {T : Option TypeId} : renO f (.cells c T) = .cells (renL f c) T := rfl
theorem fzO_cells {b sz : Nat} {xs c : List AV} {T : Option TypeId} : fzO b sz xs (.cells c T) = .cells (fzL b sz xs c) T := rfl
theorem abin_sadd {T : Tab} {t : TypeId} {x y : List UInt8} (h : x.length + y.length ≤ 9000000000000000000) : abin T .add t (.str x) (.str y) = some (.str (x ++ y)) := by
  simp only [abin, abin1, astr]
  rw [if_neg]
  simp only [IntKind.max, IntKind.signed, IntKind.bits]
  omega
theorem abin_slss {T : Tab} {t : TypeId} {x y : List UInt8} : abin T .lss t (.str x) (.str y) = some (.bool (Op.bytesLess x y)) := rfl
theorem pu_ren {v : AV} (h : Pu v) : ∀ f, ren f v = v := fun _ => ren_pu h
theorem pul_ren {l : List AV} (h : PuL l) : ∀ f, renL f l = l := fun _ => renL_pu h
theorem To.go {s0 s1 : AHeap} {tm : List AV} {n : Nat} {l : List (Nat × Option AObj)} {lv : List (Nat × AV)} {h : AHeap} (r : List Nat) (l' : List (Nat × Option AObj)) (hh : h = loc s1 r.length l') (hs : OKo s0 s1) (hr : r.Nodup)
    (hn : (lv.map (·.1)).Nodup) (hlv : ∀ p ∈ lv, p.1 < tm.length ∧ aev tm (.tmp p.1) = Am.ren (rnm s0.nx r (nm s0.nx n)) p.2) (ho : okObjs (rnm s0.nx r (nm s0.nx n)) r l l') : To s0 tm (loc s1 n l) lv h := by
  subst hh
  exact To.ren r hs hr hn hlv ho
theorem getD_cons_lit {α : Type} {x d : α} {l : List α} {i : Nat} : (x :: l).getD (i + 1) d = l.getD i d := rfl
attribute [go_sem] ldyn ltmTo aquiet_load
attribute [go_sem] ren renL fz fzL renO_cells fzO_cells rnm_nm okObjs_nil okObjs_cons forall_pair_cons forall_pair_nil
theorem cells_bool (b : Bool) : (.bool b : AV).cells = [(.bool b : AV)] := rfl
theorem israw_bool (b : Bool) : (.bool b : AV).israw = false := rfl
theorem one_bool (b : Bool) : (.bool b : AV).one = true := rfl
theorem cells_int (k : IntKind) (n : Int) : (.int k n : AV).cells = [(.int k n : AV)] := rfl
theorem israw_int (k : IntKind) (n : Int) : (.int k n : AV).israw = false := rfl
theorem one_int (k : IntKind) (n : Int) : (.int k n : AV).one = true := rfl
theorem cells_str (l : List UInt8) : (.str l : AV).cells = [(.str l : AV)] := rfl
theorem israw_str (l : List UInt8) : (.str l : AV).israw = false := rfl
theorem one_str (l : List UInt8) : (.str l : AV).one = true := rfl
theorem cells_nilp  : (.nilp : AV).cells = [(.nilp : AV)] := rfl
theorem israw_nilp  : (.nilp : AV).israw = false := rfl
theorem one_nilp  : (.nilp : AV).one = true := rfl
theorem cells_ptr (b o : Nat) : (.ptr b o : AV).cells = [(.ptr b o : AV)] := rfl
theorem israw_ptr (b o : Nat) : (.ptr b o : AV).israw = false := rfl
theorem one_ptr (b o : Nat) : (.ptr b o : AV).one = true := rfl
theorem cells_rptr (l : List AV) : (.rptr l : AV).cells = [(.rptr l : AV)] := rfl
theorem israw_rptr (l : List AV) : (.rptr l : AV).israw = false := rfl
theorem one_rptr (l : List AV) : (.rptr l : AV).one = true := rfl
theorem cells_emp : (.emp : AV).cells = [(.emp : AV)] := rfl
theorem israw_emp : (.emp : AV).israw = false := rfl
theorem one_emp : (.emp : AV).one = true := rfl
theorem cells_fp (b o : Nat) (l : List AV) : (.fp b o l : AV).cells = [(.fp b o l : AV)] := rfl
theorem israw_fp (b o : Nat) (l : List AV) : (.fp b o l : AV).israw = false := rfl
theorem one_fp (b o : Nat) (l : List AV) : (.fp b o l : AV).one = true := rfl
theorem cells_av (g : Nat) (l : List Int) : (.av g l : AV).cells = [(.av g l : AV)] := rfl
theorem israw_av (g : Nat) (l : List Int) : (.av g l : AV).israw = false := rfl
theorem one_av (g : Nat) (l : List Int) : (.av g l : AV).one = true := rfl
theorem cells_nils  : (.nils : AV).cells = [(.nils : AV)] := rfl
theorem israw_nils  : (.nils : AV).israw = false := rfl
theorem one_nils  : (.nils : AV).one = true := rfl
theorem cells_vs (z : Nat) (f : Bool) (l : List AV) : (.vs z f l : AV).cells = [(.vs z f l : AV)] := rfl
theorem israw_vs (z : Nat) (f : Bool) (l : List AV) : (.vs z f l : AV).israw = false := rfl
theorem one_vs (z : Nat) (f : Bool) (l : List AV) : (.vs z f l : AV).one = true := rfl
theorem cells_rs (z b o n : Nat) : (.rs z b o n : AV).cells = [(.rs z b o n : AV)] := rfl
theorem israw_rs (z b o n : Nat) : (.rs z b o n : AV).israw = false := rfl
theorem one_rs (z b o n : Nat) : (.rs z b o n : AV).one = true := rfl
theorem cells_func (f : Fn) (a c : List AV) : (.func f a c : AV).cells = [(.func f a c : AV)] := rfl
theorem israw_func (f : Fn) (a c : List AV) : (.func f a c : AV).israw = false := rfl
theorem one_func (f : Fn) (a c : List AV) : (.func f a c : AV).one = true := rfl
theorem cells_nilf  : (.nilf : AV).cells = [(.nilf : AV)] := rfl
theorem israw_nilf  : (.nilf : AV).israw = false := rfl
theorem one_nilf  : (.nilf : AV).one = true := rfl
theorem cells_nilm  : (.nilm : AV).cells = [(.nilm : AV)] := rfl
theorem israw_nilm  : (.nilm : AV).israw = false := rfl
theorem one_nilm  : (.nilm : AV).one = true := rfl
theorem cells_map (b : Nat) : (.map b : AV).cells = [(.map b : AV)] := rfl
theorem israw_map (b : Nat) : (.map b : AV).israw = false := rfl
theorem one_map (b : Nat) : (.map b : AV).one = true := rfl
theorem cells_iface (t : TypeId) (v : AV) : (.iface t v : AV).cells = [(.iface t v : AV)] := rfl
theorem israw_iface (t : TypeId) (v : AV) : (.iface t v : AV).israw = false := rfl
theorem one_iface (t : TypeId) (v : AV) : (.iface t v : AV).one = true := rfl
theorem cells_nili  : (.nili : AV).cells = [(.nili : AV)] := rfl
theorem israw_nili  : (.nili : AV).israw = false := rfl
theorem one_nili  : (.nili : AV).one = true := rfl
theorem cells_agg (l : List AV) : (.agg l : AV).cells = l := rfl
theorem israw_agg (l : List AV) : (.agg l : AV).israw = false := rfl
theorem cells_tuple (l : List AV) : (.tuple l : AV).cells = [(.tuple l : AV)] := rfl
theorem israw_tuple (l : List AV) : (.tuple l : AV).israw = false := rfl
attribute [go_sem] cells_bool israw_bool one_bool cells_int israw_int one_int cells_str israw_str one_str cells_nilp israw_nilp one_nilp cells_ptr israw_ptr one_ptr cells_rptr israw_rptr one_rptr cells_nils israw_nils one_nils cells_vs israw_vs one_vs cells_rs israw_rs one_rs cells_func israw_func one_func cells_nilf israw_nilf one_nilf cells_nilm israw_nilm one_nilm cells_map israw_map one_map cells_iface israw_iface one_iface cells_nili israw_nili one_nili cells_agg israw_agg cells_tuple israw_tuple
attribute [go_sem] lvb_scope lvb_label ascope_normal ascope_ret ascope_exit lvb_skip lvb_ops lvb_seq lvb_cond lvb_block lvb_loop lvb_exit lvb_ret lvb_draw lopsB_nil lopsB_cons lopsB_guard lguardU_bool lguardU_undef lcondB_true lcondB_false lguardB_true_true lguardB_true_false lguardB_false_false lguardB_false_true lstepB_move lstepB_assign lstepB_binOp lstepB_unOp lstepB_pick lstepB_nilCheck lstepB_build lstepB_makeFunc lstepB_slice lstepB_fieldAddr lstepB_indexAddr lstepB_index lstepB_extract lstepB_box lstepB_load lstepB_store lstepB_makeSlice lstepB_buildSlice lstepB_min lstepB_len lstepB_append lstepB_clear lstepB_cap lstepB_call lpostB_ret0 lpostB_normal0 lpostB_ret1 lpostB_ret2 lpostB_ret3 lpostB_cell1 lpostB_cell2 ldrunB_nil ldrunB_cons ldrunB_guard ldguardU_bool ldguardU_undef ldguardB_tt ldguardB_tf ldguardB_ff ldguardB_ft ldstepB_move ldstepB_assign ldstepB_binOp ldstepB_unOp ldstepB_build ldstepB_slice ldstepB_fieldAddr ldstepB_indexAddr ldstepB_index ldstepB_nilCheck ldstepB_pick ldstepB_load ldstepB_len ldstepB_max ldstepB_store ldstepB_buildSlice ldbuildV_some ldstepB_call inl_nil athen_normal athen_ret athen_exit ablock_normal ablock_ret ablock_exit ablock_exit_ne length_aput aput_none aev_same aev_ne aev_bool aev_int aev_str aev_nilIface aev_nilp aev_nils aev_nilm aev_func aev_fzL fzL_length abin_add abin_sub abin_mul abin_eql abin_neq abin_lss abin_leq abin_gtr abin_geq abin_seql abin_sneq lval_some lmem_some ldval_some ldmem_some bool?_bool amin2_int amax2_int apick_true apick_false aun_not_decide aun_not_true aun_not_false aun_neg cells_emp israw_emp one_emp cells_fp israw_fp one_fp cells_av israw_av one_av acellsAt_f ldloadB_f acellsAt_r acellsAt_p astoreAt_p cells?_some AV.ofV AV.ofOne splice AHeap.nx_upd AHeap.nx_del upd_upd get_upd_same nx_loc get_loc_at get_loc_out upd_loc_at upd_loc_out new_loc bump_loc nm_inj nm_lt lget_nil lget_cons lput_nil lput_cons ldel_nil ldel_cons lmap_nil lmap_cons ldyn_nil lallocs AHeap.upds List.foldl_nil List.foldl_cons olen_some ldlenB_some ldloadB_r ldloadB_p
attribute [go_sem] eq_self List.getD_cons_zero List.getD_cons_succ List.map_cons List.map_nil Option.map_some Option.map_none Option.bind_some List.nil_append List.append_nil List.cons_append List.take_succ_cons List.take_zero List.take_nil List.drop_succ_cons List.drop_zero List.drop_nil List.length_cons List.length_nil List.all_cons List.all_nil List.set_cons_zero List.set_cons_succ List.getElem?_cons_zero List.getElem?_cons_succ ne_eq not_false_eq_true decide_true decide_false not_true_eq_false Classical.not_not and_self and_true true_and if_true if_false ite_true ite_false Bool.and_true Bool.true_and Nat.zero_add Nat.add_zero Nat.le_refl List.toList_toArray Bool.false_eq_true Bool.true_eq_false
end Go.Am
end
noncomputable section
namespace Go.Am
open Go
def gsv (sz b n : Nat) : AV := if n = 0 then .nils else .rs sz b 0 n
def gso (e : TypeId) (c : List AV) : Option AObj := if c = [] then none else some (.cells c (some e))
def fsv (sz : Nat) (xs : List AV) : AV := if xs = [] then .nils else .vs sz false xs
theorem gsv_zero {sz b : Nat} : gsv sz b 0 = .nils := rfl
theorem gsv_pos {sz b n : Nat} (h : n ≠ 0) : gsv sz b n = .rs sz b 0 n := if_neg h
theorem gso_nil {e : TypeId} : gso e [] = none := rfl
theorem gso_pos {e : TypeId} {c : List AV} (h : c ≠ []) : gso e c = some (.cells c (some e)) := if_neg h
theorem fsv_nil {sz : Nat} : fsv sz [] = .nils := rfl
theorem fsv_pos {sz : Nat} {xs : List AV} (h : xs ≠ []) : fsv sz xs = .vs sz false xs := if_neg h
theorem ren_gsv {f : Nat → Nat} {sz b n : Nat} : ren f (gsv sz b n) = gsv sz (f b) n := by unfold gsv; split <;> simp only [ren]
theorem map_gso {f : Nat → Nat} {e : TypeId} {c : List AV} : (gso e c).map (renO f) = gso e (renL f c) := by
  unfold gso
  cases c with
  | nil => simp [renL]
  | cons x xs => simp [renL, renO]
theorem fz_gsv {b sz : Nat} {xs : List AV} : fz b sz xs (gsv sz b xs.length) = fsv sz xs := by
  unfold gsv fsv
  cases xs with
  | nil => simp [fz]
  | cons x xs => simp [fz]
theorem pu_fsv {sz : Nat} {xs : List AV} (h : PuL xs) : Pu (fsv sz xs) := by
  unfold fsv
  split
  · simp only [Pu, low]
  · simpa only [Pu, PuL, low] using h
theorem Gh.freezeG {s0 s1 : AHeap} {n : Nat} {l : List (Nat × Option AObj)} {vs : List AV} {Q : List AV → AHeap → Prop} (k sz : Nat) (xs : List AV) {e : TypeId} (hk : lget l k = gso e (xs.flatMap AV.cells))
    (hsz : ∀ x ∈ xs, x.cells.length = sz) (h0 : sz ≠ 0) (h : Gh s0 Q (fzL (nm s1.nx k) sz xs vs) (loc s1 n (lmap (fzO (nm s1.nx k) sz xs) (ldel l k)))) : Gh s0 Q vs (loc s1 n l) := by
  by_cases hx : xs.flatMap AV.cells = []
  · have hxs : xs = [] := by
      cases xs with
      | nil => rfl
      | cons x xs =>
        have := hsz x (List.mem_cons_self ..)
        rw [List.flatMap_cons, List.append_eq_nil_iff] at hx
        rw [hx.1] at this
        exact absurd this.symm h0
    subst hxs
    rw [hx, gso_nil] at hk
    intro B hB K w us hw hvs hx
    -- with no elements nothing is turned
    have hfz : ∀ v u, RV K v u → RV K (fz (nm s1.nx k) sz [] v) u := fun v u hv => by
      by_cases hp : ∃ g base, K.phi (nm s1.nx k) = some (g, base)
      · exact hv.fz (.refl K) (fun g base _ => ⟨[], .nil, fun i u hi => by simp at hi⟩) (by simp)
      · exact hv.fz (.refl K) (fun g base hq => absurd ⟨g, base, hq⟩ hp) (by simp)
    have hfl : ∀ {vs : List AV} {us : List Value}, RVs K vs us → RVs K (fzL (nm s1.nx k) sz [] vs) us := by
      intro vs us h
      rw [fzL_map]
      exact RVs.of_get (by rw [List.length_map]; exact h.length) fun i v u h1 h2 => by
        rw [List.getElem?_map] at h1
        obtain ⟨x, q1, q2⟩ := Option.map_eq_some_iff.1 h1
        obtain ⟨u', q3, q4⟩ := h.get q1
        rw [h2] at q3; cases q3
        rw [← q2]; exact hfz _ _ q4
    have hget : ∀ x o, (loc s1 n (lmap (fzO (nm s1.nx k) sz []) (ldel l k))).get x = some o → ∃ o1, (loc s1 n l).get x = some o1 ∧ ∀ g base, WO K w g base o1 → WO K w g base o := by
      intro x o hx
      rw [get_loc] at hx
      split at hx
      · rename_i hlt
        exact ⟨o, by rw [get_loc_out hlt]; exact hx, fun _ _ q => q⟩
      · rename_i hlt
        rw [lget_lmap, lget_ldel] at hx
        split at hx
        · cases hx
        · obtain ⟨o1, q1, rfl⟩ := Option.map_eq_some_iff.1 hx
          refine ⟨o1, by rw [get_loc, if_neg hlt]; exact q1, fun g base q => ?_⟩
          cases o1 with
          | cells c T =>
            obtain ⟨arr, TT, lo, hi, pre, us, rest, g1, g0, g2, g3, g4, g5, g6⟩ := q
            exact ⟨arr, TT, lo, hi, pre, us, rest, g1, g0, g2, g3, g4, hfl g5, g6⟩
          | map es ck =>
            obtain ⟨g0, mes, g1, g2, g3, g4⟩ := q
            refine ⟨g0, mes, g1, ?_, ?_, ?_⟩
            · have := hfl g2
              rw [fzL_map, List.map_map] at this
              rw [List.map_map]; exact this
            · have := hfl g3
              rw [fzL_map, List.map_map] at this
              rw [List.map_map]; exact this
            · rw [← g4, List.map_map]; rfl
          | siter l p => exact q
          | miter m => exact q
    refine h B hB K w us ⟨hw.frz, hw.dim, ?_, ?_, ?_, ?_⟩ (hfl hvs) ?_
    · intro b o hb
      obtain ⟨o1, q1, q2⟩ := hget b o hb
      obtain ⟨g, base, q3, q4⟩ := hw.own _ _ q1
      exact ⟨g, base, q3, q2 _ _ q4⟩
    · intro b b' o o' g i j e1 e2 p1 p2
      obtain ⟨o1, q1, _⟩ := hget b o e1
      obtain ⟨o2, q2, _⟩ := hget b' o' e2
      exact hw.inj _ _ _ _ g i j q1 q2 p1 p2
    · intro b o g base e1 p1 i
      obtain ⟨o1, q1, _⟩ := hget b o e1
      exact hw.sep _ _ g base q1 p1 i
    · exact hw.bnd
    · obtain ⟨hx, hp⟩ := hx
      have hown : ∀ g, owned K (loc s1 n (lmap (fzO (nm s1.nx k) sz []) (ldel l k))) g → owned K (loc s1 n l) g := by
        rintro g ⟨b, o, base, e1, p1⟩
        obtain ⟨o1, q1, _⟩ := hget b o e1
        exact ⟨b, o1, base, q1, p1⟩
      exact ⟨⟨hx.le, hx.phi, hx.nx, hx.os, hx.tape, hx.output, hx.size, hx.block, fun g ho => hx.own g (hown g ho), hx.frz⟩, hp.own hown⟩
  · rw [gso_pos hx] at hk
    exact Gh.freeze k sz xs hk hsz h
theorem To.freezeG {s0 s1 : AHeap} {n : Nat} {l : List (Nat × Option AObj)} {tm : List AV} {lv : List (Nat × AV)} {h : AHeap} (k sz : Nat) (xs : List AV) {e : TypeId} (hk : lget l k = gso e (xs.flatMap AV.cells))
    (hsz : ∀ x ∈ xs, x.cells.length = sz) (h0 : sz ≠ 0) (hh : To s0 (fzL (nm s1.nx k) sz xs tm) (loc s1 n (lmap (fzO (nm s1.nx k) sz xs) (ldel l k))) lv h) : To s0 tm (loc s1 n l) lv h := by
  refine Gh.freezeG k sz xs hk hsz h0 ?_
  unfold To at hh
  rw [fzL_length] at hh
  exact hh
theorem lexit_freezeG {s0 s1 : AHeap} {n : Nat} {l : List (Nat × Option AObj)} {v : AV} {R : AV → AHeap → Prop} (k sz : Nat) (xs : List AV) {e : TypeId} (hk : lget l k = gso e (xs.flatMap AV.cells)) (hsz : ∀ x ∈ xs, x.cells.length = sz) (h0 : sz ≠ 0)
    (h : lexit s0 R (some (fz (nm s1.nx k) sz xs v)) (loc s1 n (lmap (fzO (nm s1.nx k) sz xs) (ldel l k)))) : lexit s0 R (some v) (loc s1 n l) := Gh.freezeG k sz xs hk hsz h0 h
theorem lfunG_freezeG {P : Program} {s0 s1 : AHeap} {N : List AV → AHeap → Prop} {f : Operand} {args : List Operand} {d : Option Nat} {tm : List AV} {n : Nat} {l : List (Nat × Option AObj)} {fv : AV} {av : List AV} (k sz : Nat) (xs : List AV) {e : TypeId}
    (hk : lget l k = gso e (xs.flatMap AV.cells)) (hsz : ∀ x ∈ xs, x.cells.length = sz) (h0 : sz ≠ 0)
    (h : lfunG P s0 N f args d (fzL (nm s1.nx k) sz xs tm) (loc s1 n (lmap (fzO (nm s1.nx k) sz xs) (ldel l k))) (fz (nm s1.nx k) sz xs fv) (fzL (nm s1.nx k) sz xs av)) :
    lfunG P s0 N f args d tm (loc s1 n l) fv av := by
  intro hf ha
  refine Gh.freezeG k sz xs hk hsz h0 (h ?_ ?_)
  · rw [hf, aev_fz]
  · rw [ha, fzL_map, List.map_map]
    exact List.map_congr_left fun x _ => (aev_fz x).symm
theorem lmem_eq {N : List AV → AHeap → Prop} {r : Option (AV × AHeap)} {d : Option Nat} {tm : List AV} {v : AV} {s' : AHeap} (h : r = some (v, s')) (k : N (aput tm d v) s') : lmem N r d tm := by rw [h]; exact k
section
variable {T : Tab} {s : AHeap}
theorem loc_congr {n : Nat} {l l' : List (Nat × Option AObj)} (h : ∀ i, lget l i = lget l' i) : loc s n l = loc s n l' := by
  unfold loc
  congr 1
  funext b
  rw [h]
theorem acellsOf_rs {n sz k m : Nat} {l : List (Nat × Option AObj)} {c : List AV} {TT : Option TypeId} (h : lget l k = some (.cells c TT)) (hc : c.length = m * sz) {mm : Nat} (hmm : s.nx = mm) : acellsOf (loc s n l) sz (.rs sz (nm mm k) 0 m) = some (c, m) := by
  subst hmm
  unfold acellsOf
  simp only [if_true, get_loc_nm, h, AObj.cells?, Nat.zero_add]
  rw [if_pos (by omega), List.drop_zero, List.take_of_length_le (by omega)]
theorem aappend_gs {e : TypeId} {ei : TI} (he : T.ty e = some ei) {n j len m : Nat} {l : List (Nat × Option AObj)} {y : AV} {c new : List AV} (h0 : ei.size ≠ 0) (h1 : ei.bytes ≠ 0) (hy : acellsOf (loc s n l) ei.size y = some (new, m)) (hm : m ≠ 0)
    (hn : new.all AV.one = true) (hl : lget l j = gso e c) (hc : c.length = len * ei.size) (hb : (2 * (len + m) + 512) * ei.bytes ≤ 281474976710656)
    {mm : Nat} (hmm : s.nx = mm) : aappend T e (loc s n l) (gsv ei.size (nm mm j) len) y = some (.rs ei.size (nm mm n) 0 (len + m), loc s (n + 1) (lput (ldel l j) n (.cells (c ++ new) (some e)))) := by
  subst hmm
  unfold aappend
  simp only [he, hy]
  rw [if_neg (by simp [h0, h1])]
  by_cases hlen : len = 0
  · subst hlen
    have hc0 : c = [] := List.eq_nil_of_length_eq_zero (by omega)
    subst hc0
    rw [gsv_zero]
    rw [gso_nil] at hl
    simp only [if_neg hm]
    rw [if_pos (by rw [Nat.zero_add] at hb; exact hb), nx_loc, new_loc, List.nil_append, Nat.zero_add]
    rw [loc_congr (l' := lput (ldel l j) n (.cells new (some e))) ?_]
    intro i
    rw [lget_lput, lget_lput, lget_ldel]
    split
    · rfl
    · split
      · rename_i h; rw [h, hl]
      · rfl
  · have hcne : c ≠ [] := by
      rintro rfl
      have : 0 < len * ei.size := Nat.mul_pos (by omega) (by omega)
      simp at hc; omega
    rw [gsv_pos hlen]
    rw [gso_pos hcne] at hl
    simp only [if_neg hm, get_loc_nm, hl, AObj.cells?]
    rw [if_pos ⟨trivial, by omega, hn, hb⟩, nx_loc, del_loc_nm, new_loc, List.drop_zero, List.take_of_length_le (by omega)]
    simp
def seqp (sz : Nat) : Nat → List (Nat × AV) → Prop
  | _, [] => True
  | i, (j, v) :: r => j = i ∧ v.israw = false ∧ v.cells.length = sz ∧ seqp sz (i + 1) r
theorem seqp_nil {sz i : Nat} : seqp sz i [] = True := propext Iff.rfl
theorem seqp_cons {sz i j : Nat} {v : AV} {r : List (Nat × AV)} : seqp sz i ((j, v) :: r) = (j = i ∧ v.israw = false ∧ v.cells.length = sz ∧ seqp sz (i + 1) r) := propext Iff.rfl
theorem seqp_eq {sz : Nat} : ∀ {i : Nat} {r : List (Nat × AV)}, seqp sz i r → r = (List.range' i r.length).zip (r.map (·.2)) ∧ (∀ x ∈ r.map (·.2), x.cells.length = sz) ∧ r.any (·.2.israw) = false
  | i, [], _ => ⟨rfl, by simp, rfl⟩
  | i, (j, v) :: r, h => by
    obtain ⟨rfl, h1, h2, h3⟩ := h
    obtain ⟨g1, g2, g3⟩ := seqp_eq h3
    refine ⟨?_, ?_, ?_⟩
    · simp only [List.length_cons, List.range'_succ, List.map_cons, List.zip_cons_cons]
      rw [← g1]
    · simp only [List.map_cons, List.mem_cons, forall_eq_or_imp]
      exact ⟨h2, g2⟩
    · simp only [List.any_cons, h1, g3, Bool.or_self]
theorem abuildSlice_seq {t e : TypeId} {i ei : TI} (ht : T.ty t = some i) (htd : i.td = .slice e) (he : T.ty e = some ei) (hz : (AV.ofV ei.zero).israw = false) (hzl : (AV.ofV ei.zero).cells.length = ei.size) {n : Nat} {parts : List (Nat × AV)}
    (hn : n = parts.length) (hs : seqp ei.size 0 parts) (hb : n * ei.size ≤ 16777216) : abuildSlice T false t n parts s = some (.rs ei.size s.nx 0 n, s.new (.cells ((parts.map (·.2)).flatMap AV.cells) (some e))) := by
  obtain ⟨g1, g2, g3⟩ := seqp_eq hs
  have hr : (List.replicate n (AV.ofV ei.zero).cells).flatten.length = (parts.map (·.2)).length * ei.size := by
    rw [List.length_flatten, List.map_replicate, List.sum_replicate_nat, hzl, List.length_map, hn]
  have := afill_range ei.size (parts.map (·.2)) 0 [] ((List.replicate n (AV.ofV ei.zero).cells).flatten) g2 (by simp) hr
  rw [List.nil_append, List.nil_append, List.length_map, ← g1] at this
  unfold abuildSlice
  simp only [ht, htd, he]
  rw [if_neg (by simp [g3, hz]; omega)]
  simp only [Bool.false_eq_true, if_false, this]
end
theorem flatMap_cells_cons {x : AV} {xs : List AV} : (x :: xs).flatMap AV.cells = x.cells ++ xs.flatMap AV.cells := rfl
theorem flatMap_cells_nil : ([] : List AV).flatMap AV.cells = [] := rfl
theorem afill_nil {p : Nat → Option (Nat × Nat)} {c : List AV} : afill p c [] = some c := rfl
theorem afill_cons {p : Nat → Option (Nat × Nat)} {c : List AV} {i : Nat} {v : AV} {r : List (Nat × AV)} : afill p c ((i, v) :: r) = match p i with
    | none => none
    | some (off, size) => if v.cells.length ≠ size ∨ off + v.cells.length > c.length then none else afill p (splice c off v.cells) r := rfl
theorem abuild_struct {T : Tab} {t : TypeId} {i : TI} {fs : List (TypeId × Nat × Bool)} {z : List AV} {places : List (Nat × Nat)} (h : T.ty t = some i) (htd : i.td = .struct fs) (hz : AV.ofV i.zero = .agg z)
    (hp : (fs.mapM fun f => (T.size f.1).map fun n => (f.2.1, n)) = some places) {parts : List (Nat × AV)} : abuild T t parts = if parts.any (·.2.israw) = true then none else (afill (fun i => places[i]?) z parts).map .agg := by
  unfold abuild
  simp only [h, htd, hz, hp]
attribute [go_sem] afill_nil afill_cons List.any_cons List.any_nil Bool.or_self Bool.or_false Bool.false_or gt_iff_lt or_self or_false false_or
theorem map_gso_pu {e : TypeId} {c : List AV} (h : PuL c) : ∀ f, (gso e c).map (renO f) = gso e c := by
  intro f
  rw [map_gso, renL_pu h]
attribute [go_sem] ren_gsv fz_gsv seqp_nil seqp_cons flatMap_cells_cons flatMap_cells_nil
end Go.Am
end
noncomputable section
namespace Go.Am
open Go
section
variable {P : Program} {T : Tab} {s0 : AHeap}
theorem branch_mono {b : Option Bool} {x x' y y' : Prop} (hx : x → x') (hy : y → y') (h : branch b x y) : branch b x' y' := by
  unfold branch at *
  split at h
  · exact ⟨fun e => hx (h.1 e), fun e => hy (h.2 e)⟩
  · exact h.elim
theorem branchU_mono {v : AV} {w : Bool} {x y x' y' : Prop} (hx : x → x') (hy : y → y') (h : branchU v w x y) : branchU v w x' y' := by
  unfold branchU at h ⊢
  split at h
  · exact branch_mono hx hy h
  · exact hy h
  · exact h.elim
theorem lstepB_mono {N N' : List AV → AHeap → Prop} (hn : ∀ tm s, N tm s → N' tm s) {op : Op} {d : Option Nat} {tm : List AV} {s : AHeap} (h : lstepB P T s0 N op d tm s) : lstepB P T s0 N' op d tm s := by
  have mem : ∀ {r : Option (AV × AHeap)}, lmem N r d tm → lmem N' r d tm := by
    intro r h
    unfold lmem at *
    split at h
    · exact hn _ _ h
    · exact h.elim
  unfold lstepB at *
  split at h
  · split at h
    · intro e1 e2
      refine (h e1 e2).mono ?_
      intro tm s h
      unfold lfun at *
      split at h
      · obtain ⟨R, h1, h2⟩ := h
        exact ⟨R, h1, fun v s' hr => hn _ _ (h2 v s' hr)⟩
      · exact h.elim
    · exact mem h
  · exact mem h
theorem lopsB_mono {Q Q' : APost} (hq : ∀ e tm s, Q e tm s → Q' e tm s) : ∀ (l : List LOp) {tm : List AV} {s : AHeap}, lopsB P T s0 Q l tm s → lopsB P T s0 Q' l tm s
  | [], _, _, h => hq _ _ _ h
  | o :: r, tm, s, h => by
    simp only [lopsB] at h ⊢
    split at h
    · rename_i hg
      exact lstepB_mono (fun _ _ hh => lopsB_mono hq r hh) h
    · rename_i t b hg
      exact branchU_mono (fun hh => lstepB_mono (fun _ _ hh => lopsB_mono hq r hh) hh) (fun hh => lopsB_mono hq r hh) h
theorem ldstepB_mono {eal : Nat → Bool} {nx0 i : Nat} {g : Bool} {N N' : DSt → AHeap → Prop} (hn : ∀ st s, N st s → N' st s) {op : Op} {d : Option Nat} {st : DSt} {s : AHeap} (h : ldstepB P T eal nx0 i g N op d st s) : ldstepB P T eal nx0 i g N' op d st s := by
  have hop : ∀ {op}, ldop T N op d st s → ldop T N' op d st s := by
    intro op h
    unfold ldop at *
    split at h
    · exact hn _ _ h
    · exact h.elim
  unfold ldstepB at *
  split at h
  · split at h
    · exact hop h
    · split at h
      · exact ⟨h.1, hn _ _ h.2⟩
      · exact h.elim
  · split at h
    · unfold ldfun at *
      split at h
      · rcases h with ⟨v, h1, h2⟩ | ⟨v, t, h1, h2⟩
        · exact .inl ⟨v, h1, hn _ _ h2⟩
        · exact .inr ⟨v, t, h1, hn _ _ h2⟩
      · exact h.elim
    · split at h
      · exact hn _ _ h
      · exact hop h
  · split at h
    · split at h
      · exact hn _ _ h
      · exact h.elim
    · split at h
      · exact hn _ _ h
      · exact h.elim
  · split at h
    · unfold ldbuild at *
      split at h
      · exact hn _ _ h
      · exact h.elim
    · exact hop h
  · split at h
    · exact hn _ _ h
    · exact hop h
theorem ldrunB_mono {eal : Nat → Bool} {nx0 : Nat} {N N' : DSt → AHeap → Prop} (hn : ∀ st s, N st s → N' st s) : ∀ (l : List LOp) {i : Nat} {st : DSt} {s : AHeap}, ldrunB P T eal nx0 N l i st s → ldrunB P T eal nx0 N' l i st s
  | [], _, _, _, h => hn _ _ h
  | o :: r, i, st, s, h => by
    simp only [ldrunB] at h ⊢
    split at h
    · exact ldstepB_mono (fun _ _ hh => ldrunB_mono hn r hh) h
    · exact branchU_mono (fun hh => ldstepB_mono (fun _ _ hh => ldrunB_mono hn r hh) hh) (fun hh => ldrunB_mono hn r hh) h
theorem ldrawB_mono {Q Q' : APost} (hq : ∀ e tm s, Q e tm s → Q' e tm s) {ms : List Nat} {l : List LOp} {tm : List AV} {s : AHeap} (h : ldrawB P T s0 Q ms l tm s) : ldrawB P T s0 Q' ms l tm s := by
  obtain ⟨eal, dyn, h⟩ := h
  exact ⟨eal, dyn, ldrunB_mono (fun st t hh => ⟨hh.1, hh.2.1, lopsB_mono hq _ hh.2.2⟩) _ h⟩
theorem athen_mono {N N' : List AV → AHeap → Prop} {Q Q' : APost} (hn : ∀ tm s, N tm s → N' tm s) (hq : ∀ e tm s, Q e tm s → Q' e tm s) : ∀ e tm s, athen N Q e tm s → athen N' Q' e tm s := by
  intro e tm s h
  cases e with
  | normal => exact hn _ _ h
  | _ => exact hq _ _ _ h
theorem ablock_mono {id : Nat} {Q Q' : APost} (hq : ∀ e tm s, Q e tm s → Q' e tm s) : ∀ e tm s, ablock id Q e tm s → ablock id Q' e tm s := by
  intro e tm s h
  cases e with
  | exit id' =>
    simp only [ablock] at h ⊢
    split at h
    · rename_i hh; rw [if_pos hh]; exact hq _ _ _ h
    · rename_i hh; rw [if_neg hh]; exact hq _ _ _ h
  | _ => exact hq _ _ _ h
theorem lvb_mono : ∀ (c : LCode) {Q Q' : APost}, (∀ e tm s, Q e tm s → Q' e tm s) → ∀ {tm : List AV} {s : AHeap}, lvb P T s0 c Q tm s → lvb P T s0 c Q' tm s
  | .skip, _, _, hq, _, _, h => hq _ _ _ h
  | .ops l, _, _, hq, _, _, h => lopsB_mono hq l h
  | .draw ms l, _, _, hq, _, _, h => ldrawB_mono hq h
  | .seq a b, _, _, hq, _, _, h => lvb_mono a (athen_mono (fun _ _ hh => lvb_mono b hq hh) hq) h
  | .cond c x y, _, _, hq, _, _, h => branch_mono (fun hh => lvb_mono x hq hh) (fun hh => lvb_mono y hq hh) h
  | .block id c, _, _, hq, _, _, h => lvb_mono c (ablock_mono hq) h
  | .loop c, _, _, hq, _, _, h => by
    obtain ⟨α, lv, hp, C, μ, a, h1, h2, h3⟩ := h
    exact ⟨α, lv, hp, C, μ, a, h1, h2, fun a tm' g1 g2 g3 => lvb_mono c (athen_mono (fun _ _ hh => hh) hq) (h3 a tm' g1 g2 g3)⟩
  | .exit id, _, _, hq, _, _, h => hq _ _ _ h
  | .ret, _, _, hq, _, _, h => hq _ _ _ h
  | .scope c, _, _, hq, _, _, h => lvb_mono c (fun e tm s hh => (by
      cases e with
      | goto l => exact hh
      | _ => exact hq _ _ _ hh)) h
  | .label, _, _, hq, _, _, h => hq _ _ _ h
  | .other c, _, _, hq, _, _, h => awp_mono h hq
def Cut {α : Type} (n : Nat) (lv : α → List (Nat × AV)) (hp : α → AHeap) (C : α → Prop) (tm : List AV) (s : AHeap) : Prop :=
  tm.length = n ∧ ∃ a, C a ∧ s = hp a ∧ ∀ p ∈ lv a, aev tm (.tmp p.1) = p.2
variable {α : Type} (n : Nat) (lv : α → List (Nat × AV)) (hp : α → AHeap) (C : α → Prop) {N : List AV → AHeap → Prop} {Q : APost} {tm : List AV} {s : AHeap}
theorem cut_post (h2 : ∀ a tm', C a → tm'.length = n → (∀ p ∈ lv a, aev tm' (.tmp p.1) = p.2) → N tm' (hp a)) : ∀ e tm s, athen (Cut n lv hp C) Q e tm s → athen N Q e tm s :=
  athen_mono (fun tm s ⟨h1, a, h3, h4, h5⟩ => by subst h4; exact h2 a tm h3 h1 h5) fun _ _ _ h => h
theorem lcondB_cut {b : Option Bool} {x y : LCode} (h1 : lcondB P T s0 b x y (athen (Cut n lv hp C) Q) tm s) (h2 : ∀ a tm', C a → tm'.length = n → (∀ p ∈ lv a, aev tm' (.tmp p.1) = p.2) → N tm' (hp a)) : lcondB P T s0 b x y (athen N Q) tm s :=
  branch_mono (fun hh => lvb_mono x (cut_post n lv hp C h2) hh) (fun hh => lvb_mono y (cut_post n lv hp C h2) hh) h1
end
end Go.Am
end
noncomputable section
namespace Go.Am
open Go
theorem lfunG_to {P : Program} {s0 s : AHeap} {N : List AV → AHeap → Prop} {f : Operand} {args : List Operand} {d : Option Nat} {tm : List AV} {fv : AV} {av : List AV} {lv : List (Nat × AV)} {h : AHeap} (ht : To s0 tm s lv h)
    (hk : ∀ tm', tm'.length = tm.length → (∀ p ∈ lv, aev tm' (.tmp p.1) = p.2) → lfunG P s0 N f args d tm' h (aev tm' f) (args.map (aev tm'))) : lfunG P s0 N f args d tm s fv av := by
  intro _ _
  refine Gh.trans (Gh.mono ht ?_)
  rintro tm' s' ⟨rfl, h1, h2⟩
  exact hk tm' h1 h2 rfl rfl
theorem loc_flat {s : AHeap} {n : Nat} {l : List (Nat × Option AObj)} (h : ∀ j, n ≤ j → lget l j = none) : loc (loc s n l) 0 [] = loc s n l := by
  unfold loc
  congr 1
  funext b
  have e : ∀ b, AHeap.get (⟨s.nx + n, true, .nil, fun b => if b < s.nx then s.get b else lget l (b - s.nx)⟩ : AHeap) b = if b < s.nx then s.get b else lget l (b - s.nx) := fun b => rfl
  by_cases hb : b < s.nx + n
  · rw [if_pos hb, e]
  · rw [if_neg hb, if_neg (by omega), h _ (by omega)]; rfl
end Go.Am
end
noncomputable section
namespace Go.Am
open Go Go.Sort Go.Proofs
section
variable {P : Program} {K : Know} {s : AHeap} {w : World}
theorem WR.grow (h : WR K s w) (os : Array Obj) : WR K s (Sort.grow w os) ∧ Ext K s w K s (Sort.grow w os) := by
  have hget : ∀ g, g < w.heap.size → (Sort.grow w os).heap[g]? = w.heap[g]? := by
    intro g hg
    show (w.heap ++ os)[g]? = _
    rw [Array.getElem?_append_left hg]
  have hfz : ∀ g o u, K.frz g o = some u → g < w.heap.size := by
    intro g o u hu
    have := h.frz g o u hu
    rcases Nat.lt_or_ge g w.heap.size with q | q
    · exact q
    · unfold World.cell? at this
      rw [Array.getElem?_eq_none q] at this
      simp at this
  refine ⟨⟨?_, ?_, ?_, h.inj, h.sep, ?_⟩, ⟨.refl K, fun _ _ => rfl, Nat.le_refl _, rfl, rfl, rfl, ?_, ?_, fun g hg => .inl hg, fun _ _ _ _ => rfl⟩⟩
  · intro g o u hu
    have := h.frz g o u hu
    unfold World.cell? at this ⊢
    rw [hget g (hfz g o u hu)]; exact this
  · intro g n hd
    obtain ⟨arr, T, fz, h1, h2⟩ := h.dim g n hd
    have : g < w.heap.size := by
      rcases Nat.lt_or_ge g w.heap.size with q | q
      · exact q
      · rw [Array.getElem?_eq_none q] at h1; cases h1
    exact ⟨arr, T, fz, by rw [hget g this]; exact h1, h2⟩
  · intro b o hb
    obtain ⟨g, base, h1, h2⟩ := h.own b o hb
    have hg := (h.bnd b g base h1).2
    refine ⟨g, base, h1, ?_⟩
    cases o with
    | cells c T =>
      obtain ⟨arr, TT, lo, hi, pre, us, rest, g1, g0, g2, g3, g4, g5, g6⟩ := h2
      exact ⟨arr, TT, lo, hi, pre, us, rest, by rw [hget g hg]; exact g1, g0, g2, g3, g4, g5, g6⟩
    | map es ck =>
      obtain ⟨h0, mes, g1, g2, g3, g4⟩ := h2
      exact ⟨h0, mes, by rw [hget g hg]; exact g1, g2, g3, g4⟩
    | siter l p =>
      obtain ⟨h0, str, g1, g2⟩ := h2
      exact ⟨h0, str, by rw [hget g hg]; exact g1, g2⟩
    | miter m =>
      obtain ⟨h0, m', x, y, g1, g2⟩ := h2
      exact ⟨h0, m', x, y, by rw [hget g hg]; exact g1, g2⟩
  · intro b g base hb
    have := h.bnd b g base hb
    refine ⟨this.1, ?_⟩
    show g < (w.heap ++ os).size
    rw [Array.size_append]; omega
  · show w.heap.size ≤ (w.heap ++ os).size
    rw [Array.size_append]; omega
  · intro g hg _
    exact hget g hg
theorem RVs.ints : ∀ (L : List Int), RVs K (L.map (AV.int .i64)) (L.map (Value.int .i64))
  | [] => .nil
  | _ :: L => .cons _ _ _ _ (.int _ _) (RVs.ints L)
end
end Go.Am
end
