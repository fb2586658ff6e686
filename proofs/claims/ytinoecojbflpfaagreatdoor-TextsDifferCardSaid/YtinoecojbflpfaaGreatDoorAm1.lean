/- Part 1 of a proof: texts of this work, put together. -/
import Derived.Calls
import Derived.LoopN
import Derived.Laws.Sem
import Derived.Laws.Slices
import Derived.Laws.Strings
import Derived.Laws.Entries
import Derived.Laws.StructEq
import Derived.Laws.Tables
import Derived.Laws.Runes
import Derived.Laws.Cells
import Derived.Laws.AppendOwn
import Derived.Laws.MakeOwn
import Derived.Laws.IdiomStrings
import Derived.Laws.BytesArg
import Derived.MapKept
set_option linter.unusedVariables false
set_option linter.unusedSimpArgs false
noncomputable section
namespace Go.Am
open Go
inductive AV where
  | bool (b : Bool)
  | int (k : IntKind) (n : Int)
  | str (l : List UInt8)
  | nilp
  | ptr (b off : Nat)
  | rptr (l : List AV)
  | nils
  | vs (sz : Nat) (full : Bool) (l : List AV)
  | rs (sz b off len : Nat)
  /-- a slice of which the room is known -/
  | rc (sz b off len cap : Nat)
  /-- numbers that lie frozen in a block of the machine -/
  | av (g : Nat) (l : List Int)
  /-- a slice with nothing in it, nil or not -/
  | emp
  /-- a pointer into a block that keeps its name while nobody writes it -/
  | fp (b off : Nat) (l : List AV)
  | func (fn : Fn) (first captured : List AV)
  | nilf
  | nilm
  | map (b : Nat)
  | iface (t : TypeId) (v : AV)
  | nili
  | agg (l : List AV)
  | tuple (l : List AV)
  | raw (v : Value)
  deriving Inhabited
def AV.cells : AV → List AV
  | .agg l => l
  | v => [v]
def aundef : AV := .tuple []
structure Know where
  phi : Nat → Option (Nat × Nat)
  frz : Nat → Nat → Option Value
  dim : Nat → Option Nat
structure Know.le (K K' : Know) : Prop where
  phi : ∀ b g, K.phi b = some g → K'.phi b = some g
  frz : ∀ g o u, K.frz g o = some u → K'.frz g o = some u
  dim : ∀ g n, K.dim g = some n → K'.dim g = some n
def globs : List (Nat × IntKind × List Int) := [(1, .u8, [0, 1, 56, 2, 57, 49, 28, 3, 61, 58, 42, 50, 38, 29, 17, 4, 62, 47, 59, 36, 45, 43, 51, 22, 53, 39, 33, 30, 24, 18, 12, 5, 63, 55, 48, 27, 60, 41, 37, 16, 46, 35, 44, 21, 52, 32, 23, 11, 54, 26, 40, 15, 34, 20, 31, 10, 25, 14, 19, 9, 13, 8, 7, 6]), (2, .u64, [1, 10, 100, 1000, 10000, 100000, 1000000, 10000000, 100000000, 1000000000, 10000000000, 100000000000, 1000000000000, 10000000000000, 100000000000000, 1000000000000000, 10000000000000000, 100000000000000000, 1000000000000000000, 10000000000000000000])]
def globAt : List (Nat × IntKind × List Int) → Nat → Option (List AV)
  | [], _ => none
  | (g, k, l) :: r, n => match Nat.beq g n with
    | true => some (l.map (AV.int k))
    | false => globAt r n
def GlobK (K : Know) : Prop := ∀ g l, globAt globs g = some l → (∀ i k n, l[i]? = some (.int k n) → K.frz g i = some (.int k n)) ∧ K.dim g = some l.length
theorem GlobK.mono {K K' : Know} (hk : K.le K') (h : GlobK K) : GlobK K' := fun g l e => ⟨fun i k n hi => hk.frz _ _ _ ((h g l e).1 i k n hi), hk.dim _ _ (h g l e).2⟩
theorem globAt_ints : ∀ {L : List (Nat × IntKind × List Int)} {g : Nat} {l : List AV}, globAt L g = some l → ∃ (k : IntKind) (z : List Int), l = z.map (AV.int k)
  | [], g, l, h => by simp [globAt] at h
  | (g', k, z) :: r, g, l, h => by
    simp only [globAt] at h
    split at h
    · cases h; exact ⟨k, z, rfl⟩
    · exact globAt_ints h
theorem Know.le.refl (K : Know) : K.le K := ⟨fun _ _ h => h, fun _ _ _ h => h, fun _ _ h => h⟩
theorem Know.le.trans {K K' K'' : Know} (h : K.le K') (h' : K'.le K'') : K.le K'' :=
  ⟨fun b g e => h'.phi b g (h.phi b g e), fun g o u e => h'.frz g o u (h.frz g o u e), fun g n e => h'.dim g n (h.dim g n e)⟩
mutual
inductive RV (K : Know) : AV → Value → Prop
  | bool (b : Bool) : RV K (.bool b) (.bool b)
  | int (k : IntKind) (n : Int) : RV K (.int k n) (.int k n)
  | str (l : List UInt8) (s : ByteArray) (h : s.data.toList = l) : RV K (.str l) (.string s)
  | nilp : RV K .nilp (.pointer none)
  | ptr (b off g base : Nat) (h : K.phi b = some (g, base)) : RV K (.ptr b off) (.pointer (some ⟨g, base + off, none⟩))
  | rptr (l : List AV) (g off : Nat) (us : List Value) (h : RVs K l us) (hf : ∀ i u, us[i]? = some u → K.frz g (off + i) = some u) :
      RV K (.rptr l) (.pointer (some ⟨g, off, none⟩))
  | nils : RV K .nils (.slice none 0 0)
  | vs (sz : Nat) (full : Bool) (l : List AV) (a : Addr) (n cap : Nat) (us : List Value) (hn : n = l.length) (h : RVs K (l.flatMap AV.cells) us)
      (hsz : ∀ x ∈ l, x.cells.length = sz) (hc : n ≤ cap) (hfull : full = true → cap = n)
      (hf : ∀ i u, us[i]? = some u → a.spot = none ∧ K.frz a.block (a.off + i) = some u) :
      RV K (.vs sz full l) (.slice (some a) n cap)
  | rs (sz b off len : Nat) (a : Addr) (cap g base : Nat) (hg : K.phi b = some (g, base)) (hc : len ≤ cap)
      (ha : cap = 0 ∨ (a = ⟨g, base + off, none⟩ ∧ ∃ N, K.dim g = some N ∧ base + off + cap * sz ≤ N)) :
      RV K (.rs sz b off len) (.slice (some a) len cap)
  | func (fn : Fn) (first captured : List AV) (f c : Array Value) (hf : RVs K first f.toList) (hc : RVs K captured c.toList) :
      RV K (.func fn first captured) (.func fn f c)
  | rc (sz b off len cap : Nat) (g base N : Nat) (hg : K.phi b = some (g, base)) (hc : len ≤ cap) (hN : K.dim g = some N) (hl : base + off + cap * sz ≤ N) :
      RV K (.rc sz b off len cap) (.slice (some ⟨g, base + off, none⟩) len cap)
  | av (g : Nat) (l : List Int) (off n cap : Nat) (hn : n = l.length) (hc : n ≤ cap) (hf : ∀ i z, l[i]? = some z → K.frz g (off + i) = some (.int .i64 z)) :
      RV K (.av g l) (.slice (some ⟨g, off, none⟩) n cap)
  | fp (b off : Nat) (l : List AV) (g base : Nat) (us : List Value) (hg : K.phi b = some (g, base)) (h : RVs K l us) (hf : ∀ i u, us[i]? = some u → K.frz g (base + off + i) = some u) :
      RV K (.fp b off l) (.pointer (some ⟨g, base + off, none⟩))
  | emp (a : Option Addr) (cap : Nat) : RV K .emp (.slice a 0 cap)
  | nilf : RV K .nilf .nilFunc
  | nilm : RV K .nilm (.map none)
  | map (b g : Nat) (h : K.phi b = some (g, 0)) : RV K (.map b) (.map (some g))
  | raw (v : Value) : RV K (.raw v) v
  | iface (t : TypeId) (v : AV) (u : Value) (h : RV K v u) : RV K (.iface t v) (.iface t u)
  | nili : RV K .nili .nilIface
  | agg (l : List AV) (cs : Array Value) (h : RVs K l cs.toList) : RV K (.agg l) (.agg cs)
  | tuple (l : List AV) (cs : Array Value) (h : RVs K l cs.toList) : RV K (.tuple l) (.tuple cs)
inductive RVs (K : Know) : List AV → List Value → Prop
  | nil : RVs K [] []
  | cons (x : AV) (u : Value) (xs : List AV) (us : List Value) (h : RV K x u) (hs : RVs K xs us) : RVs K (x :: xs) (u :: us)
end
mutual
theorem RV.mono {K K' : Know} (hk : K.le K') : ∀ {x : AV} {u : Value}, RV K x u → RV K' x u
  | _, _, .bool b => .bool b
  | _, _, .int k n => .int k n
  | _, _, .str l s h => .str l s h
  | _, _, .nilp => .nilp
  | _, _, .ptr b off g base h => .ptr b off g base (hk.phi _ _ h)
  | _, _, .rptr l g off us h hf => .rptr l g off us (RVs.mono hk h) (fun i u e => hk.frz _ _ _ (hf i u e))
  | _, _, .nils => .nils
  | _, _, .vs sz full l a n cap us hn h hsz hc hfull hf =>
    .vs sz full l a n cap us hn (RVs.mono hk h) hsz hc hfull (fun i u e => ⟨(hf i u e).1, hk.frz _ _ _ (hf i u e).2⟩)
  | _, _, .rs sz b off len a cap g base hg hc ha =>
    .rs sz b off len a cap g base (hk.phi _ _ hg) hc (ha.imp id fun ⟨e, N, hN, hl⟩ => ⟨e, N, hk.dim _ _ hN, hl⟩)
  | _, _, .func fn first captured f c hf hc => .func fn first captured f c (RVs.mono hk hf) (RVs.mono hk hc)
  | _, _, .rc sz b off len cap g base N hg hc hN hl => .rc sz b off len cap g base N (hk.phi _ _ hg) hc (hk.dim _ _ hN) hl
  | _, _, .av g l off n cap hn hc hf => .av g l off n cap hn hc (fun i z e => hk.frz _ _ _ (hf i z e))
  | _, _, .fp b off l g base us hg h hf => .fp b off l g base us (hk.phi _ _ hg) (RVs.mono hk h) (fun i u e => hk.frz _ _ _ (hf i u e))
  | _, _, .emp a cap => .emp a cap
  | _, _, .nilf => .nilf
  | _, _, .nilm => .nilm
  | _, _, .map b g h => .map b g (hk.phi _ _ h)
  | _, _, .raw v => .raw v
  | _, _, .iface t v u h => .iface t v u (RV.mono hk h)
  | _, _, .nili => .nili
  | _, _, .agg l cs h => .agg l cs (RVs.mono hk h)
  | _, _, .tuple l cs h => .tuple l cs (RVs.mono hk h)
theorem RVs.mono {K K' : Know} (hk : K.le K') : ∀ {xs : List AV} {us : List Value}, RVs K xs us → RVs K' xs us
  | _, _, .nil => .nil
  | _, _, .cons x u xs us h hs => .cons x u xs us (RV.mono hk h) (RVs.mono hk hs)
end
theorem RVs.length {K : Know} : ∀ {xs : List AV} {us : List Value}, RVs K xs us → xs.length = us.length
  | _, _, .nil => rfl
  | _, _, .cons _ _ _ _ _ hs => by simp [RVs.length hs]
theorem RVs.get {K : Know} : ∀ {xs : List AV} {us : List Value}, RVs K xs us → ∀ {i : Nat} {x : AV}, xs[i]? = some x → ∃ u, us[i]? = some u ∧ RV K x u
  | _, _, .nil, i, x, h => by simp at h
  | _, _, .cons y u ys us hy hs, 0, x, h => by
    simp at h; subst h; exact ⟨u, rfl, hy⟩
  | _, _, .cons y u ys us hy hs, i + 1, x, h => by
    simp at h
    obtain ⟨v, hv, hr⟩ := RVs.get hs h
    exact ⟨v, by simpa using hv, hr⟩
theorem RVs.set {K : Know} : ∀ {xs : List AV} {us : List Value}, RVs K xs us → ∀ {i : Nat} {x : AV} {u : Value}, RV K x u → RVs K (xs.set i x) (us.set i u)
  | _, _, .nil, i, x, u, _ => by simp; exact .nil
  | _, _, .cons y v ys us hy hs, 0, x, u, h => by simp; exact .cons _ _ _ _ h hs
  | _, _, .cons y v ys us hy hs, i + 1, x, u, h => by simp; exact .cons _ _ _ _ hy (RVs.set hs h)
theorem RVs.append {K : Know} : ∀ {xs : List AV} {us : List Value}, RVs K xs us → ∀ {ys : List AV} {vs : List Value}, RVs K ys vs → RVs K (xs ++ ys) (us ++ vs)
  | _, _, .nil, _, _, h => h
  | _, _, .cons _ _ _ _ hy hs, _, _, h => .cons _ _ _ _ hy (RVs.append hs h)
theorem RVs.take {K : Know} : ∀ {xs : List AV} {us : List Value}, RVs K xs us → ∀ (n : Nat), RVs K (xs.take n) (us.take n)
  | _, _, .nil, n => by simp; exact .nil
  | _, _, .cons _ _ _ _ hy hs, 0 => by simp; exact .nil
  | _, _, .cons _ _ _ _ hy hs, n + 1 => by simp; exact .cons _ _ _ _ hy (RVs.take hs n)
theorem RVs.drop {K : Know} : ∀ {xs : List AV} {us : List Value}, RVs K xs us → ∀ (n : Nat), RVs K (xs.drop n) (us.drop n)
  | _, _, .nil, n => by simp; exact .nil
  | _, _, .cons _ _ _ _ hy hs, 0 => .cons _ _ _ _ hy hs
  | _, _, .cons _ _ _ _ hy hs, n + 1 => by simpa using RVs.drop hs n
theorem RVs.replicate {K : Know} {x : AV} {u : Value} (h : RV K x u) : ∀ n : Nat, RVs K (List.replicate n x) (List.replicate n u)
  | 0 => .nil
  | n + 1 => .cons _ _ _ _ h (RVs.replicate h n)
theorem RV.undef {K : Know} : RV K aundef undef := .tuple [] #[] .nil
theorem RV.cells {K : Know} {x : AV} {u : Value} (h : RV K x u) (hr : ∀ v, x ≠ .raw v) : RVs K x.cells u.cells.toList := by
  cases h with
  | agg l cs h => exact h
  | raw => exact absurd rfl (hr _)
  | _ => exact .cons _ _ _ _ (by constructor <;> assumption) .nil
inductive AObj where
  | cells (c : List AV) (T : Option TypeId)
  | map (es : List (AV × AV × Nat)) (clock : Nat)
  | siter (l : List UInt8) (pos : Nat)
  /-- the way through a map, nothing seen yet -/
  | miter (m : Option Nat)
  deriving Inhabited
inductive Trie where
  | nil
  | node (v : Option AObj) (l r : Trie)
  deriving Inhabited
end Go.Am
end
noncomputable section
namespace Go.Am
open Go
def Trie.val : Trie → Option AObj | .nil => none | .node v _ _ => v
def Trie.lf : Trie → Trie | .nil => .nil | .node _ l _ => l
def Trie.rt : Trie → Trie | .nil => .nil | .node _ _ r => r
def Trie.set (x : Option AObj) : Nat → Trie → Nat → Trie
  | 0, t, _ => t
  | f + 1, t, n =>
    match Nat.beq n 0 with
    | true => .node x t.lf t.rt
    | false => match Nat.beq (n % 2) 1 with
      | true => .node t.val (Trie.set x f t.lf (n / 2)) t.rt
      | false => .node t.val t.lf (Trie.set x f t.rt (n / 2 - 1))
def Trie.find : Trie → Nat → Option AObj
  | .nil, _ => none
  | .node v l r, n =>
    match Nat.beq n 0 with
    | true => v
    | false => match Nat.beq (n % 2) 1 with
      | true => l.find (n / 2)
      | false => r.find (n / 2 - 1)
theorem Trie.find_parts (t : Trie) (n : Nat) : t.find n = match Nat.beq n 0 with
    | true => t.val
    | false => match Nat.beq (n % 2) 1 with
      | true => t.lf.find (n / 2)
      | false => t.rt.find (n / 2 - 1) := by
  cases t with
  | nil => simp only [Trie.find, Trie.val, Trie.lf, Trie.rt]; split <;> (try split) <;> rfl
  | node v l r => rfl
theorem Trie.find_set (x : Option AObj) : ∀ (f : Nat) (t : Trie) (n m : Nat), n + 1 < 2 ^ f →
    (Trie.set x f t n).find m = if m = n then x else t.find m := by
  intro f
  induction f with
  | zero => intro t n m h; simp at h
  | succ f ih =>
    intro t n m h
    rw [Trie.find_parts t m]
    have h2 : 2 ^ (f + 1) = 2 * 2 ^ f := by rw [Nat.pow_succ]; omega
    unfold Trie.set
    cases hn : Nat.beq n 0 with
    | true =>
      have hn0 : n = 0 := Nat.eq_of_beq_eq_true hn
      subst hn0
      simp only [Trie.find]
      cases hm : Nat.beq m 0 with
      | true => have := Nat.eq_of_beq_eq_true hm; simp [this]
      | false => have := Nat.ne_of_beq_eq_false hm; simp [this]
    | false =>
      have hn0 : n ≠ 0 := Nat.ne_of_beq_eq_false hn
      cases ho : Nat.beq (n % 2) 1 with
      | true =>
        have ho1 : n % 2 = 1 := Nat.eq_of_beq_eq_true ho
        simp only [Trie.find]
        cases hm : Nat.beq m 0 with
        | true => have := Nat.eq_of_beq_eq_true hm; have : m ≠ n := by omega
                  simp [this, Trie.val]
        | false =>
          have hm0 : m ≠ 0 := Nat.ne_of_beq_eq_false hm
          cases hmo : Nat.beq (m % 2) 1 with
          | true =>
            have hm1 : m % 2 = 1 := Nat.eq_of_beq_eq_true hmo
            simp only
            rw [ih _ _ _ (by omega)]
            by_cases e : m = n
            · subst e; simp
            · have : m / 2 ≠ n / 2 := by omega
              simp [e, this]
          | false =>
            have hm1 : m % 2 ≠ 1 := Nat.ne_of_beq_eq_false hmo
            have : m ≠ n := by intro e; subst e; exact hm1 ho1
            simp [this]
      | false =>
        have ho1 : n % 2 ≠ 1 := Nat.ne_of_beq_eq_false ho
        simp only [Trie.find]
        cases hm : Nat.beq m 0 with
        | true => have := Nat.eq_of_beq_eq_true hm; have : m ≠ n := by omega
                  simp [this, Trie.val]
        | false =>
          have hm0 : m ≠ 0 := Nat.ne_of_beq_eq_false hm
          cases hmo : Nat.beq (m % 2) 1 with
          | true =>
            have hm1 : m % 2 = 1 := Nat.eq_of_beq_eq_true hmo
            have : m ≠ n := by intro e; subst e; exact ho1 hm1
            simp [this]
          | false =>
            have hm1 : m % 2 ≠ 1 := Nat.ne_of_beq_eq_false hmo
            simp only
            rw [ih _ _ _ (by omega)]
            by_cases e : m = n
            · subst e; simp
            · have : m / 2 - 1 ≠ n / 2 - 1 := by omega
              simp [e, this]
structure AHeap where
  nx : Nat
  /-- told by a function alone? (else by the trie below a number) -/
  fnm : Bool
  tr : Trie
  rest : Nat → Option AObj
def trieMax : Nat := 1048574
def AHeap.get (s : AHeap) (b : Nat) : Option AObj := match s.fnm with
  | true => s.rest b
  | false => match Nat.ble b trieMax with | true => s.tr.find b | false => s.rest b
def AHeap.put (s : AHeap) (b : Nat) (x : Option AObj) : AHeap :=
  match s.fnm with
  | true => ⟨s.nx, true, s.tr, fun m => if m = b then x else s.rest m⟩
  | false => match Nat.ble b trieMax with
    | true => ⟨s.nx, false, s.tr.set x 20 b, s.rest⟩
    | false => ⟨s.nx, false, s.tr, fun m => if m = b then x else s.rest m⟩
def AHeap.empty : AHeap := ⟨0, false, .nil, fun _ => none⟩
def AHeap.upd (s : AHeap) (b : Nat) (o : AObj) : AHeap := s.put b (some o)
def AHeap.del (s : AHeap) (b : Nat) : AHeap := s.put b none
def AHeap.new (s : AHeap) (o : AObj) : AHeap := { s.put s.nx (some o) with nx := s.nx + 1 }
theorem AHeap.get_put (s : AHeap) (b m : Nat) (x : Option AObj) : (s.put b x).get m = if m = b then x else s.get m := by
  obtain ⟨nx, fnm, tr, rest⟩ := s
  unfold AHeap.put AHeap.get
  cases fnm with
  | true => rfl
  | false =>
  cases hb : Nat.ble b trieMax with
  | true =>
    have hb' : b ≤ trieMax := Nat.le_of_ble_eq_true hb
    cases hm : Nat.ble m trieMax with
    | true => simp only; rw [Trie.find_set _ _ _ _ _ (by unfold trieMax at hb'; omega)]
    | false =>
      have : m ≠ b := by intro e; subst e; rw [hb] at hm; cases hm
      simp [this]
  | false =>
    cases hm : Nat.ble m trieMax with
    | true =>
      have : m ≠ b := by intro e; subst e; rw [hm] at hb; cases hb
      simp [this]
    | false => simp
theorem AHeap.nx_put (s : AHeap) (b : Nat) (x : Option AObj) : (s.put b x).nx = s.nx := by
  unfold AHeap.put
  repeat' split
  all_goals rfl
theorem AHeap.nx_upd (s : AHeap) (b : Nat) (x : AObj) : (s.upd b x).nx = s.nx := s.nx_put b _
theorem AHeap.nx_del (s : AHeap) (b : Nat) : (s.del b).nx = s.nx := s.nx_put b _
theorem AHeap.nx_new (s : AHeap) (o : AObj) : (s.new o).nx = s.nx + 1 := rfl
theorem AHeap.get_upd (s : AHeap) (b m : Nat) (o : AObj) : (s.upd b o).get m = if m = b then some o else s.get m := s.get_put b m _
theorem AHeap.get_del (s : AHeap) (b m : Nat) : (s.del b).get m = if m = b then none else s.get m := s.get_put b m _
theorem AHeap.get_new (s : AHeap) (m : Nat) (o : AObj) : (s.new o).get m = if m = s.nx then some o else s.get m := s.get_put s.nx m _
theorem AHeap.get_empty (m : Nat) : AHeap.empty.get m = none := by unfold AHeap.get AHeap.empty; simp only; split <;> rfl
def WO (K : Know) (w : World) (g base : Nat) : AObj → Prop
  | .cells c To => ∃ arr T lo hi pre us rest, w.heap[g]? = some (.cells arr T (lo, hi)) ∧ (∀ T0, To = some T0 → T = T0 ∧ base = 0) ∧ (∀ i, i < arr.size → ¬ (lo ≤ i ∧ i < hi)) ∧
      arr.toList = pre ++ us ++ rest ∧ pre.length = base ∧ RVs K c us ∧ K.dim g = some arr.size
  | .map es clock => base = 0 ∧ ∃ mes : Array MapEntry, w.heap[g]? = some (.map mes clock) ∧ RVs K (es.map (·.1)) (mes.toList.map (·.key)) ∧
      RVs K (es.map (·.2.1)) (mes.toList.map (·.val)) ∧ es.map (·.2.2) = mes.toList.map (·.born)
  | .siter l pos => base = 0 ∧ ∃ str : ByteArray, w.heap[g]? = some (.stringIter str pos) ∧ str.data.toList = l
  | .miter m => base = 0 ∧ ∃ m' since last, w.heap[g]? = some (.mapIter m' since #[] last) ∧ (m = none → m' = none) ∧ ∀ b, m = some b → ∃ gm, K.phi b = some (gm, 0) ∧ m' = some gm
structure WR (K : Know) (s : AHeap) (w : World) : Prop where
  frz : ∀ g o u, K.frz g o = some u → w.cell? ⟨g, o, none⟩ = some u
  dim : ∀ g n, K.dim g = some n → ∃ arr T fz, w.heap[g]? = some (.cells arr T fz) ∧ arr.size = n
  own : ∀ b o, s.get b = some o → ∃ g base, K.phi b = some (g, base) ∧ WO K w g base o
  inj : ∀ b b' o o' g base base', s.get b = some o → s.get b' = some o' → K.phi b = some (g, base) → K.phi b' = some (g, base') → b = b'
  sep : ∀ b o g base, s.get b = some o → K.phi b = some (g, base) → ∀ i, K.frz g i = none
  bnd : ∀ b g base, K.phi b = some (g, base) → b < s.nx ∧ g < w.heap.size
theorem WO.mono {K K' : Know} (hk : K.le K') {w : World} {g base : Nat} {o : AObj} (h : WO K w g base o) : WO K' w g base o := by
  cases o with
  | cells c T =>
    obtain ⟨arr, TT, lo, hi, pre, us, rest, h1, h0, h2, h3, h4, h5, h6⟩ := h
    exact ⟨arr, TT, lo, hi, pre, us, rest, h1, h0, h2, h3, h4, h5.mono hk, hk.dim _ _ h6⟩
  | map es clock =>
    obtain ⟨h0, mes, h1, h2, h3, h4⟩ := h
    exact ⟨h0, mes, h1, h2.mono hk, h3.mono hk, h4⟩
  | siter l pos => exact h
  | miter m =>
    obtain ⟨h0, m', a, b, h1, h2, h3⟩ := h
    exact ⟨h0, m', a, b, h1, h2, fun x e => by obtain ⟨gm, q1, q2⟩ := h3 x e; exact ⟨gm, hk.phi _ _ q1, q2⟩⟩
theorem WO.of_block {K : Know} {w w' : World} {g base : Nat} {o : AObj} (h : WO K w g base o) (e : w'.heap[g]? = w.heap[g]?) : WO K w' g base o := by
  cases o with
  | cells c T =>
    obtain ⟨arr, TT, lo, hi, pre, us, rest, h1, h2⟩ := h
    exact ⟨arr, TT, lo, hi, pre, us, rest, by rw [e]; exact h1, h2⟩
  | map es clock =>
    obtain ⟨h0, mes, h1, h2⟩ := h
    exact ⟨h0, mes, by rw [e]; exact h1, h2⟩
  | siter l pos =>
    obtain ⟨h0, str, h1, h2⟩ := h
    exact ⟨h0, str, by rw [e]; exact h1, h2⟩
  | miter m =>
    obtain ⟨h0, m', a, b, h1, h2⟩ := h
    exact ⟨h0, m', a, b, by rw [e]; exact h1, h2⟩
def owned (K : Know) (s : AHeap) (g : Nat) : Prop := ∃ b o base, s.get b = some o ∧ K.phi b = some (g, base)
structure Ext (K : Know) (s : AHeap) (w : World) (K' : Know) (s' : AHeap) (w' : World) : Prop where
  le : K.le K'
  phi : ∀ b, b < s.nx → K'.phi b = K.phi b
  nx : s.nx ≤ s'.nx
  os : w'.os = w.os
  tape : w'.tape = w.tape
  output : w'.output = w.output
  size : w.heap.size ≤ w'.heap.size
  block : ∀ g, g < w.heap.size → ¬ owned K s g → w'.heap[g]? = w.heap[g]?
  own : ∀ g, owned K' s' g → owned K s g ∨ w.heap.size ≤ g
  frz : ∀ g, g < w.heap.size → ¬ owned K s g → ∀ o, K'.frz g o = K.frz g o
theorem Ext.refl (K : Know) (s : AHeap) (w : World) : Ext K s w K s w :=
  ⟨.refl K, fun _ _ => rfl, Nat.le_refl _, rfl, rfl, rfl, Nat.le_refl _, fun _ _ _ => rfl, fun _ h => .inl h, fun _ _ _ _ => rfl⟩
theorem Ext.trans {K K1 K2 : Know} {s s1 s2 : AHeap} {w w1 w2 : World} (h : Ext K s w K1 s1 w1) (h' : Ext K1 s1 w1 K2 s2 w2) : Ext K s w K2 s2 w2 := by
  refine ⟨h.le.trans h'.le, fun b hb => (h'.phi b (Nat.lt_of_lt_of_le hb h.nx)).trans (h.phi b hb), Nat.le_trans h.nx h'.nx, h'.os.trans h.os, h'.tape.trans h.tape, h'.output.trans h.output, Nat.le_trans h.size h'.size, ?_, ?_, ?_⟩
  · intro g hg hn
    rw [h'.block g (Nat.lt_of_lt_of_le hg h.size) ?_, h.block g hg hn]
    intro ho
    rcases h.own g ho with h1 | h1
    · exact hn h1
    · omega
  · intro g ho
    rcases h'.own g ho with h1 | h1
    · exact h.own g h1
    · exact .inr (Nat.le_trans h.size h1)
  · intro g hg hn o
    rw [h'.frz g (Nat.lt_of_lt_of_le hg h.size) ?_ o, h.frz g hg hn o]
    intro ho
    rcases h.own g ho with h1 | h1
    · exact hn h1
    · omega
structure AHeap.sub (s s' : AHeap) : Prop where
  nx : s.nx ≤ s'.nx
  get : ∀ b o, s.get b = some o → s'.get b = some o
theorem AHeap.sub.refl (s : AHeap) : s.sub s := ⟨Nat.le_refl _, fun _ _ h => h⟩
theorem AHeap.sub.trans {s s' s'' : AHeap} (h : s.sub s') (h' : s'.sub s'') : s.sub s'' := ⟨Nat.le_trans h.nx h'.nx, fun b o e => h'.get b o (h.get b o e)⟩
theorem WR.forget {K : Know} {s s' : AHeap} {w : World} (h : WR K s' w) (hs : ∀ b o, s.get b = some o → s'.get b = some o) (hn : s.nx = s'.nx) : WR K s w :=
  ⟨h.frz, h.dim, fun b o e => h.own b o (hs b o e), fun b b' o o' g i j e e' => h.inj b b' o o' g i j (hs _ _ e) (hs _ _ e'),
    fun b o g i e => h.sep b o g i (hs _ _ e), fun b g i e => by rw [hn]; exact h.bnd b g i e⟩
theorem Ext.forget {K K' : Know} {s s1 s' : AHeap} {w w' : World} (h : Ext K s w K' s' w') (hs : ∀ b o, s1.get b = some o → s'.get b = some o) (hn : s1.nx = s'.nx) : Ext K s w K' s1 w' :=
  ⟨h.le, h.phi, by rw [hn]; exact h.nx, h.os, h.tape, h.output, h.size, h.block, fun g ⟨b, o, i, e, hp⟩ => h.own g ⟨b, o, i, hs _ _ e, hp⟩, h.frz⟩
end Go.Am
end
noncomputable section
namespace Go.Am
open Go
mutual
def ren (f : Nat → Nat) : AV → AV
  | .bool b => .bool b
  | .int k n => .int k n
  | .str l => .str l
  | .nilp => .nilp
  | .ptr b off => .ptr (f b) off
  | .rptr l => .rptr (renL f l)
  | .nils => .nils
  | .vs sz full l => .vs sz full (renL f l)
  | .rs sz b off len => .rs sz (f b) off len
  | .rc sz b off len cap => .rc sz (f b) off len cap
  | .func fn a c => .func fn (renL f a) (renL f c)
  | .nilf => .nilf
  | .nilm => .nilm
  | .map b => .map (f b)
  | .iface t v => .iface t (ren f v)
  | .nili => .nili
  | .agg l => .agg (renL f l)
  | .tuple l => .tuple (renL f l)
  | .raw v => .raw v
  | .av g l => .av g l
  | .emp => .emp
  | .fp b off l => .fp (f b) off (renL f l)
def renL (f : Nat → Nat) : List AV → List AV
  | [] => []
  | x :: xs => ren f x :: renL f xs
end
mutual
def low (n : Nat) : AV → Prop
  | .bool _ => True
  | .int _ _ => True
  | .str _ => True
  | .nilp => True
  | .ptr b _ => b < n
  | .rptr l => lowL n l
  | .nils => True
  | .vs _ _ l => lowL n l
  | .rs _ b _ _ => b < n
  | .rc _ b _ _ _ => b < n
  | .func _ a c => lowL n a ∧ lowL n c
  | .nilf => True
  | .nilm => True
  | .map b => b < n
  | .iface _ v => low n v
  | .nili => True
  | .agg l => lowL n l
  | .tuple l => lowL n l
  | .raw _ => True
  | .av _ _ => True
  | .emp => True
  | .fp b _ l => b < n ∧ lowL n l
def lowL (n : Nat) : List AV → Prop
  | [] => True
  | x :: xs => low n x ∧ lowL n xs
end
def Pu (v : AV) : Prop := low 0 v
def PuL (l : List AV) : Prop := lowL 0 l
theorem lowL_iff {n : Nat} : ∀ {l : List AV}, lowL n l ↔ ∀ x ∈ l, low n x
  | [] => by simp [lowL]
  | x :: xs => by simp [lowL, lowL_iff (l := xs)]
theorem lowL_append {n : Nat} {l l' : List AV} : lowL n (l ++ l') ↔ lowL n l ∧ lowL n l' := by
  simp only [lowL_iff, List.mem_append]
  exact ⟨fun h => ⟨fun x hx => h x (.inl hx), fun x hx => h x (.inr hx)⟩, fun h x hx => hx.elim (h.1 x) (h.2 x)⟩
mutual
theorem low.mono {n m : Nat} (h : n ≤ m) : ∀ {v : AV}, low n v → low m v
  | .bool _, _ | .int _ _, _ | .str _, _ | .nilp, _ | .nils, _ | .nilf, _ | .nilm, _ | .nili, _ | .raw _, _ | .av _ _, _ | .emp, _ => by simp only [low]
  | .ptr b _, hv => by simp only [low] at hv ⊢; omega
  | .rptr l, hv => by simp only [low] at hv ⊢; exact lowL.mono h hv
  | .vs _ _ l, hv => by simp only [low] at hv ⊢; exact lowL.mono h hv
  | .rs _ b _ _, hv => by simp only [low] at hv ⊢; omega
  | .rc _ b _ _ _, hv => by simp only [low] at hv ⊢; omega
  | .fp b _ l, hv => by simp only [low] at hv ⊢; exact ⟨by omega, lowL.mono h hv.2⟩
  | .func _ a c, hv => by simp only [low] at hv ⊢; exact ⟨lowL.mono h hv.1, lowL.mono h hv.2⟩
  | .map b, hv => by simp only [low] at hv ⊢; omega
  | .iface _ v, hv => by simp only [low] at hv ⊢; exact low.mono h hv
  | .agg l, hv => by simp only [low] at hv ⊢; exact lowL.mono h hv
  | .tuple l, hv => by simp only [low] at hv ⊢; exact lowL.mono h hv
theorem lowL.mono {n m : Nat} (h : n ≤ m) : ∀ {l : List AV}, lowL n l → lowL m l
  | [], _ => by simp only [lowL]
  | x :: xs, hv => by simp only [lowL] at hv ⊢; exact ⟨low.mono h hv.1, lowL.mono h hv.2⟩
end
mutual
theorem ren_low {f : Nat → Nat} {n : Nat} (hf : ∀ b, b < n → f b = b) : ∀ {v : AV}, low n v → ren f v = v
  | .bool _, _ | .int _ _, _ | .str _, _ | .nilp, _ | .nils, _ | .nilf, _ | .nilm, _ | .nili, _ | .raw _, _ | .av _ _, _ | .emp, _ => by simp only [ren]
  | .ptr b _, hv => by simp only [low] at hv; simp only [ren, hf b hv]
  | .rptr l, hv => by simp only [low] at hv; simp only [ren, renL_low hf hv]
  | .vs _ _ l, hv => by simp only [low] at hv; simp only [ren, renL_low hf hv]
  | .rs _ b _ _, hv => by simp only [low] at hv; simp only [ren, hf b hv]
  | .rc _ b _ _ _, hv => by simp only [low] at hv; simp only [ren, hf b hv]
  | .fp b _ l, hv => by simp only [low] at hv; simp only [ren, hf b hv.1, renL_low hf hv.2]
  | .func _ a c, hv => by simp only [low] at hv; simp only [ren, renL_low hf hv.1, renL_low hf hv.2]
  | .map b, hv => by simp only [low] at hv; simp only [ren, hf b hv]
  | .iface _ v, hv => by simp only [low] at hv; simp only [ren, ren_low hf hv]
  | .agg l, hv => by simp only [low] at hv; simp only [ren, renL_low hf hv]
  | .tuple l, hv => by simp only [low] at hv; simp only [ren, renL_low hf hv]
theorem renL_low {f : Nat → Nat} {n : Nat} (hf : ∀ b, b < n → f b = b) : ∀ {l : List AV}, lowL n l → renL f l = l
  | [], _ => by simp only [renL]
  | x :: xs, hv => by simp only [lowL] at hv; simp only [renL, ren_low hf hv.1, renL_low hf hv.2]
end
theorem ren_pu {f : Nat → Nat} {v : AV} (h : Pu v) : ren f v = v := ren_low (n := 0) (fun b hb => by omega) h
theorem renL_pu {f : Nat → Nat} {l : List AV} (h : PuL l) : renL f l = l := renL_low (n := 0) (fun b hb => by omega) h
theorem renL_append (f : Nat → Nat) : ∀ (l l' : List AV), renL f (l ++ l') = renL f l ++ renL f l'
  | [], l' => by simp only [List.nil_append, renL]
  | x :: xs, l' => by simp only [List.cons_append, renL, renL_append f xs l']
theorem renL_map (f : Nat → Nat) : ∀ (l : List AV), renL f l = l.map (ren f)
  | [] => rfl
  | x :: xs => by simp only [renL, renL_map f xs, List.map_cons]
theorem ren_cells (f : Nat → Nat) (v : AV) : (ren f v).cells = renL f v.cells := by
  cases v <;> simp only [ren, AV.cells, renL]
theorem renL_cells (f : Nat → Nat) : ∀ (l : List AV), (renL f l).flatMap AV.cells = renL f (l.flatMap AV.cells)
  | [] => rfl
  | x :: xs => by
    show (ren f x :: renL f xs).flatMap AV.cells = _
    rw [List.flatMap_cons, List.flatMap_cons, renL_append, ren_cells, renL_cells f xs]
theorem renL_length (f : Nat → Nat) : ∀ (l : List AV), (renL f l).length = l.length
  | [] => rfl
  | x :: xs => by simp only [renL, List.length_cons, renL_length f xs]
section
variable {K K' : Know} {f : Nat → Nat}
mutual
theorem RV.ren (hp : ∀ b q, K.phi (f b) = some q → K'.phi b = some q) (hf : ∀ g o u, K.frz g o = some u → K'.frz g o = some u) (hd : ∀ g n, K.dim g = some n → K'.dim g = some n) :
    ∀ {v' : AV} {u : Value}, RV K v' u → ∀ {v : AV}, v' = Am.ren f v → RV K' v u
  | _, _, .bool b, v, e => by cases v <;> simp only [Am.ren] at e <;> first | (cases e; done) | (injection e with e1; subst e1; exact .bool _)
  | _, _, .int k n, v, e => by cases v <;> simp only [Am.ren] at e <;> first | (cases e; done) | (injection e with e1 e2; subst e1 e2; exact .int _ _)
  | _, _, .str l s h, v, e => by cases v <;> simp only [Am.ren] at e <;> first | (cases e; done) | (injection e with e1; subst e1; exact .str _ _ h)
  | _, _, .nilp, v, e => by cases v <;> simp only [Am.ren] at e <;> first | (cases e; done) | exact .nilp
  | _, _, .ptr b off g base h, v, e => by
    cases v <;> simp only [Am.ren] at e <;> first | (cases e; done) | (injection e with e1 e2; subst e1 e2; exact .ptr _ _ _ _ (hp _ _ h))
  | _, _, .rptr l g off us h hfz, v, e => by
    cases v <;> simp only [Am.ren] at e <;> first | (cases e; done) | (injection e with e1; exact .rptr _ _ _ us (RVs.ren hp hf hd h e1) fun i u q => hf _ _ _ (hfz i u q))
  | _, _, .nils, v, e => by cases v <;> simp only [Am.ren] at e <;> first | (cases e; done) | exact .nils
  | _, _, .vs sz full l a n cap us hn h hsz hc hfull hfz, v, e => by
    cases v <;> simp only [Am.ren] at e <;> try (cases e; done)
    rename_i sz' full' l'
    injection e with e1 e2 e3
    subst e1 e2
    refine .vs _ _ _ a n cap us (by rw [hn, e3, renL_length]) (RVs.ren hp hf hd h (by rw [e3, renL_cells])) ?_ hc hfull fun i u q => ⟨(hfz i u q).1, hf _ _ _ (hfz i u q).2⟩
    intro x hx
    have hmem : Am.ren f x ∈ l := by rw [e3, renL_map]; exact List.mem_map_of_mem hx
    have := hsz _ hmem
    rwa [ren_cells, renL_length] at this
  | _, _, .rs sz b off len a cap g base hg hc ha, v, e => by
    cases v <;> simp only [Am.ren] at e <;> first | (cases e; done) | (injection e with e1 e2 e3 e4; subst e1 e2 e3 e4; exact .rs _ _ _ _ a cap g base (hp _ _ hg) hc (ha.imp id fun ⟨q1, N, q2, q3⟩ => ⟨q1, N, hd _ _ q2, q3⟩))
  | _, _, .rc sz b off len cap g base N hg hc hN hl, v, e => by
    cases v <;> simp only [Am.ren] at e <;> first | (cases e; done) | (injection e with e1 e2 e3 e4 e5; subst e1 e2 e3 e4 e5; exact .rc _ _ _ _ _ g base N (hp _ _ hg) hc (hd _ _ hN) hl)
  | _, _, .func fn first captured a c h1 h2, v, e => by
    cases v <;> simp only [Am.ren] at e <;> first | (cases e; done) | (injection e with e1 e2 e3; subst e1; exact .func _ _ _ a c (RVs.ren hp hf hd h1 e2) (RVs.ren hp hf hd h2 e3))
  | _, _, .nilf, v, e => by cases v <;> simp only [Am.ren] at e <;> first | (cases e; done) | exact .nilf
  | _, _, .nilm, v, e => by cases v <;> simp only [Am.ren] at e <;> first | (cases e; done) | exact .nilm
  | _, _, .map b g h, v, e => by
    cases v <;> simp only [Am.ren] at e <;> first | (cases e; done) | (injection e with e1; subst e1; exact .map _ _ (hp _ _ h))
  | _, _, .av g l off n cap hn hc hz, v, e => by
    cases v <;> simp only [Am.ren] at e <;> first | (cases e; done) | (injection e with e1 e2; subst e1 e2; exact .av _ _ off n cap hn hc fun i z q => hf _ _ _ (hz i z q))
  | _, _, .fp b off l g base us hg h hz, v, e => by
    cases v <;> simp only [Am.ren] at e <;> first | (cases e; done) | (injection e with e1 e2 e3; subst e1 e2; exact .fp _ _ _ g base us (hp _ _ hg) (RVs.ren hp hf hd h e3) fun i u q => hf _ _ _ (hz i u q))
  | _, _, .emp a cap, v, e => by cases v <;> simp only [Am.ren] at e <;> first | (cases e; done) | exact .emp _ _
  | _, _, .raw w, v, e => by cases v <;> simp only [Am.ren] at e <;> first | (cases e; done) | (injection e with e1; subst e1; exact .raw _)
  | _, _, .iface t x u h, v, e => by
    cases v <;> simp only [Am.ren] at e <;> first | (cases e; done) | (injection e with e1 e2; subst e1; exact .iface _ _ _ (RV.ren hp hf hd h e2))
  | _, _, .nili, v, e => by cases v <;> simp only [Am.ren] at e <;> first | (cases e; done) | exact .nili
  | _, _, .agg l cs h, v, e => by
    cases v <;> simp only [Am.ren] at e <;> first | (cases e; done) | (injection e with e1; exact .agg _ _ (RVs.ren hp hf hd h e1))
  | _, _, .tuple l cs h, v, e => by
    cases v <;> simp only [Am.ren] at e <;> first | (cases e; done) | (injection e with e1; exact .tuple _ _ (RVs.ren hp hf hd h e1))
theorem RVs.ren (hp : ∀ b q, K.phi (f b) = some q → K'.phi b = some q) (hf : ∀ g o u, K.frz g o = some u → K'.frz g o = some u) (hd : ∀ g n, K.dim g = some n → K'.dim g = some n) :
    ∀ {l' : List AV} {us : List Value}, RVs K l' us → ∀ {l : List AV}, l' = renL f l → RVs K' l us
  | _, _, .nil, l, e => by
    cases l with
    | nil => exact .nil
    | cons y ys => simp only [renL] at e; cases e
  | _, _, .cons x u xs us h hs, l, e => by
    cases l with
    | nil => simp only [renL] at e; cases e
    | cons y ys =>
      simp only [renL] at e
      injection e with e1 e2
      exact .cons _ _ _ _ (RV.ren hp hf hd h e1) (RVs.ren hp hf hd hs e2)
end
theorem lowL_cells {n : Nat} : ∀ {l : List AV}, lowL n (l.flatMap AV.cells) → lowL n l
  | [], _ => by simp only [lowL]
  | x :: xs, h => by
    rw [List.flatMap_cons, lowL_append] at h
    simp only [lowL]
    refine ⟨?_, lowL_cells h.2⟩
    have := h.1
    cases x <;> simp only [AV.cells, lowL, low, and_true] at this ⊢ <;> first | trivial | exact this
mutual
theorem RV.low {n : Nat} (hp : ∀ b q, K.phi b = some q → b < n) : ∀ {v : AV} {u : Value}, RV K v u → Am.low n v
  | _, _, .bool b | _, _, .int _ _ | _, _, .str _ _ _ | _, _, .nilp | _, _, .nils | _, _, .nilf | _, _, .nilm | _, _, .raw _ | _, _, .av _ _ _ _ _ _ _ _ | _, _, .emp _ _ | _, _, .nili => by simp only [Am.low]
  | _, _, .ptr b off g base h => by simp only [Am.low]; exact hp _ _ h
  | _, _, .rptr l g off us h _ => by simp only [Am.low]; exact RVs.low hp h
  | _, _, .vs sz full l a m cap us hn h hsz hc hfull hf => by simp only [Am.low]; exact lowL_cells (RVs.low hp h)
  | _, _, .rs sz b off len a cap g base hg hc ha => by simp only [Am.low]; exact hp _ _ hg
  | _, _, .rc sz b off len cap g base N hg hc hN hl => by simp only [Am.low]; exact hp _ _ hg
  | _, _, .fp b off l g base us hg h _ => by simp only [Am.low]; exact ⟨hp _ _ hg, RVs.low hp h⟩
  | _, _, .func fn first captured a c h1 h2 => by simp only [Am.low]; exact ⟨RVs.low hp h1, RVs.low hp h2⟩
  | _, _, .map b g h => by simp only [Am.low]; exact hp _ _ h
  | _, _, .iface t v u h => by simp only [Am.low]; exact RV.low hp h
  | _, _, .agg l cs h => by simp only [Am.low]; exact RVs.low hp h
  | _, _, .tuple l cs h => by simp only [Am.low]; exact RVs.low hp h
theorem RVs.low {n : Nat} (hp : ∀ b q, K.phi b = some q → b < n) : ∀ {l : List AV} {us : List Value}, RVs K l us → lowL n l
  | _, _, .nil => by simp only [lowL]
  | _, _, .cons x u xs us h hs => by simp only [lowL]; exact ⟨RV.low hp h, RVs.low hp hs⟩
end
end
def renO (f : Nat → Nat) : AObj → AObj
  | .cells c T => .cells (renL f c) T
  | .map es ck => .map (es.map fun e => (ren f e.1, ren f e.2.1, e.2.2)) ck
  | .siter l p => .siter l p
  | .miter m => .miter (m.map f)
def lowO (n : Nat) : AObj → Prop
  | .cells c _ => lowL n c
  | .map es _ => lowL n (es.map (·.1)) ∧ lowL n (es.map (·.2.1))
  | .siter _ _ => True
  | .miter m => ∀ b, m = some b → b < n
theorem renO_low {f : Nat → Nat} {n : Nat} (hf : ∀ b, b < n → f b = b) {o : AObj} (h : lowO n o) : renO f o = o := by
  cases o with
  | cells c T => simp only [lowO] at h; simp only [renO, renL_low hf h]
  | map es ck =>
    simp only [lowO, lowL_iff] at h
    simp only [renO]
    congr 1
    conv => rhs; rw [← List.map_id es]
    refine List.map_congr_left fun e he => ?_
    rw [ren_low hf (h.1 e.1 (List.mem_map_of_mem he)), ren_low hf (h.2 e.2.1 (List.mem_map_of_mem (f := fun e => e.2.1) he))]
    rfl
  | siter l p => rfl
  | miter m =>
    simp only [lowO] at h
    cases m with
    | none => rfl
    | some b => simp only [renO, Option.map_some, hf b (h b rfl)]
section
variable {K K' : Know} {f : Nat → Nat}
theorem WO.ren (hp : ∀ b q, K.phi (f b) = some q → K'.phi b = some q) (hf : ∀ g o u, K.frz g o = some u → K'.frz g o = some u) (hd : ∀ g n, K.dim g = some n → K'.dim g = some n)
    {w : World} {g base : Nat} {o : AObj} (h : WO K w g base (renO f o)) : WO K' w g base o := by
  cases o with
  | cells c T =>
    obtain ⟨arr, TT, lo, hi, pre, us, rest, h1, h0, h2, h3, h4, h5, h6⟩ := h
    exact ⟨arr, TT, lo, hi, pre, us, rest, h1, h0, h2, h3, h4, h5.ren hp hf hd rfl, hd _ _ h6⟩
  | map es ck =>
    obtain ⟨h0, mes, h1, h2, h3, h4⟩ := h
    refine ⟨h0, mes, h1, h2.ren hp hf hd ?_, h3.ren hp hf hd ?_, ?_⟩
    · rw [renL_map, List.map_map, List.map_map]; rfl
    · rw [renL_map, List.map_map, List.map_map]; rfl
    · rw [← h4, List.map_map]; rfl
  | siter l p => exact h
  | miter m =>
    obtain ⟨h0, m', a, b, h1, h2, h3⟩ := h
    refine ⟨h0, m', a, b, h1, fun e => h2 (by rw [e]; rfl), fun x e => ?_⟩
    obtain ⟨gm, q1, q2⟩ := h3 (f x) (by rw [e]; rfl)
    exact ⟨gm, hp _ _ q1, q2⟩
theorem WO.low {n : Nat} (hp : ∀ b q, K.phi b = some q → b < n) {w : World} {g base : Nat} {o : AObj} (h : WO K w g base o) : lowO n o := by
  cases o with
  | cells c T =>
    obtain ⟨arr, TT, lo, hi, pre, us, rest, h1, h0, h2, h3, h4, h5, h6⟩ := h
    exact h5.low hp
  | map es ck =>
    obtain ⟨h0, mes, h1, h2, h3, h4⟩ := h
    exact ⟨h2.low hp, h3.low hp⟩
  | siter l p => trivial
  | miter m =>
    obtain ⟨h0, m', a, b, h1, h2, h3⟩ := h
    intro x e
    obtain ⟨gm, q1, q2⟩ := h3 x e
    exact hp _ _ q1
end
def Know.cut (K : Know) (n : Nat) : Know := { K with phi := fun b => if b < n then K.phi b else none }
section
variable {K : Know} {n N : Nat}
theorem cut_phi (hN : K.phi N = none) : ∀ b q, K.phi (if b < n then b else N) = some q → (K.cut n).phi b = some q := by
  intro b q h
  simp only [Know.cut]
  split at h
  · rename_i hb; rw [if_pos hb]; exact h
  · rw [hN] at h; cases h
theorem RV.cut (hN : K.phi N = none) {v : AV} {u : Value} (h : RV K v u) (hl : Am.low n v) : RV (K.cut n) v u :=
  RV.ren (f := fun b => if b < n then b else N) (cut_phi hN) (fun _ _ _ e => e) (fun _ _ e => e) h (ren_low (fun b hb => if_pos hb) hl).symm
theorem WO.cut (hN : K.phi N = none) {w : World} {g base : Nat} {o : AObj} (h : WO K w g base o) (hl : lowO n o) : WO (K.cut n) w g base o :=
  WO.ren (f := fun b => if b < n then b else N) (cut_phi hN) (fun _ _ _ e => e) (fun _ _ e => e) (by rw [renO_low (fun b hb => if_pos hb) hl]; exact h)
end
mutual
def lowB (n : Nat) : AV → Bool
  | .bool _ => true
  | .int _ _ => true
  | .str _ => true
  | .nilp => true
  | .ptr b _ => Nat.blt b n
  | .rptr l => lowLB n l
  | .nils => true
  | .vs _ _ l => lowLB n l
  | .rs _ b _ _ => Nat.blt b n
  | .rc _ b _ _ _ => Nat.blt b n
  | .func _ a c => lowLB n a && lowLB n c
  | .nilf => true
  | .nilm => true
  | .map b => Nat.blt b n
  | .iface _ v => lowB n v
  | .nili => true
  | .agg l => lowLB n l
  | .tuple l => lowLB n l
  | .raw _ => true
  | .av _ _ => true
  | .emp => true
  | .fp b _ l => Nat.blt b n && lowLB n l
def lowLB (n : Nat) : List AV → Bool
  | [] => true
  | x :: xs => lowB n x && lowLB n xs
end
theorem blt_lt {a b : Nat} (h : Nat.blt a b = true) : a < b := Nat.le_of_ble_eq_true h
mutual
theorem lowB_low {n : Nat} : ∀ {v : AV}, lowB n v = true → low n v
  | .bool _, _ | .int _ _, _ | .str _, _ | .nilp, _ | .nils, _ | .nilf, _ | .nilm, _ | .nili, _ | .raw _, _ | .av _ _, _ | .emp, _ => by simp only [low]
  | .ptr b _, h => by simp only [low]; simp only [lowB] at h; exact blt_lt h
  | .rs _ b _ _, h => by simp only [low]; simp only [lowB] at h; exact blt_lt h
  | .rc _ b _ _ _, h => by simp only [low]; simp only [lowB] at h; exact blt_lt h
  | .fp b _ l, h => by simp only [low]; simp only [lowB, Bool.and_eq_true] at h; exact ⟨blt_lt h.1, lowLB_low h.2⟩
  | .map b, h => by simp only [low]; simp only [lowB] at h; exact blt_lt h
  | .rptr l, h => by simp only [low]; simp only [lowB] at h; exact lowLB_low h
  | .vs _ _ l, h => by simp only [low]; simp only [lowB] at h; exact lowLB_low h
  | .agg l, h => by simp only [low]; simp only [lowB] at h; exact lowLB_low h
  | .tuple l, h => by simp only [low]; simp only [lowB] at h; exact lowLB_low h
  | .iface _ v, h => by simp only [low]; simp only [lowB] at h; exact lowB_low h
  | .func _ a c, h => by simp only [low]; simp only [lowB, Bool.and_eq_true] at h; exact ⟨lowLB_low h.1, lowLB_low h.2⟩
theorem lowLB_low {n : Nat} : ∀ {l : List AV}, lowLB n l = true → lowL n l
  | [], _ => by simp only [lowL]
  | x :: xs, h => by simp only [lowL]; simp only [lowLB, Bool.and_eq_true] at h; exact ⟨lowB_low h.1, lowLB_low h.2⟩
end
end Go.Am
end
noncomputable section
namespace Go.Am
open Go
inductive TD where
  | bool | int (k : IntKind) | str | ptr (e : TypeId) | slice (e : TypeId) | arr (n : Nat) (e : TypeId) | map (k e : TypeId)
  | struct (fs : List (TypeId × Nat × Bool)) | func | iface | other
  deriving Inhabited
structure TI where
  td : TD
  size : Nat
  bytes : Nat
  zero : Value
  eqok : Bool
structure Tab where
  ty : TypeId → Option TI
  fn : FuncId → Option Func
def AV.ofOne : Value → AV
  | .bool b => .bool b
  | .int k n => .int k n
  | .string s => .str s.data.toList
  | .pointer none => .nilp
  | .slice none 0 0 => .nils
  | .map none => .nilm
  | .nilFunc => .nilf
  | .nilIface => .nili
  | v => .raw v
def AV.ofV : Value → AV
  | .agg cs => .agg (cs.toList.map AV.ofOne)
  | .tuple cs => .tuple (cs.toList.map AV.ofOne)
  | v => AV.ofOne v
def AV.one : AV → Bool
  | .agg _ | .tuple _ | .raw _ => false
  | _ => true
def aev (tm : List AV) : Operand → AV
  | .tmp t => tm.getD t aundef
  | .const v => AV.ofV v
  | .global g => match globAt globs g with
    | some l => .rptr l
    | none => .raw (.pointer (some ⟨g, 0, none⟩))
  | .func f => .func (.func f) [] []
def AV.int? : AV → Option Int
  | .int _ n => some n
  | _ => none
def splice : List AV → Nat → List AV → List AV
  | c, _, [] => c
  | c, off, v :: vs => splice (c.set off v) (off + 1) vs
def TD.isAgg : TD → Bool
  | .struct _ | .arr _ _ => true
  | _ => false
section
variable (T : Tab)
def Tab.size (t : TypeId) : Option Nat := (T.ty t).map (·.size)
def apart (t : TypeId) (cs : List AV) (off : Nat) : Option AV :=
  match T.ty t with
  | none => none
  | some i => if i.td.isAgg then some (.agg ((cs.drop off).take i.size)) else cs[off]?
def aint (op : BinOp) (k : IntKind) (a b : Int) : Option AV :=
  match op with
  | .add => some (.int k (k.wrap (a + b)))
  | .sub => some (.int k (k.wrap (a - b)))
  | .mul => some (.int k (k.wrap (a * b)))
  | .quo => if b = 0 then none else some (.int k (k.wrap (a.tdiv b)))
  | .rem => if b = 0 then none else some (.int k (a.tmod b))
  | .and => some (.int k (k.wrap (BitVec.ofInt k.bits a &&& BitVec.ofInt k.bits b).toNat))
  | .or => some (.int k (k.wrap (BitVec.ofInt k.bits a ||| BitVec.ofInt k.bits b).toNat))
  | .xor => some (.int k (k.wrap (BitVec.ofInt k.bits a ^^^ BitVec.ofInt k.bits b).toNat))
  | .andNot => some (.int k (k.wrap (BitVec.ofInt k.bits a &&& ~~~BitVec.ofInt k.bits b).toNat))
  | .eql => some (.bool (a == b))
  | .neq => some (.bool (a != b))
  | .lss => some (.bool (a < b))
  | .leq => some (.bool (a ≤ b))
  | .gtr => some (.bool (a > b))
  | .geq => some (.bool (a ≥ b))
  | .shl | .shr => none
def ashift (op : BinOp) (k : IntKind) (a b : Int) : Option AV :=
  if b < 0 then none else
  match op with
  | .shl => some (.int k (k.wrap (a * 2 ^ (min b.toNat k.bits))))
  | .shr => some (.int k (a.fdiv (2 ^ (min b.toNat k.bits))))
  | _ => none
def astr (op : BinOp) (a b : List UInt8) : Option AV :=
  match op with
  | .add => if ((a.length + b.length : Nat) : Int) > IntKind.i64.max then none else some (.str (a ++ b))
  | .eql => some (.bool (a == b))
  | .neq => some (.bool (!(a == b)))
  | .lss => some (.bool (Op.bytesLess a b))
  | .leq => some (.bool (Op.bytesLess a b || a == b))
  | .gtr => some (.bool (!(Op.bytesLess a b || a == b)))
  | .geq => some (.bool (!(Op.bytesLess a b)))
  | _ => none
def aeqFields (eq : TypeId → AV → AV → Option Bool) (xs ys : List AV) : List (TypeId × Nat × Bool) → Option Bool
  | [] => some true
  | (ft, off, nm) :: r =>
    if nm then
      match apart T ft xs off, apart T ft ys off with
      | some a, some b => match eq ft a b with
        | some true => aeqFields eq xs ys r
        | some false => some false
        | none => none
      | _, _ => none
    else aeqFields eq xs ys r
def aeq : Nat → TypeId → AV → AV → Option Bool
  | 0, _, _, _ => none
  | d + 1, t, x, y =>
    match T.ty t with
    | none => none
    | some i => match i.td, x, y with
      | .bool, .bool a, .bool b => some (a == b)
      | .int _, .int k a, .int k' b => if k = k' then some (a == b) else none
      | .str, .str a, .str b => some (a == b)
      | .struct fs, .agg xs, .agg ys => if i.eqok then aeqFields T (aeq d) xs ys fs else none
      | .slice _, .nils, .nils => some true
      | .slice _, .nils, .vs _ _ _ => some false
      | .slice _, .nils, .rs _ _ _ _ => some false
      | .slice _, .vs _ _ _, .nils => some false
      | .slice _, .rs _ _ _ _, .nils => some false
      | .map _ _, .nilm, .nilm => some true
      | .map _ _, .nilm, .map _ => some false
      | .map _ _, .map _, .nilm => some false
      | .func, .nilf, .nilf => some true
      | .func, .func _ _ _, .nilf => some false
      | .func, .nilf, .func _ _ _ => some false
      | .ptr _, .nilp, .nilp => some true
      | .ptr _, .ptr _ _, .nilp => some false
      | .ptr _, .rptr _, .nilp => some false
      | .ptr _, .nilp, .ptr _ _ => some false
      | .ptr _, .nilp, .rptr _ => some false
      | _, _, _ => none
def abin1 (op : BinOp) (t : TypeId) (x y : AV) : Option AV :=
  match x, y with
  | .int k a, .int k' b => if k = k' then aint op k a b else none
  | .str a, .str b => astr op a b
  | x, y => match op with
    | .eql => (aeq T 8 t x y).map .bool
    | .neq => (aeq T 8 t x y).map fun b => .bool (!b)
    | _ => none
def abin (op : BinOp) (t : TypeId) (x y : AV) : Option AV :=
  match op with
  | .shl | .shr => match x, y with
    | .int k a, .int _ b => ashift op k a b
    | _, _ => none
  | op => abin1 T op t x y
def aun (op : UnOp) (x : AV) : Option AV :=
  match op, x with
  | .neg, .int k n => some (.int k (k.wrap (0 - n)))
  | .xor, .int k n => some (.int k (k.wrap (BitVec.ofInt k.bits (if k.signed then -1 else k.max) ^^^ BitVec.ofInt k.bits n).toNat))
  | .not, .bool b => some (.bool (!b))
  | _, _ => none
def aconv (src dst : TypeId) (x : AV) : Option AV :=
  match T.ty src, T.ty dst with
  | some _, some j => match j.td, x with
    | .int k, .int _ n => some (.int k (k.wrap n))
    | .str, .int _ n => some (.str (Utf8.encode n).data.toList)
    | .str, .str l => some (.str l)
    | _, _ => none
  | _, _ => none
def afill (place : Nat → Option (Nat × Nat)) (cells : List AV) : List (Nat × AV) → Option (List AV)
  | [] => some cells
  | (i, v) :: rest =>
    match place i with
    | none => none
    | some (off, size) =>
      if v.cells.length ≠ size ∨ off + v.cells.length > cells.length then none
      else afill place (splice cells off v.cells) rest
def AV.israw : AV → Bool
  | .raw _ => true
  | _ => false
def abuild (t : TypeId) (parts : List (Nat × AV)) : Option AV :=
  match T.ty t with
  | none => none
  | some i => if parts.any (·.2.israw) then none else match i.td, AV.ofV i.zero with
    | .struct fs, .agg z => match fs.mapM fun f => (T.size f.1).map fun n => (f.2.1, n) with
      | some places => (afill (places[·]?) z parts).map .agg
      | none => none
    | .arr _ e, .agg z => match T.size e with
      | some n => (afill (fun i => some (i * n, n)) z parts).map .agg
      | none => none
    | _, _ => none
def aidx (top : Nat) : Option AV → Option (Option Nat)
  | none => some none
  | some (.int _ n) => if 0 ≤ n ∧ n ≤ top then some (some n.toNat) else none
  | some _ => none
def abounds (len : Nat) (lo hi mx : Option AV) : Option (Nat × Nat × Option Nat) :=
  match aidx len mx with
  | none => none
  | some m => match aidx (m.getD len) hi with
    | none => none
    | some h => if m.isSome && h.isNone then none else
      match aidx (h.getD len) lo with
      | none => none
      | some l => some (l.getD 0, h.getD len, m)
def aslice (t : TypeId) (x : AV) (lo hi mx : Option AV) : Option AV :=
  match T.ty t with
  | none => none
  | some i => match i.td, x with
    | .str, .str l => if mx.isSome then none else match abounds l.length lo hi none with
      | some (l', h, _) => some (.str ((l.drop l').take (h - l')))
      | none => none
    | .slice e, .nils => match T.size e with
      | some _ => match abounds 0 lo hi mx with
        | some _ => some .nils
        | none => none
      | none => none
    | .slice e, .vs sz full l => match T.size e with
      | some n => if n = sz then match abounds l.length lo hi mx with
          | some (l', h, m) => some (.vs sz (match m with | some m => m == h | none => full && h == l.length) ((l.drop l').take (h - l')))
          | none => none
        else none
      | none => none
    | .slice e, .rs sz b off len => match T.size e with
      | some n => if n = sz then match abounds len lo hi mx with
          | some (l', h, m) => if m = some l' then some (.vs sz true []) else some (.rs sz b (off + l' * sz) (h - l'))
          | none => none
        else none
      | none => none
    | _, _ => none
def aindexAddr (t : TypeId) (x ix : AV) : Option AV :=
  match T.ty t, ix with
  | some i, .int _ n => match i.td, x with
    | .slice e, .vs sz _ l => match T.size e with
      | some m => if m = sz ∧ 0 < m ∧ 0 ≤ n then match l[n.toNat]? with
          | some v => if v.israw then none else some (.rptr v.cells)
          | none => none
        else none
      | none => none
    | .slice e, .rs sz b off len => match T.size e with
      | some m => if m = sz ∧ 0 ≤ n ∧ n < len then some (.ptr b (off + n.toNat * sz)) else none
      | none => none
    | .arr len e, .ptr b off => match T.size e with
      | some m => if 0 ≤ n ∧ n < len then some (.ptr b (off + n.toNat * m)) else none
      | none => none
    | .arr len e, .rptr l => match T.size e with
      | some m => if 0 ≤ n ∧ n < len then some (.rptr (l.drop (n.toNat * m))) else none
      | none => none
    | .slice e, .av _ l => match T.size e with
      | some m => if m = 1 ∧ 0 ≤ n then match l[n.toNat]? with
          | some v => some (.rptr [.int .i64 v])
          | none => none
        else none
      | none => none
    | _, _ => none
  | _, _ => none
def afieldAddr (t : TypeId) (x : AV) (f : Nat) : Option AV :=
  match T.ty t with
  | none => none
  | some i => match i.td with
    | .struct fs => match fs[f]? with
      | none => none
      | some (ft, off, _) => match T.size ft with
        | some (_ + 1) => match x with
          | .ptr b o => some (.ptr b (o + off))
          | .rptr l => some (.rptr (l.drop off))
          | _ => none
        | _ => none
    | _ => none
def afield (t : TypeId) (x : AV) (f : Nat) : Option AV :=
  match T.ty t with
  | none => none
  | some i => match i.td, x with
    | .struct fs, .agg cs => match fs[f]? with
      | none => none
      | some (ft, off, _) => apart T ft cs off
    | _, _ => none
def aindex (t : TypeId) (x ix : AV) : Option AV :=
  match T.ty t, ix with
  | some i, .int _ n => match i.td, x with
    | .str, .str l => if 0 ≤ n then (match l[n.toNat]? with | some c => some (.int .u8 c.toNat) | none => none) else none
    | .arr len e, .agg cs => match T.size e with
      | some m => if 0 ≤ n ∧ n < len then apart T e cs (n.toNat * m) else none
      | none => none
    | _, _ => none
  | _, _ => none
def alen (t : TypeId) (x : AV) : Option AV :=
  match T.ty t with
  | none => none
  | some i => match i.td, x with
    | .str, .str l => some (.int .i64 l.length)
    | .slice _, .nils => some (.int .i64 0)
    | .slice _, .vs _ _ l => some (.int .i64 l.length)
    | .slice _, .rs _ _ _ n => some (.int .i64 n)
    | .arr n _, _ => some (.int .i64 n)
    | .map _ _, .nilm => some (.int .i64 0)
    | .slice _, .av _ l => some (.int .i64 l.length)
    | .slice _, .emp => some (.int .i64 0)
    | _, _ => none
def acap (t : TypeId) (x : AV) : Option AV :=
  match T.ty t with
  | none => none
  | some i => match i.td, x with
    | .slice _, .nils => some (.int .i64 0)
    | _, _ => none
def amax2 : AV → AV → Option AV
  | .int k x, .int _ y => some (.int k (if y > x then y else x))
  | _, _ => none
def amin2 : AV → AV → Option AV
  | .int k x, .int _ y => some (.int k (if y < x then y else x))
  | _, _ => none
def afold (f : AV → AV → Option AV) : AV → List AV → Option AV
  | x, [] => some x
  | x, y :: r => match f x y with
    | some z => afold f z r
    | none => none
def apure (ev : Operand → AV) : Op → Option AV
  | .move x | .assign x => some (ev x)
  | .pick c a b => match ev c with
    | .bool true => some (ev a)
    | .bool false => some (ev b)
    | _ => none
  | .build t parts => abuild T t (parts.toList.map fun p => (p.1, ev p.2))
  | .nilCheck x => match ev x with
    | .ptr b off => some (.ptr b off)
    | .rptr l => some (.rptr l)
    | .func (.func f) fi ca => some (.func (.func f) fi ca)
    | _ => none
  | .binOp op t x y _ => abin T op t (ev x) (ev y)
  | .unOp op _ x => aun op (ev x)
  | .convert src dst x => aconv T src dst (ev x)
  | .makeFunc fn first captured => some (.func fn (first.toList.map ev) (captured.toList.map ev))
  | .slice t x lo hi mx => aslice T t (ev x) (lo.map ev) (hi.map ev) (mx.map ev)
  | .fieldAddr t x f => afieldAddr T t (ev x) f
  | .field t x f => afield T t (ev x) f
  | .indexAddr t x ix => aindexAddr T t (ev x) (ev ix)
  | .index t x ix => aindex T t (ev x) (ev ix)
  | .extract t ix => match ev t with
    | .tuple l => l[ix]?
    | _ => none
  | .call c => match c.callee, c.args.toList with
    | .builtin .len, [x] => match c.argTypes[0]? with
      | some t => alen T t (ev x)
      | none => none
    | .builtin .cap, [x] => match c.argTypes[0]? with
      | some t => acap T t (ev x)
      | none => none
    | .builtin .max, x :: r => afold amax2 (ev x) (r.map ev)
    | .builtin .min, x :: r => afold amin2 (ev x) (r.map ev)
    | _, _ => none
  | _ => none
end
end Go.Am
end
noncomputable section
namespace Go.Am
open Go
structure Cfg where
  ro : Nat → Bool := fun _ => false
  bv : Nat → Bool := fun _ => false
  /-- where a region began whose appends are done aside -/
  side : Option AHeap := none
def hinted (f : Nat → Bool) : Option Nat → Bool
  | some d => f d
  | none => false
def AObj.cells? : Option AObj → Option (List AV × Option TypeId)
  | some (.cells c T) => some (c, T)
  | _ => none
def AObj.map? : Option AObj → Option (List (AV × AV × Nat) × Nat)
  | some (.map es ck) => some (es, ck)
  | _ => none
def akey : TD → AV → AV → Option Bool
  | .int kk, .int k a, .int k' b => if k = kk ∧ k' = kk then some (a == b) else none
  | .str, .str a, .str b => some (a == b)
  | .bool, .bool a, .bool b => some (a == b)
  | _, _, _ => none
def afind (td : TD) (k : AV) : List (AV × AV × Nat) → Nat → Option (Option (Nat × AV × Nat))
  | [], _ => some none
  | (k', v, born) :: r, i => match akey td k k' with
    | some true => some (some (i, v, born))
    | some false => afind td k r (i + 1)
    | none => none
def abytes : List AV → Option (List UInt8)
  | [] => some []
  | .int .u8 n :: r => (abytes r).map fun l => UInt8.ofNat n.toNat :: l
  | _ => none
section
variable (T : Tab)
def acellsOf (s : AHeap) (sz : Nat) : AV → Option (List AV × Nat)
  | .nils => some ([], 0)
  | .vs sz' _ l => if sz' = sz then some (l.flatMap AV.cells, l.length) else none
  | .rs sz' b off len => if sz' = sz then
      match AObj.cells? (s.get b) with
      | some (c, _) => if off + len * sz ≤ c.length then some ((c.drop off).take (len * sz), len) else none
      | none => none
    else none
  | .str l => if sz = 1 then some (l.map fun b => .int .u8 b.toNat, l.length) else none
  | _ => none
def aappend (e : TypeId) (s : AHeap) (x y : AV) : Option (AV × AHeap) :=
  match T.ty e with
  | none => none
  | some ei => match acellsOf s ei.size y with
    | none => none
    | some (new, n) => if ei.size = 0 ∨ ei.bytes = 0 then none else match x with
      | .nils => if n = 0 then some (.nils, s)
          else if (2 * n + 512) * ei.bytes ≤ 281474976710656 then some (.rs ei.size s.nx 0 n, s.new (.cells new (some e))) else none
      | .vs sz full l => if n = 0 then some (.vs sz full l, s)
          else if full = true ∧ sz = ei.size ∧ (2 * (l.length + n) + 512) * ei.bytes ≤ 281474976710656 then
            some (.rs ei.size s.nx 0 (l.length + n), s.new (.cells (l.flatMap AV.cells ++ new) (some e)))
          else none
      | .rs sz b off len => if n = 0 then some (.rs sz b off len, s)
          else match AObj.cells? (s.get b) with
          | some (c, TT) => if sz = ei.size ∧ off + len * ei.size ≤ c.length ∧ new.all AV.one = true ∧ (2 * (len + n) + 512) * ei.bytes ≤ 281474976710656 then
              some (.rs ei.size s.nx 0 (len + n), (s.del b).new (.cells ((c.drop off).take (len * ei.size) ++ new) (if TT = some e ∧ off = 0 then some e else none)))
            else none
          | none => none
      | .rc sz b off len cap => if n = 0 then none
          else match AObj.cells? (s.get b) with
          | some (c, TT) => if sz = ei.size ∧ off + len * ei.size ≤ c.length ∧ new.all AV.one = true ∧ (2 * (len + n) + 512) * ei.bytes ≤ 281474976710656 then
              if len + n ≤ cap then some (.rc sz b off (len + n) cap, s.upd b (.cells (c.take (off + len * ei.size) ++ new) TT))
              else some (.rs ei.size s.nx 0 (len + n), s.new (.cells ((c.drop off).take (len * ei.size) ++ new) (some e)))
            else none
          | none => none
      | _ => none
def acopy (e : TypeId) (s : AHeap) (x y : AV) : Option (AV × AHeap) :=
  match T.ty e with
  | none => none
  | some ei => match acellsOf s ei.size y with
    | none => none
    | some (new, n) => match x with
      | .nils => some (.int .i64 0, s)
      | .rs sz b off len => match AObj.cells? (s.get b) with
        | some (c, TT) => if sz = ei.size ∧ off + len * ei.size ≤ c.length ∧ new.all AV.one = true then
            some (.int .i64 (min n len : Nat), s.upd b (.cells (splice c off (new.take (min n len * ei.size))) TT))
          else none
        | none => none
      | _ => none
def agrow (e : TypeId) (s : AHeap) (x y : AV) : Option (AV × AHeap) :=
  match T.ty e with
  | none => none
  | some ei => match x, y with
    | .nils, .int _ n => if (AV.ofV ei.zero).israw = true ∨ ei.size = 0 ∨ ei.bytes = 0 ∨ n < 0 ∨ 281474976710656 < (2 * n.toNat + 512) * ei.bytes then none
        else if n = 0 then some (.nils, s) else some (.rs ei.size s.nx 0 n.toNat, s.new (.cells (List.replicate n.toNat (AV.ofV ei.zero).cells).flatten (some e)))
    | _, _ => none
def aclear (e : TypeId) (s : AHeap) (x : AV) : Option (AV × AHeap) :=
  match T.ty e with
  | none => none
  | some ei => if (AV.ofV ei.zero).israw = true then none else match x with
    | .nils => some (.tuple [], s)
    | .rs sz b off len => if len = 0 then some (.tuple [], s) else match AObj.cells? (s.get b) with
      | some (c, TT) => if sz = ei.size ∧ off + len * ei.size ≤ c.length ∧ (AV.ofV ei.zero).cells.all AV.one = true then
          some (.tuple [], s.upd b (.cells (splice c off (List.replicate len (AV.ofV ei.zero).cells).flatten) TT)) else none
      | none => none
    | _ => none
def aload (t : TypeId) (x : AV) (s : AHeap) : Option AV :=
  match T.ty t with
  | none => none
  | some i =>
    let cs : Option (List AV) := match x with
      | .rptr l => some l
      | .fp _ _ l => some l
      | .ptr b off => match AObj.cells? (s.get b) with
        | some (c, _) => some (c.drop off)
        | none => none
      | _ => none
    match cs with
    | none => none
    | some cs => if i.td.isAgg then (if i.size ≤ cs.length then some (.agg (cs.take i.size)) else none) else cs[0]?
def astore (t : TypeId) (x v : AV) (s : AHeap) : Option AHeap :=
  match T.ty t, x with
  | some i, .ptr b off => match AObj.cells? (s.get b) with
    | some (c, TT) => if v.israw = false ∧ v.cells.length = i.size ∧ off + i.size ≤ c.length ∧ v.cells.all AV.one = true then
        some (s.upd b (.cells (splice c off v.cells) TT))
      else none
    | none => none
  | _, _ => none
def amakeSlice (t : TypeId) (len cap : AV) (s : AHeap) : Option (AV × AHeap) :=
  match T.ty t, len, cap with
  | some i, .int _ l, .int _ c => match i.td with
    | .slice e => match T.ty e with
      | some ei => if 0 ≤ l ∧ l ≤ c ∧ 0 < ei.bytes ∧ ei.bytes * c ≤ 281474976710656 ∧ (AV.ofV ei.zero).israw = false then
          some (.rs ei.size s.nx 0 l.toNat, s.new (.cells (List.replicate c.toNat (AV.ofV ei.zero).cells).flatten (some e)))
        else none
      | none => none
    | _ => none
  | _, _, _ => none
def abuildSlice (bv : Bool) (t : TypeId) (len : Nat) (parts : List (Nat × AV)) (s : AHeap) : Option (AV × AHeap) :=
  match T.ty t with
  | none => none
  | some i => match i.td with
    | .slice e => match T.ty e with
      | none => none
      | some ei => if len * ei.size > 16777216 ∨ parts.any (·.2.israw) = true ∨ (AV.ofV ei.zero).israw = true then none
        else if bv then
          (if parts.map (·.1) = List.range len ∧ parts.all (fun p => p.2.cells.length == ei.size) = true ∧ (AV.ofV ei.zero).cells.length = ei.size then
            some (.vs ei.size true (parts.map (·.2)), s) else none)
        else match afill (fun i => some (i * ei.size, ei.size)) (List.replicate len (AV.ofV ei.zero).cells).flatten parts with
          | some cells => some (.rs ei.size s.nx 0 len, s.new (.cells cells (some e)))
          | none => none
    | _ => none
def alookup (t : TypeId) (x k : AV) (ok : Bool) (s : AHeap) : Option AV :=
  match T.ty t with
  | none => none
  | some i => match i.td with
    | .map kt et => match T.ty kt, T.ty et with
      | some ki, some ei =>
        let es : Option (List (AV × AV × Nat)) := match x with
          | .nilm => some []
          | .map b => (AObj.map? (s.get b)).map (·.1)
          | _ => none
        match es with
        | none => none
        | some es => match afind ki.td k es 0 with
          | some (some (_, v, _)) => some (if ok then .tuple [v, .bool true] else v)
          | some none => match ki.td with
            | .int _ | .str | .bool => some (if ok then .tuple [AV.ofV ei.zero, .bool false] else AV.ofV ei.zero)
            | _ => none
          | none => none
      | _, _ => none
    | _ => none
def amapUpdate (t : TypeId) (x k v : AV) (s : AHeap) : Option AHeap :=
  match T.ty t, x with
  | some i, .map b => match i.td with
    | .map kt _ => match T.ty kt, AObj.map? (s.get b) with
      | some ki, some (es, ck) => match afind ki.td k es 0 with
        | some (some (j, _, born)) => some (s.upd b (.map (es.set j (k, v, born)) ck))
        | some none => match ki.td with
          | .int _ | .str | .bool => some (s.upd b (.map (es ++ [(k, v, ck)]) (ck + 1)))
          | _ => none
        | none => none
      | _, _ => none
    | _ => none
  | _, _ => none
def amem (cf : Cfg) (ev : Operand → AV) (o : Oper) (s : AHeap) : Option (AV × AHeap) :=
  match o.op with
  | .alloc e => match T.ty e with
    | some i => if (AV.ofV i.zero).israw then none else some (.ptr s.nx 0, s.new (.cells (AV.ofV i.zero).cells (some e)))
    | none => none
  | .box e x => if (ev x).israw then none
      else if (hinted cf.ro o.dst = true) then some (.rptr (ev x).cells, s)
      else some (.ptr s.nx 0, s.new (.cells (ev x).cells (some e)))
  | .load t x => (aload T t (ev x) s).map fun v => (v, s)
  | .store t x v => (astore T t (ev x) (ev v) s).map fun s' => (aundef, s')
  | .makeSlice t l c => amakeSlice T t (ev l) (ev c) s
  | .buildSlice t len parts => abuildSlice T (hinted cf.bv o.dst) t len (parts.toList.map fun p => (p.1, ev p.2)) s
  | .makeMap t r => match r.map ev with
    | none => some (.map s.nx, s.new (.map [] 0))
    | some (.int _ _) => match T.ty t with
      | some i => match i.td with
        | .map _ _ => some (.map s.nx, s.new (.map [] 0))
        | _ => none
      | none => none
    | _ => none
  | .lookup t x k ok => (alookup T t (ev x) (ev k) ok s).map fun v => (v, s)
  | .mapUpdate t x k v | .insert t x k v => (amapUpdate T t (ev x) (ev k) (ev v) s).map fun s' => (aundef, s')
  | .convert src dst x => match T.ty src, T.ty dst with
    | some i, some j => match i.td, j.td, ev x with
      | .str, .slice e, .str l => match T.ty e with
        | some ei => match ei.td with
          | .int .u8 => some (.rs 1 s.nx 0 l.length, s.new (.cells (l.map fun b => .int .u8 b.toNat) (some e)))
          | _ => none
        | none => none
      | .slice e, .str, x => match T.ty e with
        | some ei => match ei.td with
          | .int .u8 => match x with
            | .str _ => none
            | x => match acellsOf s 1 x with
              | some (cs, _) => (abytes cs).map fun l => (.str l, s)
              | none => none
          | _ => none
        | none => none
      | _, _, _ => none
    | _, _ => none
  | .range t x => match T.ty t with
    | some i => match i.td, ev x with
      | .map _ _, .nilm => some (.ptr s.nx 0, s.new (.miter none))
      | .map _ _, .map b => match AObj.map? (s.get b) with
        | some _ => some (.ptr s.nx 0, s.new (.miter (some b)))
        | none => none
      | _, _ => none
    | none => none
  | .next it false => match ev it with
    | .ptr b 0 => match s.get b with
      | some (.miter none) => some (.tuple [.bool false], s)
      | some (.miter (some m)) => match AObj.map? (s.get m) with
        | some ([], _) => some (.tuple [.bool false], s)
        | _ => none
      | _ => none
    | _ => none
  | .call c => match c.callee, c.args.toList with
    | .builtin .append, [x, y] => match c.argTypes[0]?, c.argTypes[1]? with
      | some t, some u => match T.ty t, T.ty u with
        | some i, some j => match i.td, j.td with
          | .slice e, .slice _ => aappend T e s (ev x) (ev y)
          | .slice e, .str => aappend T e s (ev x) (ev y)
          | .slice e, .int _ => agrow T e s (ev x) (ev y)
          | _, _ => none
        | _, _ => none
      | _, _ => none
    | .builtin .copy, [x, y] => match c.argTypes[0]? with
      | some t => match T.ty t with
        | some i => match i.td with
          | .slice e => acopy T e s (ev x) (ev y)
          | _ => none
        | none => none
      | none => none
    | .builtin .len, [x] => match ev x with
      | .map b => match AObj.map? (s.get b), c.argTypes[0]? with
        | some (es, _), some t => match T.ty t with
          | some i => match i.td with
            | .map _ _ => some (.int .i64 es.length, s)
            | _ => none
          | none => none
        | _, _ => none
      | _ => none
    | .builtin .clear, [x] => match c.argTypes[0]? with
      | some t => match T.ty t with
        | some i => match i.td with
          | .slice e => aclear T e s (ev x)
          | _ => none
        | none => none
      | none => none
    | _, _ => none
  | _ => none
def aop (cf : Cfg) (ev : Operand → AV) (o : Oper) (s : AHeap) : Option (AV × AHeap) :=
  match apure T ev o.op with
  | some v => some (v, s)
  | none => amem T cf ev o s
end
end Go.Am
end
noncomputable section
namespace Go.Am
open Go
def TDok : TD → TypeDesc → Prop
  | .bool, .bool => True
  | .int k, .int k' => k = k'
  | .str, .string => True
  | .ptr e, .pointer e' => e = e'
  | .slice e, .slice e' => e = e'
  | .arr n e, .array n' e' => n = n' ∧ e = e'
  | .map k e, .map k' e' => k = k' ∧ e = e'
  | .struct fs, .struct fs' => fs = fs'.toList.map fun f => (f.type, f.offset, f.name != "_")
  | .func, .func _ _ _ => True
  | .iface, .interface _ => True
  | .other, .unsafePointer => True
  | .other, .tuple _ => True
  | _, _ => False
structure Tab.Ok (T : Tab) (P : Program) : Prop where
  ty : ∀ t i, T.ty t = some i → ∃ inf d, P.info? t = some inf ∧ P.underlying t = some d ∧ TDok i.td d ∧ inf.size = i.size ∧ inf.bytes = i.bytes ∧
    inf.zero = some i.zero ∧ i.zero.cells.size = i.size ∧ (i.eqok = true → P.eqGuardType P.depth t = false ∧ P.stoodInHeld t = false)
  fn : ∀ f fn, T.fn f = some fn → P.funcs[f]? = some fn ∧ (fn.name == "runtime.NumGoroutine") = false
theorem RV.ofOne (K : Know) (v : Value) : RV K (AV.ofOne v) v := by
  unfold AV.ofOne
  split <;> first | exact .raw _ | (constructor; done) | exact .str _ _ rfl
theorem RVs.ofList (K : Know) : ∀ l : List Value, RVs K (l.map AV.ofOne) l
  | [] => .nil
  | v :: l => .cons _ _ _ _ (.ofOne K v) (RVs.ofList K l)
theorem RV.ofV (K : Know) (v : Value) : RV K (AV.ofV v) v := by
  unfold AV.ofV
  split
  · exact .agg _ _ (RVs.ofList K _)
  · exact .tuple _ _ (RVs.ofList K _)
  · exact .ofOne K _
section
variable {T : Tab} {P : Program} {K : Know} {w : World}
theorem run_sizeOf {t : TypeId} {inf : TypeInfo} (h : P.info? t = some inf) (w : World) : (sizeOf t).run P w = .ok inf.size w := by
  simp [sizeOf, typeInfo, h]
theorem run_isAgg {t : TypeId} {d : TypeDesc} {i : TD} (h : P.underlying t = some d) (hd : TDok i d) (w : World) : (isAgg t).run P w = .ok i.isAgg w := by
  unfold Go.isAgg
  rw [Sem.run_bind, run_underlying h, Result.andThen_ok]
  cases i <;> cases d <;> first | rfl | exact hd.elim
theorem Tab.Ok.size (hT : T.Ok P) {t : TypeId} {n : Nat} (h : T.size t = some n) : ∃ inf, P.info? t = some inf ∧ inf.size = n := by
  unfold Tab.size at h
  cases hi : T.ty t with
  | none => simp [hi] at h
  | some i =>
    obtain ⟨inf, d, h1, h2, h3, h4, _⟩ := hT.ty t i hi
    simp [hi] at h
    exact ⟨inf, h1, by omega⟩
theorem RV.bool_inv {K : Know} {b : Bool} {u : Value} (h : RV K (.bool b) u) : u = .bool b := by cases h; rfl
theorem RV.int_inv {K : Know} {k : IntKind} {n : Int} {u : Value} (h : RV K (.int k n) u) : u = .int k n := by cases h; rfl
theorem RV.str_inv {K : Know} {l : List UInt8} {u : Value} (h : RV K (.str l) u) : ∃ s : ByteArray, u = .string s ∧ s.data.toList = l := by
  cases h with
  | str _ s h => exact ⟨s, rfl, h⟩
theorem RV.agg_inv {K : Know} {l : List AV} {u : Value} (h : RV K (.agg l) u) : ∃ cs : Array Value, u = .agg cs ∧ RVs K l cs.toList := by
  cases h with
  | agg _ cs h => exact ⟨cs, rfl, h⟩
theorem RV.tuple_inv {K : Know} {l : List AV} {u : Value} (h : RV K (.tuple l) u) : ∃ cs : Array Value, u = .tuple cs ∧ RVs K l cs.toList := by
  cases h with
  | tuple _ cs h => exact ⟨cs, rfl, h⟩
theorem size_of_data {s : ByteArray} {l : List UInt8} (h : s.data.toList = l) : s.size = l.length := by
  subst h; exact Array.length_toList.symm
theorem apart_sound (hT : T.Ok P) {t : TypeId} {cs : List AV} {us : Array Value} {off : Nat} {v : AV} (hr : RVs K cs us.toList) (h : apart T t cs off = some v) :
    ∃ u, (part t us off).run P w = .ok u w ∧ RV K v u := by
  unfold apart at h
  cases hi : T.ty t with
  | none => simp [hi] at h
  | some i =>
    obtain ⟨inf, d, h1, h2, h3, h4, _⟩ := hT.ty t i hi
    simp only [hi] at h
    simp only [part, Sem.run_bind, run_isAgg h2 h3, Result.andThen_ok]
    cases ha : i.td.isAgg with
    | true =>
      simp only [ha, if_true] at h
      cases h
      refine ⟨_, ?_, RV.agg _ (us.extract off (off + inf.size)) ?_⟩
      · simp [run_sizeOf h1]
      · rw [h4]
        have := (hr.drop off).take i.size
        simpa [Array.toList_extract, List.extract_eq_take_drop] using this
    | false =>
      simp only [ha, Bool.false_eq_true, if_false] at h
      obtain ⟨u, hu, hru⟩ := hr.get h
      refine ⟨u, ?_, hru⟩
      have : us[off]? = some u := by simpa using hu
      simp [this]
theorem aint_sound {op : BinOp} {k : IntKind} {a b : Int} {v : AV} (h : aint op k a b = some v) (hs : op ≠ .shl) (hs' : op ≠ .shr) (t : TypeId) :
    ∃ u, (binOp op t (.int k a) (.int k b)).run P w = .ok u w ∧ RV K v u := by
  cases op <;> simp only [aint] at h <;> first
    | (exact absurd rfl hs)
    | (exact absurd rfl hs')
    | (cases h; exact ⟨_, by simp [binOp, Op.intArith, Op.intBits, Op.intCmp], .int _ _⟩)
    | (cases h; exact ⟨_, by simp [binOp, Op.intArith, Op.intBits, Op.intCmp], .bool _⟩)
    | (split at h
       · cases h
       · rename_i hb; cases h; exact ⟨_, by simp [binOp, Op.intDiv, hb], .int _ _⟩)
theorem ashift_sound {op : BinOp} {k k' : IntKind} {a b : Int} {v : AV} (h : ashift op k a b = some v) (t : TypeId) :
    ∃ u, (binOp op t (.int k a) (.int k' b)).run P w = .ok u w ∧ RV K v u := by
  unfold ashift at h
  split at h
  · cases h
  · rename_i hb
    cases op <;> simp only [] at h <;> first
      | (cases h; done)
      | (cases h; exact ⟨_, by simp [binOp, Op.shift, hb], .int _ _⟩)
theorem astr_sound {op : BinOp} {a b : ByteArray} {v : AV} (h : astr op a.data.toList b.data.toList = some v) (t : TypeId) :
    ∃ u, (binOp op t (.string a) (.string b)).run P w = .ok u w ∧ RV K v u := by
  have ea := ByteArray.toList_eq a
  have eb := ByteArray.toList_eq b
  cases op <;> simp only [astr] at h <;> first
    | (cases h; done)
    | (cases h; exact ⟨_, by simp [binOp, Op.stringOp, ea, eb], .bool _⟩)
    | (split at h
       · cases h
       · rename_i hb
         cases h
         refine ⟨.string (a ++ b), ?_, .str _ _ (by simp)⟩
         have hb' : ¬ ((a.size + b.size : Nat) : Int) > IntKind.i64.max := by
           rw [size_of_data (s := a) rfl, size_of_data (s := b) rfl]; exact hb
         simp only [binOp, Op.stringOp, if_neg hb', Sem.run_pure])
end
end Go.Am
end
noncomputable section
namespace Go.Am
open Go
section
variable {T : Tab} {P : Program} {K : Know} {w : World}
theorem aeqFields_sound (hT : T.Ok P) {d : Nat} {eq : TypeId → AV → AV → Option Bool} {xs ys : List AV} {us vs : Array Value}
    (heq : ∀ t x y b u v, eq t x y = some b → RV K x u → RV K y v → (Op.equalIn d t u v).run P w = .ok b w)
    (hx : RVs K xs us.toList) (hy : RVs K ys vs.toList) : ∀ (fs : List Field) (b : Bool),
    aeqFields T eq xs ys (fs.map fun f => (f.type, f.offset, f.name != "_")) = some b → (Op.eqFields d us vs fs).run P w = .ok b w
  | [], b, h => by simp only [List.map_nil, aeqFields] at h; cases h; simp [Op.eqFields]
  | f :: fs, b, h => by
    simp only [List.map_cons, aeqFields] at h
    by_cases hn : f.name = "_"
    · have hn' : (f.name != "_") = false := by simp [hn]
      simp only [hn', Bool.false_eq_true, if_false] at h
      have := aeqFields_sound hT heq hx hy fs b h
      simp only [Op.eqFields, hn, ne_eq, not_true_eq_false, if_false]
      exact this
    · have hn' : (f.name != "_") = true := by simp [hn]
      simp only [hn', if_true] at h
      cases h1 : apart T f.type xs f.offset with
      | none => simp [h1] at h
      | some a =>
        cases h2 : apart T f.type ys f.offset with
        | none => simp [h1, h2] at h
        | some c =>
          simp only [h1, h2] at h
          obtain ⟨u, hu, hru⟩ := apart_sound (w := w) hT hx h1
          obtain ⟨v, hv, hrv⟩ := apart_sound (w := w) hT hy h2
          cases h3 : eq f.type a c with
          | none => simp [h3] at h
          | some r =>
            simp only [h3] at h
            have hr := heq _ _ _ _ _ _ h3 hru hrv
            simp only [Op.eqFields, ne_eq, hn, not_false_eq_true, if_true, Sem.run_bind, hu, hv, hr, Result.andThen_ok]
            cases r with
            | false => cases h; simp
            | true =>
              simp only [Bool.not_true, Bool.false_eq_true, if_false]
              exact aeqFields_sound hT heq hx hy fs b h
theorem aeq_sound (hT : T.Ok P) : ∀ (d m : Nat) (t : TypeId) (x y : AV) (b : Bool) (u v : Value), aeq T d t x y = some b → RV K x u → RV K y v →
    (Op.equalIn (d + m) t u v).run P w = .ok b w
  | 0, m, t, x, y, b, u, v, h, hx, hy => by simp [aeq] at h
  | d + 1, m, t, x, y, b, u, v, h, hx, hy => by
    rw [show d + 1 + m = (d + m) + 1 from by omega]
    unfold aeq at h
    cases hi : T.ty t with
    | none => simp [hi] at h
    | some i =>
      obtain ⟨inf, de, h1, h2, h3, h4, h5, h6, h8, h7⟩ := hT.ty t i hi
      simp only [hi] at h
      split at h
      all_goals first
        | (cases h; done)
        | (rename_i htd
           rw [htd] at h3
           cases de <;> first
             | exact h3.elim
             | (cases hx <;> cases hy <;> first
                 | (cases h; simp only [Op.equalIn, Sem.run_bind, run_underlying h2, Result.andThen_ok]; rfl)
                 | (cases h; simp [Op.equalIn, run_underlying h2]; done)
                 | (split at h
                    · rename_i hk; cases h; subst hk; simp [Op.equalIn, run_underlying h2]
                    · cases h)
                 | skip))
      all_goals skip
      · rename_i hs ht hu
        cases h
        simp only [Op.equalIn, Sem.run_bind, run_underlying h2, Result.andThen_ok, Sem.run_pure]
        rw [beq_toListBytes, ByteArray.toList_eq, ByteArray.toList_eq]
        congr 1
        simp_all
      · rename_i fs xs ys fs' us hus vs hvs
        split at h
        · rename_i he
          have hf : fs = fs'.toList.map fun f => (f.type, f.offset, f.name != "_") := h3
          subst hf
          have hfo : P.fieldsOf t = fs' := by simp [Program.fieldsOf, h2]
          rw [run_equalIn_struct w (d + m) t us vs (by rw [hfo]; exact h2) (h7 he).2, hfo]
          refine aeqFields_sound hT (fun t x y b u v hq hx hy => ?_) hus hvs _ _ h
          exact aeq_sound hT d m t x y b u v hq hx hy
        · cases h
end
end Go.Am
end
noncomputable section
namespace Go.Am
open Go
def spliceV : List Value → Nat → List Value → List Value
  | c, _, [] => c
  | c, off, v :: vs => spliceV (c.set off v) (off + 1) vs
theorem spliceV_length : ∀ (vs c : List Value) (off : Nat), (spliceV c off vs).length = c.length
  | [], c, off => rfl
  | v :: vs, c, off => by rw [spliceV, spliceV_length vs]; simp
section
variable {T : Tab} {P : Program} {K : Know} {w : World}
theorem RVs.splice' : ∀ {vs : List AV} {ws : List Value}, RVs K vs ws → ∀ {c : List AV} {us : List Value} {off : Nat}, RVs K c us → RVs K (splice c off vs) (spliceV us off ws)
  | _, _, .nil, _, _, _, h => h
  | _, _, .cons _ _ _ _ hy hs, _, _, _, h => RVs.splice' hs (h.set hy)
theorem foldl_splice : ∀ (vs : List Value) (k off : Nat) (arr : Array Value),
    ((vs.zipIdx k).foldl (fun cs (x : Value × Nat) => cs.setIfInBounds (off + x.2) x.1) arr).toList = spliceV arr.toList (off + k) vs
  | [], k, off, arr => rfl
  | v :: vs, k, off, arr => by
    simp only [List.zipIdx_cons, List.foldl_cons]
    rw [foldl_splice vs (k + 1) off, spliceV]
    simp [Nat.add_assoc]
theorem fill_sound {place : Nat → Option (Nat × Nat)} : ∀ (parts : List (Nat × AV)) (parts' : List (Nat × Value)) (c c' : List AV) (arr : Array Value),
    afill place c parts = some c' → RVs K c arr.toList → parts.map (·.1) = parts'.map (·.1) → RVs K (parts.map (·.2)) (parts'.map (·.2)) → parts.any (·.2.israw) = false →
    ∃ arr', Instr.fill place arr parts' = some arr' ∧ RVs K c' arr'.toList
  | [], [], c, c', arr, h, hc, _, _, _ => by simp only [afill] at h; cases h; exact ⟨arr, rfl, hc⟩
  | [], _ :: _, _, _, _, _, _, h, _, _ => by simp at h
  | _ :: _, [], _, _, _, _, _, h, _, _ => by simp at h
  | (i, v) :: ps, (j, u) :: qs, c, c', arr, h, hc, h1, h2, h3 => by
    simp only [List.map_cons, List.cons.injEq] at h1
    obtain ⟨rfl, h1⟩ := h1
    simp only [List.map_cons] at h2
    cases h2 with
    | cons _ _ _ _ hv hps =>
    simp only [List.any_cons, Bool.or_eq_false_iff] at h3
    have hraw : ∀ x, v ≠ .raw x := by intro x e; subst e; simp [AV.israw] at h3
    have hcells := hv.cells hraw
    have hl : v.cells.length = u.cells.size := by rw [hcells.length]; simp
    simp only [afill] at h
    cases hp : place i with
    | none => simp [hp] at h
    | some p =>
      obtain ⟨off, size⟩ := p
      simp only [hp] at h
      split at h
      · cases h
      · rename_i hb
        have hb' : ¬ (u.cells.size ≠ size || off + u.cells.size > arr.size) = true := by
          have := hc.length
          simp only [Bool.or_eq_true, decide_eq_true_eq, Array.length_toList] at this ⊢
          rw [← hl, ← this]
          simpa using hb
        simp only [Instr.fill, hp]
        have hb'' : (decide (u.cells.size ≠ size) || decide (off + u.cells.size > arr.size)) = false := by simpa using hb'
        rw [hb'']
        simp only [Bool.false_eq_true, if_false]
        refine fill_sound ps qs _ c' _ h ?_ h1 hps h3.2
        have := foldl_splice u.cells.toList 0 off arr
        rw [← Array.foldl_toList, Array.toList_zipIdx]
        rw [this]
        exact RVs.splice' hcells hc
theorem mapM_places (hT : T.Ok P) : ∀ (fs : List Field) (places : List (Nat × Nat)),
    (fs.map fun f => (f.type, f.offset, f.name != "_")).mapM (fun f => (T.size f.1).map fun n => (f.2.1, n)) = some places →
    fs.mapM (fun f => (P.info? f.type).map fun i => (f.offset, i.size)) = some places
  | [], places, h => by simpa using h
  | f :: fs, places, h => by
    simp only [List.map_cons, List.mapM_cons, Option.bind_eq_bind, Option.pure_def] at h ⊢
    cases hs : T.size f.type with
    | none => simp [hs] at h
    | some n =>
      obtain ⟨inf, h1, h2⟩ := hT.size hs
      cases hr : (fs.map fun f => (f.type, f.offset, f.name != "_")).mapM (fun f => (T.size f.1).map fun n => (f.2.1, n)) with
      | none => simp [hs, hr] at h
      | some rest =>
        simp [hs, hr] at h
        rw [mapM_places hT fs rest hr]
        simp [h1, h2, h]
theorem abuild_sound (hT : T.Ok P) {t : TypeId} {parts : List (Nat × AV)} {parts' : Array (Nat × Value)} {v : AV} (h : abuild T t parts = some v)
    (h1 : parts.map (·.1) = parts'.toList.map (·.1)) (h2 : RVs K (parts.map (·.2)) (parts'.toList.map (·.2))) :
    ∃ u, (Instr.build t parts').run P w = .ok u w ∧ RV K v u := by
  unfold abuild at h
  cases hi : T.ty t with
  | none => simp [hi] at h
  | some i =>
    obtain ⟨inf, d, e1, e2, e3, e4, e5, e6, e8, e7⟩ := hT.ty t i hi
    simp only [hi] at h
    split at h
    · cases h
    · rename_i hraw
      have hraw' : parts.any (·.2.israw) = false := by simpa using hraw
      split at h
      · rename_i fs z htd hz
        rw [htd] at e3
        cases d <;> first | exact e3.elim | skip
        rename_i fs'
        have hf : fs = fs'.toList.map fun f => (f.type, f.offset, f.name != "_") := e3
        cases hp : fs.mapM fun f => (T.size f.1).map fun n => (f.2.1, n) with
        | none => rw [hp] at h; cases h
        | some places =>
          rw [hp] at h
          simp only at h
          cases hfill : afill (places[·]?) z parts with
          | none => simp [hfill] at h
          | some c' =>
            simp only [hfill, Option.map_some] at h
            cases h
            have hzr := RV.ofV K i.zero
            rw [hz] at hzr
            obtain ⟨cs, hcs, hrz⟩ := hzr.agg_inv
            obtain ⟨arr', ha, hr⟩ := fill_sound parts parts'.toList z c' cs hfill hrz h1 h2 hraw'
            refine ⟨.agg arr', run_build w t parts' arr' ?_, .agg _ _ hr⟩
            rw [hf] at hp
            simp only [Program.built, e1, e2, e6, hcs, mapM_places hT _ _ hp, Value.cells]
            simpa using ha
      · rename_i n e z htd hz
        rw [htd] at e3
        cases d <;> first | exact e3.elim | skip
        obtain ⟨rfl, rfl⟩ := e3
        cases hs : T.size e with
        | none => rw [hs] at h; cases h
        | some sz =>
          obtain ⟨ie, hie, hsz⟩ := hT.size hs
          rw [hs] at h
          simp only at h
          cases hfill : afill (fun i => some (i * sz, sz)) z parts with
          | none => simp [hfill] at h
          | some c' =>
            simp only [hfill, Option.map_some] at h
            cases h
            have hzr := RV.ofV K i.zero
            rw [hz] at hzr
            obtain ⟨cs, hcs, hrz⟩ := hzr.agg_inv
            obtain ⟨arr', ha, hr⟩ := fill_sound parts parts'.toList z c' cs hfill hrz h1 h2 hraw'
            refine ⟨.agg arr', run_build w t parts' arr' ?_, .agg _ _ hr⟩
            simp only [Program.built, e1, e2, e6, hcs, hie, Value.cells, hsz]
            exact ha
      · cases h
end
end Go.Am
end
noncomputable section
namespace Go.Am
open Go
def ROpt (K : Know) : Option AV → Option Value → Prop
  | none, none => True
  | some a, some b => RV K a b
  | _, _ => False
section
variable {T : Tab} {P : Program} {K : Know} {w : World}
theorem ROpt.of_map {ev : Operand → AV} {ρ : Operand → Value} (h : ∀ x, RV K (ev x) (ρ x)) (x : Option Operand) : ROpt K (x.map ev) (x.map ρ) := by
  cases x with
  | none => trivial
  | some x => exact h x
theorem run_sliceBound_ok {k : IntKind} {i : Int} {y : Nat} {code : BoundsCode} (h0 : 0 ≤ i) (h1 : i ≤ y) : (Instr.sliceBound (.int k i) y code).run P w = .ok i.toNat w := by
  simp [Instr.sliceBound, asIntOf, h0, h1]
theorem aidx_sound {top : Nat} {x : Option AV} {y : Option Value} {r : Option Nat} (h : aidx top x = some r) (hr : ROpt K x y) :
    (r = none ∧ y = none) ∨ ∃ k n, r = some n ∧ n ≤ top ∧ y = some (.int k n) := by
  cases x with
  | none =>
    cases y with
    | none => cases h; exact .inl ⟨rfl, rfl⟩
    | some _ => exact hr.elim
  | some a =>
    cases y with
    | none => exact hr.elim
    | some b =>
      cases hr <;> simp only [aidx] at h <;> first | (cases h; done) | skip
      split at h
      · rename_i k n hn
        cases h
        exact .inr ⟨k, n.toNat, rfl, by omega, by rw [Int.toNat_of_nonneg hn.1]⟩
      · cases h
theorem abounds_sound {len cap : Nat} (hlc : len ≤ cap) {lo hi mx : Option AV} {lo' hi' mx' : Option Value} {l h : Nat} {m : Option Nat}
    (hb : abounds len lo hi mx = some (l, h, m)) (hlo : ROpt K lo lo') (hhi : ROpt K hi hi') (hmx : ROpt K mx mx') (isS : Bool) :
    (Instr.sliceBounds isS len cap lo' hi' mx').run P w = .ok (l, h, m.getD cap) w ∧ l ≤ h ∧ h ≤ m.getD len ∧ m.getD len ≤ len := by
  unfold abounds at hb
  cases e1 : aidx len mx with
  | none => simp [e1] at hb
  | some m0 =>
    simp only [e1] at hb
    cases e2 : aidx (m0.getD len) hi with
    | none => simp [e2] at hb
    | some h0 =>
      simp only [e2] at hb
      split at hb
      · cases hb
      · rename_i hsn
        cases e3 : aidx (h0.getD len) lo with
        | none => simp [e3] at hb
        | some l0 =>
          simp only [e3] at hb
          cases hb
          have s1 := aidx_sound e1 hmx
          have s2 := aidx_sound e2 hhi
          have s3 := aidx_sound e3 hlo
          have hm : m.getD len ≤ len := by rcases s1 with ⟨rfl, _⟩ | ⟨k, n, rfl, hn, _⟩ <;> simp [*]
          have hh : h0.getD len ≤ m.getD len := by
            rcases s2 with ⟨rfl, _⟩ | ⟨k, n, rfl, hn, _⟩
            · cases m with
              | none => simp
              | some _ => simp at hsn
            · simpa using hn
          have hl : l0.getD 0 ≤ h0.getD len := by rcases s3 with ⟨rfl, _⟩ | ⟨k, n, rfl, hn, _⟩ <;> simp [*]
          refine ⟨?_, hl, hh, hm⟩
          have hmc : m.getD len ≤ m.getD cap := by cases m <;> simp [hlc]
          have bd : ∀ (k : IntKind) (n y : Nat) (code : BoundsCode), n ≤ y → (Instr.sliceBound (.int k (n : Int)) y code).run P w = .ok n w := by
            intro k n y code hn
            have := run_sliceBound_ok (P := P) (w := w) (k := k) (i := (n : Int)) (y := y) (code := code) (by omega) (by omega)
            simpa using this
          unfold Instr.sliceBounds
          rcases s1 with ⟨rfl, rfl⟩ | ⟨k, n, rfl, hn, rfl⟩ <;> rcases s2 with ⟨rfl, rfl⟩ | ⟨k2, n2, rfl, hn2, rfl⟩ <;>
            rcases s3 with ⟨rfl, rfl⟩ | ⟨k3, n3, rfl, hn3, rfl⟩ <;>
            simp only [Option.getD_some, Option.getD_none, Option.isSome_some, Option.isNone_none, Option.isSome_none, Bool.and_self, Bool.true_and, not_true_eq_false] at * <;>
            first
            | (simp only [Sem.run_bind, Sem.run_pure, Result.andThen_ok]; done)
            | (exfalso; simp at hsn; done)
            | (simp (disch := omega) only [Sem.run_bind, Sem.run_pure, Result.andThen_ok, bd]; done)
end
end Go.Am
end
noncomputable section
namespace Go.Am
open Go
theorem flatMap_length' {f : AV → List AV} {sz : Nat} : ∀ {l : List AV}, (∀ x ∈ l, (f x).length = sz) → (l.flatMap f).length = l.length * sz
  | [], _ => by simp
  | x :: l, h => by
    simp only [List.flatMap_cons, List.length_append, List.length_cons]
    rw [h x (by simp), flatMap_length' (fun y hy => h y (by simp [hy])), Nat.add_mul]
    omega
theorem flatMap_drop {f : AV → List AV} {sz : Nat} : ∀ {l : List AV} (k : Nat), (∀ x ∈ l, (f x).length = sz) → (l.drop k).flatMap f = (l.flatMap f).drop (k * sz)
  | [], k, _ => by simp
  | x :: l, 0, h => by simp
  | x :: l, k + 1, h => by
    simp only [List.drop_succ_cons, List.flatMap_cons]
    rw [flatMap_drop k (fun y hy => h y (by simp [hy])), List.drop_append, h x (by simp)]
    have : (f x).drop ((k + 1) * sz) = [] := by apply List.drop_of_length_le; rw [h x (by simp), Nat.add_mul]; omega
    rw [this, Nat.add_mul]
    simp
theorem flatMap_take {f : AV → List AV} {sz : Nat} : ∀ {l : List AV} (k : Nat), (∀ x ∈ l, (f x).length = sz) → (l.take k).flatMap f = (l.flatMap f).take (k * sz)
  | [], k, _ => by simp
  | x :: l, 0, h => by simp
  | x :: l, k + 1, h => by
    simp only [List.take_succ_cons, List.flatMap_cons]
    rw [flatMap_take k (fun y hy => h y (by simp [hy])), List.take_append, h x (by simp)]
    have : (f x).take ((k + 1) * sz) = f x := by apply List.take_of_length_le; rw [h x (by simp), Nat.add_mul]; omega
    rw [this, Nat.add_mul]
    simp
section
variable {T : Tab} {P : Program} {K : Know} {w : World}
theorem aslice_sound (hT : T.Ok P) {t : TypeId} {x v : AV} {u : Value} {lo hi mx : Option AV} {lo' hi' mx' : Option Value} (h : aslice T t x lo hi mx = some v) (hx : RV K x u)
    (hlo : ROpt K lo lo') (hhi : ROpt K hi hi') (hmx : ROpt K mx mx') : ∃ r, (Instr.sliceAt t u lo' hi' mx').run P w = .ok r w ∧ RV K v r := by
  unfold aslice at h
  cases hi_ : T.ty t with
  | none => simp [hi_] at h
  | some i =>
    obtain ⟨inf, d, e1, e2, e3, e4, e5, e6, e8, e7⟩ := hT.ty t i hi_
    simp only [hi_] at h
    split at h
    · -- a string
      rename_i l htd
      rw [htd] at e3
      cases d <;> first | exact e3.elim | skip
      obtain ⟨s, rfl, hs⟩ := hx.str_inv
      split at h
      · cases h
      · rename_i hm
        have hmx2 : mx = none := by cases mx <;> simp_all
        subst hmx2
        have hmx3 : mx' = none := by cases mx' with | none => rfl | some _ => exact hmx.elim
        subst hmx3
        cases hb : abounds l.length lo hi none with
        | none => simp [hb] at h
        | some p =>
          obtain ⟨l', h', m⟩ := p
          simp only [hb] at h
          cases h
          have hsz := size_of_data hs
          obtain ⟨hrun, h1, h2, h3⟩ := abounds_sound (P := P) (w := w) (Nat.le_refl l.length) hb hlo hhi (mx' := none) trivial false
          refine ⟨.string (s.extract l' h'), ?_, .str _ _ ?_⟩
          · simp only [Instr.sliceAt, Instr.slice, Sem.run_bind, run_underlying e2, Result.andThen_ok, Option.isSome_none, Bool.false_eq_true, if_false, hsz, hrun]
            rfl
          · subst hs
            simp [ByteArray.data_extract, Array.toList_extract, List.extract_eq_take_drop]
    · -- nil
      rename_i e htd
      rw [htd] at e3
      cases d <;> first | exact e3.elim | skip
      cases e3
      cases hx
      cases hs : T.size e with
      | none => rw [hs] at h; cases h
      | some sz =>
        obtain ⟨ie, hie, hsz⟩ := hT.size hs
        rw [hs] at h
        simp only at h
        cases hb : abounds 0 lo hi mx with
        | none => simp [hb] at h
        | some p =>
          obtain ⟨l', h', m⟩ := p
          simp only [hb] at h
          cases h
          obtain ⟨hrun, h1, h2, h3⟩ := abounds_sound (P := P) (w := w) (Nat.le_refl 0) hb hlo hhi hmx true
          refine ⟨_, ?_, .nils⟩
          have hm0 : m.getD 0 = 0 := by omega
          have hl0 : l' = 0 := by omega
          have hh0 : h' = 0 := by omega
          simp [Instr.sliceAt, Instr.slice, run_underlying e2, hrun, run_sizeOf hie, hm0, hl0, hh0]
    · -- a frozen slice
      rename_i e sz full l htd
      rw [htd] at e3
      cases d <;> first | exact e3.elim | skip
      cases e3
      cases hs : T.size e with
      | none => rw [hs] at h; cases h
      | some sz' =>
        obtain ⟨ie, hie, hsz⟩ := hT.size hs
        rw [hs] at h
        simp only at h
        split at h
        · rename_i hszz
          subst hszz
          cases hb : abounds l.length lo hi mx with
          | none => simp [hb] at h
          | some p =>
            obtain ⟨l', h', m⟩ := p
            simp only [hb] at h
            cases h
            cases hx with
            | vs _ _ _ a n cap us hn hu hsz2 hc hfull hf =>
            subst hn
            obtain ⟨hrun, h1, h2, h3⟩ := abounds_sound (P := P) (w := w) hc hb hlo hhi hmx true
            refine ⟨_, ?_, RV.vs _ _ _ (if m.getD cap = l' then a else a.add (l' * sz')) (h' - l') (m.getD cap - l') ((us.drop (l' * sz')).take ((h' - l') * sz')) ?_ ?_ ?_ ?_ ?_ ?_⟩
            · simp only [Instr.sliceAt, Instr.slice, Sem.run_bind, run_underlying e2, Result.andThen_ok, hrun, run_sizeOf hie, hsz, Sem.run_pure]
              congr 2
              split <;> rfl
            · simp only [List.length_take, List.length_drop]; omega
            · rw [flatMap_take _ (fun x hx => hsz2 x (List.mem_of_mem_drop hx)), flatMap_drop _ hsz2]
              exact (hu.drop _).take _
            · intro x hx
              exact hsz2 x (List.mem_of_mem_drop (List.mem_of_mem_take hx))
            · cases m with
              | none => simp only [Option.getD_none] at h2 ⊢; omega
              | some m => simp only [Option.getD_some] at h2 ⊢; omega
            · intro hfu
              cases m with
              | some m =>
                simp only [Option.getD_some] at hfu ⊢
                have : m = h' := by simpa using hfu
                omega
              | none =>
                simp only [Option.getD_none, Bool.and_eq_true, beq_iff_eq] at hfu ⊢
                have := hfull hfu.1
                omega
            · intro i u hu'
              rw [List.getElem?_take] at hu'
              split at hu'
              · rename_i hlt
                rw [List.getElem?_drop] at hu'
                have hne : m.getD cap ≠ l' := by
                  intro e
                  have : h' - l' = 0 := by
                    cases m with
                    | none => simp only [Option.getD_none] at e h2; omega
                    | some m => simp only [Option.getD_some] at e h2; omega
                  rw [this] at hlt
                  omega
                rw [if_neg hne]
                obtain ⟨f1, f2⟩ := hf _ _ hu'
                unfold Addr.add
                by_cases h0 : l' * sz' = 0
                · rw [if_pos h0]
                  rw [h0, Nat.zero_add] at f2
                  exact ⟨f1, f2⟩
                · rw [if_neg h0]
                  exact ⟨rfl, by rw [← f2]; show K.frz a.block (a.off + l' * sz' + i) = _; rw [Nat.add_assoc]⟩
              · cases hu'
        · cases h
    · -- a slice over a block
      rename_i e sz b off len htd
      rw [htd] at e3
      cases d <;> first | exact e3.elim | skip
      cases e3
      cases hs : T.size e with
      | none => rw [hs] at h; cases h
      | some sz' =>
        obtain ⟨ie, hie, hsz⟩ := hT.size hs
        rw [hs] at h
        simp only at h
        split at h
        · rename_i hszz
          subst hszz
          cases hb : abounds len lo hi mx with
          | none => simp [hb] at h
          | some p =>
            obtain ⟨l', h', m⟩ := p
            simp only [hb] at h
            cases hx with
            | rs _ _ _ _ a cap g base hg hc ha =>
            obtain ⟨hrun, h1, h2, h3⟩ := abounds_sound (P := P) (w := w) hc hb hlo hhi hmx true
            split at h
            · -- room for nothing
              rename_i hm0
              subst hm0
              cases h
              simp only [Option.getD_some] at h2 h3
              refine ⟨_, ?_, RV.vs sz' true [] (if (some l').getD cap = l' then a else a.add (l' * sz')) (h' - l') ((some l').getD cap - l') [] ?_ ?_ ?_ ?_ ?_ ?_⟩
              · simp only [Instr.sliceAt, Instr.slice, Sem.run_bind, run_underlying e2, Result.andThen_ok, hrun, run_sizeOf hie, hsz, Sem.run_pure]
                congr 2
                split <;> rfl
              · simp only [List.length_nil]; omega
              · exact .nil
              · intro x hx; cases hx
              · simp only [Option.getD_some]; omega
              · intro _; simp only [Option.getD_some]; omega
              · intro i u hu; simp at hu
            cases h
            have hmc : m.getD cap ≤ cap := by
              cases m with
              | none => exact Nat.le_refl _
              | some m => simp only [Option.getD_some] at h3 ⊢; omega
            have hhm : h' ≤ m.getD cap := by
              cases m with
              | none => simp only [Option.getD_none] at h2 ⊢; omega
              | some m => simpa using h2
            refine ⟨_, ?_, RV.rs _ _ _ _ (if m.getD cap = l' then a else a.add (l' * sz')) (m.getD cap - l') g base hg (by omega) ?_⟩
            · simp only [Instr.sliceAt, Instr.slice, Sem.run_bind, run_underlying e2, Result.andThen_ok, hrun, run_sizeOf hie, hsz, Sem.run_pure]
              congr 2
              split <;> rfl
            · by_cases hne : m.getD cap = l'
              · left; omega
              · right
                rw [if_neg hne]
                rcases ha with h0 | ⟨rfl, N, hN, hle⟩
                · omega
                · refine ⟨?_, N, hN, ?_⟩
                  · unfold Addr.add
                    by_cases h0 : l' * sz' = 0
                    · rw [if_pos h0, h0]; rfl
                    · rw [if_neg h0]; simp [Nat.add_assoc]
                  · have : (m.getD cap - l') * sz' + l' * sz' ≤ cap * sz' := by
                      rw [← Nat.add_mul]
                      exact Nat.mul_le_mul_right _ (by omega)
                    omega
        · cases h
    · cases h
theorem aindexAddr_sound (hT : T.Ok P) {t : TypeId} {x ix v : AV} {u j : Value} (h : aindexAddr T t x ix = some v) (hx : RV K x u) (hix : RV K ix j) :
    ∃ r, (Instr.indexAt t u j).run P w = .ok r w ∧ RV K v r := by
  unfold aindexAddr at h
  cases hi_ : T.ty t with
  | none => simp [hi_] at h
  | some i =>
    obtain ⟨inf, d, e1, e2, e3, e4, e5, e6, e8, e7⟩ := hT.ty t i hi_
    simp only [hi_] at h
    split at h
    · rename_i i' k n hi2
      cases hi2
      have hj := hix.int_inv
      subst hj
      split at h
      · -- a frozen slice
        rename_i e sz full l htd
        rw [htd] at e3
        cases d <;> first | exact e3.elim | skip
        cases e3
        cases hs : T.size e with
        | none => rw [hs] at h; cases h
        | some sz' =>
          obtain ⟨ie, hie, hsz⟩ := hT.size hs
          rw [hs] at h
          simp only at h
          split at h
          · rename_i hc
            obtain ⟨rfl, hpos, hn0⟩ := hc
            cases hl : l[n.toNat]? with
            | none => simp [hl] at h
            | some y =>
              simp only [hl] at h
              split at h
              · cases h
              · cases h
                have hlt : n.toNat < l.length := by
                  rcases Nat.lt_or_ge n.toNat l.length with q | q
                  · exact q
                  · rw [List.getElem?_eq_none q] at hl; cases hl
                cases hx with
                | vs _ _ _ a m cap us hm hu hsz2 hc hfull hf =>
                subst hm
                have hcells : y.cells = ((l.flatMap AV.cells).drop (n.toNat * sz')).take sz' := by
                  have e9 := flatMap_drop (f := AV.cells) n.toNat hsz2
                  rw [← e9]
                  have e10 : l.drop n.toNat = y :: l.drop (n.toNat + 1) := by
                    rw [List.drop_eq_getElem_cons hlt]
                    congr 1
                    rw [List.getElem?_eq_getElem hlt] at hl
                    exact Option.some.inj hl
                  rw [e10, List.flatMap_cons, List.take_append_of_le_length (by rw [hsz2 y (List.mem_of_getElem? hl)]; exact Nat.le_refl _), List.take_of_length_le (by rw [hsz2 y (List.mem_of_getElem? hl)]; exact Nat.le_refl _)]
                have hrs := (hu.drop (n.toNat * sz')).take sz'
                rw [← hcells] at hrs
                refine ⟨.pointer (some (a.add (n.toNat * sz'))), ?_, ?_⟩
                · simp only [Instr.indexAt, Sem.run_bind, asIntOf, Sem.run_pure, Result.andThen_ok, run_underlying e2]
                  have hcond : 0 ≤ n ∧ n < (l.length : Int) := ⟨hn0, by omega⟩
                  simp [hcond, run_sizeOf hie, hsz]
                · have h0 : ((us.drop (n.toNat * sz')).take sz').length = sz' := by
                    rw [← hrs.length, hsz2 y (List.mem_of_getElem? hl)]
                  have hat : ∀ i u, ((us.drop (n.toNat * sz')).take sz')[i]? = some u → a.spot = none ∧ K.frz a.block (a.off + n.toNat * sz' + i) = some u := by
                    intro i u hu'
                    rw [List.getElem?_take] at hu'
                    split at hu'
                    · rw [List.getElem?_drop] at hu'
                      have := hf _ _ hu'
                      rw [← Nat.add_assoc] at this
                      exact this
                    · cases hu'
                  have hsp : a.spot = none := (hat 0 _ (List.getElem?_eq_getElem (by omega))).1
                  have hadd : a.add (n.toNat * sz') = ⟨a.block, a.off + n.toNat * sz', none⟩ := by
                    unfold Addr.add
                    split
                    · rename_i h0'; rw [h0']; cases a; simp_all
                    · rfl
                  rw [hadd]
                  exact .rptr _ _ _ _ hrs (fun i u hu' => (hat i u hu').2)
          · cases h
      · -- a slice over a block
        rename_i e sz b off len htd
        rw [htd] at e3
        cases d <;> first | exact e3.elim | skip
        cases e3
        cases hs : T.size e with
        | none => rw [hs] at h; cases h
        | some sz' =>
          obtain ⟨ie, hie, hsz⟩ := hT.size hs
          rw [hs] at h
          simp only at h
          split at h
          · rename_i hc
            obtain ⟨rfl, hn0, hnl⟩ := hc
            cases h
            cases hx with
            | rs _ _ _ _ a cap g base hg hc ha =>
            rcases ha with h0 | ⟨rfl, N, hN, hle⟩
            · omega
            · refine ⟨.pointer (some ⟨g, base + (off + n.toNat * sz'), none⟩), ?_, .ptr _ _ _ _ hg⟩
              simp only [Instr.indexAt, Sem.run_bind, asIntOf, Sem.run_pure, Result.andThen_ok, run_underlying e2]
              have hcond : 0 ≤ n ∧ n < (len : Int) := ⟨hn0, hnl⟩
              simp only [hcond, and_self, if_true, Sem.run_bind, run_sizeOf hie, hsz, Result.andThen_ok, Sem.run_pure]
              congr 3
              unfold Addr.add
              split
              · rename_i h0; simp [h0]
              · simp [Nat.add_assoc]
          · cases h
      · -- an array
        rename_i n' e b off htd
        rw [htd] at e3
        cases d <;> first | exact e3.elim | skip
        obtain ⟨rfl, rfl⟩ := e3
        cases hs : T.size e with
        | none => rw [hs] at h; cases h
        | some sz' =>
          obtain ⟨ie, hie, hsz⟩ := hT.size hs
          rw [hs] at h
          simp only at h
          split at h
          · rename_i hc
            cases h
            cases hx with
            | ptr _ _ g base hg =>
            refine ⟨.pointer (some ⟨g, base + (off + n.toNat * sz'), none⟩), ?_, .ptr _ _ _ _ hg⟩
            simp only [Instr.indexAt, Sem.run_bind, asIntOf, Sem.run_pure, Result.andThen_ok, run_underlying e2, Instr.sureAddr]
            simp only [hc, and_self, if_true, Sem.run_bind, run_sizeOf hie, hsz, Result.andThen_ok, Sem.run_pure]
            congr 3
            unfold Addr.add
            split
            · rename_i h0; simp [h0]
            · simp [Nat.add_assoc]
          · cases h
      · rename_i n' e l htd
        rw [htd] at e3
        cases d <;> first | exact e3.elim | skip
        obtain ⟨rfl, rfl⟩ := e3
        cases hs : T.size e with
        | none => rw [hs] at h; cases h
        | some sz' =>
          obtain ⟨ie, hie, hsz⟩ := hT.size hs
          rw [hs] at h
          simp only at h
          split at h
          · rename_i hc
            cases h
            cases hx with
            | rptr _ g off us hu hf =>
            refine ⟨.pointer (some ⟨g, off + n.toNat * sz', none⟩), ?_, .rptr _ _ _ _ (hu.drop _) (fun i u hu' => ?_)⟩
            · simp only [Instr.indexAt, Sem.run_bind, asIntOf, Sem.run_pure, Result.andThen_ok, run_underlying e2, Instr.sureAddr]
              simp only [hc, and_self, if_true, Sem.run_bind, run_sizeOf hie, hsz, Result.andThen_ok, Sem.run_pure]
              congr 3
              unfold Addr.add
              split
              · rename_i h0; simp [h0]
              · rfl
            · rw [List.getElem?_drop] at hu'
              rw [Nat.add_assoc]
              exact hf _ _ hu'
          · cases h
      · rename_i e g l htd
        rw [htd] at e3
        cases d <;> first | exact e3.elim | skip
        cases e3
        cases hs : T.size e with
        | none => rw [hs] at h; cases h
        | some sz' =>
          obtain ⟨ie, hie, hsz⟩ := hT.size hs
          rw [hs] at h
          simp only at h
          split at h
          · rename_i hc
            obtain ⟨rfl, hn0⟩ := hc
            cases hl : l[n.toNat]? with
            | none => simp [hl] at h
            | some z =>
              simp only [hl] at h
              cases h
              have hlt : n.toNat < l.length := by
                rcases Nat.lt_or_ge n.toNat l.length with q | q
                · exact q
                · rw [List.getElem?_eq_none q] at hl; cases hl
              cases hx with
              | av _ _ off m cap hm hc hf =>
              subst hm
              refine ⟨.pointer (some ⟨g, off + n.toNat, none⟩), ?_, .rptr _ _ _ [.int .i64 z] (.cons _ _ _ _ (.int _ _) .nil) ?_⟩
              · simp only [Instr.indexAt, Sem.run_bind, asIntOf, Sem.run_pure, Result.andThen_ok, run_underlying e2]
                have hcond : 0 ≤ n ∧ n < (l.length : Int) := ⟨hn0, by omega⟩
                simp only [hcond, and_self, if_true, Sem.run_bind, run_sizeOf hie, hsz, Result.andThen_ok, Sem.run_pure, Nat.mul_one]
                congr 3
                unfold Addr.add
                split
                · rename_i h0; simp [h0]
                · rfl
              · intro i u hu'
                cases i with
                | zero => simp at hu'; subst hu'; exact hf _ _ hl
                | succ i => simp at hu'
          · cases h
      · cases h
    · cases h
theorem RV.ptr_add {l : List AV} {u : Value} {n : Nat} (h : RV K (.rptr l) u) : ∃ g off, u = .pointer (some ⟨g, off, none⟩) ∧ RV K (.rptr (l.drop n)) (.pointer (some ⟨g, off + n, none⟩)) := by
  cases h with
  | rptr _ g off us hu hf =>
    refine ⟨g, off, rfl, .rptr _ _ _ _ (hu.drop _) fun i u hu' => ?_⟩
    rw [List.getElem?_drop] at hu'
    rw [Nat.add_assoc]
    exact hf _ _ hu'
theorem add_none (g off n : Nat) : (⟨g, off, none⟩ : Addr).add n = ⟨g, off + n, none⟩ := by
  unfold Addr.add
  split
  · rename_i h0; simp [h0]
  · rfl
theorem afieldAddr_sound (hT : T.Ok P) {t : TypeId} {x v : AV} {u : Value} {f : Nat} (h : afieldAddr T t x f = some v) (hx : RV K x u) :
    ∃ r, (Instr.fieldAt t u f).run P w = .ok r w ∧ RV K v r := by
  unfold afieldAddr at h
  cases hi_ : T.ty t with
  | none => simp [hi_] at h
  | some i =>
    obtain ⟨inf, d, e1, e2, e3, e4, e5, e6, e8, e7⟩ := hT.ty t i hi_
    simp only [hi_] at h
    split at h
    · rename_i fs htd
      rw [htd] at e3
      cases d <;> first | exact e3.elim | skip
      rename_i fs'
      have hf : fs = fs'.toList.map fun f => (f.type, f.offset, f.name != "_") := e3
      cases hg : fs[f]? with
      | none => simp [hg] at h
      | some p =>
        obtain ⟨ft, off, nm⟩ := p
        simp only [hg] at h
        rw [hf, List.getElem?_map] at hg
        cases hfd : fs'.toList[f]? with
        | none => simp [hfd] at hg
        | some fd =>
          simp only [hfd, Option.map_some, Option.some.injEq, Prod.mk.injEq] at hg
          obtain ⟨rfl, rfl, rfl⟩ := hg
          have hfd' : fs'[f]? = some fd := by simpa using hfd
          split at h
          · rename_i n hs
            obtain ⟨ie, hie, hsz⟩ := hT.size hs
            have hne : ¬ ie.size = 0 := by omega
            have run : ∀ g o, (Instr.fieldAt t (.pointer (some ⟨g, o, none⟩)) f).run P w = .ok (.pointer (some ⟨g, o + fd.offset, none⟩)) w := by
              intro g o
              simp only [Instr.fieldAt, Sem.run_bind, run_underlying e2, Result.andThen_ok, hfd', Instr.sureAddr, Sem.run_pure, fieldPlace, run_sizeOf hie, Sem.run_ite, hne, if_false, add_none]
            split at h
            · cases h
              cases hx with
              | ptr _ _ g base hg =>
              exact ⟨_, run g _, by rw [Nat.add_assoc]; exact .ptr _ _ _ _ hg⟩
            · cases h
              obtain ⟨g, o, rfl, hr⟩ := hx.ptr_add (n := fd.offset)
              exact ⟨_, run g o, hr⟩
            · cases h
          · cases h
    · cases h
theorem afield_sound (hT : T.Ok P) {t : TypeId} {x v : AV} {u : Value} {f : Nat} (h : afield T t x f = some v) (hx : RV K x u) :
    ∃ r, (Instr.field t u f).run P w = .ok r w ∧ RV K v r := by
  unfold afield at h
  cases hi_ : T.ty t with
  | none => simp [hi_] at h
  | some i =>
    obtain ⟨inf, d, e1, e2, e3, e4, e5, e6, e8, e7⟩ := hT.ty t i hi_
    simp only [hi_] at h
    split at h
    · rename_i fs cs htd
      rw [htd] at e3
      cases d <;> first | exact e3.elim | skip
      rename_i fs'
      have hf : fs = fs'.toList.map fun f => (f.type, f.offset, f.name != "_") := e3
      cases hg : fs[f]? with
      | none => simp [hg] at h
      | some p =>
        obtain ⟨ft, off, nm⟩ := p
        simp only [hg] at h
        rw [hf, List.getElem?_map] at hg
        cases hfd : fs'.toList[f]? with
        | none => simp [hfd] at hg
        | some fd =>
          simp only [hfd, Option.map_some, Option.some.injEq, Prod.mk.injEq] at hg
          obtain ⟨rfl, rfl, rfl⟩ := hg
          have hfd' : fs'[f]? = some fd := by simpa using hfd
          obtain ⟨us, rfl, hus⟩ := hx.agg_inv
          obtain ⟨r, hr, hv⟩ := apart_sound (w := w) hT hus h
          exact ⟨r, by simp [Instr.field, run_underlying e2, hfd', asAgg, hr], hv⟩
    · cases h
theorem aindex_sound (hT : T.Ok P) {t : TypeId} {x ix v : AV} {u j : Value} (h : aindex T t x ix = some v) (hx : RV K x u) (hix : RV K ix j) :
    ∃ r, (Instr.index t u j).run P w = .ok r w ∧ RV K v r := by
  unfold aindex at h
  cases hi_ : T.ty t with
  | none => simp [hi_] at h
  | some i =>
    obtain ⟨inf, d, e1, e2, e3, e4, e5, e6, e8, e7⟩ := hT.ty t i hi_
    simp only [hi_] at h
    split at h
    · rename_i i' k n hi2
      cases hi2
      have hj := hix.int_inv
      subst hj
      split at h
      · rename_i l htd
        rw [htd] at e3
        cases d <;> first | exact e3.elim | skip
        obtain ⟨s, rfl, hs⟩ := hx.str_inv
        split at h
        · rename_i hn0
          cases hl : l[n.toNat]? with
          | none => simp [hl] at h
          | some c =>
            simp only [hl] at h
            cases h
            have hlt : n.toNat < l.length := by
              rcases Nat.lt_or_ge n.toNat l.length with q | q
              · exact q
              · rw [List.getElem?_eq_none q] at hl; cases hl
            have hsz := size_of_data hs
            have hb : 0 ≤ n ∧ n < (s.size : Int) := ⟨hn0, by omega⟩
            refine ⟨_, by rw [run_index_string w t s k n e2, dif_pos hb], ?_⟩
            have : s[n.toNat]'(by omega) = c := by
              subst hs
              have : s.data.toList[n.toNat]? = some c := hl
              rw [Array.getElem?_toList] at this
              rw [Array.getElem?_eq_getElem (by have := hsz; simp only [ByteArray.size] at this; omega)] at this
              exact Option.some.inj this
            rw [this]
            exact .int _ _
        · cases h
      · rename_i len e cs htd
        rw [htd] at e3
        cases d <;> first | exact e3.elim | skip
        obtain ⟨rfl, rfl⟩ := e3
        obtain ⟨us, rfl, hus⟩ := hx.agg_inv
        cases hs : T.size e with
        | none => rw [hs] at h; cases h
        | some sz' =>
          obtain ⟨ie, hie, hsz⟩ := hT.size hs
          rw [hs] at h
          simp only at h
          split at h
          · rename_i hc
            obtain ⟨r, hr, hv⟩ := apart_sound (w := w) hT hus h
            refine ⟨r, ?_, hv⟩
            simp only [Instr.index, Sem.run_bind, asIntOf, Sem.run_pure, Result.andThen_ok, run_underlying e2]
            simp [hc, run_sizeOf hie, hsz, hr]
          · cases h
      · cases h
    · cases h
theorem acap_sound (hT : T.Ok P) {t ty : TypeId} {x v : AV} {u : Value} (h : acap T t x = some v) (hx : RV K x u) :
    ∃ r, (Builtin.cap_ #[t] ty #[u]).run P w = .ok r w ∧ RV K v r := by
  unfold acap at h
  cases hi_ : T.ty t with
  | none => simp [hi_] at h
  | some i =>
    obtain ⟨inf, d, e1, e2, e3, e4, e5, e6, e8, e7⟩ := hT.ty t i hi_
    simp only [hi_] at h
    split at h
    · rename_i htd
      rw [htd] at e3
      cases d <;> first | exact e3.elim | skip
      cases h
      cases hx
      exact ⟨_, by simp only [Builtin.cap_, List.getElem?_toArray, List.getElem?_cons_zero, Sem.run_bind, run_underlying e2, Result.andThen_ok, Sem.run_pure]; rfl, .int _ _⟩
    · cases h
theorem alen_sound (hT : T.Ok P) {t ty : TypeId} {x v : AV} {u : Value} (h : alen T t x = some v) (hx : RV K x u) :
    ∃ r, (Builtin.len_ #[t] ty #[u]).run P w = .ok r w ∧ RV K v r := by
  unfold alen at h
  cases hi_ : T.ty t with
  | none => simp [hi_] at h
  | some i =>
    obtain ⟨inf, d, e1, e2, e3, e4, e5, e6, e8, e7⟩ := hT.ty t i hi_
    simp only [hi_] at h
    split at h
    · rename_i htd
      rw [htd] at e3
      cases d <;> first | exact e3.elim | skip
      cases h
      obtain ⟨s, rfl, hs⟩ := hx.str_inv
      rw [← size_of_data hs]
      exact ⟨_, by simp only [Builtin.len_, List.getElem?_toArray, List.getElem?_cons_zero, Sem.run_bind, run_underlying e2, Result.andThen_ok, Sem.run_pure]; rfl, .int _ _⟩
    · rename_i htd
      rw [htd] at e3
      cases d <;> first | exact e3.elim | skip
      cases h
      cases hx
      exact ⟨_, by simp only [Builtin.len_, List.getElem?_toArray, List.getElem?_cons_zero, Sem.run_bind, run_underlying e2, Result.andThen_ok, Sem.run_pure]; rfl, .int _ _⟩
    · rename_i htd
      rw [htd] at e3
      cases d <;> first | exact e3.elim | skip
      cases h
      cases hx with
      | vs _ _ _ a n cap us hn hu hsz2 hc hfull hf =>
      subst hn
      exact ⟨_, by simp only [Builtin.len_, List.getElem?_toArray, List.getElem?_cons_zero, Sem.run_bind, run_underlying e2, Result.andThen_ok, Sem.run_pure]; rfl, .int _ _⟩
    · rename_i htd
      rw [htd] at e3
      cases d <;> first | exact e3.elim | skip
      cases h
      cases hx
      exact ⟨_, by simp only [Builtin.len_, List.getElem?_toArray, List.getElem?_cons_zero, Sem.run_bind, run_underlying e2, Result.andThen_ok, Sem.run_pure]; rfl, .int _ _⟩
    · rename_i htd
      rw [htd] at e3
      cases d <;> first | exact e3.elim | skip
      obtain ⟨rfl, rfl⟩ := e3
      cases h
      exact ⟨_, by simp only [Builtin.len_, List.getElem?_toArray, List.getElem?_cons_zero, Sem.run_bind, run_underlying e2, Result.andThen_ok, Sem.run_pure]; rfl, .int _ _⟩
    · rename_i htd
      rw [htd] at e3
      cases d <;> first | exact e3.elim | skip
      cases h
      cases hx
      exact ⟨_, by simp only [Builtin.len_, List.getElem?_toArray, List.getElem?_cons_zero, Sem.run_bind, run_underlying e2, Result.andThen_ok, Sem.run_pure]; rfl, .int _ _⟩
    · rename_i htd
      rw [htd] at e3
      cases d <;> first | exact e3.elim | skip
      cases h
      cases hx with
      | av _ _ off n cap hn hc hf =>
      subst hn
      exact ⟨_, by simp only [Builtin.len_, List.getElem?_toArray, List.getElem?_cons_zero, Sem.run_bind, run_underlying e2, Result.andThen_ok, Sem.run_pure]; rfl, .int _ _⟩
    · rename_i htd
      rw [htd] at e3
      cases d <;> first | exact e3.elim | skip
      cases h
      cases hx
      exact ⟨_, by simp only [Builtin.len_, List.getElem?_toArray, List.getElem?_cons_zero, Sem.run_bind, run_underlying e2, Result.andThen_ok, Sem.run_pure]; rfl, .int _ _⟩
    · cases h
theorem afold_max_sound : ∀ (l : List AV) (ul : List Value) (x : AV) (u : Value) (v : AV), RVs K l ul → RV K x u → afold amax2 x l = some v →
    ∃ r, (ul.foldlM Builtin.max2 u).run P w = .ok r w ∧ RV K v r
  | [], ul, x, u, v, hl, hx, h => by cases hl; cases h; exact ⟨u, by simp, hx⟩
  | y :: l, ul, x, u, v, hl, hx, h => by
    cases hl with
    | cons _ uy _ us hy hs =>
    simp only [afold] at h
    cases hm : amax2 x y with
    | none => simp [hm] at h
    | some z =>
      simp only [hm] at h
      cases x <;> simp only [amax2] at hm <;> try (cases hm; done)
      cases y <;> simp only [amax2] at hm <;> try (cases hm; done)
      cases hm
      have e1 := hx.int_inv
      have e2 := hy.int_inv
      subst e1; subst e2
      obtain ⟨r, hr, hv⟩ := afold_max_sound l us _ _ v hs (.int _ _) h
      exact ⟨r, by simp only [List.foldlM_cons, Sem.run_bind, Builtin.max2, Sem.run_pure, Result.andThen_ok]; exact hr, hv⟩
theorem afold_min_sound : ∀ (l : List AV) (ul : List Value) (x : AV) (u : Value) (v : AV), RVs K l ul → RV K x u → afold amin2 x l = some v →
    ∃ r, (ul.foldlM Builtin.min2 u).run P w = .ok r w ∧ RV K v r
  | [], ul, x, u, v, hl, hx, h => by cases hl; cases h; exact ⟨u, by simp, hx⟩
  | y :: l, ul, x, u, v, hl, hx, h => by
    cases hl with
    | cons _ uy _ us hy hs =>
    simp only [afold] at h
    cases hm : amin2 x y with
    | none => simp [hm] at h
    | some z =>
      simp only [hm] at h
      cases x <;> simp only [amin2] at hm <;> try (cases hm; done)
      cases y <;> simp only [amin2] at hm <;> try (cases hm; done)
      cases hm
      have e1 := hx.int_inv
      have e2 := hy.int_inv
      subst e1; subst e2
      obtain ⟨r, hr, hv⟩ := afold_min_sound l us _ _ v hs (.int _ _) h
      exact ⟨r, by simp only [List.foldlM_cons, Sem.run_bind, Builtin.min2, Sem.run_pure, Result.andThen_ok]; exact hr, hv⟩
theorem RVs.map_ev {ev : Operand → AV} {ρ : Operand → Value} (h : ∀ x, RV K (ev x) (ρ x)) : ∀ l : List Operand, RVs K (l.map ev) (l.map ρ)
  | [] => .nil
  | x :: l => .cons _ _ _ _ (h x) (RVs.map_ev h l)
theorem aconv_sound (hT : T.Ok P) {src dst : TypeId} {x v : AV} {u : Value} (h : aconv T src dst x = some v) (hx : RV K x u) :
    ∃ r, (convert src dst u).run P w = .ok r w ∧ RV K v r := by
  unfold aconv at h
  split at h
  · rename_i i j h1 h2
    obtain ⟨inf, d, e1, e2, e3, e4, e5, e6, e8, e7⟩ := hT.ty _ _ h1
    obtain ⟨inf', d', e1', e2', e3', e4', e5', e6', e8', e7'⟩ := hT.ty _ _ h2
    split at h
    · rename_i htd
      rw [htd] at e3'
      cases d' <;> first | exact e3'.elim | skip
      cases e3'
      cases h
      have := hx.int_inv; subst this
      exact ⟨_, by simp [convert, run_underlying e2, run_underlying e2', Conv.intToInt], .int _ _⟩
    · rename_i htd
      rw [htd] at e3'
      cases d' <;> first | exact e3'.elim | skip
      cases h
      have := hx.int_inv; subst this
      exact ⟨_, by simp [convert, run_underlying e2, run_underlying e2', Conv.intToString], .str _ _ rfl⟩
    · rename_i htd
      rw [htd] at e3'
      cases d' <;> first | exact e3'.elim | skip
      cases h
      obtain ⟨s, rfl, hs⟩ := hx.str_inv
      exact ⟨_, by simp [convert, run_underlying e2, run_underlying e2'], .str _ _ hs⟩
    · cases h
  · cases h
theorem aun_sound {op : UnOp} {x v : AV} {u : Value} (h : aun op x = some v) (hx : RV K x u) : ∃ r, (Op.unary op u).run P w = .ok r w ∧ RV K v r := by
  unfold aun at h
  split at h
  · cases h; have := hx.int_inv; subst this; exact ⟨_, by simp [Op.unary, Op.intArith], .int _ _⟩
  · cases h; have := hx.int_inv; subst this; exact ⟨_, by simp [Op.unary, Op.intBits], .int _ _⟩
  · cases h; have := hx.bool_inv; subst this; exact ⟨_, by simp [Op.unary], .bool _⟩
  · cases h
end
end Go.Am
end
noncomputable section
namespace Go.Am
open Go
section
variable {T : Tab} {P : Program} {K : Know} {w : World}
theorem eq_shape (hT : T.Ok P) {t : TypeId} {d : Nat} {x y : AV} {b : Bool} {u v : Value} (h : aeq T (d + 1) t x y = some b) (hx : RV K x u) (hy : RV K y v)
    (hi : ∀ k a k' c, ¬ (x = .int k a ∧ y = .int k' c)) (hs : ∀ a c, ¬ (x = .str a ∧ y = .str c)) :
    binOp .eql t u v = (do pure (.bool (← Op.equal t u v))) ∧ binOp .neq t u v = (do pure (.bool (!(← Op.equal t u v)))) ∧
    ∀ op (p q : Operand), (eqGuard op t p q u v).run P w = .ok () w := by
  unfold aeq at h
  cases hi_ : T.ty t with
  | none => simp [hi_] at h
  | some i =>
    obtain ⟨inf, de, h1, h2, h3, h4, h5, h6, h8, h7⟩ := hT.ty t i hi_
    simp only [hi_] at h
    split at h
    all_goals first
      | (cases h; done)
      | (exfalso; exact hi _ _ _ _ ⟨rfl, rfl⟩)
      | (exfalso; exact hs _ _ ⟨rfl, rfl⟩)
      | (cases hx <;> cases hy <;> first
          | (refine ⟨rfl, rfl, fun op p q => ?_⟩
             cases op <;> rfl)
          | skip)
    · rename_i us hus vs hvs
      refine ⟨rfl, rfl, fun op p q => ?_⟩
      split at h
      · rename_i he
        have hg := (h7 he).1
        cases op <;> first | rfl | simp [eqGuard, hg]
      · cases h
theorem abin_sound (hT : T.Ok P) {op : BinOp} {t : TypeId} {x y v : AV} {u c : Value} (h : abin T op t x y = some v) (hx : RV K x u) (hy : RV K y c) (p q : Operand) :
    ∃ r, (do eqGuard op t p q u c; binOp op t u c).run P w = .ok r w ∧ RV K v r := by
  have gi : ∀ (k k' : IntKind) (a b : Int), (eqGuard op t p q (.int k a) (.int k' b)).run P w = .ok () w := by intro k k' a b; cases op <;> rfl
  have gs : ∀ (a b : ByteArray), (eqGuard op t p q (.string a) (.string b)).run P w = .ok () w := by intro a b; cases op <;> rfl
  have main : op ≠ .shl → op ≠ .shr → abin1 T op t x y = some v → ∃ r, (do eqGuard op t p q u c; binOp op t u c).run P w = .ok r w ∧ RV K v r := by
    intro h1 h2 hm
    unfold abin1 at hm
    split at hm
    · split at hm
      · rename_i hk
        subst hk
        have e1 := hx.int_inv; have e2 := hy.int_inv
        subst e1; subst e2
        obtain ⟨r, hr, hv⟩ := aint_sound (P := P) (w := w) (K := K) hm h1 h2 t
        exact ⟨r, by rw [Sem.run_bind, gi, Result.andThen_ok]; exact hr, hv⟩
      · cases hm
    · obtain ⟨s, rfl, hs⟩ := hx.str_inv
      obtain ⟨s', rfl, hs'⟩ := hy.str_inv
      rw [← hs, ← hs'] at hm
      obtain ⟨r, hr, hv⟩ := astr_sound (P := P) (w := w) (K := K) hm t
      exact ⟨r, by rw [Sem.run_bind, gs, Result.andThen_ok]; exact hr, hv⟩
    · rename_i hni hns
      have hi' : ∀ k a k' c, ¬ (x = .int k a ∧ y = .int k' c) := fun k a k' c e => hni k a k' c e.1 e.2
      have hs' : ∀ a c, ¬ (x = .str a ∧ y = .str c) := fun a c e => hns a c e.1 e.2
      cases op <;> simp only at hm <;> first | (cases hm; done) | skip
      · cases hb : aeq T 8 t x y with
        | none => simp [hb] at hm
        | some b =>
          simp only [hb, Option.map_some] at hm
          cases hm
          obtain ⟨e1, e2, e3⟩ := eq_shape (w := w) hT (d := 7) hb hx hy hi' hs'
          have e4 := aeq_sound (w := w) hT 8 9992 t x y b u c hb hx hy
          refine ⟨.bool b, ?_, .bool _⟩
          rw [Sem.run_bind, e3, Result.andThen_ok, e1, Sem.run_bind]
          show (Result.andThen ((Op.equalIn Op.maxDepth t u c).run P w) _) = _
          rw [show Op.maxDepth = 8 + 9992 from rfl, e4]
          rfl
      · cases hb : aeq T 8 t x y with
        | none => simp [hb] at hm
        | some b =>
          simp only [hb, Option.map_some] at hm
          cases hm
          obtain ⟨e1, e2, e3⟩ := eq_shape (w := w) hT (d := 7) hb hx hy hi' hs'
          have e4 := aeq_sound (w := w) hT 8 9992 t x y b u c hb hx hy
          refine ⟨.bool (!b), ?_, .bool _⟩
          rw [Sem.run_bind, e3, Result.andThen_ok, e2, Sem.run_bind]
          show (Result.andThen ((Op.equalIn Op.maxDepth t u c).run P w) _) = _
          rw [show Op.maxDepth = 8 + 9992 from rfl, e4]
          rfl
  unfold abin at h
  cases op
  case shl =>
    simp only at h
    split at h
    · have e1 := hx.int_inv; have e2 := hy.int_inv
      subst e1; subst e2
      obtain ⟨r, hr, hv⟩ := ashift_sound (P := P) (w := w) (K := K) h t
      exact ⟨r, by rw [Sem.run_bind, gi, Result.andThen_ok]; exact hr, hv⟩
    · cases h
  case shr =>
    simp only at h
    split at h
    · have e1 := hx.int_inv; have e2 := hy.int_inv
      subst e1; subst e2
      obtain ⟨r, hr, hv⟩ := ashift_sound (P := P) (w := w) (K := K) h t
      exact ⟨r, by rw [Sem.run_bind, gi, Result.andThen_ok]; exact hr, hv⟩
    · cases h
  all_goals exact main (by decide) (by decide) h
theorem RVs.map_parts {ev : Operand → AV} {ρ : Operand → Value} (h : ∀ x, RV K (ev x) (ρ x)) (l : List (Nat × Operand)) :
    RVs K ((l.map fun p => (p.1, ev p.2)).map (·.2)) ((l.map fun p => (p.1, ρ p.2)).map (·.2)) := by
  induction l with
  | nil => exact .nil
  | cons p l ih => exact .cons _ _ _ _ (h p.2) ih
theorem apure_sound (hT : T.Ok P) {ev : Operand → AV} {ρ : Operand → Value} (hev : ∀ x, RV K (ev x) (ρ x)) {o : Oper} {v : AV} (h : apure T ev o.op = some v) :
    ∃ r, (execOp ρ o).run P w = .ok (.value r) w ∧ RV K v r := by
  obtain ⟨dst, op, ty, pos, after, guard⟩ := o
  simp only at h
  have lift : ∀ {s : Sem Value} {v : AV}, (∃ r, s.run P w = .ok r w ∧ RV K v r) → ∃ r, (do pure (Next.value (← s)) : Sem Next).run P w = .ok (.value r) w ∧ RV K v r := by
    intro s v ⟨r, hr, hv⟩
    exact ⟨r, by simp [hr], hv⟩
  cases op <;> simp only [apure] at h <;> try (cases h; done)
  case move x => cases h; exact ⟨ρ x, by simp [execOp], hev x⟩
  case assign x => cases h; exact ⟨ρ x, by simp [execOp], hev x⟩
  case pick c a b =>
    split at h
    · rename_i hc; cases h
      have := hev c; rw [hc] at this
      exact ⟨ρ a, by simp [execOp, this.bool_inv, asBool], hev a⟩
    · rename_i hc; cases h
      have := hev c; rw [hc] at this
      exact ⟨ρ b, by simp [execOp, this.bool_inv, asBool], hev b⟩
    · cases h
  case build t parts =>
    simp only [execOp]
    refine lift (abuild_sound hT h ?_ ?_)
    · simp
    · have := RVs.map_parts (K := K) hev parts.toList
      simpa using this
  case nilCheck x =>
    have hx := hev x
    split at h
    · rename_i b off hc; cases h
      rw [hc] at hx
      refine ⟨ρ x, ?_, hx⟩
      generalize hr : ρ x = u at hx
      cases hx
      simp [execOp, hr]
    · rename_i l hc; cases h
      rw [hc] at hx
      refine ⟨ρ x, ?_, hx⟩
      generalize hr : ρ x = u at hx
      cases hx
      simp [execOp, hr]
    · rename_i f fi ca hc; cases h
      rw [hc] at hx
      refine ⟨ρ x, ?_, hx⟩
      generalize hr : ρ x = u at hx
      cases hx
      simp [execOp, hr]
    · cases h
  case binOp op t x y yt =>
    simp only [execOp]
    exact lift (abin_sound hT h (hev x) (hev y) x y)
  case unOp op t x =>
    simp only [execOp]
    exact lift (aun_sound h (hev x))
  case convert src dst' x =>
    simp only [execOp]
    exact lift (aconv_sound hT h (hev x))
  case makeFunc fn first captured =>
    cases h
    simp only [execOp, Instr.makeFunc]
    refine lift ⟨_, rfl, ?_⟩
    refine .func _ _ _ _ _ ?_ ?_
    · have := RVs.map_ev hev first.toList; simpa using this
    · have := RVs.map_ev hev captured.toList; simpa using this
  case slice t x lo hi mx =>
    simp only [execOp]
    exact lift (aslice_sound hT h (hev x) (ROpt.of_map hev lo) (ROpt.of_map hev hi) (ROpt.of_map hev mx))
  case fieldAddr t x f =>
    simp only [execOp]
    exact lift (afieldAddr_sound hT h (hev x))
  case field t x f =>
    simp only [execOp]
    exact lift (afield_sound hT h (hev x))
  case indexAddr t x ix =>
    simp only [execOp]
    exact lift (aindexAddr_sound hT h (hev x) (hev ix))
  case index t x ix =>
    simp only [execOp]
    exact lift (aindex_sound hT h (hev x) (hev ix))
  case extract t ix =>
    split at h
    · rename_i l ht
      have hx := hev t
      rw [ht] at hx
      obtain ⟨cs, hcs, hr⟩ := hx.tuple_inv
      obtain ⟨r, hr1, hr2⟩ := hr.get h
      simp only [execOp]
      refine lift ⟨r, ?_, hr2⟩
      have : cs[ix]? = some r := by simpa using hr1
      simp [Instr.extract, hcs, this]
    · cases h
  case call c =>
    obtain ⟨callee, args, argTypes⟩ := c
    obtain ⟨args⟩ := args
    simp only at h
    split at h
    · rename_i x
      cases ht : argTypes[0]? with
      | none => simp [ht] at h
      | some t =>
        simp only [ht] at h
        obtain ⟨r, hr, hv⟩ := alen_sound (P := P) (w := w) (ty := ty) hT h (hev x)
        refine ⟨r, ?_, hv⟩
        have hr' : (Builtin.len_ argTypes ty #[ρ x]).run P w = .ok r w := by
          unfold Builtin.len_ at hr ⊢
          simp only [ht, List.getElem?_toArray, List.getElem?_cons_zero] at hr ⊢
          exact hr
        simp [execOp, resolve, invoke, builtin, hr']
    · rename_i x
      cases ht : argTypes[0]? with
      | none => simp [ht] at h
      | some t =>
        simp only [ht] at h
        obtain ⟨r, hr, hv⟩ := acap_sound (P := P) (w := w) (ty := ty) hT h (hev x)
        refine ⟨r, ?_, hv⟩
        have hr' : (Builtin.cap_ argTypes ty #[ρ x]).run P w = .ok r w := by
          unfold Builtin.cap_ at hr ⊢
          simp only [ht, List.getElem?_toArray, List.getElem?_cons_zero] at hr ⊢
          exact hr
        simp [execOp, resolve, invoke, builtin, hr']
    · rename_i x r0
      obtain ⟨r, hr, hv⟩ := afold_max_sound (P := P) (w := w) _ _ _ _ _ (RVs.map_ev hev r0) (hev x) h
      exact ⟨r, by simp [execOp, resolve, invoke, builtin, Builtin.max_, hr], hv⟩
    · rename_i x r0
      obtain ⟨r, hr, hv⟩ := afold_min_sound (P := P) (w := w) _ _ _ _ _ (RVs.map_ev hev r0) (hev x) h
      exact ⟨r, by simp [execOp, resolve, invoke, builtin, Builtin.min_, hr], hv⟩
    · cases h
end
end Go.Am
end
noncomputable section
namespace Go.Am
open Go
section
variable {K K' : Know} {s s' : AHeap} {w w' : World}
structure World.Like (w w' : World) : Prop where
  os : w'.os = w.os
  tape : w'.tape = w.tape
  output : w'.output = w.output
theorem WR.turn (h : WR K s w) {b g base b1 base1 : Nat} {o o1 : AObj} (hb : s.get b = some o) (hg : K.phi b = some (g, base)) (hl : World.Like w w')
    (hs : w'.heap.size = w.heap.size) (hoth : ∀ k, k ≠ g → w'.heap[k]? = w.heap[k]?) (hk : K.le K') (hfrz : K'.frz = K.frz) (hdim : K'.dim = K.dim)
    (hphi : ∀ x p, K'.phi x = some p → x < s'.nx ∧ p.1 < w.heap.size) (hph : ∀ x, x < s.nx → K'.phi x = K.phi x)
    (hdimg : ∀ n, K.dim g = some n → ∃ arr T fz, w'.heap[g]? = some (.cells arr T fz) ∧ arr.size = n)
    (hb1 : s'.get b1 = some o1) (hp1 : K'.phi b1 = some (g, base1)) (hWO : WO K' w' g base1 o1)
    (hrest : ∀ x ox, x ≠ b1 → s'.get x = some ox → s.get x = some ox ∧ x ≠ b) (hnx : s.nx ≤ s'.nx) : WR K' s' w' ∧ Ext K s w K' s' w' := by
  have hown : owned K s g := ⟨b, o, base, hb, hg⟩
  have hsep := h.sep b o g base hb hg
  have key : ∀ x ox, x ≠ b1 → s'.get x = some ox → ∃ g' base', K.phi x = some (g', base') ∧ K'.phi x = some (g', base') ∧ g' ≠ g ∧ WO K w g' base' ox ∧ s.get x = some ox := by
    intro x ox hx hox
    obtain ⟨h1, h2⟩ := hrest x ox hx hox
    obtain ⟨g', base', h3, h4⟩ := h.own x ox h1
    refine ⟨g', base', h3, hk.phi _ _ h3, ?_, h4, h1⟩
    rintro rfl
    exact h2 (h.inj x b ox o _ _ _ h1 hb h3 hg)
  refine ⟨⟨?_, ?_, ?_, ?_, ?_, ?_⟩, ?_⟩
  · intro g' o' u e
    rw [hfrz] at e
    have hne : g' ≠ g := by rintro rfl; rw [hsep] at e; cases e
    have := h.frz _ _ _ e
    unfold World.cell? at this ⊢
    rw [hoth g' hne]; exact this
  · intro g' n e
    rw [hdim] at e
    by_cases hne : g' = g
    · subst hne; exact hdimg n e
    · rw [hoth g' hne]; exact h.dim g' n e
  · intro x ox hox
    by_cases hx : x = b1
    · subst hx
      rw [hb1] at hox; cases hox
      exact ⟨g, base1, hp1, hWO⟩
    · obtain ⟨g', base', h3, h3', h4, h5, _⟩ := key x ox hx hox
      exact ⟨g', base', h3', (h5.mono hk).of_block (hoth g' h4)⟩
  · intro x y ox oy g' i j hx hy hxp hyp
    by_cases e1 : x = b1 <;> by_cases e2 : y = b1
    · rw [e1, e2]
    · obtain ⟨g2, base2, q3, q3', q4, q5, _⟩ := key y oy e2 hy
      subst e1
      rw [hp1] at hxp; cases hxp
      rw [q3'] at hyp; cases hyp
      exact absurd rfl q4
    · obtain ⟨g2, base2, q3, q3', q4, q5, _⟩ := key x ox e1 hx
      subst e2
      rw [hp1] at hyp; cases hyp
      rw [q3'] at hxp; cases hxp
      exact absurd rfl q4
    · obtain ⟨g2, base2, q3, q3', q4, q5, q6⟩ := key x ox e1 hx
      obtain ⟨g3, base3, r3, r3', r4, r5, r6⟩ := key y oy e2 hy
      rw [q3'] at hxp; cases hxp
      rw [r3'] at hyp; cases hyp
      exact h.inj x y ox oy _ _ _ q6 r6 q3 r3
  · intro x ox g' base' hox hxp i
    rw [hfrz]
    by_cases hx : x = b1
    · subst hx
      rw [hp1] at hxp; cases hxp
      exact hsep i
    · obtain ⟨g2, base2, q3, q3', q4, q5, q6⟩ := key x ox hx hox
      rw [q3'] at hxp; cases hxp
      exact h.sep x ox _ _ q6 q3 i
  · intro x g' base' e
    have := hphi x _ e
    exact ⟨this.1, by rw [hs]; exact this.2⟩
  · refine ⟨hk, hph, hnx, hl.os, hl.tape, hl.output, by omega, ?_, ?_, fun _ _ _ _ => by rw [hfrz]⟩
    · intro k hlt hno
      exact hoth k (by rintro rfl; exact hno hown)
    · rintro k ⟨x, ox, base', hox, hxp⟩
      by_cases hx : x = b1
      · subst hx
        rw [hp1] at hxp; cases hxp
        exact .inl hown
      · obtain ⟨g2, base2, q3, q3', q4, q5, q6⟩ := key x ox hx hox
        rw [q3'] at hxp; cases hxp
        exact .inl ⟨x, ox, _, q6, q3⟩
def Know.add (K : Know) (b g : Nat) (d : Option Nat) : Know :=
  { phi := fun x => if x = b then some (g, 0) else K.phi x, frz := K.frz, dim := fun x => if x = g then d else K.dim x }
theorem WR.fresh (h : WR K s w) : K.phi s.nx = none := by
  cases e : K.phi s.nx with
  | none => rfl
  | some p =>
    obtain ⟨g, base⟩ := p
    have := (h.bnd _ _ _ e).1
    omega
theorem WR.dim_lt (h : WR K s w) {g n : Nat} (e : K.dim g = some n) : g < w.heap.size := by
  obtain ⟨arr, T, fz, h1, _⟩ := h.dim g n e
  rcases Nat.lt_or_ge g w.heap.size with q | q
  · exact q
  · rw [Array.getElem?_eq_none q] at h1; cases h1
theorem WR.frz_lt (h : WR K s w) {g o : Nat} {u : Value} (e : K.frz g o = some u) : g < w.heap.size := by
  have := h.frz g o u e
  unfold World.cell? at this
  rcases Nat.lt_or_ge g w.heap.size with q | q
  · exact q
  · rw [show (⟨g, o, none⟩ : Addr).block = g from rfl, Array.getElem?_eq_none q] at this; cases this
theorem WR.add_le (h : WR K s w) (d : Option Nat) : K.le (K.add s.nx w.heap.size d) := by
  refine ⟨?_, fun _ _ _ e => e, ?_⟩
  · intro b g e
    have hne : b ≠ s.nx := by rintro rfl; rw [h.fresh] at e; cases e
    simp [Know.add, hne, e]
  · intro g n e
    have hne : g ≠ w.heap.size := by have := h.dim_lt e; omega
    simp [Know.add, hne, e]
theorem WR.newblk (h : WR K s w) {ob : Obj} {o : AObj} {d : Option Nat} (hl : World.Like w w') (hw : w'.heap = w.heap.push ob)
    (hWO : WO (K.add s.nx w.heap.size d) w' w.heap.size 0 o) (hd : ∀ n, d = some n → ∃ arr T fz, ob = .cells arr T fz ∧ arr.size = n) :
    WR (K.add s.nx w.heap.size d) (s.new o) w' ∧ Ext K s w (K.add s.nx w.heap.size d) (s.new o) w' := by
  have hold : ∀ k, k < w.heap.size → w'.heap[k]? = w.heap[k]? := by
    intro k hk
    rw [hw, Array.getElem?_push, if_neg (by omega)]
  have hnew : w'.heap[w.heap.size]? = some ob := by rw [hw]; simp
  have hphi : ∀ x p, (K.add s.nx w.heap.size d).phi x = some p → (x = s.nx ∧ p = (w.heap.size, 0)) ∨ (x ≠ s.nx ∧ K.phi x = some p) := by
    intro x p e
    simp only [Know.add] at e
    split at e
    · rename_i hx; cases e; exact .inl ⟨hx, rfl⟩
    · rename_i hx; exact .inr ⟨hx, e⟩
  have hget : ∀ x ox, (s.new o).get x = some ox → (x = s.nx ∧ ox = o) ∨ (x ≠ s.nx ∧ s.get x = some ox) := by
    intro x ox e
    rw [AHeap.get_new] at e
    split at e
    · rename_i hx; cases e; exact .inl ⟨hx, rfl⟩
    · rename_i hx; exact .inr ⟨hx, e⟩
  have hsz : w'.heap.size = w.heap.size + 1 := by rw [hw]; simp
  refine ⟨⟨?_, ?_, ?_, ?_, ?_, ?_⟩, ?_⟩
  · intro g o' u e
    have hlt := h.frz_lt (show K.frz g o' = some u from e)
    have := h.frz _ _ _ (show K.frz g o' = some u from e)
    unfold World.cell? at this ⊢
    rw [hold g hlt]; exact this
  · intro g n e
    simp only [Know.add] at e
    split at e
    · rename_i hx; subst hx
      obtain ⟨arr, T, fz, h1, h2⟩ := hd n e
      exact ⟨arr, T, fz, by rw [hnew, h1], h2⟩
    · rw [hold g (h.dim_lt e)]; exact h.dim g n e
  · intro x ox e
    rcases hget x ox e with ⟨rfl, rfl⟩ | ⟨hx, e'⟩
    · exact ⟨w.heap.size, 0, by simp [Know.add], hWO⟩
    · obtain ⟨g, base, h1, h2⟩ := h.own x ox e'
      exact ⟨g, base, (h.add_le d).phi _ _ h1, (h2.mono (h.add_le d)).of_block (hold g (h.bnd _ _ _ h1).2)⟩
  · intro x y ox oy g i j ex ey px py
    rcases hget x ox ex with ⟨rfl, rfl⟩ | ⟨hx, ex'⟩ <;> rcases hget y oy ey with ⟨rfl, rfl⟩ | ⟨hy, ey'⟩
    · rfl
    · rcases hphi _ _ px with ⟨_, e1⟩ | ⟨e1, _⟩
      · cases e1
        rcases hphi _ _ py with ⟨e2, _⟩ | ⟨_, e2⟩
        · exact absurd e2 hy
        · have := (h.bnd _ _ _ e2).2; omega
      · exact absurd rfl e1
    · rcases hphi _ _ py with ⟨_, e1⟩ | ⟨e1, _⟩
      · cases e1
        rcases hphi _ _ px with ⟨e2, _⟩ | ⟨_, e2⟩
        · exact absurd e2 hx
        · have := (h.bnd _ _ _ e2).2; omega
      · exact absurd rfl e1
    · rcases hphi _ _ px with ⟨e2, _⟩ | ⟨_, e2⟩
      · exact absurd e2 hx
      · rcases hphi _ _ py with ⟨e3, _⟩ | ⟨_, e3⟩
        · exact absurd e3 hy
        · exact h.inj x y ox oy _ _ _ ex' ey' e2 e3
  · intro x ox g base e p i
    rcases hget x ox e with ⟨rfl, rfl⟩ | ⟨hx, e'⟩
    · rcases hphi _ _ p with ⟨_, e1⟩ | ⟨e1, _⟩
      · cases e1
        show K.frz w.heap.size i = none
        cases ef : K.frz w.heap.size i with
        | none => rfl
        | some u => have := h.frz_lt ef; omega
      · exact absurd rfl e1
    · rcases hphi _ _ p with ⟨e2, _⟩ | ⟨_, e2⟩
      · exact absurd e2 hx
      · exact h.sep x ox g base e' e2 i
  · intro x g base p
    rcases hphi _ _ p with ⟨e1, e2⟩ | ⟨e1, e2⟩
    · cases e2; rw [e1, AHeap.nx_new]; omega
    · have := h.bnd _ _ _ e2
      rw [AHeap.nx_new]; omega
  · refine ⟨h.add_le d, fun x hx => by simp only [Know.add]; rw [if_neg (by omega)], by rw [AHeap.nx_new]; omega, hl.os, hl.tape, hl.output, by omega, fun k hk _ => hold k hk, ?_, fun _ _ _ _ => rfl⟩
    rintro k ⟨x, ox, base, e, p⟩
    rcases hget x ox e with ⟨rfl, rfl⟩ | ⟨hx, e'⟩
    · rcases hphi _ _ p with ⟨_, e1⟩ | ⟨e1, _⟩
      · cases e1; exact .inr (Nat.le_refl _)
      · exact absurd rfl e1
    · rcases hphi _ _ p with ⟨e2, _⟩ | ⟨_, e2⟩
      · exact absurd e2 hx
      · exact .inl ⟨x, ox, base, e', e2⟩
theorem WR.newcellsT (h : WR K s w) {arr : Array Value} {T lo hi : Nat} {c : List AV} {us rest : List Value} {To : Option TypeId} (hTo : ∀ T0, To = some T0 → T = T0) (hl : World.Like w w') (hw : w'.heap = w.heap.push (.cells arr T (lo, hi)))
    (ha : arr.toList = us ++ rest) (hr : RVs K c us) (hf : ∀ i, i < arr.size → ¬ (lo ≤ i ∧ i < hi)) :
    WR (K.add s.nx w.heap.size (some arr.size)) (s.new (.cells c To)) w' ∧ Ext K s w (K.add s.nx w.heap.size (some arr.size)) (s.new (.cells c To)) w' := by
  refine h.newblk hl hw ?_ ?_
  · exact ⟨arr, T, lo, hi, [], us, rest, by rw [hw]; simp, (fun T0 e => ⟨hTo T0 e, rfl⟩), hf, by simpa using ha, rfl, hr.mono (h.add_le _), by simp [Know.add]⟩
  · intro n e; cases e; exact ⟨arr, T, (lo, hi), rfl, rfl⟩
theorem WR.newcells (h : WR K s w) {arr : Array Value} {T lo hi : Nat} {c : List AV} {us rest : List Value} (hl : World.Like w w') (hw : w'.heap = w.heap.push (.cells arr T (lo, hi)))
    (ha : arr.toList = us ++ rest) (hr : RVs K c us) (hf : ∀ i, i < arr.size → ¬ (lo ≤ i ∧ i < hi)) :
    WR (K.add s.nx w.heap.size (some arr.size)) (s.new (.cells c (some T))) w' ∧ Ext K s w (K.add s.nx w.heap.size (some arr.size)) (s.new (.cells c (some T))) w' :=
  h.newcellsT (fun _ e => by cases e; rfl) hl hw ha hr hf
def Know.freeze (K : Know) (g : Nat) (us : List Value) : Know :=
  { phi := K.phi, frz := fun x o => if x = g then us[o]? else K.frz x o, dim := K.dim }
theorem WR.newfrozen (h : WR K s w) {arr : Array Value} {T : Nat} {fz : Nat × Nat} (hl : World.Like w w') (hw : w'.heap = w.heap.push (.cells arr T fz)) :
    WR (K.freeze w.heap.size arr.toList) s w' ∧ Ext K s w (K.freeze w.heap.size arr.toList) s w' ∧
      ∀ i u, arr.toList[i]? = some u → (K.freeze w.heap.size arr.toList).frz w.heap.size i = some u := by
  have hold : ∀ k, k < w.heap.size → w'.heap[k]? = w.heap[k]? := by
    intro k hk
    rw [hw, Array.getElem?_push, if_neg (by omega)]
  have hnew : w'.heap[w.heap.size]? = some (.cells arr T fz) := by rw [hw]; simp
  have hle : K.le (K.freeze w.heap.size arr.toList) := by
    refine ⟨fun _ _ e => e, ?_, fun _ _ e => e⟩
    intro g o u e
    have hne : g ≠ w.heap.size := by have := h.frz_lt e; omega
    simp [Know.freeze, hne, e]
  have hsz : w'.heap.size = w.heap.size + 1 := by rw [hw]; simp
  refine ⟨⟨?_, ?_, ?_, ?_, ?_, ?_⟩, ?_, ?_⟩
  · intro g o u e
    simp only [Know.freeze] at e
    split at e
    · rename_i hg
      subst hg
      unfold World.cell?
      rw [show (⟨w.heap.size, o, none⟩ : Addr).block = w.heap.size from rfl, hnew]
      simpa using e
    · have := h.frz _ _ _ e
      unfold World.cell? at this ⊢
      rw [show (⟨g, o, none⟩ : Addr).block = g from rfl] at this ⊢
      rw [hold g (h.frz_lt e)]; exact this
  · intro g n e
    rw [hold g (h.dim_lt (show K.dim g = some n from e))]; exact h.dim g n e
  · intro b o e
    obtain ⟨g, base, h1, h2⟩ := h.own b o e
    exact ⟨g, base, h1, (h2.mono hle).of_block (hold g (h.bnd _ _ _ h1).2)⟩
  · exact h.inj
  · intro b o g base e p i
    have hne : g ≠ w.heap.size := by have := (h.bnd _ _ _ (show K.phi b = some (g, base) from p)).2; omega
    simp only [Know.freeze, hne, if_false]
    exact h.sep b o g base e p i
  · intro b g base p
    have := h.bnd b g base p
    exact ⟨this.1, by omega⟩
  · exact ⟨hle, fun _ _ => rfl, Nat.le_refl _, hl.os, hl.tape, hl.output, by omega, fun k hk _ => hold k hk, fun k ho => .inl ho, fun k hk _ o => by simp only [Know.freeze]; rw [if_neg (by omega)]⟩
  · intro i u e
    simp only [Know.freeze, if_true]
    exact e
theorem WR.like (h : WR K s w) (hh : w'.heap = w.heap) : WR K s w' := by
  refine ⟨?_, ?_, ?_, h.inj, h.sep, ?_⟩
  · intro g o u e
    have := h.frz g o u e
    unfold World.cell? at this ⊢
    rw [hh]; exact this
  · intro g n e
    rw [hh]; exact h.dim g n e
  · intro b o e
    obtain ⟨g, base, h1, h2⟩ := h.own b o e
    exact ⟨g, base, h1, h2.of_block (by rw [hh])⟩
  · intro b g base p
    rw [hh]; exact h.bnd b g base p
theorem Ext.like (h : World.Like w w') (hh : w'.heap = w.heap) : Ext K s w K s w' :=
  ⟨.refl K, fun _ _ => rfl, Nat.le_refl _, h.os, h.tape, h.output, by rw [hh]; exact Nat.le_refl _, fun k _ _ => by rw [hh], fun k ho => .inl ho, fun _ _ _ _ => rfl⟩
end
end Go.Am
end
noncomputable section
namespace Go.Am
open Go
theorem spliceV_append : ∀ (vs pre us rest : List Value) (off : Nat), off + vs.length ≤ us.length →
    spliceV (pre ++ us ++ rest) (pre.length + off) vs = pre ++ spliceV us off vs ++ rest
  | [], pre, us, rest, off, h => rfl
  | v :: vs, pre, us, rest, off, h => by
    simp only [spliceV]
    have e : (pre ++ us ++ rest).set (pre.length + off) v = pre ++ us.set off v ++ rest := by
      rw [List.append_assoc, List.set_append_right _ _ (by omega), List.append_assoc]
      congr 1
      rw [show pre.length + off - pre.length = off from by omega]
      exact List.set_append_left _ _ (by simp at h; omega)
    rw [e, Nat.add_assoc]
    exact spliceV_append vs pre (us.set off v) rest (off + 1) (by simp at h ⊢; omega)
theorem spliceV_eq : ∀ (vs us : List Value) (off : Nat), off + vs.length ≤ us.length → spliceV us off vs = us.take off ++ vs ++ us.drop (off + vs.length)
  | [], us, off, h => by simp [spliceV]
  | v :: vs, us, off, h => by
    simp only [spliceV]
    simp only [List.length_cons] at h
    rw [spliceV_eq vs _ _ (by simp; omega)]
    have e1 : (us.set off v).take (off + 1) = us.take off ++ [v] := by
      rw [List.take_succ_eq_append_getElem (by simp; omega)]
      simp [List.take_set_of_le]
    have e2 : (us.set off v).drop (off + 1 + vs.length) = us.drop (off + 1 + vs.length) := by
      rw [List.drop_set_of_lt (by omega)]
    rw [e1, e2]
    simp [Nat.add_assoc, Nat.add_comm 1]
section
variable {T : Tab} {P : Program} {K : Know} {s : AHeap} {w : World}
theorem RV.one {x : AV} {u : Value} (h : RV K x u) (ho : x.one = true) : u.oneCell' = true := by
  cases h <;> simp_all [AV.one, Value.oneCell']
theorem RVs.one : ∀ {xs : List AV} {us : List Value}, RVs K xs us → xs.all AV.one = true → ∀ u ∈ us, u.oneCell' = true
  | _, _, .nil, _, u, hu => by simp at hu
  | _, _, .cons x v xs us h hs, ho, u, hu => by
    simp only [List.all_cons, Bool.and_eq_true] at ho
    simp only [List.mem_cons] at hu
    rcases hu with rfl | hu
    · exact h.one ho.1
    · exact RVs.one hs ho.2 u hu
theorem AV.israw_false {x : AV} (h : x.israw = false) : ∀ v, x ≠ .raw v := by
  intro v e; subst e; simp [AV.israw] at h
theorem run_storeCells_sp (g o TT lo hi_ : Nat) : ∀ (vs : List Value) (i : Nat) (arr : Array Value) (w : World), w.heap[g]? = some (.cells arr TT (lo, hi_)) →
    (∀ k, k < arr.size → ¬ (lo ≤ k ∧ k < hi_)) → o + i + vs.length ≤ arr.size → (∀ v ∈ vs, v.oneCell' = true) →
    ∃ w' arr', (storeCells ⟨g, o, none⟩ vs i).run P w = .ok () w' ∧ World.Like w w' ∧ w'.heap.size = w.heap.size ∧ (∀ k, k ≠ g → w'.heap[k]? = w.heap[k]?) ∧
      w'.heap[g]? = some (.cells arr' TT (lo, hi_)) ∧ arr'.size = arr.size ∧ arr'.toList = spliceV arr.toList (o + i) vs
  | [], i, arr, w, hg, hf, hl, h1 => ⟨w, arr, rfl, ⟨rfl, rfl, rfl⟩, rfl, fun _ _ => rfl, hg, rfl, rfl⟩
  | v :: vs, i, arr, w, hg, hf, hl, h1 => by
    simp only [List.length_cons] at hl
    have hi : o + i < arr.size := by omega
    have hadd : (⟨g, o, none⟩ : Addr).add i = ⟨g, o + i, none⟩ := add_none g o i
    have hcell : w.cell? ⟨g, o + i, none⟩ = some arr[o + i] := by simp [World.cell?, hg, hi]
    have hfro : w.frozen? ⟨g, o + i, none⟩ = false := by
      have := hf (o + i) hi
      simp only [World.frozen?, hg]
      simpa using this
    have hg1 : (w.setCell ⟨g, o + i, none⟩ v).heap[g]? = some (.cells (arr.setIfInBounds (o + i) v) TT (lo, hi_)) := by
      simp [World.setCell, Array.getElem?_modify, hg]
    have hst : (store ((⟨g, o, none⟩ : Addr).add i) v).run P w = .ok () (w.setCell ⟨g, o + i, none⟩ v) := by
      rw [hadd, run_store P w _ v _ (h1 v (by simp)), hcell]
      simp [hfro]
    obtain ⟨w', arr', hrun, hl', hs', ho', hg', hsz', hli'⟩ := run_storeCells_sp g o TT lo hi_ vs (i + 1) (arr.setIfInBounds (o + i) v) (w.setCell ⟨g, o + i, none⟩ v) hg1
      (by simpa using hf) (by simp; omega) (fun x hx => h1 x (by simp [hx]))
    refine ⟨w', arr', ?_, ⟨hl'.os, hl'.tape, hl'.output⟩, by rw [hs']; simp, ?_, hg', by rw [hsz']; simp, ?_⟩
    · simp only [storeCells, Sem.run_bind, hst, Result.andThen_ok, hrun]
    · intro k hk
      rw [ho' k hk]
      simp only [World.setCell, Array.getElem?_modify]
      rw [if_neg (Ne.symm hk)]
    · rw [hli', Array.toList_setIfInBounds]
      rfl
theorem run_loadCells_at (g o n : Nat) (us : List Value) (h : ∀ i u, us[i]? = some u → w.cell? ⟨g, o + i, none⟩ = some u) (hn : n ≤ us.length) :
    (loadCells ⟨g, o, none⟩ n).run P w = .ok (us.take n).toArray w := by
  have := run_loadCells_list (P := P) w ⟨g, o, none⟩ (us.take n) (fun j v hv => by
    rw [add_none]
    rw [List.getElem?_take] at hv
    split at hv
    · exact h j v hv
    · cases hv)
  rwa [List.length_take, Nat.min_eq_left hn] at this
theorem aloadFrom_sound (hT : T.Ok P) {t : TypeId} {i : TI} (hi : T.ty t = some i) {cs : List AV} {us : List Value} {v : AV} (hr : RVs K cs us) (g o : Nat)
    (hc : ∀ j u, us[j]? = some u → w.cell? ⟨g, o + j, none⟩ = some u)
    (h : (if i.td.isAgg then (if i.size ≤ cs.length then some (AV.agg (cs.take i.size)) else none) else cs[0]?) = some v) :
    ∃ r, (Instr.loadAt t (.pointer (some ⟨g, o, none⟩))).run P w = .ok r w ∧ RV K v r := by
  obtain ⟨inf, d, e1, e2, e3, e4, e5, e6, e8, e7⟩ := hT.ty t i hi
  simp only [Instr.loadAt, Instr.sureAddr, Sem.run_bind, Sem.run_pure, Result.andThen_ok, loadVar, run_isAgg e2 e3]
  cases ha : i.td.isAgg with
  | true =>
    simp only [ha, if_true] at h
    split at h
    · rename_i hle
      cases h
      have hle' : i.size ≤ us.length := by rw [← hr.length]; exact hle
      refine ⟨.agg (us.take i.size).toArray, ?_, .agg _ _ (by simpa using hr.take i.size)⟩
      simp only [if_true, Sem.run_bind, run_sizeOf e1, Result.andThen_ok, e4, run_loadCells_at g o i.size us hc hle', Sem.run_pure]
    · cases h
  | false =>
    simp only [ha, Bool.false_eq_true, if_false] at h
    obtain ⟨u, hu, hru⟩ := hr.get h
    have := hc 0 u hu
    rw [Nat.add_zero] at this
    exact ⟨u, by simp only [Bool.false_eq_true, if_false, run_load, this], hru⟩
theorem WO.cells_at {g base : Nat} {c : List AV} {To : Option TypeId} (h : WO K w g base (.cells c To)) : ∃ us, RVs K c us ∧ ∀ j u, us[j]? = some u → w.cell? ⟨g, base + j, none⟩ = some u := by
  obtain ⟨arr, TT, lo, hi, pre, us, rest, h1, h0, h2, h3, h4, h5, h6⟩ := h
  refine ⟨us, h5, fun j u hu => ?_⟩
  simp only [World.cell?, h1]
  rw [if_neg (by simp)]
  rw [← Array.getElem?_toList, h3]
  have hj : j < us.length := by
    rcases Nat.lt_or_ge j us.length with q | q
    · exact q
    · rw [List.getElem?_eq_none q] at hu; cases hu
  rw [List.append_assoc, List.getElem?_append_right (by omega), List.getElem?_append_left (by omega), ← hu]
  congr 1
  omega
theorem aload_sound (hT : T.Ok P) (hw : WR K s w) {t : TypeId} {x v : AV} {u : Value} (h : aload T t x s = some v) (hx : RV K x u) :
    ∃ r, (Instr.loadAt t u).run P w = .ok r w ∧ RV K v r := by
  unfold aload at h
  cases hi : T.ty t with
  | none => simp [hi] at h
  | some i =>
    simp only [hi] at h
    cases x <;> simp only at h <;> try (cases h; done)
    case rptr l =>
      cases hx with
      | rptr _ g off us hu hf =>
      exact aloadFrom_sound hT hi hu g off (fun j u hj => hw.frz _ _ _ (hf j u hj)) h
    case fp b off l =>
      cases hx with
      | fp _ _ _ g base us hg hu hf =>
      exact aloadFrom_sound hT hi hu g (base + off) (fun j u hj => hw.frz _ _ _ (hf j u hj)) h
    case ptr b off =>
      cases hx with
      | ptr _ _ g base hg =>
      cases hb : s.get b with
      | none => simp [hb, AObj.cells?] at h
      | some o =>
        cases o <;> simp only [hb, AObj.cells?] at h <;> try (cases h; done)
        rename_i c To
        obtain ⟨g', base', hg', hwo⟩ := hw.own b _ hb
        rw [hg] at hg'; cases hg'
        obtain ⟨us, hus, hat⟩ := hwo.cells_at
        refine aloadFrom_sound hT hi (hus.drop off) g (base + off) (fun j u hj => ?_) h
        rw [List.getElem?_drop] at hj
        rw [Nat.add_assoc]
        exact hat _ _ hj
theorem astore_sound (hT : T.Ok P) (hw : WR K s w) {t : TypeId} {x v : AV} {s' : AHeap} {u c : Value} (h : astore T t x v s = some s') (hx : RV K x u) (hv : RV K v c) :
    ∃ w', (Instr.storeAt t u c).run P w = .ok () w' ∧ WR K s' w' ∧ Ext K s w K s' w' := by
  unfold astore at h
  cases hi : T.ty t with
  | none => simp [hi] at h
  | some i =>
    obtain ⟨inf, d, e1, e2, e3, e4, e5, e6, e8, e7⟩ := hT.ty t i hi
    cases x <;> simp only [hi] at h <;> try (cases h; done)
    rename_i b off
    cases hx with
    | ptr _ _ g base hg =>
    cases hb : s.get b with
    | none => simp [hb, AObj.cells?] at h
    | some o =>
      cases o <;> simp only [hb, AObj.cells?] at h <;> try (cases h; done)
      rename_i cs To
      split at h
      · rename_i hc
        obtain ⟨hraw, hlen, hle, hone⟩ := hc
        cases h
        obtain ⟨g', base', hg', hwo⟩ := hw.own b _ hb
        rw [hg] at hg'; cases hg'
        obtain ⟨arr, TT, lo, hi_, pre, us, rest, h1, h0, h2, h3, h4, h5, h6⟩ := hwo
        have hcells := hv.cells (AV.israw_false hraw)
        have hl1 := hcells.length
        have hl2 := h5.length
        have hsz : arr.size = pre.length + us.length + rest.length := by
          rw [← Array.length_toList, h3]; simp; omega
        obtain ⟨w', arr', hrun, hlk, hs', ho', hg1, hsz1, hli⟩ := run_storeCells_sp (P := P) g (base + off) TT lo hi_ c.cells.toList 0 arr w h1 h2
          (by rw [← hl1, hlen]; omega) (RVs.one hcells hone)
        have hli2 : arr'.toList = pre ++ spliceV us off c.cells.toList ++ rest := by
          rw [hli, h3, Nat.add_zero, ← h4]
          exact spliceV_append _ _ _ _ _ (by rw [← hl1, hlen]; omega)
        have hturn := hw.turn (K' := K) (s' := s.upd b (.cells (splice cs off v.cells) To)) (w' := w') (b1 := b) (base1 := base) (o1 := .cells (splice cs off v.cells) To) hb hg hlk hs' ho' (.refl K) rfl rfl
          (fun x p e => by rw [AHeap.nx_upd]; exact hw.bnd x p.1 p.2 e) (fun _ _ => rfl)
          (fun n e => by rw [h6] at e; cases e; exact ⟨arr', TT, _, hg1, hsz1⟩)
          (by rw [AHeap.get_upd, if_pos rfl]) hg
          ⟨arr', TT, lo, hi_, pre, _, rest, hg1, h0, by rw [hsz1]; exact h2, hli2, h4, RVs.splice' hcells h5, by rw [h6, hsz1]⟩
          (fun y oy hy e => by rw [AHeap.get_upd, if_neg hy] at e; exact ⟨e, hy⟩) (by rw [AHeap.nx_upd]; exact Nat.le_refl _)
        refine ⟨w', ?_, hturn.1, hturn.2⟩
        have hsize : c.cells.size = inf.size := by rw [e4, ← hlen, hl1]; simp
        simp only [Instr.storeAt, Instr.sureAddr, Sem.run_bind, Sem.run_pure, Result.andThen_ok, storeVar, run_sizeOf e1, hsize, ne_eq, not_true_eq_false, if_false, hrun]
      · cases h
theorem newVar_sound (hw : WR K s w) (t : TypeId) {x : AV} {u : Value} (hx : RV K x u) (hr : x.israw = false) :
    ∃ K' w', (newVar t u).run P w = .ok ⟨w.heap.size, 0, none⟩ w' ∧ WR K' (s.new (.cells x.cells (some t))) w' ∧ Ext K s w K' (s.new (.cells x.cells (some t))) w' ∧ K'.phi s.nx = some (w.heap.size, 0) := by
  have hcells := hx.cells (AV.israw_false hr)
  have := hw.newcells (arr := u.cells) (T := t) (lo := 0) (hi := 0) (c := x.cells) (us := u.cells.toList) (rest := []) (w' := { w with heap := w.heap.push (.cells u.cells t) })
    ⟨rfl, rfl, rfl⟩ rfl (by simp) hcells (by intro i _; omega)
  refine ⟨_, _, ?_, this.1, this.2, by simp [Know.add]⟩
  simp [newVar, newRow]
theorem newVar_frozen (hw : WR K s w) (t : TypeId) {x : AV} {u : Value} (hx : RV K x u) (hr : x.israw = false) :
    ∃ K' w', (newVar t u).run P w = .ok ⟨w.heap.size, 0, none⟩ w' ∧ WR K' s w' ∧ Ext K s w K' s w' ∧ RV K' (.rptr x.cells) (.pointer (some ⟨w.heap.size, 0, none⟩)) := by
  have hcells := hx.cells (AV.israw_false hr)
  have := hw.newfrozen (arr := u.cells) (T := t) (fz := (0, 0)) (w' := { w with heap := w.heap.push (.cells u.cells t) }) ⟨rfl, rfl, rfl⟩ rfl
  refine ⟨_, _, ?_, this.1, this.2.1, .rptr _ _ _ _ (hcells.mono this.2.1.le) (fun i v hv => ?_)⟩
  · simp [newVar, newRow]
  · rw [Nat.zero_add]; exact this.2.2 i v hv
end
end Go.Am
end
noncomputable section
namespace Go.Am
open Go
theorem growBy_le (need : Nat) : ∀ (r c : Nat), Builtin.growBy need r c ≤ max c (need + (need + 768) / 4)
  | 0, c => by unfold Builtin.growBy; omega
  | r + 1, c => by
    unfold Builtin.growBy
    split
    · omega
    · have := growBy_le need r (c + (c + 768) / 4)
      omega
theorem nextslicecap_le (need cap : Nat) (h : cap < need) : Builtin.nextslicecap need cap ≤ 2 * need + 512 := by
  unfold Builtin.nextslicecap
  split
  · omega
  · split
    · omega
    · have := growBy_le need 4 cap
      omega
section
variable {T : Tab} {P : Program} {K : Know} {s : AHeap} {w : World}
theorem run_append_grown (t u ty e : TypeId) (i : TypeInfo) (z : Value) (du : TypeDesc) (ht : P.underlying t = some (.slice e)) (hu : P.underlying u = some du) (hdu : ∀ k, du ≠ .int k)
    (hi : P.info? e = some i) (hz : i.zero = some z)
    (base : Option Addr) (sLen sCap : Nat) (olds : List Value) (holds : ∀ w', w'.heap = w.heap → (Builtin.firstCells i.size sLen (.slice base sLen sCap)).run P w' = .ok olds.toArray w')
    (x : Value) (n : Nat) (news : List Value) (hn : Builtin.lenOf x = pure n) (hnews : ∀ w', w'.heap = w.heap → (Builtin.firstCells i.size n x).run P w' = .ok news.toArray w')
    (hg : sCap < sLen + n) (hb : i.bytes ≠ 0) (hfit : Builtin.nextslicecap (sLen + n) sCap * i.bytes ≤ 281474976710656) :
    (Builtin.append_ #[t, u] ty #[.slice base sLen sCap, x]).run P w =
      .ok (.slice (some ⟨w.heap.size, 0, none⟩) (sLen + n) (grownCap w (sLen + n) sCap e))
        (w.drew.alloc (.cells (olds.toArray ++ news.toArray ++ Builtin.zeroCells z.cells (grownCap w (sLen + n) sCap e - (sLen + n))) e)) := by
  have hn' : ¬ (sLen + n ≤ sCap) := by omega
  have h48' : ¬ (281474976710656 < Builtin.nextslicecap (sLen + n) sCap * i.bytes) := by omega
  have hf := hnews w.drew rfl
  have hfo := holds w.drew rfl
  have hint : (match du with | .int _ => true | _ => false) = false := by cases du <;> first | rfl | exact absurd rfl (hdu _)
  simp [Builtin.append_, run_underlying ht, run_underlying hu, sizeOf, typeInfo, zeroValue, hi, hz, hn, hn', h48', Question.forced, hf, hfo, newRow, grownCap, hb, hint]
  congr 2
  apply Array.ext'
  simp [List.append_assoc]
theorem run_append_fit (t u ty e : TypeId) (i : TypeInfo) (du : TypeDesc) (ht : P.underlying t = some (.slice e)) (hu : P.underlying u = some du) (hdu : ∀ k, du ≠ .int k)
    (hi : P.info? e = some i) (base : Option Addr) (sLen sCap : Nat) (x : Value) (n : Nat) (news : List Value) (hn : Builtin.lenOf x = pure n)
    (hnews : (Builtin.firstCells i.size n x).run P w = .ok news.toArray w) (hg : sLen + n ≤ sCap) {w' : World}
    (hst : (match base with | some a => storeCells (a.add (sLen * i.size)) news | none => pure () : Sem Unit).run P w = .ok () w') :
    (Builtin.append_ #[t, u] ty #[.slice base sLen sCap, x]).run P w = .ok (.slice base (sLen + n) sCap) w' := by
  have hint : (match du with | .int _ => true | _ => false) = false := by cases du <;> first | rfl | exact absurd rfl (hdu _)
  cases base with
  | none =>
    simp only [Sem.run_pure, Result.ok.injEq, true_and] at hst
    subst hst
    simp [Builtin.append_, run_underlying ht, run_underlying hu, sizeOf, typeInfo, hi, hn, hg, hnews, hint]
  | some a =>
    simp only at hst
    simp [Builtin.append_, run_underlying ht, run_underlying hu, sizeOf, typeInfo, hi, hn, hg, hnews, hint, hst]
theorem add_spot {a : Addr} (h : a.spot = none) (j : Nat) : a.add j = ⟨a.block, a.off + j, none⟩ := by
  cases a
  subst h
  exact add_none _ _ _
theorem acellsOf_sound (hw : WR K s w) {sz : Nat} {x : AV} {u : Value} {new : List AV} {n : Nat} (h : acellsOf s sz x = some (new, n)) (hx : RV K x u) :
    ∃ news, RVs K new news ∧ Builtin.lenOf u = pure n ∧ new.length = n * sz ∧ ∀ w' m, w'.heap = w.heap → m ≤ n → (Builtin.firstCells sz m u).run P w' = .ok (news.take (m * sz)).toArray w' := by
  unfold acellsOf at h
  split at h
  · cases h; cases hx
    exact ⟨[], .nil, rfl, by simp, fun w' m _ _ => by simp [Builtin.firstCells]⟩
  · split at h
    · rename_i sz' full l hsz
      subst hsz
      cases h
      cases hx with
      | vs _ _ _ a n cap us hn hu hsz2 hc hfull hf =>
      subst hn
      have hlen := flatMap_length' (f := AV.cells) hsz2
      refine ⟨us, hu, rfl, hlen, fun w' m hw' hm => ?_⟩
      have hl2 : us.length = l.length * sz' := by rw [← hu.length, hlen]
      simp only [Builtin.firstCells]
      have := run_loadCells_list (P := P) w' a (us.take (m * sz')) (fun j v hv => by
        rw [List.getElem?_take] at hv
        split at hv
        · obtain ⟨f1, f2⟩ := hf j v hv
          have := hw.frz _ _ _ f2
          rw [add_spot f1]
          unfold World.cell? at this ⊢
          rw [hw']
          exact this
        · cases hv)
      rwa [List.length_take, Nat.min_eq_left (by rw [hl2]; exact Nat.mul_le_mul_right _ hm)] at this
    · cases h
  · split at h
    · rename_i sz' b off len hsz
      subst hsz
      cases hb : s.get b with
      | none => simp [hb, AObj.cells?] at h
      | some o =>
        cases o <;> simp only [hb, AObj.cells?] at h <;> try (cases h; done)
        rename_i c To
        split at h
        · rename_i hle
          cases h
          cases hx with
          | rs _ _ _ _ a cap g base hg hc ha =>
          obtain ⟨g', base', hg', hwo⟩ := hw.own b _ hb
          rw [hg] at hg'; cases hg'
          obtain ⟨us, hus, hat⟩ := hwo.cells_at
          have hr := (hus.drop off).take (n * sz')
          have hl : ((c.drop off).take (n * sz')).length = n * sz' := by simp; omega
          refine ⟨_, hr, rfl, hl, fun w' m hw' hm => ?_⟩
          simp only [Builtin.firstCells]
          rcases ha with h0 | ⟨rfl, N, hN, hle2⟩
          · subst h0
            have : m = 0 := by omega
            subst this
            simp [loadCells, loadCellsFrom]
          · have hms : m * sz' ≤ n * sz' := Nat.mul_le_mul_right _ hm
            have := run_loadCells_at (P := P) (w := w') g (base + off) (m * sz') (us.drop off) (fun j v hv => by
              rw [List.getElem?_drop] at hv
              have := hat _ _ hv
              unfold World.cell? at this ⊢
              rw [hw', Nat.add_assoc]; exact this) (by rw [← (hus.drop off).length]; simp; omega)
            rw [this]
            congr 2
            rw [List.take_take, Nat.min_eq_left hms]
        · cases h
    · cases h
  · split at h
    · rename_i l hsz
      subst hsz
      cases h
      obtain ⟨str, rfl, hs⟩ := hx.str_inv
      have hsize := size_of_data hs
      refine ⟨l.map fun b => .int .u8 b.toNat, ?_, by rw [← hsize]; rfl, by simp, fun w' m hw' hm => ?_⟩
      · clear hx hs hsize
        induction l with
        | nil => exact .nil
        | cons b l ih => exact .cons _ _ _ _ (.int _ _) ih
      · subst hs
        simp only [Builtin.firstCells, Sem.run_pure, Nat.mul_one]
        congr 1
        apply Array.ext'
        simp [ByteArray.data_extract, Array.toList_extract, List.extract_eq_take_drop, List.map_take]
    · cases h
  · cases h
end
end Go.Am
end
noncomputable section
namespace Go.Am
open Go
def Know.alias (K : Know) (b g base : Nat) : Know :=
  { phi := fun x => if x = b then some (g, base) else K.phi x, frz := K.frz, dim := K.dim }
section
variable {T : Tab} {P : Program} {K : Know} {s : AHeap} {w : World}
theorem WR.alias_le (h : WR K s w) (g base : Nat) : K.le (K.alias s.nx g base) := by
  refine ⟨?_, fun _ _ _ e => e, fun _ _ e => e⟩
  intro b p e
  have hne : b ≠ s.nx := by rintro rfl; rw [h.fresh] at e; cases e
  simp [Know.alias, hne, e]
theorem new_array (arr : Array Value) (w : World) (e : TypeId) : World.Like w (w.drew.alloc (.cells arr e)) ∧ (w.drew.alloc (.cells arr e)).heap = w.heap.push (.cells arr e (0, 0)) :=
  ⟨⟨rfl, rfl, rfl⟩, rfl⟩
theorem grown_sound (hw : WR K s w) {e : TypeId} {sz n cap : Nat} {z : Array Value} (hz : z.size = sz) {c : List AV} {us : List Value} (hr : RVs K c us) (hl : c.length = n * sz) (hc : n ≤ cap)
    {To : Option TypeId} (hTo : ∀ T0, To = some T0 → e = T0) :
    ∃ K', WR K' (s.new (.cells c To)) (w.drew.alloc (.cells (us.toArray ++ Builtin.zeroCells z (cap - n)) e)) ∧
      Ext K s w K' (s.new (.cells c To)) (w.drew.alloc (.cells (us.toArray ++ Builtin.zeroCells z (cap - n)) e)) ∧ RV K' (.rs sz s.nx 0 n) (.slice (some ⟨w.heap.size, 0, none⟩) n cap) := by
  obtain ⟨h1, h2⟩ := new_array (us.toArray ++ Builtin.zeroCells z (cap - n)) w e
  have := hw.newcellsT (To := To) hTo (c := c) (us := us) (rest := (Builtin.zeroCells z (cap - n)).toList) h1 h2 (by simp) hr (by intro i _; omega)
  have hlen : us.length = n * sz := by rw [← hr.length, hl]
  refine ⟨_, this.1, this.2, RV.rs _ _ _ _ _ _ w.heap.size 0 (by simp [Know.add]) hc (.inr ⟨rfl, (us.toArray ++ Builtin.zeroCells z (cap - n)).size, ?_, ?_⟩)⟩
  · simp only [Know.add, if_true]
  · simp only [Array.size_append, List.size_toArray, size_zeroCells, hlen, hz]
    rw [← Nat.add_mul]
    have : n + (cap - n) = cap := by omega
    rw [this]
    omega
theorem nats_le {a b m y : Nat} (h : a ≤ b) (hb : b * y ≤ m) : a * y ≤ m := Nat.le_trans (Nat.mul_le_mul_right _ h) hb
theorem aappend_sound (hT : T.Ok P) (hw : WR K s w) {t u ty e : TypeId} {du : TypeDesc} (ht : P.underlying t = some (.slice e)) (hu : P.underlying u = some du) (hdu : ∀ k, du ≠ .int k)
    {x y v : AV} {s' : AHeap} {a b : Value} (h : aappend T e s x y = some (v, s')) (hx : RV K x a) (hy : RV K y b) :
    ∃ K' w' r, (Builtin.append_ #[t, u] ty #[a, b]).run P w = .ok r w' ∧ RV K' v r ∧ WR K' s' w' ∧ Ext K s w K' s' w' := by
  unfold aappend at h
  cases hi : T.ty e with
  | none => simp [hi] at h
  | some i =>
    obtain ⟨inf, d, e1, e2, e3, e4, e5, e6, e8, e7⟩ := hT.ty e i hi
    simp only [hi] at h
    cases hc : acellsOf s i.size y with
    | none => simp [hc] at h
    | some p =>
      obtain ⟨new, n⟩ := p
      simp only [hc] at h
      obtain ⟨news, hnew, hln, hnl, hfc⟩ := acellsOf_sound (P := P) hw hc hy
      have hnewl : news.length = n * i.size := by rw [← hnew.length, hnl]
      have hfc' : ∀ w', w'.heap = w.heap → (Builtin.firstCells inf.size n b).run P w' = .ok news.toArray w' := by
        intro w' hw'
        rw [e4, hfc w' n hw' (Nat.le_refl _), List.take_of_length_le (by omega)]
      split at h
      · cases h
      · rename_i hsb
        have hb0 : inf.bytes ≠ 0 := by rw [e5]; omega
        have hs0 : 0 < i.size := by omega
        have hzs : i.zero.cells.size = i.size := e8
        split at h
        · -- nil
          cases hx
          split at h
          · rename_i hn0
            subst hn0
            cases h
            refine ⟨K, w, _, run_append_fit t u ty e inf du ht hu hdu e1 none 0 0 b 0 news hln (hfc' w rfl) (by omega) (w' := w) rfl, .nils, hw, .refl _ _ _⟩
          · rename_i hn0
            split at h
            · rename_i hle
              cases h
              have hfit : Builtin.nextslicecap (0 + n) 0 * inf.bytes ≤ 281474976710656 := by
                rw [e5, Nat.zero_add]; exact nats_le (nextslicecap_le n 0 (by omega)) hle
              have hrun := run_append_grown (P := P) (w := w) t u ty e inf i.zero du ht hu hdu e1 e6 none 0 0 [] (fun w' _ => by simp [Builtin.firstCells]) b n news hln hfc' (by omega) hb0 hfit
              obtain ⟨K', g1, g2, g3⟩ := grown_sound (K := K) (e := e) hw hzs hnew hnl (grownCap_ge w n 0 e) (To := some e) (fun _ h => by cases h; rfl)
              simp only [Nat.zero_add, Array.append_assoc] at hrun
              refine ⟨K', _, _, hrun, g3, ?_, ?_⟩ <;> simpa using (by assumption)
            · cases h
        · -- frozen
          rename_i sz full l
          cases hx with
          | vs _ _ _ ad m cap us hm hus hsz2 hcap hfull hf =>
          subst hm
          split at h
          · rename_i hn0
            subst hn0
            cases h
            have hnil : news = [] := List.eq_nil_of_length_eq_zero (by rw [hnewl]; simp)
            subst hnil
            refine ⟨K, w, _, run_append_fit t u ty e inf du ht hu hdu e1 (some ad) l.length cap b 0 [] hln (hfc' w rfl) (by omega) (w' := w) rfl, ?_, hw, .refl _ _ _⟩
            exact .vs _ _ _ ad _ _ us rfl hus hsz2 hcap hfull hf
          · rename_i hn0
            split at h
            · rename_i hcond
              obtain ⟨hfu, rfl, hle⟩ := hcond
              cases h
              have hcl := hfull hfu
              have hfit : Builtin.nextslicecap (l.length + n) cap * inf.bytes ≤ 281474976710656 := by
                rw [e5]; exact nats_le (nextslicecap_le _ cap (by omega)) hle
              have hlen := flatMap_length' (f := AV.cells) hsz2
              have hold : ∀ w', w'.heap = w.heap → (Builtin.firstCells inf.size l.length (.slice (some ad) l.length cap)).run P w' = .ok us.toArray w' := by
                intro w' hw'
                have hacs : acellsOf s i.size (.vs i.size full l) = some (l.flatMap AV.cells, l.length) := by simp [acellsOf]
                obtain ⟨us2, r1, r2, r3, r4⟩ := acellsOf_sound (P := P) hw hacs (RV.vs _ _ _ ad _ _ us rfl hus hsz2 hcap hfull hf)
                simp only [Builtin.firstCells]
                have hl2 : us.length = l.length * inf.size := by rw [← hus.length, hlen, e4]
                have := run_loadCells_list (P := P) w' ad us (fun j v hv => by
                  obtain ⟨f1, f2⟩ := hf j v hv
                  have := hw.frz _ _ _ f2
                  rw [add_spot f1]
                  unfold World.cell? at this ⊢
                  rw [hw']; exact this)
                rwa [hl2] at this
              have hrun := run_append_grown (P := P) (w := w) t u ty e inf i.zero du ht hu hdu e1 e6 (some ad) l.length cap us hold b n news hln hfc' (by omega) hb0 hfit
              obtain ⟨K', g1, g2, g3⟩ := grown_sound (K := K) (e := e) hw hzs (hus.append hnew) (by rw [List.length_append, hlen, hnl, Nat.add_mul]) (grownCap_ge w (l.length + n) cap e) (To := some e) (fun _ h => by cases h; rfl)
              rw [← List.append_toArray] at g1 g2
              exact ⟨K', _, _, hrun, g3, g1, g2⟩
            · cases h
        · -- over a block
          rename_i sz bb off len
          have hx0 := hx
          cases hx with
          | rs _ _ _ _ ad cap g base hg hcap ha =>
          split at h
          · rename_i hn0
            subst hn0
            cases h
            have hnil : news = [] := List.eq_nil_of_length_eq_zero (by rw [hnewl]; simp)
            subst hnil
            exact ⟨K, w, _, run_append_fit t u ty e inf du ht hu hdu e1 (some ad) len cap b 0 [] hln (hfc' w rfl) (by omega) (w' := w) rfl, hx0, hw, .refl _ _ _⟩
          · rename_i hn0
            cases hb : s.get bb with
            | none => simp [hb, AObj.cells?] at h
            | some o =>
              cases o <;> simp only [hb, AObj.cells?] at h <;> try (cases h; done)
              rename_i c To
              split at h
              · rename_i hcond
                obtain ⟨rfl, hle, hone, hbd⟩ := hcond
                cases h
                obtain ⟨g', base', hg', hwo⟩ := hw.own bb _ hb
                rw [hg] at hg'; cases hg'
                obtain ⟨arr, TT, lo, hi_, pre, us, rest, h1, hTo, h2, h3, h4, h5, h6⟩ := hwo
                have hl5 := h5.length
                have hold := (h5.drop off).take (len * i.size)
                have holdl : ((c.drop off).take (len * i.size)).length = len * i.size := by simp; omega
                by_cases hroom : len + n ≤ cap
                · -- in place
                  rcases ha with h0 | ⟨rfl, N, hN, hNle⟩
                  · omega
                  · rw [h6] at hN
                    have hNe : arr.size = N := by injection hN
                    have hmul : (len + n) * i.size ≤ cap * i.size := Nat.mul_le_mul_right _ hroom
                    rw [Nat.add_mul] at hmul
                    have hadd : (⟨g, base + off, none⟩ : Addr).add (len * inf.size) = ⟨g, base + off + len * i.size, none⟩ := by rw [e4]; exact add_none _ _ _
                    obtain ⟨w', arr', hrun, hlk, hs', ho', hg1, hsz1, hli⟩ := run_storeCells_sp (P := P) g (base + off + len * i.size) TT lo hi_ news 0 arr w h1 h2
                      (by rw [hnewl]; omega) (RVs.one hnew hone)
                    rw [Nat.add_zero] at hli
                    have hst : (match (some (⟨g, base + off, none⟩ : Addr)) with | some a => storeCells (a.add (len * inf.size)) news | none => pure () : Sem Unit).run P w = .ok () w' := by
                      simp only [hadd]; exact hrun
                    have hr := run_append_fit (P := P) t u ty e inf du ht hu hdu e1 (some ⟨g, base + off, none⟩) len cap b n news hln (hfc' w rfl) hroom hst
                    have hsplit : arr'.toList = arr.toList.take (base + off) ++ ((us.drop off).take (len * i.size) ++ news) ++ arr.toList.drop (base + off + len * i.size + news.length) := by
                      have hb9 : base + off + len * i.size + news.length ≤ arr.toList.length := by rw [hnewl, Array.length_toList]; omega
                      rw [hli, spliceV_eq news arr.toList (base + off + len * i.size) hb9]
                      have e9 : arr.toList.take (base + off + len * i.size) = arr.toList.take (base + off) ++ (us.drop off).take (len * i.size) := by
                        rw [List.take_add]
                        congr 1
                        rw [h3, List.append_assoc, List.drop_append, List.drop_of_length_le (by omega), List.nil_append]
                        rw [show base + off - pre.length = off from by omega, List.drop_append_of_le_length (by omega), List.take_append_of_le_length (by simp; omega)]
                      rw [e9]
                      simp
                    have hturn := hw.turn (K' := K.alias s.nx g (base + off)) (s' := (s.del bb).new (.cells ((c.drop off).take (len * i.size) ++ new) (if To = some e ∧ off = 0 then some e else none))) (w' := w') (b1 := s.nx)
                      (base1 := base + off) (o1 := .cells ((c.drop off).take (len * i.size) ++ new) (if To = some e ∧ off = 0 then some e else none)) hb hg hlk hs' ho' (hw.alias_le _ _) rfl rfl
                      (fun x p hp => by
                        simp only [Know.alias] at hp
                        rw [AHeap.nx_new, AHeap.nx_del]
                        split at hp
                        · rename_i hxx; cases hp; have := (hw.bnd _ _ _ hg).2; exact ⟨by omega, this⟩
                        · have := hw.bnd _ _ _ hp; exact ⟨by omega, this.2⟩)
                      (fun x hx => by simp only [Know.alias]; rw [if_neg (by omega)])
                      (fun m hm => by rw [h6] at hm; cases hm; exact ⟨arr', TT, _, hg1, hsz1⟩)
                      (by rw [AHeap.get_new, AHeap.nx_del, if_pos rfl]) (by simp [Know.alias])
                      ⟨arr', TT, lo, hi_, _, _, _, hg1, (fun T0 he => by
                        split at he
                        · rename_i hco; cases he; obtain ⟨q1, q2⟩ := hTo e hco.1; exact ⟨q1, by omega⟩
                        · cases he), by rw [hsz1]; exact h2, hsplit, by rw [List.length_take, Array.length_toList]; omega,
                        (hold.append hnew).mono (hw.alias_le _ _), by show K.dim g = _; rw [h6, hsz1]⟩
                      (fun x ox hxx hox => by
                        rw [AHeap.get_new, AHeap.nx_del, if_neg hxx, AHeap.get_del] at hox
                        split at hox
                        · cases hox
                        · rename_i hne; exact ⟨hox, hne⟩)
                      (by rw [AHeap.nx_new, AHeap.nx_del]; omega)
                    refine ⟨_, w', _, hr, ?_, hturn.1, hturn.2⟩
                    refine .rs _ _ _ _ _ _ g (base + off) (by simp [Know.alias]) hroom (.inr ⟨rfl, N, by show K.dim g = _; rw [h6, hNe], by omega⟩)
                · -- a new block
                  have hfit : Builtin.nextslicecap (len + n) cap * inf.bytes ≤ 281474976710656 := by
                    rw [e5]; exact nats_le (nextslicecap_le _ cap (by omega)) hbd
                  have hacs : acellsOf s i.size (.rs i.size bb off len) = some ((c.drop off).take (len * i.size), len) := by
                    simp [acellsOf, hb, AObj.cells?, hle]
                  obtain ⟨olds, r1, r2, r3, r4⟩ := acellsOf_sound (P := P) hw hacs hx0
                  have hol : olds.length = len * i.size := by rw [← r1.length, holdl]
                  have hold' : ∀ w', w'.heap = w.heap → (Builtin.firstCells inf.size len (.slice (some ad) len cap)).run P w' = .ok olds.toArray w' := by
                    intro w' hw'
                    rw [e4, r4 w' len hw' (Nat.le_refl _), List.take_of_length_le (by omega)]
                  have hrun := run_append_grown (P := P) (w := w) t u ty e inf i.zero du ht hu hdu e1 e6 (some ad) len cap olds hold' b n news hln hfc' (by omega) hb0 hfit
                  have hwd : WR K (s.del bb) w := hw.forget (fun x ox hox => by
                    rw [AHeap.get_del] at hox
                    split at hox
                    · cases hox
                    · exact hox) (by rw [AHeap.nx_del])
                  obtain ⟨K', g1, g2, g3⟩ := grown_sound (K := K) (e := e) hwd hzs (r1.append hnew) (by rw [List.length_append, holdl, hnl, Nat.add_mul]) (grownCap_ge w (len + n) cap e) (To := if To = some e ∧ off = 0 then some e else none) (fun _ h => by split at h <;> cases h; rfl)
                  rw [← List.append_toArray] at g1 g2
                  rw [AHeap.nx_del] at g3
                  refine ⟨K', _, _, hrun, g3, g1, ?_⟩
                  refine ⟨g2.le, fun x hx => g2.phi x (by rw [AHeap.nx_del]; exact hx), by have := g2.nx; rw [AHeap.nx_del] at this; exact this, g2.os, g2.tape, g2.output, g2.size, ?_, ?_, ?_⟩
                  · intro k hk hno
                    refine g2.block k hk ?_
                    rintro ⟨x, ox, bs, hox, hp⟩
                    rw [AHeap.get_del] at hox
                    split at hox
                    · cases hox
                    · exact hno ⟨x, ox, bs, hox, hp⟩
                  · intro k hk
                    rcases g2.own k hk with ⟨x, ox, bs, hox, hp⟩ | hk'
                    · rw [AHeap.get_del] at hox
                      split at hox
                      · cases hox
                      · exact .inl ⟨x, ox, bs, hox, hp⟩
                    · exact .inr hk'
                  · intro k hk hno
                    refine g2.frz k hk ?_
                    rintro ⟨x, ox, bs, hox, hp⟩
                    rw [AHeap.get_del] at hox
                    split at hox
                    · cases hox
                    · exact hno ⟨x, ox, bs, hox, hp⟩
              · cases h
        · -- over a block, the room known
          rename_i sz bb off len cap
          have hx0 := hx
          cases hx with
          | rc _ _ _ _ _ g base N hg hcap hN hNle =>
          split at h
          · cases h
          · rename_i hn0
            cases hb : s.get bb with
            | none => simp [hb, AObj.cells?] at h
            | some o =>
              cases o <;> simp only [hb, AObj.cells?] at h <;> try (cases h; done)
              rename_i c To
              split at h
              · rename_i hcond
                obtain ⟨rfl, hle, hone, hbd⟩ := hcond
                obtain ⟨g', base', hg', hwo⟩ := hw.own bb _ hb
                rw [hg] at hg'; cases hg'
                obtain ⟨arr, TT, lo, hi_, pre, us, rest, h1, hTo, h2, h3, h4, h5, h6⟩ := hwo
                have hl5 := h5.length
                have hold := (h5.drop off).take (len * i.size)
                have holdl : ((c.drop off).take (len * i.size)).length = len * i.size := by simp; omega
                split at h
                · rename_i hroom
                  cases h
                  rw [h6] at hN
                  have hNe : arr.size = N := by injection hN
                  have hmul : (len + n) * i.size ≤ cap * i.size := Nat.mul_le_mul_right _ hroom
                  rw [Nat.add_mul] at hmul
                  have hadd : (⟨g, base + off, none⟩ : Addr).add (len * inf.size) = ⟨g, base + off + len * i.size, none⟩ := by rw [e4]; exact add_none _ _ _
                  obtain ⟨w', arr', hrun, hlk, hs', ho', hg1, hsz1, hli⟩ := run_storeCells_sp (P := P) g (base + off + len * i.size) TT lo hi_ news 0 arr w h1 h2
                    (by rw [hnewl]; omega) (RVs.one hnew hone)
                  rw [Nat.add_zero] at hli
                  have hst : (match (some (⟨g, base + off, none⟩ : Addr)) with | some a => storeCells (a.add (len * inf.size)) news | none => pure () : Sem Unit).run P w = .ok () w' := by
                    simp only [hadd]; exact hrun
                  have hr := run_append_fit (P := P) t u ty e inf du ht hu hdu e1 (some ⟨g, base + off, none⟩) len cap b n news hln (hfc' w rfl) hroom hst
                  have hsplit : arr'.toList = pre ++ (us.take (off + len * i.size) ++ news) ++ arr.toList.drop (base + off + len * i.size + news.length) := by
                    have hb9 : base + off + len * i.size + news.length ≤ arr.toList.length := by rw [hnewl, Array.length_toList]; omega
                    rw [hli, spliceV_eq news arr.toList (base + off + len * i.size) hb9]
                    have e9 : arr.toList.take (base + off + len * i.size) = pre ++ us.take (off + len * i.size) := by
                      rw [h3, List.append_assoc, List.take_append, List.take_of_length_le (by omega)]
                      rw [show base + off + len * i.size - pre.length = off + len * i.size from by omega, List.take_append_of_le_length (by omega)]
                    rw [e9]
                    simp
                  have hturn := hw.turn (K' := K) (s' := s.upd bb (.cells (c.take (off + len * i.size) ++ new) To)) (w' := w') (b1 := bb)
                    (base1 := base) (o1 := .cells (c.take (off + len * i.size) ++ new) To) hb hg hlk hs' ho' (.refl K) rfl rfl
                    (fun x p hp => by rw [AHeap.nx_upd]; exact hw.bnd _ _ _ hp)
                    (fun x hx => rfl)
                    (fun m hm => by rw [h6] at hm; cases hm; exact ⟨arr', TT, _, hg1, hsz1⟩)
                    (by rw [AHeap.get_upd, if_pos rfl]) hg
                    ⟨arr', TT, lo, hi_, _, _, _, hg1, hTo, by rw [hsz1]; exact h2, hsplit, h4, (h5.take _).append hnew, by show K.dim g = _; rw [h6, hsz1]⟩
                    (fun x ox hxx hox => by
                      rw [AHeap.get_upd, if_neg hxx] at hox
                      exact ⟨hox, hxx⟩)
                    (by rw [AHeap.nx_upd]; exact Nat.le_refl _)
                  exact ⟨_, w', _, hr, .rc _ _ _ _ _ g base N hg hroom (by rw [h6, hNe]) hNle, hturn.1, hturn.2⟩
                · rename_i hroom
                  cases h
                  have hfit : Builtin.nextslicecap (len + n) cap * inf.bytes ≤ 281474976710656 := by
                    rw [e5]; exact nats_le (nextslicecap_le _ cap (by omega)) hbd
                  have hacs : acellsOf s i.size (.rs i.size bb off len) = some ((c.drop off).take (len * i.size), len) := by
                    simp [acellsOf, hb, AObj.cells?, hle]
                  obtain ⟨olds, r1, r2, r3, r4⟩ := acellsOf_sound (P := P) hw hacs (RV.rs _ _ _ _ _ cap g base hg hcap (.inr ⟨rfl, N, hN, hNle⟩))
                  have hol : olds.length = len * i.size := by rw [← r1.length, holdl]
                  have hold' : ∀ w', w'.heap = w.heap → (Builtin.firstCells inf.size len (.slice (some ⟨g, base + off, none⟩) len cap)).run P w' = .ok olds.toArray w' := by
                    intro w' hw'
                    rw [e4, r4 w' len hw' (Nat.le_refl _), List.take_of_length_le (by omega)]
                  have hrun := run_append_grown (P := P) (w := w) t u ty e inf i.zero du ht hu hdu e1 e6 (some ⟨g, base + off, none⟩) len cap olds hold' b n news hln hfc' (by omega) hb0 hfit
                  obtain ⟨K', g1, g2, g3⟩ := grown_sound (K := K) (e := e) hw hzs (r1.append hnew) (by rw [List.length_append, holdl, hnl, Nat.add_mul]) (grownCap_ge w (len + n) cap e) (To := some e) (fun _ h => by cases h; rfl)
                  rw [← List.append_toArray] at g1 g2
                  exact ⟨K', _, _, hrun, g3, g1, g2⟩
              · cases h
        · cases h
end
end Go.Am
end
noncomputable section
namespace Go.Am
open Go
theorem range_mod (z : Array Value) (m : Nat) (hm : z.size = m) : ∀ n : Nat, (List.range (n * m)).map (fun i => z[i % z.size]!) = (List.replicate n z.toList).flatten
  | 0 => by simp
  | n + 1 => by
    rw [Nat.add_mul, Nat.one_mul, List.range_add, List.map_append, range_mod z m hm n]
    have e : List.replicate (n + 1) z.toList = List.replicate n z.toList ++ [z.toList] := by
      rw [List.replicate_succ']
    rw [e, List.flatten_append]
    congr 1
    simp only [List.flatten_cons, List.flatten_nil, List.append_nil, List.map_map]
    apply List.ext_getElem
    · simp [hm]
    · intro i h1 h2
      simp only [List.length_map, List.length_range] at h1
      simp only [List.getElem_map, List.getElem_range, Function.comp_apply, Array.getElem_toList]
      have : (n * m + i) % z.size = i := by
        rw [hm, Nat.add_comm, Nat.add_mul_mod_self_right]
        exact Nat.mod_eq_of_lt h1
      rw [this]
      exact getElem!_pos z i (by omega)
section
variable {T : Tab} {P : Program} {K : Know} {s : AHeap} {w : World}
theorem RVs.flatten_rep {xs : List AV} {us : List Value} (h : RVs K xs us) : ∀ n, RVs K (List.replicate n xs).flatten (List.replicate n us).flatten
  | 0 => by simp; exact .nil
  | n + 1 => by
    rw [List.replicate_succ, List.replicate_succ, List.flatten_cons, List.flatten_cons]
    exact h.append (RVs.flatten_rep h n)
theorem amakeSlice_sound (hT : T.Ok P) (hw : WR K s w) {t : TypeId} {l c v : AV} {s' : AHeap} {a b : Value} (h : amakeSlice T t l c s = some (v, s')) (hl : RV K l a) (hc : RV K c b) :
    ∃ K' w' r, (Instr.makeSlice t a b).run P w = .ok r w' ∧ RV K' v r ∧ WR K' s' w' ∧ Ext K s w K' s' w' := by
  unfold amakeSlice at h
  cases hi : T.ty t with
  | none => simp [hi] at h
  | some i =>
    obtain ⟨inf, d, e1, e2, e3, e4, e5, e6, e8, e7⟩ := hT.ty t i hi
    cases l <;> simp only [hi] at h <;> try (cases h; done)
    cases c <;> simp only at h <;> try (cases h; done)
    rename_i kl n kc m
    have h1 := hl.int_inv; have h2 := hc.int_inv
    subst h1; subst h2
    split at h
    · rename_i e htd
      rw [htd] at e3
      cases d <;> first | exact e3.elim | skip
      cases e3
      cases hie : T.ty e with
      | none => simp [hie] at h
      | some ei =>
        obtain ⟨inf', d', f1, f2, f3, f4, f5, f6, f8, f7⟩ := hT.ty e ei hie
        simp only [hie] at h
        split at h
        · rename_i hcond
          obtain ⟨h0, hle, hby, hbd, hraw⟩ := hcond
          cases h
          have hm63 : m ≤ 9223372036854775807 := by
            have : (1 : Int) * m ≤ ei.bytes * m := Int.mul_le_mul_of_nonneg_right (by omega) (by omega)
            omega
          have hrun := run_make (P := P) w t e inf' ei.zero e2 f1 f6 kl kc n m h0 hle (by rw [f5]; exact hbd) hm63
          have hz := (RV.ofV K ei.zero).cells (AV.israw_false hraw)
          have hcont := hz.flatten_rep m.toNat
          have harr : (madeCells ei.zero.cells (m.toNat * inf'.size)).toList = (List.replicate m.toNat ei.zero.cells.toList).flatten := by
            have := range_mod ei.zero.cells ei.size f8 m.toNat
            rw [f4, ← this]
            simp [madeCells]
          have hnew := hw.newcells (arr := madeCells ei.zero.cells (m.toNat * inf'.size)) (T := e) (lo := 0) (hi := 0) (rest := [])
            (w' := w.alloc (.cells (madeCells ei.zero.cells (m.toNat * inf'.size)) e)) ⟨rfl, rfl, rfl⟩ rfl (by rw [harr, List.append_nil]) hcont (by intro i _; omega)
          refine ⟨_, _, _, hrun, ?_, hnew.1, hnew.2⟩
          refine RV.rs _ _ _ _ _ _ w.heap.size 0 (by simp [Know.add]) (by omega) (.inr ⟨rfl, (madeCells ei.zero.cells (m.toNat * inf'.size)).size, by simp only [Know.add, if_true], ?_⟩)
          rw [size_madeCells, f4]
          omega
        · cases h
    · cases h
theorem acopy_sound (hT : T.Ok P) (hw : WR K s w) {t u ty e : TypeId} (ht : P.underlying t = some (.slice e)) {x y v : AV} {s' : AHeap} {a b : Value} (h : acopy T e s x y = some (v, s'))
    (hx : RV K x a) (hy : RV K y b) (q : Array TypeId) (hq : q[0]? = some t) :
    ∃ w' r, (Builtin.copy_ q ty #[a, b]).run P w = .ok r w' ∧ RV K v r ∧ WR K s' w' ∧ Ext K s w K s' w' := by
  unfold acopy at h
  cases hi : T.ty e with
  | none => simp [hi] at h
  | some i =>
    obtain ⟨inf, d, e1, e2, e3, e4, e5, e6, e8, e7⟩ := hT.ty e i hi
    simp only [hi] at h
    cases hc : acellsOf s i.size y with
    | none => simp [hc] at h
    | some p =>
      obtain ⟨new, n⟩ := p
      simp only [hc] at h
      obtain ⟨news, hnew, hln, hnl, hfc⟩ := acellsOf_sound (P := P) hw hc hy
      have hnewl : news.length = n * i.size := by rw [← hnew.length, hnl]
      split at h
      · cases h
        cases hx
        have hf := hfc w 0 rfl (Nat.zero_le _)
        refine ⟨w, _, ?_, .int _ _, hw, .refl _ _ _⟩
        simp [Builtin.copy_, hq, run_underlying ht, hln, run_sizeOf e1, e4, hf, goInt]
      · rename_i sz bb off len
        cases hb : s.get bb with
        | none => simp [hb, AObj.cells?] at h
        | some o =>
          cases o <;> simp only [hb, AObj.cells?] at h <;> try (cases h; done)
          rename_i c To
          split at h
          · rename_i hcond
            obtain ⟨rfl, hle, hone⟩ := hcond
            cases h
            cases hx with
            | rs _ _ _ _ ad cap g base hg hcap ha =>
            obtain ⟨g', base', hg', hwo⟩ := hw.own bb _ hb
            rw [hg] at hg'; cases hg'
            have hf := hfc w (min n len) rfl (Nat.min_le_left _ _)
            have htl : (news.take (min n len * i.size)).length = min n len * i.size := by
              rw [List.length_take, hnewl]
              exact Nat.min_eq_left (Nat.mul_le_mul_right _ (Nat.min_le_left _ _))
            have hml : min n len * i.size ≤ len * i.size := Nat.mul_le_mul_right _ (Nat.min_le_right _ _)
            obtain ⟨arr, TT, lo, hi_, pre, us, rest, h1, h0', h2, h3, h4, h5, h6⟩ := hwo
            have hl5 := h5.length
            have hsz : arr.size = pre.length + us.length + rest.length := by
              rw [← Array.length_toList, h3]; simp; omega
            have hrun0 : (Builtin.copy_ q ty #[.slice (some ad) len cap, b]).run P w =
                ((storeCells ad (news.take (min n len * i.size))).run P w).andThen fun _ w' => .ok (goInt (min n len : Nat)) w' := by
              simp [Builtin.copy_, hq, run_underlying ht, hln, run_sizeOf e1, e4, hf]
            rcases ha with h0 | ⟨rfl, N, hN, hNle⟩
            · have hz : min n len = 0 := by omega
              have hnil : news.take (min n len * i.size) = [] := by rw [hz]; simp
              have hnil2 : new.take (min n len * i.size) = [] := by rw [hz]; simp
              rw [hnil] at hrun0
              rw [hnil2]
              have hsame : ∀ x, (s.upd bb (.cells (splice c off []) To)).get x = s.get x := by
                intro x
                rw [AHeap.get_upd]
                split
                · rename_i hx; subst hx; exact hb.symm
                · rfl
              refine ⟨w, _, by rw [hrun0]; rfl, .int _ _, ?_, ?_⟩
              · exact hw.forget (fun x o hx => by rw [hsame] at hx; exact hx) (AHeap.nx_upd _ _ _)
              · exact (Ext.refl K s w).forget (fun x o hx => by rw [hsame] at hx; exact hx) (AHeap.nx_upd _ _ _)
            · obtain ⟨w', arr', hrun, hlk, hs', ho', hg1, hsz1, hli⟩ := run_storeCells_sp (P := P) g (base + off) TT lo hi_ (news.take (min n len * i.size)) 0 arr w h1 h2
                (by rw [htl]; omega) (fun x hx => RVs.one hnew hone x (List.mem_of_mem_take hx))
              have hli2 : arr'.toList = pre ++ spliceV us off (news.take (min n len * i.size)) ++ rest := by
                rw [hli, h3, Nat.add_zero, ← h4]
                exact spliceV_append _ _ _ _ _ (by rw [htl]; omega)
              have hturn := hw.turn (K' := K) (s' := s.upd bb (.cells (splice c off (new.take (min n len * i.size))) To)) (w' := w') (b1 := bb) (base1 := base)
                (o1 := .cells (splice c off (new.take (min n len * i.size))) To) hb hg hlk hs' ho' (.refl K) rfl rfl
                (fun x p e => by rw [AHeap.nx_upd]; exact hw.bnd x p.1 p.2 e) (fun _ _ => rfl)
                (fun n e => by rw [h6] at e; cases e; exact ⟨arr', TT, _, hg1, hsz1⟩)
                (by rw [AHeap.get_upd, if_pos rfl]) hg
                ⟨arr', TT, lo, hi_, pre, _, rest, hg1, h0', by rw [hsz1]; exact h2, hli2, h4, RVs.splice' (hnew.take _) h5, by rw [h6, hsz1]⟩
                (fun y oy hy e => by rw [AHeap.get_upd, if_neg hy] at e; exact ⟨e, hy⟩) (by rw [AHeap.nx_upd]; exact Nat.le_refl _)
              refine ⟨w', _, by rw [hrun0, hrun]; rfl, .int _ _, hturn.1, hturn.2⟩
          · cases h
      · cases h
theorem zip_unzip {α β : Type} : ∀ l : List (α × β), (l.map (·.1)).zip (l.map (·.2)) = l
  | [] => rfl
  | (a, b) :: l => by simp only [List.map_cons, List.zip_cons_cons, zip_unzip l]
theorem afill_range (sz : Nat) : ∀ (vs : List AV) (k : Nat) (done rest : List AV), (∀ x ∈ vs, x.cells.length = sz) → done.length = k * sz → rest.length = vs.length * sz →
    afill (fun i => some (i * sz, sz)) (done ++ rest) ((List.range' k vs.length).zip vs) = some (done ++ vs.flatMap AV.cells)
  | [], k, done, rest, _, _, hr => by
    have : rest = [] := List.eq_nil_of_length_eq_zero (by simpa using hr)
    subst this
    simp [afill]
  | v :: vs, k, done, rest, hv, hd, hr => by
    have hvl := hv v (by simp)
    simp only [List.length_cons, Nat.add_mul, Nat.one_mul] at hr
    simp only [List.length_cons, List.range'_succ, List.zip_cons_cons, afill]
    have hc : ¬ (v.cells.length ≠ sz ∨ k * sz + v.cells.length > (done ++ rest).length) := by
      rw [List.length_append, hd, hvl]; omega
    rw [if_neg hc]
    have hs : splice (done ++ rest) (k * sz) v.cells = (done ++ v.cells) ++ rest.drop sz := by
      have key : ∀ (vs pre us : List AV) (off : Nat), off = pre.length → vs.length ≤ us.length → splice (pre ++ us) off vs = pre ++ vs ++ us.drop vs.length := by
        intro vs
        induction vs with
        | nil => intro pre us off _ _; simp [splice]
        | cons y ys ih =>
          intro pre us off ho hl
          cases us with
          | nil => simp at hl
          | cons u us =>
            simp only [splice]
            have e : (pre ++ u :: us).set off y = (pre ++ [y]) ++ us := by
              subst ho
              simp
            rw [e, ih (pre ++ [y]) us (off + 1) (by simp [ho]) (by simpa using hl)]
            simp
      rw [key v.cells done rest (k * sz) hd.symm (by rw [hvl]; omega), hvl]
    rw [hs, afill_range sz vs (k + 1) (done ++ v.cells) (rest.drop sz) (fun x hx => hv x (by simp [hx])) (by rw [List.length_append, hd, hvl, Nat.add_mul]; omega) (by rw [List.length_drop, hr]; omega)]
    simp
theorem abuildSlice_sound (hT : T.Ok P) (hw : WR K s w) {bv : Bool} {t : TypeId} {len : Nat} {parts : List (Nat × AV)} {parts' : Array (Nat × Value)} {v : AV} {s' : AHeap}
    (h : abuildSlice T bv t len parts s = some (v, s')) (h1 : parts.map (·.1) = parts'.toList.map (·.1)) (h2 : RVs K (parts.map (·.2)) (parts'.toList.map (·.2))) :
    ∃ K' w' r, (Instr.buildSlice t len parts').run P w = .ok r w' ∧ RV K' v r ∧ WR K' s' w' ∧ Ext K s w K' s' w' := by
  unfold abuildSlice at h
  cases hi : T.ty t with
  | none => simp [hi] at h
  | some i =>
    obtain ⟨inf, d, e1, e2, e3, e4, e5, e6, e8, e7⟩ := hT.ty t i hi
    simp only [hi] at h
    split at h
    · rename_i e htd
      rw [htd] at e3
      cases d <;> first | exact e3.elim | skip
      cases e3
      cases hie : T.ty e with
      | none => simp [hie] at h
      | some ei =>
        obtain ⟨inf', d', f1, f2, f3, f4, f5, f6, f8, f7⟩ := hT.ty e ei hie
        simp only [hie] at h
        split at h
        · cases h
        · rename_i hcond
          simp only [not_or] at hcond
          obtain ⟨hle, hpr, hzr⟩ := hcond
          have hpr' : parts.any (·.2.israw) = false := by simpa using hpr
          have hzr' : (AV.ofV ei.zero).israw = false := by simpa using hzr
          have hz := (RV.ofV K ei.zero).cells (AV.israw_false hzr')
          have hz0 := hz.flatten_rep len
          have harr : ((Array.range (len * ei.size)).map (ei.zero.cells[· % ei.zero.cells.size]!)).toList = (List.replicate len ei.zero.cells.toList).flatten := by
            rw [← range_mod ei.zero.cells ei.size f8 len]; simp
          have run : ∀ arr', Instr.fill (fun i => some (i * ei.size, ei.size)) ((Array.range (len * ei.size)).map (ei.zero.cells[· % ei.zero.cells.size]!)) parts'.toList = some arr' →
              (Instr.buildSlice t len parts').run P w = .ok (.slice (some ⟨w.heap.size, 0, none⟩) len len) { w with heap := w.heap.push (.cells arr' e) } := by
            intro arr' ha
            by_cases hn : len * ei.size = 0
            · have harr0 : ((Array.range (len * ei.size)).map (ei.zero.cells[· % ei.zero.cells.size]!)) = #[] := by rw [hn]; apply Array.ext'; simp
              rw [harr0] at ha
              simp [Instr.buildSlice, run_underlying e2, run_sizeOf f1, f4, hn, newRow, Array.range_zero', ha]
            · simp only [Instr.buildSlice, Sem.run_bind, run_underlying e2, Result.andThen_ok, run_sizeOf f1, f4, if_neg hle, hn, if_false, Sem.run_pure, zeroValue, typeInfo, run_program, f1, f6]
              simp only [ha, newRow, Sem.run_bind, run_newObj, Result.andThen_ok, Sem.run_pure]
          split at h
          · -- by value
            split at h
            · rename_i hbv
              obtain ⟨hr, hall, hzl⟩ := hbv
              cases h
              have hlen : parts.length = len := by have := congrArg List.length hr; simpa using this
              have hcl : ∀ x ∈ parts.map (·.2), x.cells.length = ei.size := by
                intro x hx
                obtain ⟨p, hp, rfl⟩ := List.mem_map.1 hx
                have := List.all_eq_true.1 hall p hp
                simpa using this
              have hzip : parts = (List.range' 0 (parts.map (·.2)).length).zip (parts.map (·.2)) := by
                rw [List.length_map, hlen, ← List.range_eq_range', ← hr]
                exact (zip_unzip parts).symm
              have hfl : afill (fun i => some (i * ei.size, ei.size)) (List.replicate len (AV.ofV ei.zero).cells).flatten parts = some ((parts.map (·.2)).flatMap AV.cells) := by
                have := afill_range ei.size (parts.map (·.2)) 0 [] (List.replicate len (AV.ofV ei.zero).cells).flatten hcl (by simp) (by simp [hzl, hlen])
                rw [← hzip] at this
                simpa using this
              rw [← harr] at hz0
              obtain ⟨arr', ha, hra⟩ := fill_sound parts parts'.toList _ _ _ hfl hz0 h1 h2 hpr'
              obtain ⟨g1, g2, g3⟩ := hw.newfrozen (arr := arr') (T := e) (fz := (0, 0)) (w' := { w with heap := w.heap.push (.cells arr' e) }) ⟨rfl, rfl, rfl⟩ rfl
              refine ⟨_, _, _, run arr' ha, ?_, g1, g2⟩
              refine .vs _ _ _ _ _ _ arr'.toList (by simp [hlen]) (hra.mono g2.le) hcl (Nat.le_refl _) (fun _ => rfl) (fun j u hu => ⟨rfl, ?_⟩)
              rw [Nat.zero_add]
              exact g3 j u hu
            · cases h
          · cases hfl : afill (fun i => some (i * ei.size, ei.size)) (List.replicate len (AV.ofV ei.zero).cells).flatten parts with
            | none => simp [hfl] at h
            | some cells =>
              simp only [hfl] at h
              cases h
              rw [← harr] at hz0
              obtain ⟨arr', ha, hra⟩ := fill_sound parts parts'.toList _ _ _ hfl hz0 h1 h2 hpr'
              have hsz : arr'.size = len * ei.size := by
                have : ∀ (ps : List (Nat × Value)) (a b : Array Value), Instr.fill (fun i => some (i * ei.size, ei.size)) a ps = some b → b.size = a.size := by
                  intro ps
                  induction ps with
                  | nil => intro a b hh; simp only [Instr.fill] at hh; cases hh; rfl
                  | cons p ps ih =>
                    intro a b hh
                    obtain ⟨j, x⟩ := p
                    simp only [Instr.fill] at hh
                    split at hh
                    · cases hh
                    · rw [ih _ _ hh, ← Array.foldl_toList]
                      have := foldl_splice x.cells.toList 0 (j * ei.size) a
                      have h9 := congrArg List.length this
                      rw [spliceV_length, Array.length_toList, Array.length_toList] at h9
                      rw [Array.toList_zipIdx]
                      exact h9
                rw [this _ _ _ ha]; simp
              have hnew := hw.newcells (arr := arr') (T := e) (lo := 0) (hi := 0) (rest := []) (w' := { w with heap := w.heap.push (.cells arr' e) }) ⟨rfl, rfl, rfl⟩ rfl
                (by rw [List.append_nil]) hra (by intro i _; omega)
              refine ⟨_, _, _, run arr' ha, ?_, hnew.1, hnew.2⟩
              exact RV.rs _ _ _ _ _ _ w.heap.size 0 (by simp [Know.add]) (Nat.le_refl _) (.inr ⟨rfl, arr'.size, by simp only [Know.add, if_true], by rw [hsz]; omega⟩)
    · cases h
end
end Go.Am
end
noncomputable section
namespace Go.Am
open Go
section
variable {T : Tab} {P : Program} {K : Know} {s : AHeap} {w : World}
theorem aclear_sound (hT : T.Ok P) (hw : WR K s w) {t ty e : TypeId} (ht : P.underlying t = some (.slice e)) {x v : AV} {s' : AHeap} {a : Value} (h : aclear T e s x = some (v, s'))
    (hx : RV K x a) (q : Array TypeId) (hq : q[0]? = some t) :
    ∃ w' r, (Builtin.clear_ q ty #[a]).run P w = .ok r w' ∧ RV K v r ∧ WR K s' w' ∧ Ext K s w K s' w' := by
  unfold aclear at h
  cases hi : T.ty e with
  | none => simp [hi] at h
  | some i =>
    obtain ⟨inf, d, e1, e2, e3, e4, e5, e6, e8, e7⟩ := hT.ty e i hi
    simp only [hi] at h
    split at h
    · cases h
    · rename_i hraw
      have hz := (RV.ofV K i.zero).cells (AV.israw_false (by simpa using hraw))
      split at h
      · cases h
        cases hx
        refine ⟨w, _, ?_, .tuple _ _ .nil, hw, .refl _ _ _⟩
        simp [Builtin.clear_, hq, run_underlying ht]
      · rename_i sz bb off len
        split at h
        · cases h
          rename_i h0
          subst h0
          cases hx with
          | rs _ _ _ _ ad cap g base hg hcap ha =>
          refine ⟨w, _, ?_, .tuple _ _ .nil, hw, .refl _ _ _⟩
          simp [Builtin.clear_, hq, run_underlying ht]
        · rename_i hlen0
          cases hb : s.get bb with
          | none => simp [hb, AObj.cells?] at h
          | some o =>
            cases o <;> simp only [hb, AObj.cells?] at h <;> try (cases h; done)
            rename_i c To
            split at h
            · rename_i hcond
              obtain ⟨rfl, hle, hone⟩ := hcond
              cases h
              cases hx with
              | rs _ _ _ _ ad cap g base hg hcap ha =>
              obtain ⟨g', base', hg', hwo⟩ := hw.own bb _ hb
              rw [hg] at hg'; cases hg'
              obtain ⟨arr, TT, lo, hi_, pre, us, rest, h1, h0', h2, h3, h4, h5, h6⟩ := hwo
              have hl5 := h5.length
              have hsz : arr.size = pre.length + us.length + rest.length := by
                rw [← Array.length_toList, h3]; simp; omega
              have hzs : i.zero.cells.toList.length = i.size := by simpa using e8
              have hcont := hz.flatten_rep len
              have hcl : (List.replicate len i.zero.cells.toList).flatten.length = len * i.size := by
                simp [List.length_flatten, hzs]
              have harr : (Builtin.zeroCells i.zero.cells len).toList = (List.replicate len i.zero.cells.toList).flatten := by
                have := range_mod i.zero.cells i.size e8 len
                rw [← this]
                simp [Builtin.zeroCells, e8]
              have hone2 : ∀ x ∈ (List.replicate len i.zero.cells.toList).flatten, x.oneCell' = true := by
                intro x hx
                obtain ⟨l, hl, hxl⟩ := List.mem_flatten.1 hx
                rw [List.eq_of_mem_replicate hl] at hxl
                exact RVs.one hz hone x hxl
              obtain ⟨m, rfl⟩ : ∃ m, len = m + 1 := ⟨len - 1, by omega⟩
              have hrun0 : (Builtin.clear_ q ty #[.slice (some ad) (m + 1) cap]).run P w =
                  ((storeCells ad (List.replicate (m + 1) i.zero.cells.toList).flatten).run P w).andThen fun _ w' => .ok (.tuple #[]) w' := by
                rw [← harr]
                simp [Builtin.clear_, hq, run_underlying ht, zeroValue, typeInfo, e1, e6]
              rcases ha with h0 | ⟨rfl, N, hN, hNle⟩
              · omega
              · obtain ⟨w', arr', hrun, hlk, hs', ho', hg1, hsz1, hli⟩ := run_storeCells_sp (P := P) g (base + off) TT lo hi_ (List.replicate (m + 1) i.zero.cells.toList).flatten 0 arr w h1 h2
                  (by rw [hcl]; omega) hone2
                have hli2 : arr'.toList = pre ++ spliceV us off (List.replicate (m + 1) i.zero.cells.toList).flatten ++ rest := by
                  rw [hli, h3, Nat.add_zero, ← h4]
                  exact spliceV_append _ _ _ _ _ (by rw [hcl]; omega)
                have hturn := hw.turn (K' := K) (s' := s.upd bb (.cells (splice c off (List.replicate (m + 1) (AV.ofV i.zero).cells).flatten) To)) (w' := w') (b1 := bb) (base1 := base)
                  (o1 := .cells (splice c off (List.replicate (m + 1) (AV.ofV i.zero).cells).flatten) To) hb hg hlk hs' ho' (.refl K) rfl rfl
                  (fun x p e => by rw [AHeap.nx_upd]; exact hw.bnd x p.1 p.2 e) (fun _ _ => rfl)
                  (fun n e => by rw [h6] at e; cases e; exact ⟨arr', TT, _, hg1, hsz1⟩)
                  (by rw [AHeap.get_upd, if_pos rfl]) hg
                  ⟨arr', TT, lo, hi_, pre, _, rest, hg1, h0', by rw [hsz1]; exact h2, hli2, h4, RVs.splice' hcont h5, by rw [h6, hsz1]⟩
                  (fun y oy hy e => by rw [AHeap.get_upd, if_neg hy] at e; exact ⟨e, hy⟩) (by rw [AHeap.nx_upd]; exact Nat.le_refl _)
                refine ⟨w', _, by rw [hrun0, hrun]; rfl, .tuple _ _ .nil, hturn.1, hturn.2⟩
            · cases h
      · cases h
theorem wrap_small {n : Int} (h : -9223372036854775808 ≤ n ∧ n ≤ 9223372036854775807) : IntKind.i64.wrap n = n := by
  unfold IntKind.wrap
  simp [IntKind.bits, IntKind.signed]
  omega
theorem run_append_zeros (t u ty e : TypeId) (i : TypeInfo) (z : Value) (k kk : IntKind) (ht : P.underlying t = some (.slice e)) (hu : P.underlying u = some (.int k)) (hi : P.info? e = some i) (hz : i.zero = some z)
    (n : Nat) (hn0 : 0 < n) (hs : i.size ≠ 0) (hb : i.bytes ≠ 0) (hw : IntKind.i64.wrap (n : Int) = n) (h1 : (n : Int) * i.bytes ≤ 281474976710656) (hfit : Builtin.nextslicecap n 0 * i.bytes ≤ 281474976710656) :
    (Builtin.append_ #[t, u] ty #[.slice none 0 0, .int kk n]).run P w =
      .ok (.slice (some ⟨w.heap.size, 0, none⟩) n (grownCap w n 0 e)) (w.drew.alloc (.cells ((Builtin.zeroCells z.cells n).toList.toArray ++ Builtin.zeroCells z.cells (grownCap w n 0 e - n)) e)) := by
  have h1' : ¬ (281474976710656 < (n : Int) * i.bytes) := by omega
  have h48' : ¬ (281474976710656 < Builtin.nextslicecap n 0 * i.bytes) := by omega
  have hn' : ¬ (n = 0) := by omega
  have hns : ¬ (n = 0 ∨ i.size = 0) := by omega
  have hneg : ¬ ((n : Int) < 0) := by omega
  have hbb : 1 ≤ i.bytes := by omega
  have hle2 : n * 1 ≤ n * i.bytes := Nat.mul_le_mul_left n hbb
  have h63 : ¬ (9223372036854775807 < (n : Int)) := by
    have : (n : Int) * i.bytes = ((n * i.bytes : Nat) : Int) := by simp
    omega
  simp [Builtin.append_, run_underlying ht, run_underlying hu, sizeOf, typeInfo, zeroValue, hi, hz, hw, h1', h48', hn', hns, hneg, hs, h63, asInt, asIntOf, Question.forced, newRow, grownCap, hb, Builtin.firstCells]
  intro h0
  exact absurd (Nat.mul_eq_zero.1 h0) hns
theorem agrow_sound (hT : T.Ok P) (hw : WR K s w) {t u ty e : TypeId} {k : IntKind} (ht : P.underlying t = some (.slice e)) (hu : P.underlying u = some (.int k))
    {x y v : AV} {s' : AHeap} {a b : Value} (h : agrow T e s x y = some (v, s')) (hx : RV K x a) (hy : RV K y b) :
    ∃ K' w' r, (Builtin.append_ #[t, u] ty #[a, b]).run P w = .ok r w' ∧ RV K' v r ∧ WR K' s' w' ∧ Ext K s w K' s' w' := by
  unfold agrow at h
  cases hi : T.ty e with
  | none => simp [hi] at h
  | some i =>
    obtain ⟨inf, d, e1, e2, e3, e4, e5, e6, e8, e7⟩ := hT.ty e i hi
    simp only [hi] at h
    split at h
    · rename_i kk n
      cases hx
      cases hy
      split at h
      · cases h
      · rename_i hcond
        have hraw : ¬ (AV.ofV i.zero).israw = true := fun q => hcond (.inl q)
        have hz := (RV.ofV K i.zero).cells (AV.israw_false (by simpa using hraw))
        obtain ⟨m, rfl⟩ : ∃ m : Nat, n = m := ⟨n.toNat, by omega⟩
        rw [Int.toNat_natCast] at hcond h
        have hs0 : i.size ≠ 0 := by omega
        have hb0 : inf.bytes ≠ 0 := by rw [e5]; omega
        have hm1 : m ≤ m * i.bytes := Nat.le_mul_of_pos_right m (by omega)
        have hle : (2 * m + 512) * i.bytes ≤ 281474976710656 := by omega
        have hm2 : m * i.bytes ≤ (2 * m + 512) * i.bytes := Nat.mul_le_mul_right _ (by omega)
        have hwr : IntKind.i64.wrap (m : Int) = m := wrap_small (by omega)
        split at h
        · rename_i hn0
          obtain rfl : m = 0 := by omega
          cases h
          refine ⟨K, w, _, ?_, .nils, hw, .refl _ _ _⟩
          have hw0 : IntKind.i64.wrap 0 = 0 := by decide
          simp [Builtin.append_, run_underlying ht, run_underlying hu, sizeOf, typeInfo, e1, asInt, asIntOf, hw0]
        · rename_i hn0
          cases h
          have hfit : Builtin.nextslicecap m 0 * inf.bytes ≤ 281474976710656 := by rw [e5]; exact nats_le (nextslicecap_le m 0 (by omega)) hle
          have hrun := run_append_zeros (P := P) (w := w) t u ty e inf i.zero k kk ht hu e1 e6 m (by omega) (by rw [e4]; exact hs0) hb0 hwr (by rw [e5]; omega) hfit
          have harr : (Builtin.zeroCells i.zero.cells m).toList = (List.replicate m i.zero.cells.toList).flatten := by
            have := range_mod i.zero.cells i.size e8 m
            rw [← this]
            simp [Builtin.zeroCells, e8]
          rw [harr] at hrun
          have hzs : i.zero.cells.toList.length = i.size := by simpa using e8
          obtain ⟨K', g1, g2, g3⟩ := grown_sound (K := K) (e := e) (sz := i.size) (n := m) hw (z := i.zero.cells) e8 (hz.flatten_rep m) (by rw [(hz.flatten_rep m).length]; simp [List.length_flatten, hzs]) (grownCap_ge w m 0 e) (To := some e) (fun _ h => by cases h; rfl)
          exact ⟨K', _, _, hrun, g3, g1, g2⟩
    · cases h
end
end Go.Am
end
noncomputable section
namespace Go.Am
open Go Go.MapKept
section
variable {T : Tab} {P : Program} {K : Know} {s : AHeap} {w : World}
theorem akey_sound {td : TD} {d : TypeDesc} (hd : TDok td d) {x y : AV} {u v : Value} {b : Bool} (h : akey td x y = some b) (hx : RV K x u) (hy : RV K y v) :
    Instr.sameNow d u v = some b ∧ IsKey d u ∧ IsKey d v := by
  unfold akey at h
  split at h
  · cases d <;> first | exact hd.elim | skip
    have e1 := hx.int_inv; have e2 := hy.int_inv
    subst e1; subst e2
    cases hd
    split at h
    · rename_i hk; obtain ⟨rfl, rfl⟩ := hk; cases h
      refine ⟨by simp [Instr.sameNow], ?_, ?_⟩ <;> simp [IsKey]
    · cases h
  · cases d <;> first | exact hd.elim | skip
    obtain ⟨a, rfl, ha⟩ := hx.str_inv
    obtain ⟨c, rfl, hc⟩ := hy.str_inv
    cases h
    refine ⟨?_, by simp [IsKey], by simp [IsKey]⟩
    simp only [Instr.sameNow]
    rw [beq_toListBytes, ByteArray.toList_eq, ByteArray.toList_eq, ha, hc]
  · cases d <;> first | exact hd.elim | skip
    have e1 := hx.bool_inv; have e2 := hy.bool_inv
    subst e1; subst e2
    cases h
    refine ⟨by simp [Instr.sameNow], ?_, ?_⟩ <;> simp [IsKey]
  · cases h
theorem afind_sound {td : TD} {d : TypeDesc} (hd : TDok td d) {k : AV} {k' : Value} (hk : RV K k k') : ∀ (es : List (AV × AV × Nat)) (mes : List MapEntry) (i : Nat) (r : Option (Nat × AV × Nat)),
    afind td k es i = some r → RVs K (es.map (·.1)) (mes.map (·.key)) → RVs K (es.map (·.2.1)) (mes.map (·.val)) → es.map (·.2.2) = mes.map (·.born) →
    (r = none ∧ Instr.findNow d k' mes i = some none) ∨
    ∃ j v e b, r = some (i + j, v, b) ∧ mes[j]? = some e ∧ Instr.findNow d k' mes i = some (some (i + j, e.val)) ∧ RV K v e.val ∧ e.born = b ∧ e.key = k' ∧ IsKey d k'
  | [], [], i, r, h, _, _, _ => by cases h; exact .inl ⟨rfl, rfl⟩
  | [], _ :: _, _, _, _, h, _, _ => by cases h
  | _ :: _, [], _, _, _, h, _, _ => by cases h
  | (a, v, b) :: es, m :: mes, i, r, h, h1, h2, h3 => by
    simp only [List.map_cons] at h1 h2 h3
    cases h1 with
    | cons _ _ _ _ ha h1 =>
    cases h2 with
    | cons _ _ _ _ hv h2 =>
    simp only [List.cons.injEq] at h3
    simp only [afind] at h
    cases hb : akey td k a with
    | none => simp [hb] at h
    | some q =>
      obtain ⟨hs, hk1, hk2⟩ := akey_sound hd hb hk ha
      cases q with
      | true =>
        simp only [hb] at h
        cases h
        obtain ⟨q', hq', hiff⟩ := sameNow_of_keys hk1 hk2
        rw [hs] at hq'; cases hq'
        exact .inr ⟨0, v, m, b, rfl, rfl, by simp [Instr.findNow, hs], hv, h3.1.symm, (hiff.1 rfl).symm, hk1⟩
      | false =>
        simp only [hb] at h
        rcases afind_sound hd hk es mes (i + 1) r h h1 h2 h3.2 with ⟨e1, e2⟩ | ⟨j, v', e, b', e1, e2, e3, e4⟩
        · exact .inl ⟨e1, by simp [Instr.findNow, hs, e2]⟩
        · refine .inr ⟨j + 1, v', e, b', ?_, by simpa using e2, ?_, e4⟩
          · rw [e1, Nat.add_assoc, Nat.add_comm 1]
          · simp only [Instr.findNow, hs, e3]; rw [Nat.add_assoc, Nat.add_comm 1]
def TD.iskey : TD → Bool
  | .int _ | .str | .bool => true
  | _ => false
theorem checkKey_sound {td : TD} {d : TypeDesc} {kt : TypeId} (hd : TDok td d) (hu : P.underlying kt = some d) (hk : td.iskey = true) (k' : Value) (e : Bool) (n : Nat) :
    (Instr.checkKey e (n + 1) kt k').run P w = .ok () w := by
  unfold Instr.checkKey
  simp only [Sem.run_bind, run_underlying hu, Result.andThen_ok]
  cases td <;> cases d <;> first | exact hd.elim | (simp [TD.iskey] at hk; done) | (cases k' <;> rfl)
theorem afind_iskey {td : TD} {k : AV} : ∀ {es : List (AV × AV × Nat)} {i j : Nat} {v : AV} {b : Nat}, afind td k es i = some (some (j, v, b)) → td.iskey = true
  | [], i, j, v, b, h => by simp [afind] at h
  | (a, v', b') :: es, i, j, v, b, h => by
    simp only [afind] at h
    cases hb : akey td k a with
    | none => simp [hb] at h
    | some q =>
      unfold akey at hb
      split at hb <;> first | rfl | (cases hb; done)
theorem alookup_sound (hT : T.Ok P) (hw : WR K s w) {t : TypeId} {x k v : AV} {ok : Bool} {a b : Value} (h : alookup T t x k ok s = some v) (hx : RV K x a) (hk : RV K k b) :
    ∃ r, (Instr.lookup t a b ok).run P w = .ok r w ∧ RV K v r := by
  unfold alookup at h
  cases hi : T.ty t with
  | none => simp [hi] at h
  | some i =>
    obtain ⟨inf, d, e1, e2, e3, e4, e5, e6, e8, e7⟩ := hT.ty t i hi
    simp only [hi] at h
    split at h
    · rename_i kt et htd
      rw [htd] at e3
      cases d <;> first | exact e3.elim | skip
      obtain ⟨rfl, rfl⟩ := e3
      split at h
      · rename_i ki ei hki hei
        obtain ⟨kinf, kd, f1, f2, f3, f4, f5, f6, f8, f7⟩ := hT.ty _ _ hki
        obtain ⟨einf, ed, g1, g2, g3, g4, g5, g6, g8, g7⟩ := hT.ty _ _ hei
        have key : ∀ (es : List (AV × AV × Nat)) (mes : Array MapEntry), RVs K (es.map (·.1)) (mes.toList.map (·.key)) → RVs K (es.map (·.2.1)) (mes.toList.map (·.val)) → es.map (·.2.2) = mes.toList.map (·.born) →
            (match afind ki.td k es 0 with
              | some (some (_, v, _)) => some (if ok then AV.tuple [v, .bool true] else v)
              | some none => match ki.td with
                | .int _ | .str | .bool => some (if ok then .tuple [AV.ofV ei.zero, .bool false] else AV.ofV ei.zero)
                | _ => none
              | none => none) = some v →
            ∃ r, ((do
              Instr.checkKey mes.isEmpty 10000 kt b
              let (v, ok') ← match ← Instr.findKey kt b mes.toList with
                | some (_, v) => pure (v, true)
                | none => pure (← zeroValue et, false)
              pure (if ok then .tuple #[v, .bool ok'] else v) : Sem Value)).run P w = .ok r w ∧ RV K v r := by
          intro es mes r1 r2 r3 hh
          cases hf : afind ki.td k es 0 with
          | none => simp [hf] at hh
          | some q =>
            rcases afind_sound f3 hk es mes.toList 0 q hf r1 r2 r3 with ⟨rfl, hn⟩ | ⟨j, v', e, b', rfl, hm, hn, hv, _⟩
            · simp only [hf] at hh
              have hik : ki.td.iskey = true := by
                split at hh <;> first | (rename_i q; rw [q]; rfl) | (cases hh; done)
              have hh' : v = (if ok then .tuple [AV.ofV ei.zero, .bool false] else AV.ofV ei.zero) := by
                split at hh <;> first | (cases hh; rfl) | (cases hh; done)
              have hz : (zeroValue et).run P w = .ok ei.zero w := by simp [zeroValue, typeInfo, g1, g6]
              refine ⟨(if ok then .tuple #[ei.zero, .bool false] else ei.zero), ?_, ?_⟩
              · rw [Sem.run_bind, checkKey_sound f3 f2 hik, Result.andThen_ok, Sem.run_bind, run_findKey f2 hn, Result.andThen_ok]
                simp [hz]
              · rw [hh']
                cases ok
                · exact .ofV K _
                · exact .tuple _ _ (.cons _ _ _ _ (.ofV K _) (.cons _ _ _ _ (.bool _) .nil))
            · simp only [hf] at hh
              cases hh
              refine ⟨(if ok then .tuple #[e.val, .bool true] else e.val), ?_, ?_⟩
              · rw [Sem.run_bind, checkKey_sound f3 f2 (afind_iskey hf), Result.andThen_ok, Sem.run_bind, run_findKey f2 hn, Result.andThen_ok]
                rfl
              · cases ok
                · exact hv
                · exact .tuple _ _ (.cons _ _ _ _ hv (.cons _ _ _ _ (.bool _) .nil))
        cases x <;> simp only at h <;> try (cases h; done)
        · -- nil
          cases hx
          obtain ⟨r, hr, hv⟩ := key [] #[] .nil .nil rfl h
          refine ⟨r, ?_, hv⟩
          simp only [Instr.lookup, Sem.run_bind, run_underlying e2, Result.andThen_ok, Sem.run_pure] at hr ⊢
          exact hr
        · rename_i bb
          cases hx with
          | map _ g hg =>
          cases hb : s.get bb with
          | none => simp [hb, AObj.map?] at h
          | some o =>
            cases o <;> simp only [hb, AObj.map?, Option.map_none, Option.map_some] at h <;> try (cases h; done)
            rename_i es ck
            obtain ⟨g', base', hg', hwo⟩ := hw.own bb _ hb
            rw [hg] at hg'; cases hg'
            obtain ⟨_, mes, m1, m2, m3, m4⟩ := hwo
            obtain ⟨r, hr, hv⟩ := key es mes m2 m3 m4 h
            refine ⟨r, ?_, hv⟩
            simp only [Instr.lookup, Sem.run_bind, run_underlying e2, Result.andThen_ok, Sem.run_pure, run_getObj_map m1] at hr ⊢
            exact hr
      · cases h
    · cases h
theorem amapUpdate_sound (hT : T.Ok P) (hw : WR K s w) {t : TypeId} {x k v : AV} {s' : AHeap} {a b c : Value} (h : amapUpdate T t x k v s = some s') (hx : RV K x a) (hk : RV K k b) (hv : RV K v c) :
    ∃ w', (Instr.mapUpdate t a b c).run P w = .ok () w' ∧ WR K s' w' ∧ Ext K s w K s' w' := by
  unfold amapUpdate at h
  cases hi : T.ty t with
  | none => simp [hi] at h
  | some i =>
    obtain ⟨inf, d, e1, e2, e3, e4, e5, e6, e8, e7⟩ := hT.ty t i hi
    cases x <;> simp only [hi] at h <;> try (cases h; done)
    rename_i bb
    cases hx with
    | map _ g hg =>
    split at h
    · rename_i kt et htd
      rw [htd] at e3
      cases d <;> first | exact e3.elim | skip
      obtain ⟨rfl, rfl⟩ := e3
      split at h
      · rename_i ki es ck hki hes
        obtain ⟨kinf, kd, f1, f2, f3, f4, f5, f6, f8, f7⟩ := hT.ty _ _ hki
        cases hb : s.get bb with
        | none => simp [hb, AObj.map?] at hes
        | some o =>
          cases o <;> simp only [hb, AObj.map?, reduceCtorEq] at hes
          cases hes
          obtain ⟨g', base', hg', hwo⟩ := hw.own bb _ hb
          rw [hg] at hg'; cases hg'
          obtain ⟨_, mes, m1, m2, m3, m4⟩ := hwo
          have fin : ∀ (es2 : List (AV × AV × Nat)) (ck2 : Nat) (mes2 : Array MapEntry), RVs K (es2.map (·.1)) (mes2.toList.map (·.key)) → RVs K (es2.map (·.2.1)) (mes2.toList.map (·.val)) →
              es2.map (·.2.2) = mes2.toList.map (·.born) → WR K (s.upd bb (.map es2 ck2)) { w with heap := w.heap.setIfInBounds g (.map mes2 ck2) } ∧
              Ext K s w K (s.upd bb (.map es2 ck2)) { w with heap := w.heap.setIfInBounds g (.map mes2 ck2) } := by
            intro es2 ck2 mes2 q1 q2 q3
            obtain ⟨s1, s2⟩ := heap_set (o' := .map mes2 ck2) m1
            exact hw.turn (K' := K) (s' := s.upd bb (.map es2 ck2)) (w' := { w with heap := w.heap.setIfInBounds g (.map mes2 ck2) }) (b1 := bb) (base1 := 0) (o1 := .map es2 ck2) hb hg
              ⟨rfl, rfl, rfl⟩ (by simp) s2 (.refl K) rfl rfl (fun x p e => by rw [AHeap.nx_upd]; exact hw.bnd x p.1 p.2 e) (fun _ _ => rfl)
              (fun n e => by obtain ⟨arr, TT, fz, z1, _⟩ := hw.dim g n e; rw [m1] at z1; cases z1)
              (by rw [AHeap.get_upd, if_pos rfl]) hg ⟨rfl, mes2, s1, q1, q2, q3⟩
              (fun y oy hy e => by rw [AHeap.get_upd, if_neg hy] at e; exact ⟨e, hy⟩) (by rw [AHeap.nx_upd]; exact Nat.le_refl _)
          cases hf : afind ki.td k es 0 with
          | none => simp [hf] at h
          | some q =>
            rcases afind_sound f3 hk es mes.toList 0 q hf m2 m3 m4 with ⟨rfl, hn⟩ | ⟨j, v', e, b', rfl, hm, hn, hv', hborn, hkey, hik⟩
            · simp only [hf] at h
              have hik : ki.td.iskey = true := by
                split at h <;> first | (rename_i q; rw [q]; rfl) | (cases h; done)
              have hs' : s' = s.upd bb (.map (es ++ [(k, v, ck)]) (ck + 1)) := by
                split at h <;> first | (cases h; rfl) | (cases h; done)
              subst hs'
              have := fin (es ++ [(k, v, ck)]) (ck + 1) (mes.push { key := b, val := c, born := ck })
                (by simp only [List.map_append, Array.toList_push]; exact m2.append (.cons _ _ _ _ hk .nil))
                (by simp only [List.map_append, Array.toList_push]; exact m3.append (.cons _ _ _ _ hv .nil))
                (by simp only [List.map_append, Array.toList_push, m4]; rfl)
              refine ⟨_, ?_, this.1, this.2⟩
              simp only [Instr.mapUpdate, Sem.run_bind, run_underlying e2, Result.andThen_ok, run_getObj_map m1, checkKey_sound f3 f2 hik, run_findKey f2 hn, run_setObj_map _ m1]
            · simp only [hf] at h
              cases h
              simp only [Nat.zero_add] at hn ⊢
              have hjm : mes[j]? = some e := by simpa using hm
              have hjl : j < mes.toList.length := (List.getElem?_eq_some_iff.1 hm).1
              have hmod : (mes.modify j fun e => { e with key := b, val := c }).toList = mes.toList.set j { key := b, val := c, born := e.born } := by
                apply List.ext_getElem?
                intro q
                simp only [Array.getElem?_toList, Array.getElem?_modify, List.getElem?_set]
                by_cases hq : j = q
                · subst hq
                  have hjs : j < mes.size := by simpa using hjl
                  have hje : mes[j] = e := by rw [Array.getElem?_eq_getElem hjs] at hjm; exact Option.some.inj hjm
                  simp [hjs, hje]
                · simp [hq]
              have := fin (es.set j (k, v, b')) ck (mes.modify j fun e => { e with key := b, val := c })
                (by rw [hmod, List.map_set, List.map_set]; exact m2.set hk)
                (by rw [hmod, List.map_set, List.map_set]; exact m3.set hv)
                (by rw [hmod, List.map_set, List.map_set, m4, hborn])
              refine ⟨_, ?_, this.1, this.2⟩
              have hkts : (Instr.keyThatStays (((mes[j]?).map (·.key)).getD b) b).run P w = .ok b w := by
                rw [hjm]
                simp only [Option.map_some, Option.getD_some, hkey]
                exact run_keyThatStays hik
              simp only [Instr.mapUpdate, Sem.run_bind, run_underlying e2, Result.andThen_ok, run_getObj_map m1, checkKey_sound f3 f2 (afind_iskey hf), run_findKey f2 hn, hkts, run_setObj_map _ m1]
      · cases h
    · cases h
end
end Go.Am
end
noncomputable section
namespace Go.Am
open Go
theorem abytes_sound {K : Know} : ∀ {cs : List AV} {us : List Value} {l : List UInt8}, abytes cs = some l → RVs K cs us →
    ∃ ns : List Int, us = ns.map (Value.int .u8) ∧ l = ns.map fun n => UInt8.ofNat n.toNat
  | [], us, l, h, hr => by cases hr; cases h; exact ⟨[], rfl, rfl⟩
  | x :: cs, us, l, h, hr => by
    cases hr with
    | cons _ u _ us hx hs =>
    cases x with
    | int k n =>
      cases k with
      | u8 =>
        simp only [abytes] at h
        cases hb : abytes cs with
        | none => simp [hb] at h
        | some l' =>
          simp only [hb, Option.map_some] at h
          cases h
          obtain ⟨ns, rfl, rfl⟩ := abytes_sound hb hs
          have := hx.int_inv
          subst this
          exact ⟨n :: ns, rfl, rfl⟩
      | _ => simp [abytes] at h
    | _ => simp [abytes] at h
section
variable {T : Tab} {P : Program} {K : Know} {s : AHeap} {w : World}
def OpSound (P : Program) (K : Know) (s : AHeap) (w : World) (n : Sem Next) (v : AV) (s' : AHeap) : Prop :=
  ∃ K' w' nx u, n.run P w = .ok nx w' ∧ (nx = .value u ∨ (nx = .skip ∧ u = undef)) ∧ RV K' v u ∧ WR K' s' w' ∧ Ext K s w K' s' w'
theorem OpSound.value {m : Sem Value} {v : AV} {s' : AHeap} (h : ∃ K' w' r, m.run P w = .ok r w' ∧ RV K' v r ∧ WR K' s' w' ∧ Ext K s w K' s' w') :
    OpSound P K s w (do pure (Next.value (← m))) v s' := by
  obtain ⟨K', w', r, h1, h2, h3, h4⟩ := h
  exact ⟨K', w', .value r, r, by simp [h1], .inl rfl, h2, h3, h4⟩
theorem OpSound.still {m : Sem Value} {v : AV} (hw : WR K s w) (h : ∃ r, m.run P w = .ok r w ∧ RV K v r) : OpSound P K s w (do pure (Next.value (← m))) v s := by
  obtain ⟨r, h1, h2⟩ := h
  exact .value ⟨K, w, r, h1, h2, hw, .refl _ _ _⟩
theorem OpSound.skip {m : Sem Unit} {s' : AHeap} (h : ∃ w', m.run P w = .ok () w' ∧ WR K s' w' ∧ Ext K s w K s' w') :
    OpSound P K s w (do m; pure Next.skip) aundef s' := by
  obtain ⟨w', h1, h3, h4⟩ := h
  exact ⟨K, w', .skip, undef, by simp [h1], .inr ⟨rfl, rfl⟩, .undef, h3, h4⟩
theorem amem_sound (hT : T.Ok P) (hw : WR K s w) {cf : Cfg} {ev : Operand → AV} {ρ : Operand → Value} (hev : ∀ x, RV K (ev x) (ρ x)) {o : Oper} {v : AV} {s' : AHeap}
    (h : amem T cf ev o s = some (v, s')) : OpSound P K s w (execOp ρ o) v s' := by
  obtain ⟨dst, op, ty, pos, after, guard⟩ := o
  cases op <;> simp only [amem] at h <;> try (cases h; done)
  case alloc e =>
    simp only [execOp]
    cases hi : T.ty e with
    | none => simp [hi] at h
    | some i =>
      obtain ⟨inf, d, e1, e2, e3, e4, e5, e6, e8, e7⟩ := hT.ty e i hi
      simp only [hi] at h
      split at h
      · cases h
      · rename_i hraw
        cases h
        obtain ⟨K', w', h1, h2, h3, h4⟩ := newVar_sound (P := P) hw e (RV.ofV K i.zero) (by simpa using hraw)
        refine .value ⟨K', w', _, ?_, .ptr _ _ _ _ h4, h2, h3⟩
        simp [Instr.alloc, zeroValue, typeInfo, e1, e6, h1]
  case box e x =>
    simp only [execOp]
    split at h
    · cases h
    · rename_i hraw
      have hraw' : (ev x).israw = false := by simpa using hraw
      split at h
      · cases h
        obtain ⟨K', w', h1, h2, h3, h4⟩ := newVar_frozen (P := P) hw e (hev x) hraw'
        exact .value ⟨K', w', _, by simp [Instr.box, h1], h4, h2, h3⟩
      · cases h
        obtain ⟨K', w', h1, h2, h3, h4⟩ := newVar_sound (P := P) hw e (hev x) hraw'
        exact .value ⟨K', w', _, by simp [Instr.box, h1], .ptr _ _ _ _ h4, h2, h3⟩
  case buildSlice t len parts =>
    simp only [execOp]
    refine .value (abuildSlice_sound hT hw h ?_ ?_)
    · simp
    · have := RVs.map_parts (K := K) hev parts.toList
      simpa using this
  case load t x =>
    simp only [execOp]
    cases hl : aload T t (ev x) s with
    | none => simp [hl] at h
    | some r =>
      simp only [hl, Option.map_some] at h
      cases h
      exact .still hw (aload_sound hT hw hl (hev x))
  case store t x y =>
    simp only [execOp]
    cases hl : astore T t (ev x) (ev y) s with
    | none => simp [hl] at h
    | some r =>
      simp only [hl, Option.map_some] at h
      cases h
      exact .skip (astore_sound hT hw hl (hev x) (hev y))
  case makeSlice t l c =>
    simp only [execOp]
    exact .value (amakeSlice_sound hT hw h (hev l) (hev c))
  case range t x =>
    simp only [execOp]
    have hx := hev x
    cases hi : T.ty t with
    | none => simp [hi] at h
    | some i =>
      obtain ⟨inf, d, e1, e2, e3, e4, e5, e6, e8, e7⟩ := hT.ty _ _ hi
      simp only [hi] at h
      split at h
      · rename_i kt et htd hnil
        rw [htd] at e3
        cases d <;> first | exact e3.elim | skip
        cases h
        rw [hnil] at hx
        generalize hu : ρ x = u at hx
        cases hx
        obtain ⟨h1, h2⟩ := hw.newblk (ob := .mapIter none 0 #[] 0) (o := .miter none) (d := none) (w' := { w with heap := w.heap.push (.mapIter none 0 #[] 0) }) ⟨rfl, rfl, rfl⟩ rfl
          ⟨rfl, none, 0, 0, by simp, fun _ => rfl, fun b e => by cases e⟩ (fun n e => by cases e)
        refine .value ⟨_, { w with heap := w.heap.push (.mapIter none 0 #[] 0) }, .pointer (some ⟨w.heap.size, 0, none⟩), ?_, .ptr _ _ w.heap.size 0 (by simp [Know.add]), h1, h2⟩
        simp [Instr.range, run_underlying e2, newObj, Sem.run]
      · rename_i kt et b htd hb
        rw [htd] at e3
        cases d <;> first | exact e3.elim | skip
        rw [hb] at hx
        generalize hu : ρ x = u at hx
        cases hx with
        | map _ g hg =>
        cases hbb : s.get b with
        | none => simp [hbb, AObj.map?] at h
        | some ob =>
          cases ob <;> simp only [hbb, AObj.map?] at h <;> try (cases h; done)
          rename_i es ck
          cases h
          obtain ⟨g', base', hg', hwo⟩ := hw.own b _ hbb
          rw [hg] at hg'; cases hg'
          obtain ⟨_, mes, m1, m2, m3, m4⟩ := hwo
          obtain ⟨h1, h2⟩ := hw.newblk (ob := .mapIter (some g) ck #[] ck) (o := .miter (some b)) (d := none) (w' := { w with heap := w.heap.push (.mapIter (some g) ck #[] ck) }) ⟨rfl, rfl, rfl⟩ rfl
            ⟨rfl, some g, ck, ck, by simp, (fun e => by cases e), (fun b' e => by cases e; exact ⟨g, (hw.add_le _).phi _ _ hg, rfl⟩)⟩ (fun n e => by cases e)
          refine .value ⟨_, { w with heap := w.heap.push (.mapIter (some g) ck #[] ck) }, .pointer (some ⟨w.heap.size, 0, none⟩), ?_, .ptr _ _ w.heap.size 0 (by simp [Know.add]), h1, h2⟩
          simp [Instr.range, run_underlying e2, newObj, getObj, Sem.run, m1]
      · cases h
  case next it isStr =>
    simp only [execOp]
    have hx := hev it
    cases isStr <;> simp only at h <;> try (cases h; done)
    split at h
    · rename_i b hb
      rw [hb] at hx
      generalize hu : ρ it = u at hx
      cases hx with
      | ptr _ _ g base hg =>
      split at h
      · rename_i hbb
        cases h
        obtain ⟨g', base', hg', hwo⟩ := hw.own b _ hbb
        rw [hg] at hg'; cases hg'
        obtain ⟨rfl, m', a, c, q1, q2, q3⟩ := hwo
        obtain rfl := q2 rfl
        refine .still hw ⟨.tuple #[.bool false], ?_, .tuple _ _ (.cons _ _ _ _ (.bool false) .nil)⟩
        simp [Instr.next, getObj, Sem.run, q1]
      · rename_i m hbb
        split at h
        · rename_i ck hm
          cases h
          obtain ⟨g', base', hg', hwo⟩ := hw.own b _ hbb
          rw [hg] at hg'; cases hg'
          obtain ⟨rfl, m', a, c, q1, q2, q3⟩ := hwo
          obtain ⟨gm, q4, rfl⟩ := q3 m rfl
          cases hmm : s.get m with
          | none => simp [hmm, AObj.map?] at hm
          | some ob =>
            cases ob <;> simp only [hmm, AObj.map?, Option.some.injEq, Prod.mk.injEq, reduceCtorEq] at hm
            obtain ⟨rfl, rfl⟩ := hm
            obtain ⟨g2, base2, hg2, hwo2⟩ := hw.own m _ hmm
            rw [q4] at hg2; cases hg2
            obtain ⟨_, mes, m1, m2, m3, m4⟩ := hwo2
            have hmes : mes = #[] := by
              have := m2.length
              simp only [List.map_nil, List.length_nil, List.length_map] at this
              exact Array.eq_empty_of_size_eq_zero this.symm
            subst hmes
            refine .still hw ⟨.tuple #[.bool false], ?_, .tuple _ _ (.cons _ _ _ _ (.bool false) .nil)⟩
            simp [Instr.next, getObj, Sem.run, q1, m1, choose, Question.forced]
        · cases h
      · cases h
    · cases h
  case makeMap t r =>
    simp only [execOp]
    have fin : (v, s') = (.map s.nx, s.new (.map [] 0)) → ∀ m : Sem Value, m.run P w = .ok (.map (some w.heap.size)) { w with heap := w.heap.push (.map #[] 0) } →
        OpSound P K s w (do pure (Next.value (← m))) v s' := by
      intro e m hm
      cases e
      obtain ⟨h1, h2⟩ := hw.newblk (ob := .map #[] 0) (o := .map [] 0) (d := none) (w' := { w with heap := w.heap.push (.map #[] 0) }) ⟨rfl, rfl, rfl⟩ rfl
        ⟨rfl, #[], by simp, .nil, .nil, rfl⟩ (fun n e => by cases e)
      exact .value ⟨_, _, _, hm, .map _ _ (by simp [Know.add]), h1, h2⟩
    cases r with
    | none =>
      simp only [Option.map_none, Option.some.injEq] at h
      refine fin h.symm _ ?_
      simp [Instr.makeMap]
    | some r =>
      simp only [Option.map_some] at h
      cases hr : ev r <;> simp only [hr] at h <;> try (cases h; done)
      have := hev r
      rw [hr] at this
      have hint := this.int_inv
      cases hi : T.ty t with
      | none => simp [hi] at h
      | some i =>
        obtain ⟨inf, d, e1, e2, e3, e4, e5, e6, e8, e7⟩ := hT.ty _ _ hi
        simp only [hi] at h
        split at h
        · rename_i kt et htd
          rw [htd] at e3
          cases d <;> first | exact e3.elim | skip
          simp only [Option.some.injEq] at h
          refine fin h.symm _ ?_
          simp [Instr.makeMap, run_underlying e2, hint, asInt, asIntOf]
        · cases h
  case lookup t x k ok =>
    simp only [execOp]
    cases hl : alookup T t (ev x) (ev k) ok s with
    | none => simp [hl] at h
    | some r =>
      simp only [hl, Option.map_some] at h
      cases h
      exact .still hw (alookup_sound hT hw hl (hev x) (hev k))
  case mapUpdate t x k y =>
    simp only [execOp]
    cases hl : amapUpdate T t (ev x) (ev k) (ev y) s with
    | none => simp [hl] at h
    | some r =>
      simp only [hl, Option.map_some] at h
      cases h
      exact .skip (amapUpdate_sound hT hw hl (hev x) (hev k) (hev y))
  case insert t x k y =>
    simp only [execOp]
    cases hl : amapUpdate T t (ev x) (ev k) (ev y) s with
    | none => simp [hl] at h
    | some r =>
      simp only [hl, Option.map_some] at h
      cases h
      exact .skip (amapUpdate_sound hT hw hl (hev x) (hev k) (hev y))
  case convert src dst' x =>
    simp only [execOp]
    split at h
    · rename_i i j hi hj
      obtain ⟨inf, d, e1, e2, e3, e4, e5, e6, e8, e7⟩ := hT.ty _ _ hi
      obtain ⟨inf', d', g1, g2, g3, g4, g5, g6, g8, g7⟩ := hT.ty _ _ hj
      split at h
      · rename_i e l htd htd' hx
        rw [htd] at e3; rw [htd'] at g3
        cases d <;> first | exact e3.elim | skip
        cases d' <;> first | exact g3.elim | skip
        cases g3
        cases hie : T.ty e with
        | none => simp [hie] at h
        | some ei =>
          obtain ⟨einf, ed, f1, f2, f3, f4, f5, f6, f8, f7⟩ := hT.ty _ _ hie
          simp only [hie] at h
          split at h
          · rename_i hetd
            rw [hetd] at f3
            cases ed <;> first | exact f3.elim | skip
            cases f3
            cases h
            have hxv := hev x
            rw [hx] at hxv
            obtain ⟨str, hs, hsl⟩ := hxv.str_inv
            have hsz := size_of_data hsl
            have hrun := run_bytes_of_string (P := P) w src dst' e str e2 g2 f2
            have hnew := hw.newcells (arr := bytesRow str (grownCap w str.size 0 e)) (T := e) (lo := (bytesRow str (grownCap w str.size 0 e)).size) (hi := (bytesRow str (grownCap w str.size 0 e)).size + 1)
              (c := l.map fun b => .int .u8 b.toNat) (us := l.map fun b => .int .u8 b.toNat) (rest := List.replicate (grownCap w str.size 0 e - str.size) (.int .u8 0))
              (w' := w.drew.alloc (.cells (bytesRow str (grownCap w str.size 0 e)) e ((bytesRow str (grownCap w str.size 0 e)).size, (bytesRow str (grownCap w str.size 0 e)).size + 1)))
              ⟨rfl, rfl, rfl⟩ rfl (by subst hsl; simp [bytesRow]) (by clear hxv hsl hx hsz; induction l with | nil => exact .nil | cons b l ih => exact .cons _ _ _ _ (.int _ _) ih)
              (by intro i hi; omega)
            refine .value ⟨_, _, _, by rw [hs]; exact hrun, ?_, hnew.1, hnew.2⟩
            rw [← hsz]
            refine RV.rs _ _ _ _ _ _ w.heap.size 0 (by simp [Know.add]) (grownCap_ge w str.size 0 e) (.inr ⟨rfl, (bytesRow str (grownCap w str.size 0 e)).size, by simp only [Know.add, if_true], ?_⟩)
            have := grownCap_ge w str.size 0 e
            simp only [bytesRow, Array.size_append, Array.size_map, Array.size_replicate]
            have hd : str.data.size = str.size := rfl
            omega
          · cases h
      · rename_i x' e htd htd'
        rw [htd] at e3; rw [htd'] at g3
        cases d <;> first | exact e3.elim | skip
        cases d' <;> first | exact g3.elim | skip
        cases e3
        cases hie : T.ty e with
        | none => simp [hie] at h
        | some ei =>
          obtain ⟨einf, ed, f1, f2, f3, f4, f5, f6, f8, f7⟩ := hT.ty _ _ hie
          simp only [hie] at h
          split at h
          · rename_i hetd
            rw [hetd] at f3
            cases ed <;> first | exact f3.elim | skip
            cases f3
            split at h
            · cases h
            · rename_i hns
              cases hc : acellsOf s 1 (ev x) with
              | none => simp [hc] at h
              | some p =>
                obtain ⟨cs, n⟩ := p
                simp only [hc] at h
                cases hb : abytes cs with
                | none => simp [hb] at h
                | some l =>
                  simp only [hb, Option.map_some] at h
                  cases h
                  have hxv := hev x
                  obtain ⟨news, r1, r2, r3, r4⟩ := acellsOf_sound (P := P) hw hc hxv
                  obtain ⟨ns, hns1, hns2⟩ := abytes_sound hb r1
                  refine .still hw ?_
                  cases hu : ρ x with
                  | slice a len cap =>
                    have hr := run_convert_bytes_string (P := P) w src dst' e a len cap e2 f2 g2
                    rw [hr]
                    rw [hu] at r2 r4
                    have hlen : len = n := by
                      have := congrArg (fun q : Sem Nat => q.run P w) r2
                      simpa [Builtin.lenOf] using this
                    subst hlen
                    cases a with
                    | none =>
                      refine ⟨.string .empty, by simp [Conv.bytesToString], .str _ _ ?_⟩
                      rw [hu] at hxv
                      have hnl : news = [] := by
                        generalize hevx : ev x = y at hxv hc
                        cases hxv
                        · simp [acellsOf] at hc
                          have := r1.length
                          rw [hc] at this
                          exact List.eq_nil_of_length_eq_zero this.symm
                        all_goals simp [acellsOf] at hc
                      rw [hnl] at hns1
                      have : ns = [] := by cases ns with | nil => rfl | cons _ _ => simp at hns1
                      subst this
                      rw [hns2]; rfl
                    | some ad =>
                      have h4 := r4 w len rfl (Nat.le_refl _)
                      simp only [Builtin.firstCells, Nat.mul_one] at h4
                      have hl : news.length = len := by rw [← r1.length, r3, Nat.mul_one]
                      rw [List.take_of_length_le (by omega), hns1] at h4
                      refine ⟨_, run_bytesToString w ad len cap ns h4, .str _ _ ?_⟩
                      rw [foldl_push_bytes, hns2]
                      have he0 : ByteArray.empty.data = #[] := rfl
                      rw [he0]
                      simp
                  | _ =>
                    exfalso
                    rw [hu] at hxv
                    generalize hevx : ev x = y at hxv hc hns
                    cases hxv <;> first | (simp [acellsOf] at hc; done) | (exact hns _ rfl)
          · cases h
      · cases h
    · cases h
  case call c =>
    obtain ⟨callee, args, argTypes⟩ := c
    obtain ⟨args⟩ := args
    simp only at h
    split at h
    · rename_i x y
      split at h
      · rename_i t u ht hu
        split at h
        · rename_i i j hi hj
          obtain ⟨inf, d, e1, e2, e3, e4, e5, e6, e8, e7⟩ := hT.ty _ _ hi
          obtain ⟨inf', d', g1, g2, g3, g4, g5, g6, g8, g7⟩ := hT.ty _ _ hj
          have fin : ∀ e, d = .slice e → (∀ k, d' ≠ .int k) → aappend T e s (ev x) (ev y) = some (v, s') →
              OpSound P K s w (execOp ρ { dst := dst, op := .call { callee := .builtin .append, args := ⟨[x, y]⟩, argTypes := argTypes }, type := ty, pos := pos, after := after, guard := guard }) v s' := by
            intro e hd hd' ha
            subst hd
            obtain ⟨K', w', r, q1, q2, q3, q4⟩ := aappend_sound (ty := ty) hT hw e2 g2 hd' ha (hev x) (hev y)
            refine ⟨K', w', .value r, r, ?_, .inl rfl, q2, q3, q4⟩
            have q1' : (Builtin.append_ argTypes ty #[ρ x, ρ y]).run P w = .ok r w' := by
              unfold Builtin.append_ at q1 ⊢
              simp only [ht, hu, List.getElem?_toArray, List.getElem?_cons_zero, List.getElem?_cons_succ] at q1 ⊢
              exact q1
            simp [execOp, resolve, invoke, builtin, q1']
          split at h
          · rename_i e e' htd htd'
            rw [htd] at e3; rw [htd'] at g3
            cases d <;> first | exact e3.elim | skip
            cases d' <;> first | exact g3.elim | skip
            cases e3
            exact fin e rfl (by intro k q; cases q) h
          · rename_i e htd htd'
            rw [htd] at e3; rw [htd'] at g3
            cases d <;> first | exact e3.elim | skip
            cases d' <;> first | exact g3.elim | skip
            cases e3
            exact fin e rfl (by intro k q; cases q) h
          · rename_i e k htd htd'
            rw [htd] at e3; rw [htd'] at g3
            cases d <;> first | exact e3.elim | skip
            cases d' <;> first | exact g3.elim | skip
            cases e3
            cases g3
            obtain ⟨K', w', r, q1, q2, q3, q4⟩ := agrow_sound (ty := ty) hT hw e2 g2 h (hev x) (hev y)
            refine ⟨K', w', .value r, r, ?_, .inl rfl, q2, q3, q4⟩
            have q1' : (Builtin.append_ argTypes ty #[ρ x, ρ y]).run P w = .ok r w' := by
              unfold Builtin.append_ at q1 ⊢
              simp only [ht, hu, List.getElem?_toArray, List.getElem?_cons_zero, List.getElem?_cons_succ] at q1 ⊢
              exact q1
            simp [execOp, resolve, invoke, builtin, q1']
          · cases h
        · cases h
      · cases h
    · rename_i x y
      split at h
      · rename_i t ht
        split at h
        · rename_i i hi
          obtain ⟨inf, d, e1, e2, e3, e4, e5, e6, e8, e7⟩ := hT.ty _ _ hi
          split at h
          · rename_i e htd
            rw [htd] at e3
            cases d <;> first | exact e3.elim | skip
            cases e3
            obtain ⟨w', r, q1, q2, q3, q4⟩ := acopy_sound (ty := ty) hT hw e2 h (hev x) (hev y) argTypes ht (u := t)
            exact ⟨K, w', .value r, r, by simp [execOp, resolve, invoke, builtin, q1], .inl rfl, q2, q3, q4⟩
          · cases h
        · cases h
      · cases h
    · rename_i x
      split at h
      · rename_i b hx
        split at h
        · rename_i es ck t hes ht
          split at h
          · rename_i i hi
            obtain ⟨inf, d, e1, e2, e3, e4, e5, e6, e8, e7⟩ := hT.ty _ _ hi
            split at h
            · rename_i kt et htd
              rw [htd] at e3
              cases d <;> first | exact e3.elim | skip
              cases h
              have hxv := hev x
              rw [hx] at hxv
              cases hb : s.get b with
              | none => simp [hb, AObj.map?] at hes
              | some o =>
                cases o <;> simp only [hb, AObj.map?, reduceCtorEq] at hes
                cases hes
                generalize hu : ρ x = u at hxv
                cases hxv with
                | map _ g hg =>
                obtain ⟨g', base', hg', hwo⟩ := hw.own b _ hb
                rw [hg] at hg'; cases hg'
                obtain ⟨_, mes, m1, m2, m3, m4⟩ := hwo
                have hl : es.length = mes.size := by have := m2.length; simpa using this
                refine ⟨K, w, .value (.int .i64 es.length), .int .i64 es.length, ?_, .inl rfl, .int _ _, hw, .refl _ _ _⟩
                have : (Builtin.len_ argTypes ty #[.map (some g)]).run P w = .ok (.int .i64 es.length) w := by
                  simp [Builtin.len_, ht, run_underlying e2, getObj, Sem.run, m1, goInt, hl]
                simp [execOp, resolve, invoke, builtin, hu, this]
            · cases h
          · cases h
        · cases h
      · cases h
    · rename_i x
      split at h
      · rename_i t ht
        split at h
        · rename_i i hi
          obtain ⟨inf, d, e1, e2, e3, e4, e5, e6, e8, e7⟩ := hT.ty _ _ hi
          split at h
          · rename_i e htd
            rw [htd] at e3
            cases d <;> first | exact e3.elim | skip
            cases e3
            obtain ⟨w', r, q1, q2, q3, q4⟩ := aclear_sound (ty := ty) hT hw e2 h (hev x) argTypes ht (t := t)
            exact ⟨K, w', .value r, r, by simp [execOp, resolve, invoke, builtin, q1], .inl rfl, q2, q3, q4⟩
          · cases h
        · cases h
      · cases h
    · cases h
theorem aop_sound (hT : T.Ok P) (hw : WR K s w) {cf : Cfg} {ev : Operand → AV} {ρ : Operand → Value} (hev : ∀ x, RV K (ev x) (ρ x)) {o : Oper} {v : AV} {s' : AHeap}
    (h : aop T cf ev o s = some (v, s')) : OpSound P K s w (execOp ρ o) v s' := by
  unfold aop at h
  cases hp : apure T ev o.op with
  | some r =>
    simp only [hp] at h
    cases h
    obtain ⟨u, h1, h2⟩ := apure_sound (w := w) hT hev hp
    exact ⟨K, w, _, u, h1, .inl rfl, h2, hw, .refl _ _ _⟩
  | none =>
    simp only [hp] at h
    exact amem_sound hT hw hev h
end
end Go.Am
end
noncomputable section
namespace Go.Am
open Go
def RA (K : Know) (tm : List AV) (act : Act) : Prop := RVs K tm act.tmps.toList ∧ act.defers = [] ∧ GlobK K
theorem RA.mono {K K' : Know} (hk : K.le K') {tm : List AV} {act : Act} (h : RA K tm act) : RA K' tm act := ⟨h.1.mono hk, h.2.1, h.2.2.mono hk⟩
theorem RVs.getD {K : Know} {xs : List AV} {us : List Value} (h : RVs K xs us) (i : Nat) : RV K (xs.getD i aundef) (us.getD i undef) := by
  rw [List.getD_eq_getElem?_getD, List.getD_eq_getElem?_getD]
  cases hx : xs[i]? with
  | none =>
    have : us[i]? = none := by
      rw [List.getElem?_eq_none_iff] at hx ⊢
      rw [← h.length]; exact hx
    rw [this]; exact .undef
  | some x =>
    obtain ⟨u, hu, hr⟩ := h.get hx
    rw [hu]; exact hr
theorem RVs.intsK {K : Know} (k : IntKind) : ∀ z : List Int, RVs K (z.map (AV.int k)) (z.map (Value.int k))
  | [] => .nil
  | n :: z => .cons _ _ _ _ (.int k n) (RVs.intsK k z)
theorem RA.eval {K : Know} {tm : List AV} {act : Act} (h : RA K tm act) (x : Operand) : RV K (aev tm x) (act.eval x) := by
  cases x with
  | tmp t =>
    simp only [aev, Act.eval]
    have := h.1.getD t
    have e : act.tmps.getD t undef = act.tmps.toList.getD t undef := by
      rw [List.getD_eq_getElem?_getD, Array.getElem?_toList, Array.getD_eq_getD_getElem?]
    rw [e]; exact this
  | const v => exact .ofV K v
  | global g =>
    simp only [aev]
    split
    · rename_i l hl
      obtain ⟨k, z, rfl⟩ := globAt_ints hl
      refine .rptr _ g 0 (z.map (Value.int k)) (RVs.intsK k z) ?_
      intro i u hu
      rw [List.getElem?_map] at hu
      obtain ⟨n, hn, rfl⟩ := Option.map_eq_some_iff.1 hu
      rw [Nat.zero_add]
      exact (h.2.2 g _ hl).1 i k n (by rw [List.getElem?_map, hn]; rfl)
    · exact .raw _
  | func f => exact .func _ _ _ _ _ .nil .nil
def aput (tm : List AV) (dst : Option Tmp) (v : AV) : List AV :=
  match dst with
  | some d => tm.set d v
  | none => tm
theorem RA.put {K : Know} {tm : List AV} {act : Act} (h : RA K tm act) {v : AV} {u : Value} (hv : RV K v u) (dst : Option Tmp) : RA K (aput tm dst v) (act.put dst u) := by
  cases dst with
  | none => exact h
  | some d =>
    refine ⟨?_, h.2⟩
    simp only [aput, Act.put, Array.toList_setIfInBounds]
    exact h.1.set hv
abbrev APost := Exit → List AV → AHeap → Prop
def lift (K : Know) (s : AHeap) (w : World) (Q : APost) : Exit → Act → World → Prop := fun e act' w' =>
  ∃ K' tm' s', WR K' s' w' ∧ RA K' tm' act' ∧ Ext K s w K' s' w' ∧ Q e tm' s'
theorem lift_ext {K K1 : Know} {s s1 : AHeap} {w w1 : World} (h : Ext K s w K1 s1 w1) {Q : APost} {e : Exit} {a : Act} {w2 : World} (hl : lift K1 s1 w1 Q e a w2) : lift K s w Q e a w2 := by
  obtain ⟨K', tm', s', h1, h2, h3, h4⟩ := hl
  exact ⟨K', tm', s', h1, h2, h.trans h3, h4⟩
def awp (P : Program) (c : Code) (Q : APost) (tm : List AV) (s : AHeap) : Prop :=
  ∀ K w act, WR K s w → RA K tm act → c.wp P (lift K s w Q) act w
def athen (next : List AV → AHeap → Prop) (Q : APost) : APost
  | .normal, tm, s => next tm s
  | e, tm, s => Q e tm s
section
variable {P : Program} {Q : APost} {tm : List AV} {s : AHeap}
theorem awp_mono {c : Code} {Q' : APost} (h : awp P c Q tm s) (hq : ∀ e tm s, Q e tm s → Q' e tm s) : awp P c Q' tm s :=
  fun K w act hw ha => wp_mono (h K w act hw ha) fun e a w' ⟨K', tm', s', h1, h2, h3, h4⟩ => ⟨K', tm', s', h1, h2, h3, hq _ _ _ h4⟩
theorem lift_here {K : Know} {w : World} {act : Act} (hw : WR K s w) (ha : RA K tm act) {e : Exit} (h : Q e tm s) : lift K s w Q e act w :=
  ⟨K, tm, s, hw, ha, .refl _ _ _, h⟩
theorem awp_skip (h : Q .normal tm s) : awp P .skip Q tm s := fun K w act hw ha => wp_skip (lift_here hw ha h)
theorem awp_exit {id : Nat} (h : Q (.exit id) tm s) : awp P (.exit id) Q tm s := fun K w act hw ha => wp_exit (lift_here hw ha h)
theorem awp_ret (h : Q .ret tm s) : awp P .ret Q tm s := fun K w act hw ha => wp_ret (lift_here hw ha h)
theorem awp_seq {x y : Code} (h : awp P x (athen (awp P y Q) Q) tm s) : awp P (.seq x y) Q tm s := by
  intro K w act hw ha
  refine wp_seq (wp_mono (h K w act hw ha) ?_)
  rintro e a w' ⟨K', tm', s', h1, h2, h3, h4⟩
  cases e with
  | normal => exact wp_mono (h4 K' w' a h1 h2) fun e a w hl => lift_ext h3 hl
  | _ => exact ⟨K', tm', s', h1, h2, h3, h4⟩
theorem awp_cond {c : Operand} {x y : Code} {t : Bool} (hc : aev tm c = .bool t) (h : awp P (if t then x else y) Q tm s) : awp P (.cond c x y) Q tm s := by
  intro K w act hw ha
  have := ha.eval c
  rw [hc] at this
  exact wp_cond this.bool_inv (h K w act hw ha)
def ablock (id : Nat) (Q : APost) : APost
  | .exit id', tm, s => if id' = id then Q .normal tm s else Q (.exit id') tm s
  | e, tm, s => Q e tm s
theorem awp_block {id : Nat} {c : Code} (h : awp P c (ablock id Q) tm s) : awp P (.block id c) Q tm s := by
  intro K w act hw ha
  refine wp_block (wp_mono (h K w act hw ha) ?_)
  rintro e a w' ⟨K', tm', s', h1, h2, h3, h4⟩
  cases e with
  | exit id' =>
    simp only [Exit.inBlock]
    split
    · rename_i he
      simp only [ablock, he, if_true] at h4
      exact ⟨K', tm', s', h1, h2, h3, h4⟩
    · rename_i he
      simp only [ablock, he, if_false] at h4
      exact ⟨K', tm', s', h1, h2, h3, h4⟩
  | _ => exact ⟨K', tm', s', h1, h2, h3, h4⟩
def arounds (P : Program) (c : Code) (Q : APost) : Nat → List AV → AHeap → Prop
  | 0, _, _ => False
  | n + 1, tm, s => awp P c (athen (arounds P c Q n) Q) tm s
theorem arounds_sound {c : Code} : ∀ (n : Nat) (tm : List AV) (s : AHeap), arounds P c Q n tm s → ∀ K w act, WR K s w → RA K tm act → Code.rounds P c (lift K s w Q) n act w
  | 0, tm, s, h, K, w, act, hw, ha => h.elim
  | n + 1, tm, s, h, K, w, act, hw, ha => by
    rw [rounds_succ]
    refine wp_mono (h K w act hw ha) ?_
    rintro e a w' ⟨K', tm', s', h1, h2, h3, h4⟩
    cases e with
    | normal =>
      have := arounds_sound n tm' s' h4 K' w' a h1 h2
      have mono : ∀ (n : Nat) (a : Act) (w2 : World), Code.rounds P c (lift K' s' w' Q) n a w2 → Code.rounds P c (lift K s w Q) n a w2 := by
        intro n
        induction n with
        | zero => intro a w2 h; exact h.elim
        | succ n ih =>
          intro a w2 h
          rw [rounds_succ] at h ⊢
          refine wp_mono h ?_
          intro e a w3 hh
          cases e with
          | normal => exact ih _ _ hh
          | _ => exact lift_ext h3 hh
      exact mono n _ _ this
    | _ => exact ⟨K', tm', s', h1, h2, h3, h4⟩
theorem awp_loop_n {c : Code} (n : Nat) (h : arounds P c Q n tm s) : awp P (.loop c) Q tm s :=
  fun K w act hw ha => wp_loop_rounds n (arounds_sound n tm s h K w act hw ha)
theorem arounds_mono {c : Code} : ∀ (n m : Nat) (tm : List AV) (s : AHeap), n ≤ m → arounds P c Q n tm s → arounds P c Q m tm s
  | 0, _, _, _, _, h => h.elim
  | n + 1, 0, _, _, hm, h => by omega
  | n + 1, m + 1, tm, s, hm, h => awp_mono h fun e tm s hh => by
      cases e with
      | normal => exact arounds_mono n m tm s (by omega) hh
      | _ => exact hh
theorem awp_loop {c : Code} (I : Nat → List AV → AHeap → Prop) (n : Nat) (h0 : I n tm s)
    (h : ∀ n tm s, I n tm s → awp P c (athen (fun tm' s' => ∃ m, m < n ∧ I m tm' s') Q) tm s) : awp P (.loop c) Q tm s := by
  refine awp_loop_n (n + 1) ?_
  have key : ∀ n tm s, I n tm s → arounds P c Q (n + 1) tm s := by
    intro n
    induction n using Nat.strongRecOn with
    | _ n ih =>
      intro tm s hI
      refine awp_mono (h n tm s hI) ?_
      intro e tm' s' hh
      cases e with
      | normal =>
        obtain ⟨m, hm, hI'⟩ := hh
        exact arounds_mono (m + 1) n tm' s' (by omega) (ih m hm tm' s' hI')
      | _ => exact hh
  exact key n tm s h0
def AOpR (P : Program) (o : Oper) (tm : List AV) (s : AHeap) (R : AV → AHeap → Prop) : Prop :=
  ∀ K w act (next : Act → World → Prop) (Qx : Exit → Act → World → Prop), WR K s w → RA K tm act →
    (∀ v u K' s' w', RV K' v u → WR K' s' w' → Ext K s w K' s' w' → R v s' → next (act.put o.dst u) w') → o.wp P act w next Qx
def awpOps (P : Program) (ops : Array Oper) (Q : APost) (l : List Nat) (tm : List AV) (s : AHeap) : Prop :=
  ∀ K w act, WR K s w → RA K tm act → wpOps P ops (lift K s w Q) l act w
theorem awp_region {id : Nat} {ops : Array Oper} (h : awpOps P ops Q (List.range ops.size) tm s) : awp P (.region id ops false) Q tm s :=
  fun K w act hw ha => wp_region (h K w act hw ha)
theorem awpOps_nil {ops : Array Oper} (h : Q .normal tm s) : awpOps P ops Q [] tm s := fun K w act hw ha => lift_here hw ha h
theorem wpOps_mono {ops : Array Oper} {Q1 Q2 : Exit → Act → World → Prop} (hq : ∀ e a w, Q1 e a w → Q2 e a w) : ∀ (l : List Nat) (a : Act) (w : World), wpOps P ops Q1 l a w → wpOps P ops Q2 l a w
  | [], a, w, h => hq _ _ _ h
  | i :: l, a, w, h => by
    simp only [wpOps] at h ⊢
    split
    · rename_i ho
      simp only [ho] at h
      exact wpOps_mono hq l a w h
    · rename_i o ho
      simp only [ho] at h
      split
      · rename_i hw
        simp only [hw, if_true] at h
        rcases h with h | ⟨h1, a0, w0, h2⟩
        · left
          unfold Oper.wp at *
          generalize (execOp a.eval o).run P w = r at *
          cases r with
          | ok n w' =>
            cases n <;> simp only [Oper.upon] at h ⊢ <;>
              first
                | exact wpOps_mono hq l _ _ h
                | exact Calls.mono h (fun e w'' he => by cases e <;> first | exact wpOps_mono hq l _ _ he | exact hq _ _ _ he | (obtain ⟨a1, w1, h3⟩ := he; exact ⟨a1, w1, hq _ _ _ h3⟩))
                | exact Rows.mono h (fun _ _ he => wpOps_mono hq l _ _ he)
          | halt x w' => cases x <;> simp only [Oper.upon] at h ⊢ <;> first | exact hq _ _ _ h | exact h
        · right
          exact ⟨h1, a0, w0, hq _ _ _ h2⟩
      · rename_i hw
        simp only [hw] at h
        exact wpOps_mono hq l _ _ h
def ayield (ops : Array Oper) (tm : List AV) (j : Nat) : Option Bool :=
  match ((ops[j]?).bind (·.dst)).bind (tm[·]?) with
  | some (.bool b) => some b
  | _ => none
def AV.isUndef : AV → Bool
  | .tuple [] => true
  | _ => false
def aoff (ops : Array Oper) (tm : List AV) (j : Nat) : Bool :=
  match ((ops[j]?).bind (·.dst)).bind (tm[·]?) with
  | some v => v.isUndef
  | none => true
def awanted (ops : Array Oper) (tm : List AV) (o : Oper) : Option Bool :=
  match o.guard with
  | none => some true
  | some (j, b) => match ayield ops tm j with
    | some c => some (c == b)
    | none => match aoff ops tm j with
      | true => some false
      | false => none
theorem awanted_sound {K : Know} {act : Act} {ops : Array Oper} {o : Oper} {b : Bool} (ha : RA K tm act) (h : awanted ops tm o = some b) : Region.wanted o (yielded ops act.tmps) = b := by
  unfold awanted at h
  unfold Region.wanted
  split at h
  · rename_i hg; rw [hg]; cases h; rfl
  · rename_i j c hg
    rw [hg]
    simp only
    cases hy : ayield ops tm j with
    | none =>
      simp only [hy] at h
      split at h
      · rename_i hof
        cases h
        have : yielded ops act.tmps j = none := by
          unfold aoff at hof
          unfold yielded
          cases hd : (ops[j]?).bind (·.dst) with
          | none => rfl
          | some t =>
            simp only [hd, Option.bind_some] at hof ⊢
            cases ht : tm[t]? with
            | none =>
              have hl := ha.1.length
              have : act.tmps[t]? = none := by
                rw [Array.getElem?_eq_none_iff]
                have := List.getElem?_eq_none_iff.1 ht
                have hl : tm.length = act.tmps.size := by rw [← Array.length_toList]; exact hl
                omega
              rw [this]
            | some v =>
              simp only [ht] at hof
              unfold AV.isUndef at hof
              split at hof
              · obtain ⟨u, hu, hr⟩ := ha.1.get ht
                have hu' : act.tmps[t]? = some u := by simpa using hu
                rw [hu']
                cases hr with
                | tuple l cs h => rfl
              · cases hof
        rw [this]
        rfl
      · cases h
    | some d =>
      simp only [hy] at h
      cases h
      have : yielded ops act.tmps j = some d := by
        unfold ayield at hy
        unfold yielded
        cases hd : (ops[j]?).bind (·.dst) with
        | none => simp [hd] at hy
        | some t =>
          simp only [hd, Option.bind_some] at hy ⊢
          cases ht : tm[t]? with
          | none => simp [ht] at hy
          | some v =>
            simp only [ht] at hy
            cases v <;> simp only at hy <;> try (cases hy; done)
            cases hy
            obtain ⟨u, hu, hr⟩ := ha.1.get ht
            have := hr.bool_inv
            subst this
            have hu' : act.tmps[t]? = some (.bool d) := by simpa using hu
            rw [hu']
      rw [this]
      cases d <;> cases c <;> rfl
theorem awpOps_step {ops : Array Oper} {i : Nat} {o : Oper} {rest : List Nat} (ho : ops[i]? = some o) (hw : awanted ops tm o = some true)
    (h : AOpR P o tm s fun v s' => awpOps P ops Q rest (aput tm o.dst v) s') : awpOps P ops Q (i :: rest) tm s := by
  intro K w act hwr ha
  simp only [wpOps, ho, awanted_sound ha hw, if_true]
  left
  refine h K w act _ _ hwr ha ?_
  intro v u K' s' w' hv hw' hext hn
  exact wpOps_mono (fun e a w hl => lift_ext hext hl) _ _ _ (hn K' w' (act.put o.dst u) hw' ((ha.mono hext.le).put hv o.dst))
theorem awpOps_skip {ops : Array Oper} {i : Nat} {o : Oper} {rest : List Nat} (ho : ops[i]? = some o) (hw : awanted ops tm o = some false)
    (h : awpOps P ops Q rest (aput tm o.dst aundef) s) : awpOps P ops Q (i :: rest) tm s := by
  intro K w act hwr ha
  simp only [wpOps, ho, awanted_sound ha hw, Bool.false_eq_true, if_false]
  exact h K w _ hwr (ha.put .undef o.dst)
theorem AOpR.mono {o : Oper} {R R' : AV → AHeap → Prop} (h : AOpR P o tm s R) (hr : ∀ v s, R v s → R' v s) : AOpR P o tm s R' :=
  fun K w act next Qx hw ha hn => h K w act next Qx hw ha fun v u K' s' w' h1 h2 h3 h4 => hn v u K' s' w' h1 h2 h3 (hr _ _ h4)
theorem AOpR.op {T : Tab} (hT : T.Ok P) {cf : Cfg} {o : Oper} {v : AV} {s' : AHeap} {R : AV → AHeap → Prop} (h : aop T cf (aev tm) o s = some (v, s')) (hr : R v s') : AOpR P o tm s R := by
  intro K w act next Qx hw ha hn
  obtain ⟨K', w', nx, u, h1, h2, h3, h4, h5⟩ := aop_sound hT hw (fun x => ha.eval x) h
  unfold Oper.wp
  rw [h1]
  rcases h2 with rfl | ⟨rfl, rfl⟩
  · exact hn v u K' s' w' h3 h4 h5 hr
  · exact hn v undef K' s' w' h3 h4 h5 hr
def ACall (P : Program) (f : FuncId) (args : List AV) (s : AHeap) (R : AV → AHeap → Prop) : Prop :=
  ∀ K w (vals : List Value), GlobK K → WR K s w → RVs K args vals →
    match (callFunc f vals.toArray).run P w with
    | .ok (.value u) w' => ∃ v K' s', RV K' v u ∧ WR K' s' w' ∧ Ext K s w K' s' w' ∧ R v s'
    | .ok (.enter g vs) w' => Calls P g vs w' fun e w'' => ∃ u v K' s', e = .returned u ∧ RV K' v u ∧ WR K' s' w'' ∧ Ext K s w K' s' w'' ∧ R v s'
    | _ => False
theorem ACall.mono {f : FuncId} {args : List AV} {R R' : AV → AHeap → Prop} (h : ACall P f args s R) (hr : ∀ v s, R v s → R' v s) : ACall P f args s R' := by
  intro K w vals hG hw ha
  have := h K w vals hG hw ha
  generalize (callFunc f vals.toArray).run P w = r at *
  cases r with
  | halt _ _ => exact this
  | ok n w' =>
    cases n <;> simp only at this ⊢
    · obtain ⟨v, K', s', h1, h2, h3, h4⟩ := this
      exact ⟨v, K', s', h1, h2, h3, hr _ _ h4⟩
    · refine Calls.mono this ?_
      rintro e w'' ⟨u, v, K', s', h0, h1, h2, h3, h4⟩
      exact ⟨u, v, K', s', h0, h1, h2, h3, hr _ _ h4⟩
theorem ACall.forget {f : FuncId} {args : List AV} {R : AV → AHeap → Prop} (h : ACall P f args s fun v s' => ∃ s'', R v s'' ∧ s''.nx = s'.nx ∧ ∀ b o, s''.get b = some o → s'.get b = some o) : ACall P f args s R := by
  intro K w vals hG hw ha
  have := h K w vals hG hw ha
  generalize (callFunc f vals.toArray).run P w = r at *
  cases r with
  | halt _ _ => exact this
  | ok n w' =>
    cases n <;> simp only at this ⊢
    · obtain ⟨v, K', s', h1, h2, h3, s'', h4, h5, h6⟩ := this
      exact ⟨v, K', s'', h1, h2.forget h6 h5, h3.forget h6 h5, h4⟩
    · refine Calls.mono this ?_
      rintro e w'' ⟨u, v, K', s', h0, h1, h2, h3, s'', h4, h5, h6⟩
      exact ⟨u, v, K', s'', h0, h1, h2.forget h6 h5, h3.forget h6 h5, h4⟩
theorem AOpR.call {o : Oper} {c : Call} {fop : Operand} (hc : o.op = .call c) (hf : c.callee = .value fop) {f : FuncId} {first captured : List AV} (hv : aev tm fop = .func (.func f) first captured)
    {R : AV → AHeap → Prop} (h : ACall P f (first ++ c.args.toList.map (aev tm) ++ captured) s R) : AOpR P o tm s R := by
  intro K w act next Qx hw ha hn
  obtain ⟨callee, args, argTypes⟩ := c
  simp only at hf
  subst hf
  have hfo := ha.eval fop
  rw [hv] at hfo
  generalize hu : act.eval fop = u at hfo
  cases hfo with
  | func _ _ _ fi ca h1 h2 =>
  have hargs : RVs K (first ++ args.toList.map (aev tm) ++ captured) ((fi ++ args.map act.eval ++ ca).toList) := by
    simp only [Array.toList_append, Array.toList_map]
    exact (h1.append (RVs.map_ev (fun x => ha.eval x) _)).append h2
  have hcall := h K w _ ha.2.2 hw hargs
  rw [Array.toArray_toList] at hcall
  have hrun : (execOp act.eval o).run P w = (callFunc f (fi ++ args.map act.eval ++ ca)).run P w := by
    unfold execOp
    simp [hc, resolve, Deferred.ofValue, hu, invoke]
  unfold Oper.wp
  rw [hrun]
  generalize (callFunc f (fi ++ args.map act.eval ++ ca)).run P w = r at *
  cases r with
  | halt _ _ => exact hcall.elim
  | ok n w' =>
    cases n <;> simp only at hcall
    · obtain ⟨v, K', s', h1, h2, h3, h4⟩ := hcall
      exact hn v _ K' s' w' h1 h2 h3 h4
    · simp only [Oper.upon]
      refine Calls.mono hcall ?_
      rintro e w'' ⟨u', v, K', s', rfl, h1, h2, h3, h4⟩
      exact hn v u' K' s' w'' h1 h2 h3 h4
    all_goals exact hcall.elim
def aresult (T : Tab) (s : AHeap) (tm : List AV) : ResultVar → Option AV
  | .tmp t => some (tm.getD t aundef)
  | .cell a t => aload T t (tm.getD a aundef) s
def aresults (T : Tab) (s : AHeap) (tm : List AV) : List ResultVar → Option (List AV)
  | [] => some []
  | r :: rs => match aresult T s tm r, aresults T s tm rs with
    | some v, some vs => some (v :: vs)
    | _, _ => none
def aresultOf (T : Tab) (s : AHeap) (tm : List AV) (rs : List ResultVar) : Option AV :=
  match aresults T s tm rs with
  | some [v] => some v
  | some vs => some (.tuple vs)
  | none => none
end
end Go.Am
end
noncomputable section
namespace Go.Am
open Go
section
variable {P : Program} {T : Tab} {Q : APost} {tm : List AV} {s : AHeap}
theorem loadVar_of_loadAt {w : World} {t : TypeId} {u r : Value} {x : AV} {K : Know} (hx : RV K x u) (h : (Instr.loadAt t u).run P w = .ok r w) : (do loadVar t (← asAddr u) : Sem Value).run P w = .ok r w := by
  simp only [Instr.loadAt, Sem.run_bind] at h ⊢
  cases u with
  | pointer a =>
    cases a with
    | none => simp [Instr.sureAddr] at h
    | some a => simpa [Instr.sureAddr, asAddr] using h
  | _ => simp [Instr.sureAddr] at h
def resVal (tmps : Array Value) : ResultVar → Sem Value
  | .tmp t => pure (tmps.getD t undef)
  | .cell a t => do loadVar t (← asAddr (tmps.getD a undef))
theorem results_eq (fn : Func) (tmps : Array Value) : results fn tmps = (do let vs ← fn.results.mapM (resVal tmps); pure (if h : vs.size = 1 then vs[0] else .tuple vs)) := by
  unfold results
  congr 1
theorem aresults_sound (hT : T.Ok P) {K : Know} {w : World} {act : Act} (hw : WR K s w) (ha : RA K tm act) : ∀ (rs : List ResultVar) (vs : List AV), aresults T s tm rs = some vs →
    ∃ us : List Value, (rs.mapM (resVal act.tmps) : Sem (List Value)).run P w = .ok us w ∧ RVs K vs us
  | [], vs, h => by cases h; exact ⟨[], rfl, .nil⟩
  | r :: rs, vs, h => by
    simp only [aresults] at h
    cases h1 : aresult T s tm r with
    | none => simp [h1] at h
    | some v =>
      cases h2 : aresults T s tm rs with
      | none => simp [h1, h2] at h
      | some vs' =>
        simp only [h1, h2] at h
        cases h
        obtain ⟨us, hus, hr⟩ := aresults_sound hT hw ha rs vs' h2
        have hget : ∀ t, RV K (tm.getD t aundef) (act.tmps.getD t undef) := fun t => ha.eval (.tmp t)
        cases r with
        | tmp t =>
          cases h1
          refine ⟨act.tmps.getD t undef :: us, ?_, .cons _ _ _ _ (hget t) hr⟩
          simp only [List.mapM_cons, resVal, Sem.run_bind, Sem.run_pure, Result.andThen_ok, hus]
        | cell a t =>
          obtain ⟨u, hu, hru⟩ := aload_sound hT hw h1 (hget a)
          have hu' := loadVar_of_loadAt (hget a) hu
          refine ⟨u :: us, ?_, .cons _ _ _ _ hru hr⟩
          simp only [List.mapM_cons]
          rw [Sem.run_bind, show (resVal act.tmps (.cell a t)).run P w = .ok u w from hu', Result.andThen_ok, Sem.run_bind, hus]
          rfl
theorem aresultOf_sound (hT : T.Ok P) {K : Know} {w : World} {act : Act} {fn : Func} (hw : WR K s w) (ha : RA K tm act) {v : AV} (h : aresultOf T s tm fn.results.toList = some v) :
    ∃ u, (results fn act.tmps).run P w = .ok u w ∧ RV K v u := by
  unfold aresultOf at h
  cases hr : aresults T s tm fn.results.toList with
  | none => simp [hr] at h
  | some vs =>
    obtain ⟨us, hus, hrs⟩ := aresults_sound hT hw ha _ _ hr
    rw [results_eq, Sem.run_bind, Array.mapM_eq_mapM_toList, Sem.run_map, hus]
    simp only [Result.andThen_ok, Sem.run_pure]
    simp only [hr] at h
    cases hrs with
    | nil => cases h; exact ⟨.tuple #[], rfl, .tuple _ _ .nil⟩
    | cons x u xs us hx hs =>
      cases hs with
      | nil => cases h; exact ⟨u, rfl, hx⟩
      | cons y u' ys us' hy hs' =>
        cases h
        refine ⟨.tuple (u :: u' :: us').toArray, ?_, .tuple _ _ (.cons _ _ _ _ hx (.cons _ _ _ _ hy hs'))⟩
        simp
def apost (T : Tab) (fn : Func) (R : AV → AHeap → Prop) : APost
  | .normal, tm, s | .ret, tm, s => ∃ v, aresultOf T s tm fn.results.toList = some v ∧ R v s
  | _, _, _ => False
theorem ACall.body (hT : T.Ok P) {f : FuncId} {fn : Func} {c : Code} {args : List AV} {R : AV → AHeap → Prop} (hf : P.funcs[f]? = some fn) (hb : fn.body = some c) (hn : (fn.name == "runtime.NumGoroutine") = false)
    (h : awp P c (apost T fn R) (args ++ List.replicate (fn.ntmps - args.length) aundef) s) : ACall P f args s R := by
  intro K w vals hG hw ha
  have hrun : (callFunc f vals.toArray).run P w = .ok (.enter f vals.toArray) w := by
    have hn' : ¬ fn.name = "runtime.NumGoroutine" := by simpa using hn
    simp [callFunc, hf, hb, hn']
  rw [hrun]
  simp only
  refine calls_of_wp hf hb ?_
  have hl := ha.length
  have hra : RA K (args ++ List.replicate (fn.ntmps - args.length) aundef) { tmps := vals.toArray ++ Array.replicate (fn.ntmps - vals.toArray.size) undef, defers := [] } := by
    refine ⟨?_, rfl, hG⟩
    simp only [Array.toList_append, Array.toList_replicate, List.size_toArray]
    rw [← hl]
    exact ha.append (.replicate .undef _)
  refine wp_mono (h K w _ hw hra) ?_
  rintro e a w' ⟨K', tm', s', h1, h2, h3, h4⟩
  cases e with
  | normal =>
    obtain ⟨v, hv, hR⟩ := h4
    obtain ⟨u, hu, hru⟩ := aresultOf_sound hT h1 h2 hv
    exact ⟨h2.2.1, u, hu, u, v, K', s', rfl, hru, h1, h3, hR⟩
  | ret =>
    obtain ⟨v, hv, hR⟩ := h4
    obtain ⟨u, hu, hru⟩ := aresultOf_sound hT h1 h2 hv
    exact ⟨h2.2.1, u, hu, u, v, K', s', rfl, hru, h1, h3, hR⟩
  | _ => exact h4.elim
inductive AExit where
  | normal | ret | exit (id : Nat)
abbrev Over := FuncId → Option (List AV → AHeap → Option (AV × AHeap))
def Over.Ok (P : Program) (ov : Over) : Prop := ∀ f g args s v s', ov f = some g → g args s = some (v, s') → ACall P f args s fun v' t => v' = v ∧ t = s'
def aregion (T : Tab) (cf : Cfg) (call : FuncId → List AV → AHeap → Option (AV × AHeap)) (ops : Array Oper) : List Oper → List AV → AHeap → Option (List AV × AHeap)
  | [], tm, s => some (tm, s)
  | o :: rest, tm, s =>
    match awanted ops tm o with
    | none => none
    | some false => aregion T cf call ops rest (aput tm o.dst aundef) s
    | some true =>
      match o.op with
      | .call c => match c.callee with
        | .value fop => match aev tm fop with
          | .func (.func f) first captured => match call f (first ++ c.args.toList.map (aev tm) ++ captured) s with
            | some (v, s') => aregion T cf call ops rest (aput tm o.dst v) s'
            | none => none
          | _ => none
        | _ => match aop T cf (aev tm) o s with
          | some (v, s') => aregion T cf call ops rest (aput tm o.dst v) s'
          | none => none
      | _ => match aop T cf (aev tm) o s with
        | some (v, s') => aregion T cf call ops rest (aput tm o.dst v) s'
        | none => none
def CallOk (P : Program) (call : FuncId → List AV → AHeap → Option (AV × AHeap)) : Prop :=
  ∀ f args s v s', call f args s = some (v, s') → ACall P f args s fun v' t => v' = v ∧ t = s'
theorem aregion_sound (hT : T.Ok P) {cf : Cfg} {call : FuncId → List AV → AHeap → Option (AV × AHeap)} (hc : CallOk P call) {ops : Array Oper} :
    ∀ (rest : List Oper) (k : Nat) (tm : List AV) (s : AHeap) (tm' : List AV) (s' : AHeap), ops.toList.drop k = rest → aregion T cf call ops rest tm s = some (tm', s') →
      Q .normal tm' s' → awpOps P ops Q (List.range' k rest.length) tm s
  | [], k, tm, s, tm', s', hd, h, hq => by cases h; exact awpOps_nil hq
  | o :: rest, k, tm, s, tm', s', hd, h, hq => by
    have hk : k < ops.toList.length := by
      rcases Nat.lt_or_ge k ops.toList.length with q | q
      · exact q
      · rw [List.drop_of_length_le q] at hd; cases hd
    have ho : ops[k]? = some o := by
      rw [List.drop_eq_getElem_cons hk] at hd
      have := (List.cons.inj hd).1
      rw [← Array.getElem?_toList, List.getElem?_eq_getElem hk, this]
    have hd' : ops.toList.drop (k + 1) = rest := by
      rw [List.drop_eq_getElem_cons hk] at hd
      exact (List.cons.inj hd).2
    have ih := fun tm s (hh : aregion T cf call ops rest tm s = some (tm', s')) => aregion_sound hT hc rest (k + 1) tm s tm' s' hd' hh hq
    simp only [List.length_cons, List.range'_succ]
    simp only [aregion] at h
    have plain : ∀ v s1, aop T cf (aev tm) o s = some (v, s1) → aregion T cf call ops rest (aput tm o.dst v) s1 = some (tm', s') → awanted ops tm o = some true →
        awpOps P ops Q (k :: List.range' (k + 1) rest.length) tm s := by
      intro v s1 ha hr hw
      exact awpOps_step ho hw (.op hT ha (ih _ _ hr))
    split at h
    · cases h
    · rename_i hw
      exact awpOps_skip ho hw (ih _ _ h)
    · rename_i hw
      split at h
      · rename_i c hop
        split at h
        · rename_i fop hcal
          split at h
          · rename_i f first captured hev
            split at h
            · rename_i v s1 hcall
              refine awpOps_step ho hw (AOpR.call hop hcal hev ((hc _ _ _ _ _ hcall).mono ?_))
              rintro v' t ⟨rfl, rfl⟩
              exact ih _ _ h
            · cases h
          · cases h
        · split at h
          · rename_i v s1 ha
            exact plain v s1 ha h hw
          · cases h
      · split at h
        · rename_i v s1 ha
          exact plain v s1 ha h hw
        · cases h
end
end Go.Am
end
noncomputable section
namespace Go.Am
open Go
def AHeap.upds (s : AHeap) (l : List (Nat × AObj)) : AHeap := l.foldl (fun s p => s.upd p.1 p.2) s
theorem AHeap.nx_upds : ∀ (l : List (Nat × AObj)) (s : AHeap), (s.upds l).nx = s.nx
  | [], s => rfl
  | p :: l, s => by
    show ((s.upd p.1 p.2).upds l).nx = s.nx
    rw [AHeap.nx_upds l, AHeap.nx_upd]
theorem AHeap.get_upds : ∀ (l : List (Nat × AObj)) (s : AHeap) (b : Nat) (o : AObj), (s.upds l).get b = some o → (s.get b = some o ∧ ∀ p ∈ l, p.1 ≠ b) ∨ (b, o) ∈ l
  | [], s, b, o, h => .inl ⟨h, by simp⟩
  | p :: l, s, b, o, h => by
    rcases AHeap.get_upds l (s.upd p.1 p.2) b o h with ⟨h1, h2⟩ | h1
    · rw [AHeap.get_upd] at h1
      split at h1
      · rename_i hb; cases h1; subst hb; right; exact List.mem_cons_self ..
      · rename_i hb
        left
        refine ⟨h1, fun q hq => ?_⟩
        simp only [List.mem_cons] at hq
        rcases hq with rfl | hq
        · exact Ne.symm hb
        · exact h2 q hq
    · right; exact List.mem_cons_of_mem _ h1
section
variable {P : Program} {K K' : Know} {s s' : AHeap} {w w' : World}
structure Aside (K : Know) (s : AHeap) (w : World) (l : List (Nat × AObj)) : Prop where
  at_ : ∀ p ∈ l, ∃ g base, K.phi p.1 = some (g, base) ∧ WO K w g base p.2 ∧ ¬ owned K s g ∧ ∀ i, K.frz g i = none
  inj : ∀ p ∈ l, ∀ q ∈ l, ∀ g i j, K.phi p.1 = some (g, i) → K.phi q.1 = some (g, j) → p.1 = q.1
  one : ∀ p ∈ l, ∀ q ∈ l, p.1 = q.1 → p = q
theorem Aside.nil : Aside K s w [] := ⟨by simp, by simp, by simp⟩
theorem Aside.step {l : List (Nat × AObj)} (h : Aside K s w l) (hw : WR K s w) (hext : Ext K s w K' s' w') : Aside K' s' w' l := by
  have key : ∀ p ∈ l, ∃ g base, K.phi p.1 = some (g, base) ∧ WO K w g base p.2 ∧ ¬ owned K s g ∧ (∀ i, K.frz g i = none) ∧ K'.phi p.1 = some (g, base) ∧ g < w.heap.size := by
    intro p hp
    obtain ⟨g, base, h1, h2, h3, h4⟩ := h.at_ p hp
    exact ⟨g, base, h1, h2, h3, h4, hext.le.phi _ _ h1, (hw.bnd _ _ _ h1).2⟩
  refine ⟨?_, ?_, h.one⟩
  · intro p hp
    obtain ⟨g, base, h1, h2, h3, h4, h5, h6⟩ := key p hp
    refine ⟨g, base, h5, (h2.mono hext.le).of_block (hext.block g h6 h3), ?_, fun i => by rw [hext.frz g h6 h3 i]; exact h4 i⟩
    intro ho
    rcases hext.own g ho with h7 | h7
    · exact h3 h7
    · omega
  · intro p hp q hq g i j e1 e2
    obtain ⟨g1, b1, h1, _, _, _, h5, _⟩ := key p hp
    obtain ⟨g2, b2, h1', _, _, _, h5', _⟩ := key q hq
    rw [h5] at e1; cases e1
    rw [h5'] at e2; cases e2
    exact h.inj p hp q hq _ _ _ h1 h1'
theorem Aside.join {l : List (Nat × AObj)} (h : Aside K s w l) (hw : WR K s w) : WR K (s.upds l) w := by
  have own_s : ∀ b o g base, s.get b = some o → K.phi b = some (g, base) → owned K s g := fun b o g base e p => ⟨b, o, base, e, p⟩
  refine ⟨hw.frz, hw.dim, ?_, ?_, ?_, ?_⟩
  · intro b o e
    rcases AHeap.get_upds l s b o e with ⟨h1, _⟩ | h1
    · exact hw.own b o h1
    · obtain ⟨g, base, h2, h3, _⟩ := h.at_ _ h1
      exact ⟨g, base, h2, h3⟩
  · intro b b' o o' g i j e e' p p'
    rcases AHeap.get_upds l s b o e with ⟨h1, _⟩ | h1 <;> rcases AHeap.get_upds l s b' o' e' with ⟨h2, _⟩ | h2
    · exact hw.inj b b' o o' g i j h1 h2 p p'
    · obtain ⟨g2, base2, q1, q2, q3, _⟩ := h.at_ _ h2
      rw [p'] at q1; cases q1
      exact absurd (own_s _ _ _ _ h1 p) q3
    · obtain ⟨g2, base2, q1, q2, q3, _⟩ := h.at_ _ h1
      rw [p] at q1; cases q1
      exact absurd (own_s _ _ _ _ h2 p') q3
    · exact h.inj _ h1 _ h2 g i j p p'
  · intro b o g base e p i
    rcases AHeap.get_upds l s b o e with ⟨h1, _⟩ | h1
    · exact hw.sep b o g base h1 p i
    · obtain ⟨g2, base2, q1, q2, q3, q4⟩ := h.at_ _ h1
      rw [p] at q1; cases q1
      exact q4 i
  · intro b g base p
    rw [AHeap.nx_upds]
    exact hw.bnd b g base p
theorem WR.side {b : Nat} {ob : Obj} {o : AObj} {d : Option Nat} {l : List (Nat × AObj)} (hw : WR K s w) (ha : Aside K s w l) (hb : K.phi b = none) (hbn : b < s.nx) (hl : World.Like w w')
    (hh : w'.heap = w.heap.push ob) (hWO : WO (K.add b w.heap.size d) w' w.heap.size 0 o) (hd : ∀ n, d = some n → ∃ arr T fz, ob = .cells arr T fz ∧ arr.size = n) :
    WR (K.add b w.heap.size d) s w' ∧ Aside (K.add b w.heap.size d) s w' ((b, o) :: l) ∧ K.le (K.add b w.heap.size d) := by
  have hold : ∀ k, k < w.heap.size → w'.heap[k]? = w.heap[k]? := by
    intro k hk
    rw [hh, Array.getElem?_push, if_neg (by omega)]
  have hnew : w'.heap[w.heap.size]? = some ob := by rw [hh]; simp
  have hle : K.le (K.add b w.heap.size d) := by
    refine ⟨?_, fun _ _ _ e => e, ?_⟩
    · intro x p e
      have hne : x ≠ b := by rintro rfl; rw [hb] at e; cases e
      simp [Know.add, hne, e]
    · intro g n e
      have hne : g ≠ w.heap.size := by have := hw.dim_lt e; omega
      simp [Know.add, hne, e]
  have hphi : ∀ x p, (K.add b w.heap.size d).phi x = some p → (x = b ∧ p = (w.heap.size, 0)) ∨ (x ≠ b ∧ K.phi x = some p) := by
    intro x p e
    simp only [Know.add] at e
    split at e
    · rename_i hx; cases e; exact .inl ⟨hx, rfl⟩
    · rename_i hx; exact .inr ⟨hx, e⟩
  have hget : ∀ x ox, s.get x = some ox → x ≠ b := by
    rintro x ox e rfl
    obtain ⟨g, base, h1, _⟩ := hw.own _ _ e
    rw [hb] at h1; cases h1
  have hphi' : ∀ x ox p, s.get x = some ox → (K.add b w.heap.size d).phi x = some p → K.phi x = some p := by
    intro x ox p e hp
    rcases hphi x p hp with ⟨h1, _⟩ | ⟨_, h1⟩
    · exact absurd h1 (hget x ox e)
    · exact h1
  have hsz : w'.heap.size = w.heap.size + 1 := by rw [hh]; simp
  have hown : ∀ g, owned (K.add b w.heap.size d) s g → owned K s g := by
    rintro g ⟨x, ox, base, e, p⟩
    exact ⟨x, ox, base, e, hphi' x ox _ e p⟩
  have hownlt : ∀ g, owned K s g → g < w.heap.size := by
    rintro g ⟨x, ox, base, e, p⟩
    exact (hw.bnd _ _ _ p).2
  refine ⟨⟨?_, ?_, ?_, ?_, ?_, ?_⟩, ⟨?_, ?_, ?_⟩, hle⟩
  · intro g o' u e
    have hlt := hw.frz_lt (show K.frz g o' = some u from e)
    have := hw.frz _ _ _ (show K.frz g o' = some u from e)
    unfold World.cell? at this ⊢
    rw [show (⟨g, o', none⟩ : Addr).block = g from rfl] at this ⊢
    rw [hold g hlt]; exact this
  · intro g n e
    simp only [Know.add] at e
    split at e
    · rename_i hx; subst hx
      obtain ⟨arr, T, fz, h1, h2⟩ := hd n e
      exact ⟨arr, T, fz, by rw [hnew, h1], h2⟩
    · rw [hold g (hw.dim_lt e)]; exact hw.dim g n e
  · intro x ox e
    obtain ⟨g, base, h1, h2⟩ := hw.own x ox e
    exact ⟨g, base, hle.phi _ _ h1, (h2.mono hle).of_block (hold g (hw.bnd _ _ _ h1).2)⟩
  · intro x y ox oy g i j ex ey px py
    exact hw.inj x y ox oy g i j ex ey (hphi' x ox _ ex px) (hphi' y oy _ ey py)
  · intro x ox g base e p i
    exact hw.sep x ox g base e (hphi' x ox _ e p) i
  · intro x g base p
    rcases hphi _ _ p with ⟨e1, e2⟩ | ⟨e1, e2⟩
    · cases e2; rw [e1]; omega
    · have := hw.bnd _ _ _ e2
      omega
  · intro p hp
    simp only [List.mem_cons] at hp
    rcases hp with rfl | hp
    · refine ⟨w.heap.size, 0, by simp [Know.add], hWO, ?_, ?_⟩
      · intro ho
        have := hownlt _ (hown _ ho)
        omega
      · intro i
        show K.frz w.heap.size i = none
        cases ef : K.frz w.heap.size i with
        | none => rfl
        | some u => have := hw.frz_lt ef; omega
    · obtain ⟨g, base, h1, h2, h3, h4⟩ := ha.at_ p hp
      exact ⟨g, base, hle.phi _ _ h1, (h2.mono hle).of_block (hold g (hw.bnd _ _ _ h1).2), fun ho => h3 (hown g ho), h4⟩
  · intro p hp q hq g i j e1 e2
    simp only [List.mem_cons] at hp hq
    have old : ∀ p ∈ l, ∀ g i, (K.add b w.heap.size d).phi p.1 = some (g, i) → p.1 ≠ b ∧ K.phi p.1 = some (g, i) ∧ g < w.heap.size := by
      intro p hp g i e
      obtain ⟨g', base, h1, _⟩ := ha.at_ p hp
      have hne : p.1 ≠ b := by intro e'; rw [e', hb] at h1; cases h1
      rcases hphi _ _ e with ⟨h2, _⟩ | ⟨_, h2⟩
      · exact absurd h2 hne
      · exact ⟨hne, h2, (hw.bnd _ _ _ h2).2⟩
    rcases hp with rfl | hp <;> rcases hq with rfl | hq
    · rfl
    · obtain ⟨_, _, h3⟩ := old q hq g j e2
      rcases hphi _ _ e1 with ⟨_, h1⟩ | ⟨h1, _⟩
      · cases h1; omega
      · exact absurd rfl h1
    · obtain ⟨_, _, h3⟩ := old p hp g i e1
      rcases hphi _ _ e2 with ⟨_, h1⟩ | ⟨h1, _⟩
      · cases h1; omega
      · exact absurd rfl h1
    · obtain ⟨_, h2, _⟩ := old p hp g i e1
      obtain ⟨_, h2', _⟩ := old q hq g j e2
      exact ha.inj p hp q hq g i j h2 h2'
  · intro p hp q hq e
    simp only [List.mem_cons] at hp hq
    rcases hp with rfl | hp <;> rcases hq with rfl | hq
    · rfl
    · obtain ⟨g', base, h1, _⟩ := ha.at_ q hq
      rw [← e] at h1
      simp only at h1
      rw [hb] at h1; cases h1
    · obtain ⟨g', base, h1, _⟩ := ha.at_ p hp
      rw [e] at h1
      simp only at h1
      rw [hb] at h1; cases h1
    · exact ha.one p hp q hq e
end
end Go.Am
end
