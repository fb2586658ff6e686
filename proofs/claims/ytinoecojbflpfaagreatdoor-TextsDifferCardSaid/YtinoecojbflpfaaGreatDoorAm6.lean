/- Part 6 of a proof: texts of this work, put together. -/
import Derived.Test.YtinoecojbflpfaaGreatDoorAm5
import Derived.Shelf.Strings.Builder1
import Derived.Lib.Bytealg
import Derived.Laws.Externs
set_option linter.unusedVariables false
set_option linter.unusedSimpArgs false
noncomputable section
namespace Go.Am
open Go Go.Proofs Go.Shelf
section
variable {P : Program} {K : Know} {s : AHeap} {w w' : World}
theorem WR.drop (h : WR K s w) {b g base : Nat} {o : AObj} (hb : s.get b = some o) (hg : K.phi b = some (g, base)) (hl : World.Like w w')
    (hs : w'.heap.size = w.heap.size) (hoth : ∀ k, k ≠ g → w'.heap[k]? = w.heap[k]?)
    (hdimg : ∀ n, K.dim g = some n → ∃ arr T fz, w'.heap[g]? = some (.cells arr T fz) ∧ arr.size = n) : WR K (s.del b) w' ∧ Ext K s w K (s.del b) w' := by
  have hown : owned K s g := ⟨b, o, base, hb, hg⟩
  have hsep := h.sep b o g base hb hg
  have key : ∀ x ox, (s.del b).get x = some ox → ∃ g' base', K.phi x = some (g', base') ∧ g' ≠ g ∧ WO K w g' base' ox ∧ s.get x = some ox := by
    intro x ox hox
    rw [AHeap.get_del] at hox
    split at hox
    · cases hox
    · rename_i hne
      obtain ⟨g', base', h3, h4⟩ := h.own x ox hox
      refine ⟨g', base', h3, ?_, h4, hox⟩
      rintro rfl
      exact hne (h.inj x b ox o _ _ _ hox hb h3 hg)
  refine ⟨⟨?_, ?_, ?_, ?_, ?_, ?_⟩, ?_⟩
  · intro g' o' u e
    have hne : g' ≠ g := by rintro rfl; rw [hsep] at e; cases e
    have := h.frz _ _ _ e
    unfold World.cell? at this ⊢
    rw [hoth g' hne]; exact this
  · intro g' n e
    by_cases hne : g' = g
    · subst hne; exact hdimg n e
    · rw [hoth g' hne]; exact h.dim g' n e
  · intro x ox hox
    obtain ⟨g', base', h3, h4, h5, _⟩ := key x ox hox
    exact ⟨g', base', h3, h5.of_block (hoth g' h4)⟩
  · intro x y ox oy g' i j hx hy hxp hyp
    obtain ⟨_, _, _, _, _, hx'⟩ := key x ox hx
    obtain ⟨_, _, _, _, _, hy'⟩ := key y oy hy
    exact h.inj x y ox oy _ _ _ hx' hy' hxp hyp
  · intro x ox g' base' hox hxp i
    obtain ⟨_, _, _, _, _, hx'⟩ := key x ox hox
    exact h.sep x ox _ _ hx' hxp i
  · intro x g' base' e
    have := h.bnd x _ _ e
    rw [AHeap.nx_del]
    exact ⟨this.1, by rw [hs]; exact this.2⟩
  · refine ⟨.refl K, fun _ _ => rfl, by rw [AHeap.nx_del]; exact Nat.le_refl _, hl.os, hl.tape, hl.output, by omega, ?_, ?_, fun _ _ _ _ => rfl⟩
    · intro k hlt hno
      exact hoth k (by rintro rfl; exact hno hown)
    · rintro k ⟨x, ox, base', hox, hxp⟩
      obtain ⟨_, _, _, _, _, hx'⟩ := key x ox hox
      exact .inl ⟨x, ox, base', hx', hxp⟩
theorem lies_self {e : TypeId} {c : Nat} (hc : P.cellsOf e = c + 1) (count : Nat) (hn : 1 ≤ count) : liesAt P P.depth e count 0 e 1 = true := by
  have hd : P.depth = (2 * (P.types.size + Made.depth) + 1) + 1 := rfl
  rw [hd]
  simp only [liesAt, Bool.or_eq_true]
  left
  rw [hd]
  simp [rowAt, hc, hn, sameLayout]
end
section
variable {P : Program} {ρ : Ren}
set_option maxHeartbeats 2000000 in
set_option maxRecDepth 100000 in
theorem string_bytes (L : Lays.n169 P ρ) (X : Builder.Extra P ρ) (b g n cap : Nat) (l : List UInt8) (w : World) (h0 : l ≠ []) (c1' : w.cell? ⟨b, 1, none⟩ = some (.slice (some ⟨g, 0, none⟩) l.length cap)) (hcap : cap ≠ 0)
    (hsh : w.shape? g = some (ρ.t 5, n)) (hn : l.length ≤ n) (h63 : l.length ≤ 9223372036854775807) (hcells : ∀ j x, l[j]? = some x → w.cell? ((⟨g, 0, none⟩ : Addr).add j) = some (.int .u8 x.toNat)) :
    Calls P (ρ.f 169) #[.pointer (some ⟨b, 0, none⟩)] w fun e w' => e = .returned (.string ⟨l.toArray⟩) ∧ w' = w.drew.freeze ⟨g, 0, none⟩ l.length := by
  have c1 : w.drew.cell? ⟨b, 1, none⟩ = some (.slice (some ⟨g, 0, none⟩) l.length cap) := c1'
  have hSD : (Builtin.unsafeSliceData_ #[(ρ.t 37)] (ρ.t 127) #[.slice (some ⟨g, 0, none⟩) l.length cap]).run P w.drew = .ok (.pointer (some ⟨g, 0, none⟩)) w.drew :=
    Lib.run_unsafeSliceData_row _ _ _ _ _ _ hcap
  have hUS : (Builtin.unsafeString_ #[(ρ.t 127), (ρ.t 3)] (ρ.t 9) #[.pointer (some ⟨g, 0, none⟩), .int .i64 l.length]).run P w.drew = .ok (.string ⟨l.toArray⟩) (w.drew.freeze ⟨g, 0, none⟩ l.length) :=
    Lib.run_unsafeString_row w.drew (ρ.t 127) (ρ.t 3) (ρ.t 9) (ρ.t 5) L.t127 X.cellsByte g n hsh l h0 hn h63 hcells
  have mixed := L.mixed
  have t72 := L.t72; have a72 := L.a72; have z72 := L.z72; have v72 := L.v72; have u72 := run_underlying L.t72
  have t70 := L.t70; have a70 := L.a70; have z70 := L.z70; have v70 := L.v70; have u70 := run_underlying L.t70
  have t37 := L.t37; have a37 := L.a37; have z37 := L.z37; have v37 := L.v37; have u37 := run_underlying L.t37
  have t127 := L.t127; have a127 := L.a127; have z127 := L.z127; have v127 := L.v127; have u127 := run_underlying L.t127
  have t3 := L.t3; have a3 := L.a3; have z3 := L.z3; have v3 := L.v3; have u3 := run_underlying L.t3
  have t9 := L.t9; have a9 := L.a9; have z9 := L.z9; have v9 := L.v9; have u9 := run_underlying L.t9
  have t5 := X.t5; have a5 := X.a5; have z5 := X.z5; have v5 := X.v5; have u5 := run_underlying X.t5
  go_enter L.f169, Body.n169_ntmps ρ
  go_wp2
  go_region_o
  all_goals (go_wp2; go_ret; exact ⟨rfl, rfl⟩)
set_option maxHeartbeats 2000000 in
set_option maxRecDepth 100000 in
theorem string_nil (L : Lays.n169 P ρ) (X : Builder.Extra P ρ) (b : Nat) (w : World) (c1' : w.cell? ⟨b, 1, none⟩ = some (.slice none 0 0)) :
    Calls P (ρ.f 169) #[.pointer (some ⟨b, 0, none⟩)] w fun e w' => e = .returned (.string ⟨#[]⟩) ∧ w' = w.drew := by
  have hUS := Any.unsafeString_none L X
  have c1 : w.drew.cell? ⟨b, 1, none⟩ = some (.slice none 0 0) := c1'
  have mixed := L.mixed
  have t72 := L.t72; have a72 := L.a72; have z72 := L.z72; have v72 := L.v72; have u72 := run_underlying L.t72
  have t70 := L.t70; have a70 := L.a70; have z70 := L.z70; have v70 := L.v70; have u70 := run_underlying L.t70
  have t37 := L.t37; have a37 := L.a37; have z37 := L.z37; have v37 := L.v37; have u37 := run_underlying L.t37
  have t127 := L.t127; have a127 := L.a127; have z127 := L.z127; have v127 := L.v127; have u127 := run_underlying L.t127
  have t3 := L.t3; have a3 := L.a3; have z3 := L.z3; have v3 := L.v3; have u3 := run_underlying L.t3
  have t9 := L.t9; have a9 := L.a9; have z9 := L.z9; have v9 := L.v9; have u9 := run_underlying L.t9
  have t5 := X.t5; have a5 := X.a5; have z5 := X.z5; have v5 := X.v5; have u5 := run_underlying X.t5
  have hSD : (Builtin.unsafeSliceData_ #[(ρ.t 37)] (ρ.t 127) #[.slice none 0 0]).run P w.drew = .ok (.pointer none) w.drew := Lib.run_unsafeSliceData_nil w.drew _ _ _ _
  have hUS' := hUS w.drew none
  go_enter L.f169, Body.n169_ntmps ρ
  go_wp2
  go_region_o
  all_goals (go_wp2; go_ret; exact ⟨rfl, rfl⟩)
end
def abytesIn : List AV → Option (List UInt8)
  | [] => some []
  | .int .u8 n :: r => if 0 ≤ n ∧ n < 256 then (abytesIn r).map fun l => UInt8.ofNat n.toNat :: l else none
  | _ => none
theorem abytesIn_sound {K : Know} : ∀ {cs : List AV} {us : List Value} {l : List UInt8}, abytesIn cs = some l → RVs K cs us → us = l.map fun b => Value.int .u8 b.toNat
  | [], us, l, h, hr => by cases hr; cases h; rfl
  | x :: cs, us, l, h, hr => by
    cases hr with
    | cons _ u _ us hx hs =>
    cases x with
    | int k n =>
      cases k with
      | u8 =>
        simp only [abytesIn] at h
        split at h
        · rename_i hn
          cases hb : abytesIn cs with
          | none => simp [hb] at h
          | some l' =>
            simp only [hb, Option.map_some] at h
            cases h
            have := abytesIn_sound hb hs
            have h2 := hx.int_inv
            subst h2
            subst this
            have hm : n.toNat % 256 = n.toNat := Nat.mod_eq_of_lt (by omega)
            have hc : ((n.toNat % 256 : Nat) : Int) = n := by rw [hm]; omega
            simp only [List.map_cons, List.cons.injEq, and_true, UInt8.toNat_ofNat']
            rw [hc]
        · cases h
      | _ => simp [abytesIn] at h
    | _ => simp [abytesIn] at h
section
variable {P : Program} {ρ : Ren} {s : AHeap}
def aCopyCheck (T : TypeId) (args : List AV) (s : AHeap) : Option (AV × AHeap) :=
  match args with
  | [.ptr b 0] => match s.get b with
    | some (.cells [x, y] (some T')) => if T' = T then
        match x with
        | .nilp => some (.tuple [], s.upd b (.cells [.ptr b 0, y] (some T)))
        | .ptr b' 0 => if b' = b then some (.tuple [], s) else none
        | _ => none
      else none
    | _ => none
  | _ => none
structure CopyCheckWalks (P : Program) (f : FuncId) (T : TypeId) : Prop where
  enters : ∀ args w, (callFunc f args).run P w = .ok (.enter f args) w
  fresh : ∀ (b n : Nat) (w : World), w.cell? ⟨b, 0, none⟩ = some (.pointer none) → w.shape? b = some (T, n) → 2 ≤ n → w.frozen? ⟨b, 0, none⟩ = false →
    Calls P f #[.pointer (some ⟨b, 0, none⟩)] w fun e w' => e = .returned (.tuple #[]) ∧ w' = w.setCell ⟨b, 0, none⟩ (.pointer (some ⟨b, 0, none⟩))
  used : ∀ (b : Nat) (w : World), w.cell? ⟨b, 0, none⟩ = some (.pointer (some ⟨b, 0, none⟩)) →
    Calls P f #[.pointer (some ⟨b, 0, none⟩)] w fun e w' => e = .returned (.tuple #[]) ∧ w' = w
theorem aCopyCheck_ok {f : FuncId} {T : TypeId} (W : CopyCheckWalks P f T) {args : List AV} {v : AV} {s' : AHeap} (h : aCopyCheck T args s = some (v, s')) :
    ACall P f args s fun v' t => v' = v ∧ t = s' := by
  have hen := W.enters
  unfold aCopyCheck at h
  split at h
  · rename_i b
    split at h
    · rename_i x y T' hb
      split at h
      · rename_i hT'
        rw [hT'] at hb
        intro K w vals hG hw ha
        rw [hen]
        cases ha with
        | cons _ u _ us hx hs =>
        cases hs
        cases hx with
        | ptr _ _ g base hg =>
        obtain ⟨g', base', hg', arr, TT, lo, hi_, pre, us, rest, h1, hTo, h2, h3, h4, h5, h6⟩ := hw.own b _ hb
        rw [hg] at hg'; cases hg'
        obtain ⟨hTT, rfl⟩ := hTo _ rfl
        rw [hTT] at h1
        have hpre : pre = [] := List.eq_nil_of_length_eq_zero h4
        subst hpre
        cases h5 with
        | cons _ u0 _ us hx0 hs =>
        cases hs with
        | cons _ u1 _ us hy0 hs =>
        cases hs
        simp only [List.nil_append, List.cons_append] at h3
        have hsz : 2 ≤ arr.size := by rw [← Array.length_toList, h3]; simp
        have hc0 : w.cell? ⟨g, 0, none⟩ = some u0 := by
          have : arr[0]? = some u0 := by rw [← Array.getElem?_toList, h3]; rfl
          simp [World.cell?, h1, this]
        have hfz : w.frozen? ⟨g, 0, none⟩ = false := by
          have := h2 0 (by omega)
          simp only [World.frozen?, h1]
          simp
          omega
        split at h
        · -- fresh
          cases h
          cases hx0
          refine Calls.mono (W.fresh g arr.size w hc0 (by simp [World.shape?, h1]) hsz hfz) ?_
          rintro e w' ⟨rfl, rfl⟩
          have hself : RV K (.ptr b 0) (.pointer (some ⟨g, 0, none⟩)) := .ptr b 0 g 0 hg
          have hbk : (w.setCell ⟨g, 0, none⟩ (.pointer (some ⟨g, 0, none⟩))).heap[g]? = some (.cells (arr.setIfInBounds 0 (.pointer (some ⟨g, 0, none⟩))) T (lo, hi_)) := by
            simp [World.setCell, h1, Array.getElem?_modify]
          have := hw.turn (K' := K) (s' := s.upd b (.cells [.ptr b 0, y] (some T))) (w' := w.setCell ⟨g, 0, none⟩ (.pointer (some ⟨g, 0, none⟩))) (b1 := b) (base1 := 0) (o1 := .cells [.ptr b 0, y] (some T)) hb hg
            ⟨rfl, rfl, rfl⟩ (by simp [World.setCell]) (fun k hk => RowKit.Below.heap_setCell _ _ _ _ hk) (.refl K) rfl rfl
            (fun x p hp => by rw [AHeap.nx_upd]; exact hw.bnd _ _ _ hp) (fun _ _ => rfl)
            (fun n hn => ⟨_, _, _, hbk, by rw [h6] at hn; cases hn; simp⟩)
            (by rw [AHeap.get_upd, if_pos rfl]) hg
            ⟨_, _, lo, hi_, [], [.pointer (some ⟨g, 0, none⟩), u1], rest, hbk, fun T0 e => by cases e; exact ⟨rfl, rfl⟩, by simpa using h2, by
              rw [Array.toList_setIfInBounds, h3]; rfl, rfl, .cons _ _ _ _ hself (.cons _ _ _ _ hy0 .nil), by rw [h6]; simp⟩
            (fun x ox hxx hox => by
              rw [AHeap.get_upd, if_neg hxx] at hox
              exact ⟨hox, hxx⟩)
            (by rw [AHeap.nx_upd]; omega)
          exact ⟨_, _, K, _, rfl, .tuple _ _ .nil, this.1, this.2, rfl, rfl⟩
        · -- used
          rename_i b'
          split at h
          · rename_i hbb
            subst hbb
            cases h
            have hu0 : u0 = .pointer (some ⟨g, 0, none⟩) := by
              cases hx0 with
              | ptr _ _ g2 base2 hg2 => rw [hg] at hg2; cases hg2; rfl
            rw [hu0] at hc0
            refine Calls.mono (W.used g w hc0) ?_
            rintro e w' ⟨rfl, rfl⟩
            exact ⟨_, _, K, _, rfl, .tuple _ _ .nil, hw, .refl _ _ _, rfl, rfl⟩
          · cases h
        · cases h
      · cases h
    · cases h
  · cases h
def aBString (T : TypeId) (args : List AV) (s : AHeap) : Option (AV × AHeap) :=
  match args with
  | [.ptr b 0] => match s.get b with
    | some (.cells (_ :: y :: _) (some _)) => match y with
      | .nils => some (.str [], s)
      | .rs 1 b2 0 (n + 1) => match s.get b2 with
        | some (.cells c (some T')) => if T' = T ∧ n + 1 ≤ c.length ∧ n + 1 ≤ 9223372036854775807 then
            match abytesIn (c.take (n + 1)) with
            | some l => some (.str l, s.del b2)
            | none => none
          else none
        | _ => none
      | _ => none
    | _ => none
  | _ => none
theorem aBString_ok (L : Lays.n169 P ρ) (X : Builder.Extra P ρ) {args : List AV} {v : AV} {s' : AHeap} (h : aBString (ρ.t 5) args s = some (v, s')) :
    ACall P (ρ.f 169) args s fun v' t => v' = v ∧ t = s' := by
  have hen : ∀ args w, (callFunc (ρ.f 169) args).run P w = .ok (.enter (ρ.f 169) args) w := enters_of L.f169 (by kernel_rfl) rfl
  unfold aBString at h
  split at h
  · rename_i b
    split at h
    · rename_i x y tl To hb
      intro K w vals hG hw ha
      rw [hen]
      cases ha with
      | cons _ u _ us hx hs =>
      cases hs
      cases hx with
      | ptr _ _ g base hg =>
      obtain ⟨g', base', hg', arr, TT, lo, hi_, pre, us, rest, h1, hTo, h2, h3, h4, h5, h6⟩ := hw.own b _ hb
      rw [hg] at hg'; cases hg'
      obtain ⟨rfl, rfl⟩ := hTo _ rfl
      have hpre : pre = [] := List.eq_nil_of_length_eq_zero h4
      subst hpre
      cases h5 with
      | cons _ u0 _ us hx0 hs =>
      cases hs with
      | cons _ u1 _ us hy0 hs =>
      simp only [List.nil_append, List.cons_append] at h3
      have hc1 : w.cell? ⟨g, 1, none⟩ = some u1 := by
        have : arr[1]? = some u1 := by rw [← Array.getElem?_toList, h3]; rfl
        simp [World.cell?, h1, this]
      split at h
      · -- nothing was written
        cases h
        cases hy0
        refine Calls.mono (string_nil L X g w hc1) ?_
        rintro e w' ⟨rfl, rfl⟩
        exact ⟨_, .str [], K, _, rfl, .str _ _ rfl, hw.like rfl, .like ⟨rfl, rfl, rfl⟩ rfl, rfl, rfl⟩
      · rename_i b2 n
        split at h
        · rename_i c T' hb2
          split at h
          · rename_i hcond
            obtain ⟨rfl, hn, hn63⟩ := hcond
            split at h
            · rename_i l hl
              cases h
              cases hy0 with
              | rs _ _ _ _ ad cap g2 base2 hg2 hcap ha =>
              obtain ⟨g3, base3, hg3, arr2, TT2, lo2, hi2, pre2, us2, rest2, k1, kTo, k2, k3, k4, k5, k6⟩ := hw.own b2 _ hb2
              rw [hg2] at hg3; cases hg3
              obtain ⟨rfl, rfl⟩ := kTo _ rfl
              have hpre : pre2 = [] := List.eq_nil_of_length_eq_zero k4
              subst hpre
              rcases ha with h0 | ⟨rfl, N, hN, hNle⟩
              · omega
              · have hus := abytesIn_sound hl (k5.take (n + 1))
                have hul : us2.length = c.length := k5.length.symm
                have hll : l.length = n + 1 := by
                  have := congrArg List.length hus
                  simp at this
                  omega
                have hasz : c.length ≤ arr2.size := by rw [← Array.length_toList, k3]; simp; omega
                have hcells : ∀ j x, l[j]? = some x → w.cell? ((⟨g2, 0, none⟩ : Addr).add j) = some (.int .u8 x.toNat) := by
                  intro j x hx
                  have hjl : j < n + 1 := by rw [← hll]; exact (List.getElem?_eq_some_iff.1 hx).1
                  have e1 : (us2.take (n + 1))[j]? = some (.int .u8 x.toNat) := by rw [hus, List.getElem?_map, hx]; rfl
                  rw [List.getElem?_take_of_lt hjl] at e1
                  have e2 : arr2[j]? = some (.int .u8 x.toNat) := by
                    rw [← Array.getElem?_toList, k3, List.nil_append, List.getElem?_append_left (by omega), e1]
                  rw [add_none]
                  simp [World.cell?, k1, e2]
                have hne : l ≠ [] := by intro e; rw [e] at hll; cases hll
                have hrun := string_bytes L X g g2 arr2.size cap l w hne (by rw [hll]; exact hc1) (by omega) (by simp [World.shape?, k1]) (by omega) (by omega) hcells
                refine Calls.mono hrun ?_
                rintro e w' ⟨rfl, rfl⟩
                have hfr : (w.drew.freeze ⟨g2, 0, none⟩ l.length).heap[g2]? = some (.cells arr2 (ρ.t 5) (if lo2 == hi2 then (0, 0 + l.length) else (min lo2 0, max hi2 (0 + l.length)))) := by
                  have : w.drew.heap[g2]? = some (.cells arr2 (ρ.t 5) (lo2, hi2)) := k1
                  unfold World.freeze
                  rw [if_neg (by omega)]
                  simp only [Array.getElem?_modify, if_true, this, Option.map_some]
                have := hw.drop (w' := w.drew.freeze ⟨g2, 0, none⟩ l.length) hb2 hg2 (by unfold World.freeze; split <;> exact ⟨rfl, rfl, rfl⟩)
                  (by unfold World.freeze; split <;> simp) (fun k hk => by
                    unfold World.freeze
                    split
                    · rfl
                    · simp only [Array.getElem?_modify]
                      rw [if_neg (fun e => hk e.symm)]
                      rfl)
                  (fun n hn => ⟨_, _, _, hfr, by rw [k6] at hn; cases hn; rfl⟩)
                exact ⟨_, .str l, K, _, rfl, .str _ _ rfl, this.1, this.2, rfl, rfl⟩
            · cases h
          · cases h
        · cases h
      · cases h
    · cases h
  · cases h
end
end Go.Am
end
noncomputable section
namespace Go.Am
open Go
def aIndexByte : List AV → AHeap → Option (AV × AHeap)
  | [.str l, .int .u8 c], s => some (.int .i64 (Lib.indexByte l c.toNat.toUInt8), s)
  | _, _ => none
section
variable {P : Program} {f : FuncId} {fn : Func} {args : List AV} {v : AV} {s s' : AHeap}
theorem aext_ok {e : Array Value → Sem Value} {g : List AV → AHeap → Option (AV × AHeap)} (hf : P.funcs[f]? = some fn) (hname : (fn.name == "runtime.NumGoroutine") = false) (hb : fn.body.isNone = true)
    (hn : Extern.findNext fn = none) (he : Extern.find fn = some e)
    (key : ∀ {K : Know} {args : List AV} {s : AHeap} {v : AV} {s' : AHeap}, g args s = some (v, s') → ∀ vals, RVs K args vals → s' = s ∧ ∃ u, RV K v u ∧ ∀ w, (e vals.toArray).run P w = .ok u w)
    (h : g args s = some (v, s')) : ACall P f args s fun v' t => v' = v ∧ t = s' := by
  intro K w vals hG hw ha
  obtain ⟨rfl, u, hu, hr⟩ := key h vals ha
  rw [run_callFunc_extern hf hname hb hn he, hr w]
  simp only [Result.andThen]
  exact ⟨v, K, s', hu, hw, .refl _ _ _, rfl, rfl⟩
theorem aIndexByte_ok (hf : P.funcs[f]? = some fn) (hname : (fn.name == "runtime.NumGoroutine") = false) (hb : fn.body.isNone = true) (hn : Extern.findNext fn = none) (he : Extern.find fn = some Extern.BytealgIndexByte.indexByte)
    (h : aIndexByte args s = some (v, s')) : ACall P f args s fun v' t => v' = v ∧ t = s' := by
  refine aext_ok hf hname hb hn he ?_ h
  intro K args s v s' h vals ha
  unfold aIndexByte at h
  split at h
  · cases h
    cases ha with
    | cons _ _ _ _ h1 h2 => cases h2 with
      | cons _ _ _ _ h3 h4 =>
        cases h4
        cases h1 with
        | str l str hl => cases h3; subst hl; exact ⟨rfl, _, .int _ _, fun w => Lib.run_indexByteString str _ w⟩
  · cases h
end
end Go.Am
end
noncomputable section
namespace Go.Am
open Go
inductive TT where
  | nil
  | node (v : AV) (l r : TT)
def TT.get : TT → Nat → Option AV
  | .nil, _ => none
  | .node v l r, n => match Nat.beq n 0 with
    | true => some v
    | false => match Nat.beq (n % 2) 1 with
      | true => l.get (n / 2)
      | false => r.get (n / 2 - 1)
def TT.put : TT → Nat → AV → TT
  | .nil, _, _ => .nil
  | .node v l r, n, x => match Nat.beq n 0 with
    | true => .node x l r
    | false => match Nat.beq (n % 2) 1 with
      | true => .node v (l.put (n / 2) x) r
      | false => .node v l (r.put (n / 2 - 1) x)
def TT.at (t : TT) (i : Nat) : AV := match t.get i with | some v => v | none => aundef
def evT (t : TT) : Operand → AV
  | .tmp i => t.at i
  | .const v => AV.ofV v
  | .global g => match globAt globs g with
    | some l => .rptr l
    | none => .raw (.pointer (some ⟨g, 0, none⟩))
  | .func f => .func (.func f) [] []
def putT (t : TT) (d : Option Tmp) (v : AV) : TT := match d with
  | some d => t.put d v
  | none => t
structure DStT where
  tm : TT
  cores : List AHeap
  ress : List AV
  kinds : List DKind
  tms : List TT
section
variable {P : Program} {T : Tab} {ops : Array Oper} {Q : APost}
def TR (t : TT) (l : List AV) : Prop := ∀ i, t.get i = l[i]?
theorem beq0 {n : Nat} (h : n ≠ 0) : Nat.beq n 0 = false := by
  cases n with
  | zero => exact absurd rfl h
  | succ n => rfl
theorem beq_ff {a b : Nat} (h : a ≠ b) : Nat.beq a b = false := by
  cases e : Nat.beq a b with
  | false => rfl
  | true => exact absurd (Nat.eq_of_beq_eq_true e) h
theorem TT.get_node (v : AV) (l r : TT) (n : Nat) : (TT.node v l r).get n = if n = 0 then some v else if n % 2 = 1 then l.get (n / 2) else r.get (n / 2 - 1) := by
  simp only [TT.get]
  by_cases h0 : n = 0
  · subst h0; rfl
  · rw [beq0 h0, if_neg h0]
    simp only
    by_cases h1 : n % 2 = 1
    · rw [h1, if_pos rfl]
    · rw [beq_ff h1, if_neg h1]
theorem TT.put_node (v : AV) (l r : TT) (n : Nat) (x : AV) : (TT.node v l r).put n x = if n = 0 then .node x l r else if n % 2 = 1 then .node v (l.put (n / 2) x) r else .node v l (r.put (n / 2 - 1) x) := by
  simp only [TT.put]
  by_cases h0 : n = 0
  · subst h0; rfl
  · rw [beq0 h0, if_neg h0]
    simp only
    by_cases h1 : n % 2 = 1
    · rw [h1, if_pos rfl]
    · rw [beq_ff h1, if_neg h1]
theorem TT.get_put : ∀ (t : TT) (n m : Nat) (x : AV), (t.put n x).get m = if m = n then (t.get n).map (fun _ => x) else t.get m
  | .nil, n, m, x => by simp [TT.put, TT.get]
  | .node v l r, n, m, x => by
    rw [TT.put_node, TT.get_node v l r n, TT.get_node v l r m]
    by_cases h0 : n = 0
    · subst h0
      rw [if_pos rfl, TT.get_node]
      by_cases hm : m = 0
      · subst hm; simp
      · simp [hm]
    · rw [if_neg h0, if_neg h0]
      by_cases h1 : n % 2 = 1
      · rw [if_pos h1, if_pos h1, TT.get_node, TT.get_put l]
        by_cases hm : m = 0
        · subst hm; rw [if_pos rfl, if_neg (Ne.symm h0), if_pos rfl]
        · rw [if_neg hm, if_neg hm]
          by_cases h2 : m % 2 = 1
          · rw [if_pos h2, if_pos h2]
            by_cases e : m = n
            · subst e; simp
            · rw [if_neg (by omega), if_neg e]
          · rw [if_neg h2, if_neg h2, if_neg (by rintro rfl; exact h2 h1)]
      · rw [if_neg h1, if_neg h1, TT.get_node, TT.get_put r]
        by_cases hm : m = 0
        · subst hm; rw [if_pos rfl, if_neg (Ne.symm h0), if_pos rfl]
        · rw [if_neg hm, if_neg hm]
          by_cases h2 : m % 2 = 1
          · rw [if_pos h2, if_pos h2, if_neg (by rintro rfl; exact h1 h2)]
          · rw [if_neg h2, if_neg h2]
            by_cases e : m = n
            · subst e; simp
            · rw [if_neg (by omega), if_neg e]
theorem TR.put {t : TT} {l : List AV} (h : TR t l) (d : Option Tmp) (v : AV) : TR (putT t d v) (aput l d v) := by
  cases d with
  | none => exact h
  | some d =>
    intro i
    show (t.put d v).get i = (l.set d v)[i]?
    rw [TT.get_put, List.getElem?_set]
    by_cases e : i = d
    · subst e
      rw [if_pos rfl, if_pos rfl, h i]
      by_cases hl : i < l.length
      · rw [if_pos hl, List.getElem?_eq_getElem hl]; rfl
      · rw [if_neg hl, List.getElem?_eq_none (by omega)]; rfl
    · rw [if_neg e, if_neg (Ne.symm e), h i]
theorem TR.at {t : TT} {l : List AV} (h : TR t l) (i : Nat) : t.at i = l.getD i aundef := by
  unfold TT.at
  rw [h i, List.getD_eq_getElem?_getD]
  cases l[i]? <;> rfl
theorem TR.ev {t : TT} {l : List AV} (h : TR t l) : evT t = aev l := by
  funext x
  cases x with
  | tmp i => exact h.at i
  | _ => rfl
end
end Go.Am
end
noncomputable section
namespace Go.Am
open Go
structure Pin where
  W : World
  O : Nat → Prop
def Pin.ok (p : Pin) (K : Know) (s : AHeap) (w : World) : Prop :=
  p.W.heap.size ≤ w.heap.size ∧ (∀ g, g < p.W.heap.size → ¬ p.O g → w.heap[g]? = p.W.heap[g]?) ∧ ∀ g, owned K s g → p.O g ∨ p.W.heap.size ≤ g
theorem Pin.ok.ext {p : Pin} {K K' : Know} {s s' : AHeap} {w w' : World} (h : p.ok K s w) (hx : Ext K s w K' s' w') : p.ok K' s' w' := by
  refine ⟨Nat.le_trans h.1 hx.size, fun g hg hn => ?_, fun g ho => ?_⟩
  · rw [hx.block g (Nat.lt_of_lt_of_le hg h.1) ?_, h.2.1 g hg hn]
    intro ho
    rcases h.2.2 g ho with q | q
    · exact hn q
    · omega
  · rcases hx.own g ho with q | q
    · exact h.2.2 g q
    · exact .inr (Nat.le_trans h.1 q)
theorem Pin.ok.own {p : Pin} {K K' : Know} {s s' : AHeap} {w : World} (h : p.ok K s w) (ho : ∀ g, owned K' s' g → owned K s g) : p.ok K' s' w :=
  ⟨h.1, h.2.1, fun g hg => h.2.2 g (ho g hg)⟩
structure Base where
  K : Know
  s : AHeap
  w : World
  pin : Pin
def Base.X (B : Base) (K : Know) (s : AHeap) (w : World) : Prop := Ext B.K B.s B.w K s w ∧ B.pin.ok K s w
theorem Base.X.ext {B : Base} {K K' : Know} {s s' : AHeap} {w w' : World} (h : B.X K s w) (hx : Ext K s w K' s' w') : B.X K' s' w' := ⟨h.1.trans hx, h.2.ext hx⟩
def Base.of (K : Know) (s : AHeap) (w : World) : Base := ⟨K, s, w, w, owned K s⟩
theorem Base.of_X (K : Know) (s : AHeap) (w : World) : (Base.of K s w).X K s w := ⟨Ext.refl K s w, Nat.le_refl _, fun _ _ _ => rfl, fun _ h => .inl h⟩
theorem Base.X.forget {B : Base} {K : Know} {s s1 : AHeap} {w : World} (h : B.X K s w) (hs : ∀ b o, s1.get b = some o → s.get b = some o) (hn : s1.nx = s.nx) : B.X K s1 w :=
  ⟨h.1.forget hs hn, h.2.own fun g ⟨b, o, base, e, q⟩ => ⟨b, o, base, hs b o e, q⟩⟩
def Base.lift (B : Base) (Q : APost) : Exit → Act → World → Prop := fun e act' w' =>
  ∃ K' tm' s', WR K' s' w' ∧ RA K' tm' act' ∧ B.X K' s' w' ∧ Q e tm' s'
def Base.At (B : Base) (s0 : AHeap) : Prop := B.s = s0 ∧ WR B.K B.s B.w ∧ GlobK B.K
def Gh (s0 : AHeap) (Q : List AV → AHeap → Prop) (vs : List AV) (s : AHeap) : Prop :=
  ∀ (B : Base), B.At s0 → ∀ K w us, WR K s w → RVs K vs us → B.X K s w → ∃ K' vs' s', WR K' s' w ∧ RVs K' vs' us ∧ B.X K' s' w ∧ Q vs' s'
theorem Gh.now {s0 : AHeap} {Q : List AV → AHeap → Prop} {vs : List AV} {s : AHeap} (h : Q vs s) : Gh s0 Q vs s :=
  fun B _ K w us hw hv hx => ⟨K, vs, s, hw, hv, hx, h⟩
theorem Gh.mono {s0 : AHeap} {Q Q' : List AV → AHeap → Prop} {vs : List AV} {s : AHeap} (h : Gh s0 Q vs s) (hq : ∀ vs s, Q vs s → Q' vs s) : Gh s0 Q' vs s := by
  intro B hB K w us hw hv hx
  obtain ⟨K', vs', s', h1, h2, h3, h4⟩ := h B hB K w us hw hv hx
  exact ⟨K', vs', s', h1, h2, h3, hq _ _ h4⟩
theorem Gh.trans {s0 : AHeap} {Q : List AV → AHeap → Prop} {vs : List AV} {s : AHeap} (h : Gh s0 (Gh s0 Q) vs s) : Gh s0 Q vs s := by
  intro B hB K w us hw hv hx
  obtain ⟨K', vs', s', h1, h2, h3, h4⟩ := h B hB K w us hw hv hx
  exact h4 B hB K' w us h1 h2 h3
theorem rename_core {s0 s s' : AHeap} {B : Base} (hB : B.At s0) {K : Know} {w : World} (hw : WR K s w) (hx : B.X K s w) {f : Nat → Nat} (hlow : ∀ b, b < s0.nx → f b = b)
    (hdead : ∀ b, s'.nx ≤ b → s.nx ≤ f b) (hnx : s0.nx ≤ s'.nx)
    (hget : ∀ b o, s'.get b = some o → s.get (f b) = some (renO f o) ∨ (b < s0.nx ∧ s.get b = some o ∧ s0.get b = some o))
    (hinj : ∀ b b' o o', s'.get b = some o → s'.get b' = some o' → f b = f b' → b = b') :
    ∃ K', WR K' s' w ∧ B.X K' s' w ∧ ∀ v u, RV K (ren f v) u → RV K' v u := by
  obtain ⟨rfl, hBw, _⟩ := hB
  obtain ⟨hx, hpin⟩ := hx
  let K' : Know := ⟨fun b => K.phi (f b), K.frz, K.dim⟩
  have hp : ∀ b q, K.phi (f b) = some q → K'.phi b = some q := fun _ _ h => h
  have hf : ∀ g o u, K.frz g o = some u → K'.frz g o = some u := fun _ _ _ h => h
  have hd : ∀ g n, K.dim g = some n → K'.dim g = some n := fun _ _ h => h
  have hBlow : ∀ b q, B.K.phi b = some q → b < B.s.nx := fun b q h => (hBw.bnd b q.1 q.2 h).1
  have hget' : ∀ b o, s'.get b = some o → ∃ o1, s.get (f b) = some o1 ∧ ∀ g base, WO K w g base o1 → WO K' w g base o := by
    intro b o h
    rcases hget b o h with h1 | ⟨h1, h2, h3⟩
    · exact ⟨_, h1, fun g base q => q.ren hp hf hd⟩
    · refine ⟨o, by rw [hlow b h1]; exact h2, fun g base q => ?_⟩
      obtain ⟨g0, base0, _, q2⟩ := hBw.own b o h3
      have := renO_low hlow (q2.low hBlow)
      rw [← this] at q
      exact q.ren hp hf hd
  refine ⟨K', ⟨hw.frz, hw.dim, ?_, ?_, ?_, ?_⟩, ⟨⟨⟨?_, hx.le.frz, hx.le.dim⟩, ?_, hnx, hx.os, hx.tape, hx.output, hx.size, hx.block, ?_, hx.frz⟩, hpin.own ?_⟩, fun v u h => h.ren hp hf hd rfl⟩
  · intro b o h
    obtain ⟨o1, h1, h2⟩ := hget' b o h
    obtain ⟨g, base, h3, h4⟩ := hw.own _ _ h1
    exact ⟨g, base, h3, h2 _ _ h4⟩
  · intro b b' o o' g base base' h h' hq hq'
    obtain ⟨o1, h1, _⟩ := hget' b o h
    obtain ⟨o1', h1', _⟩ := hget' b' o' h'
    exact hinj b b' o o' h h' (hw.inj _ _ _ _ g base base' h1 h1' hq hq')
  · intro b o g base h hq i
    obtain ⟨o1, h1, _⟩ := hget' b o h
    exact hw.sep _ _ g base h1 hq i
  · intro b g base hq
    have hb := hw.bnd _ _ _ (show K.phi (f b) = some (g, base) from hq)
    refine ⟨?_, hb.2⟩
    rcases Nat.lt_or_ge b s'.nx with h | h
    · exact h
    · have := hdead b h; omega
  · intro b q h
    show K.phi (f b) = some q
    rw [hlow b (hBlow b q h)]
    exact hx.le.phi b q h
  · intro b hb
    show K.phi (f b) = _
    rw [hlow b hb]
    exact hx.phi b hb
  · rintro g ⟨b, o, base, h, hq⟩
    obtain ⟨o1, h1, _⟩ := hget' b o h
    exact hx.own g ⟨f b, o1, base, h1, hq⟩
  · rintro g ⟨b, o, base, h, hq⟩
    obtain ⟨o1, h1, _⟩ := hget' b o h
    exact ⟨f b, o1, base, h1, hq⟩
mutual
def fz (b sz : Nat) (xs : List AV) : AV → AV
  | .bool b => .bool b
  | .int k n => .int k n
  | .str l => .str l
  | .nilp => .nilp
  | .ptr b off => .ptr b off
  | .rptr l => .rptr (fzL b sz xs l)
  | .nils => .nils
  | .vs sz' full l => .vs sz' full (fzL b sz xs l)
  | .rs sz' b' off len => if b' = b ∧ sz' = sz ∧ off = 0 ∧ len = xs.length then .vs sz' false xs else .rs sz' b' off len
  | .rc sz' b' off len cap => .rc sz' b' off len cap
  | .av g l => .av g l
  | .emp => .emp
  | .fp b' off l => .fp b' off (fzL b sz xs l)
  | .func fn a c => .func fn (fzL b sz xs a) (fzL b sz xs c)
  | .nilf => .nilf
  | .nilm => .nilm
  | .map b => .map b
  | .iface t v => .iface t (fz b sz xs v)
  | .nili => .nili
  | .agg l => .agg (fzL b sz xs l)
  | .tuple l => .tuple (fzL b sz xs l)
  | .raw v => .raw v
def fzL (b sz : Nat) (xs : List AV) : List AV → List AV
  | [] => []
  | y :: ys => fz b sz xs y :: fzL b sz xs ys
end
theorem fzL_append (b sz : Nat) (xs : List AV) : ∀ (l l' : List AV), fzL b sz xs (l ++ l') = fzL b sz xs l ++ fzL b sz xs l'
  | [], l' => by simp only [List.nil_append, fzL]
  | y :: ys, l' => by simp only [List.cons_append, fzL, fzL_append b sz xs ys l']
theorem fzL_map (b sz : Nat) (xs : List AV) : ∀ (l : List AV), fzL b sz xs l = l.map (fz b sz xs)
  | [] => rfl
  | y :: ys => by simp only [fzL, fzL_map b sz xs ys, List.map_cons]
theorem fz_cells (b sz : Nat) (xs : List AV) (v : AV) : (fz b sz xs v).cells = fzL b sz xs v.cells := by
  cases v with
  | rs sz' b' off len =>
    show (fz b sz xs (.rs sz' b' off len)).cells = [fz b sz xs (.rs sz' b' off len)]
    unfold fz
    split <;> rfl
  | _ => simp only [fz, AV.cells, fzL]
theorem fzL_cells (b sz : Nat) (xs : List AV) : ∀ (l : List AV), (fzL b sz xs l).flatMap AV.cells = fzL b sz xs (l.flatMap AV.cells)
  | [] => rfl
  | y :: ys => by
    show (fz b sz xs y :: fzL b sz xs ys).flatMap AV.cells = _
    rw [List.flatMap_cons, List.flatMap_cons, fzL_append, fz_cells, fzL_cells b sz xs ys]
theorem fzL_length (b sz : Nat) (xs : List AV) : ∀ (l : List AV), (fzL b sz xs l).length = l.length
  | [] => rfl
  | y :: ys => by simp only [fzL, List.length_cons, fzL_length b sz xs ys]
mutual
theorem fz_pu {b sz : Nat} {xs : List AV} : ∀ {v : AV}, low 0 v → fz b sz xs v = v
  | .bool _, _ | .int _ _, _ | .str _, _ | .nilp, _ | .nils, _ | .nilf, _ | .nilm, _ | .nili, _ | .raw _, _ | .av _ _, _ | .emp, _ => by simp only [fz]
  | .ptr _ _, hv => by simp only [fz]
  | .rptr l, hv => by simp only [low] at hv; simp only [fz, fzL_pu hv]
  | .vs _ _ l, hv => by simp only [low] at hv; simp only [fz, fzL_pu hv]
  | .rs _ _ _ _, hv => by simp only [low] at hv; omega
  | .rc _ _ _ _ _, hv => by simp only [low] at hv; omega
  | .fp _ _ _, hv => by simp only [low] at hv; omega
  | .func _ a c, hv => by simp only [low] at hv; simp only [fz, fzL_pu hv.1, fzL_pu hv.2]
  | .map _, hv => by simp only [fz]
  | .iface _ v, hv => by simp only [low] at hv; simp only [fz, fz_pu hv]
  | .agg l, hv => by simp only [low] at hv; simp only [fz, fzL_pu hv]
  | .tuple l, hv => by simp only [low] at hv; simp only [fz, fzL_pu hv]
theorem fzL_pu {b sz : Nat} {xs : List AV} : ∀ {l : List AV}, lowL 0 l → fzL b sz xs l = l
  | [], _ => by simp only [fzL]
  | y :: ys, hv => by simp only [lowL] at hv; simp only [fzL, fz_pu hv.1, fzL_pu hv.2]
end
section
variable {K K' : Know} {b sz : Nat} {xs : List AV}
mutual
theorem RV.fz (hk : K.le K') (hb : ∀ g base, K.phi b = some (g, base) → ∃ us, RVs K' (xs.flatMap AV.cells) us ∧ ∀ i u, us[i]? = some u → K'.frz g (base + i) = some u)
    (hsz : ∀ x ∈ xs, x.cells.length = sz) : ∀ {v : AV} {u : Value}, RV K v u → RV K' (Am.fz b sz xs v) u
  | _, _, .bool b => by simp only [Am.fz]; exact .bool _
  | _, _, .int k n => by simp only [Am.fz]; exact .int _ _
  | _, _, .str l s h => by simp only [Am.fz]; exact .str _ _ h
  | _, _, .nilp => by simp only [Am.fz]; exact .nilp
  | _, _, .ptr x off g base h => by simp only [Am.fz]; exact .ptr _ _ _ _ (hk.phi _ _ h)
  | _, _, .rptr l g off us h hf => by simp only [Am.fz]; exact .rptr _ _ _ us (RVs.fz hk hb hsz h) fun i u e => hk.frz _ _ _ (hf i u e)
  | _, _, .nils => by simp only [Am.fz]; exact .nils
  | _, _, .vs sz' full l a n cap us hn h hz hc hfull hf => by
    simp only [Am.fz]
    refine .vs _ _ _ a n cap us (by rw [hn, fzL_length]) (by rw [fzL_cells]; exact RVs.fz hk hb hsz h) ?_ hc hfull fun i u e => ⟨(hf i u e).1, hk.frz _ _ _ (hf i u e).2⟩
    intro x hx
    rw [fzL_map, List.mem_map] at hx
    obtain ⟨y, hy, rfl⟩ := hx
    rw [fz_cells, fzL_length]
    exact hz y hy
  | _, _, .rs sz' b' off len a cap g base hg hc ha => by
    simp only [Am.fz]
    split
    · rename_i hh
      obtain ⟨rfl, rfl, rfl, rfl⟩ := hh
      obtain ⟨us, h1, h2⟩ := hb g base hg
      refine .vs _ _ _ a _ cap us rfl h1 hsz hc (fun q => by cases q) ?_
      intro i u e
      rcases ha with rfl | ⟨rfl, N, _, _⟩
      · have hx0 : xs = [] := List.eq_nil_of_length_eq_zero (by omega)
        subst hx0
        cases h1
        simp at e
      · exact ⟨rfl, h2 i u e⟩
    · exact .rs _ _ _ _ a cap g base (hk.phi _ _ hg) hc (ha.imp id fun ⟨e, N, hN, hl⟩ => ⟨e, N, hk.dim _ _ hN, hl⟩)
  | _, _, .rc sz' b' off len cap g base N hg hc hN hl => by simp only [Am.fz]; exact .rc _ _ _ _ _ g base N (hk.phi _ _ hg) hc (hk.dim _ _ hN) hl
  | _, _, .func fn first captured a c h1 h2 => by simp only [Am.fz]; exact .func _ _ _ a c (RVs.fz hk hb hsz h1) (RVs.fz hk hb hsz h2)
  | _, _, .nilf => by simp only [Am.fz]; exact .nilf
  | _, _, .nilm => by simp only [Am.fz]; exact .nilm
  | _, _, .map b g h => by simp only [Am.fz]; exact .map _ _ (hk.phi _ _ h)
  | _, _, .raw v => by simp only [Am.fz]; exact .raw _
  | _, _, .emp a cap => by simp only [Am.fz]; exact .emp _ _
  | _, _, .fp b' off l g base us hg h hf => by simp only [Am.fz]; exact .fp _ _ _ g base us (hk.phi _ _ hg) (RVs.fz hk hb hsz h) fun i u e => hk.frz _ _ _ (hf i u e)
  | _, _, .av g l off n cap hn hc hf => by simp only [Am.fz]; exact .av g l off n cap hn hc fun i z e => hk.frz _ _ _ (hf i z e)
  | _, _, .iface t v u h => by simp only [Am.fz]; exact .iface _ _ _ (RV.fz hk hb hsz h)
  | _, _, .nili => by simp only [Am.fz]; exact .nili
  | _, _, .agg l cs h => by simp only [Am.fz]; exact .agg _ _ (RVs.fz hk hb hsz h)
  | _, _, .tuple l cs h => by simp only [Am.fz]; exact .tuple _ _ (RVs.fz hk hb hsz h)
theorem RVs.fz (hk : K.le K') (hb : ∀ g base, K.phi b = some (g, base) → ∃ us, RVs K' (xs.flatMap AV.cells) us ∧ ∀ i u, us[i]? = some u → K'.frz g (base + i) = some u)
    (hsz : ∀ x ∈ xs, x.cells.length = sz) : ∀ {l : List AV} {us : List Value}, RVs K l us → RVs K' (fzL b sz xs l) us
  | _, _, .nil => by simp only [fzL]; exact .nil
  | _, _, .cons x u xs us h hs => by simp only [fzL]; exact .cons _ _ _ _ (RV.fz hk hb hsz h) (RVs.fz hk hb hsz hs)
end
end
def fzO (b sz : Nat) (xs : List AV) : AObj → AObj
  | .cells c T => .cells (fzL b sz xs c) T
  | .map es ck => .map (es.map fun e => (fz b sz xs e.1, fz b sz xs e.2.1, e.2.2)) ck
  | .siter l p => .siter l p
  | .miter m => .miter m
theorem freeze_core {s0 s s' : AHeap} {B : Base} (hB : B.At s0) {K : Know} {w : World} (hw : WR K s w) (hx : B.X K s w) {b sz : Nat} {xs : List AV} {T : Option TypeId}
    (hb : s.get b = some (.cells (xs.flatMap AV.cells) T)) (hsz : ∀ x ∈ xs, x.cells.length = sz) (hnx : s'.nx = s.nx)
    (hget : ∀ x o, s'.get x = some o → x ≠ b ∧ ∃ o1, s.get x = some o1 ∧ (o = fzO b sz xs o1 ∨ o = o1)) :
    ∃ K', WR K' s' w ∧ B.X K' s' w ∧ ∀ v u, RV K v u → RV K' (fz b sz xs v) u := by
  obtain ⟨rfl, hBw, _⟩ := hB
  obtain ⟨hx, hpin⟩ := hx
  obtain ⟨gb, bb, hphi, arr, TT, lo, hi, pre, us, rest, h1, h0, h2, h3, h4, h5, h6⟩ := hw.own _ _ hb
  let K' : Know := ⟨K.phi, fun g o => if g = gb then (if bb ≤ o then us[o - bb]? else none) else K.frz g o, K.dim⟩
  have hsepb : ∀ i, K.frz gb i = none := fun i => hw.sep b _ gb bb hb hphi i
  have hk : K.le K' := by
    refine ⟨fun _ _ h => h, ?_, fun _ _ h => h⟩
    intro g o u h
    have hne : g ≠ gb := by rintro rfl; rw [hsepb] at h; cases h
    show (if g = gb then _ else K.frz g o) = some u
    rw [if_neg hne]; exact h
  have hbk : ∀ g base, K.phi b = some (g, base) → ∃ us, RVs K' (xs.flatMap AV.cells) us ∧ ∀ i u, us[i]? = some u → K'.frz g (base + i) = some u := by
    intro g base h
    rw [hphi] at h; cases h
    refine ⟨us, h5.mono hk, fun i u e => ?_⟩
    show (if gb = gb then (if bb ≤ bb + i then us[bb + i - bb]? else none) else _) = some u
    rw [if_pos rfl, if_pos (by omega), Nat.add_sub_cancel_left]
    exact e
  have hWO : ∀ g base o1, WO K w g base o1 → WO K' w g base (fzO b sz xs o1) := by
    intro g base o1 h
    cases o1 with
    | cells c T =>
      obtain ⟨arr, TT, lo, hi, pre, us, rest, g1, g0, g2, g3, g4, g5, g6⟩ := h
      exact ⟨arr, TT, lo, hi, pre, us, rest, g1, g0, g2, g3, g4, g5.fz hk hbk hsz, hk.dim _ _ g6⟩
    | map es ck =>
      obtain ⟨g0, mes, g1, g2, g3, g4⟩ := h
      refine ⟨g0, mes, g1, ?_, ?_, ?_⟩
      · have := g2.fz hk hbk hsz
        rw [fzL_map, List.map_map] at this
        rw [List.map_map]; exact this
      · have := g3.fz hk hbk hsz
        rw [fzL_map, List.map_map] at this
        rw [List.map_map]; exact this
      · rw [← g4, List.map_map]; rfl
    | siter l p => exact h
    | miter m =>
      obtain ⟨h0, m', a, b, h1, h2, h3⟩ := h
      exact ⟨h0, m', a, b, h1, h2, fun x e => by obtain ⟨gm, q1, q2⟩ := h3 x e; exact ⟨gm, hk.phi _ _ q1, q2⟩⟩
  have hgb : gb < w.heap.size := (hw.bnd _ _ _ hphi).2
  refine ⟨K', ⟨?_, hw.dim, ?_, ?_, ?_, ?_⟩, ⟨⟨⟨fun _ _ h => hx.le.phi _ _ h, fun g o u h => hk.frz _ _ _ (hx.le.frz _ _ _ h), hx.le.dim⟩, hx.phi, by rw [hnx]; exact hx.nx, hx.os, hx.tape, hx.output, hx.size, hx.block, ?_, ?_⟩, hpin.own ?_⟩,
    fun v u h => h.fz hk hbk hsz⟩
  · intro g o u h
    by_cases hg : g = gb
    · subst hg
      have h' : (if bb ≤ o then us[o - bb]? else none) = some u := by
        have : (if g = g then (if bb ≤ o then us[o - bb]? else none) else K.frz g o) = some u := h
        rwa [if_pos rfl] at this
      split at h'
      · rename_i hle
        have hlt : o - bb < us.length := by
          rcases Nat.lt_or_ge (o - bb) us.length with q | q
          · exact q
          · rw [List.getElem?_eq_none q] at h'; cases h'
        have harr : arr[o]? = some u := by
          rw [← Array.getElem?_toList, h3, List.append_assoc, List.getElem?_append_right (by omega), h4, List.getElem?_append_left hlt]
          exact h'
        unfold World.cell?
        rw [show (⟨g, o, none⟩ : Addr).block = g from rfl, h1]
        simpa using harr
      · cases h'
    · have : K.frz g o = some u := by
        have h' : (if g = gb then (if bb ≤ o then us[o - bb]? else none) else K.frz g o) = some u := h
        rwa [if_neg hg] at h'
      exact hw.frz g o u this
  · intro x o h
    obtain ⟨hne, o1, q1, q2⟩ := hget x o h
    obtain ⟨g, base, q3, q4⟩ := hw.own _ _ q1
    refine ⟨g, base, q3, ?_⟩
    rcases q2 with rfl | rfl
    · exact hWO _ _ _ q4
    · exact q4.mono hk
  · intro x y o o' g i j e e' q q'
    obtain ⟨_, o1, q1, _⟩ := hget x o e
    obtain ⟨_, o2, q2, _⟩ := hget y o' e'
    exact hw.inj _ _ _ _ g i j q1 q2 q q'
  · intro x o g base e q i
    obtain ⟨hne, o1, q1, _⟩ := hget x o e
    have hg : g ≠ gb := by
      rintro rfl
      exact hne (hw.inj _ _ _ _ _ _ _ q1 hb q hphi)
    show (if g = gb then _ else K.frz g i) = none
    rw [if_neg hg]
    exact hw.sep x o1 g base q1 q i
  · intro x g base q
    rw [hnx]; exact hw.bnd x g base q
  · rintro g ⟨x, o, base, e, q⟩
    obtain ⟨_, o1, q1, _⟩ := hget x o e
    exact hx.own g ⟨x, o1, base, q1, q⟩
  · intro g hg hno o
    have hne : g ≠ gb := by
      rintro rfl
      rcases hx.own g ⟨b, _, bb, hb, hphi⟩ with q | q
      · exact hno q
      · omega
    show (if g = gb then _ else K.frz g o) = _
    rw [if_neg hne]
    exact hx.frz g hg hno o
  · rintro g ⟨x, o, base, e, q⟩
    obtain ⟨_, o1, q1, _⟩ := hget x o e
    exact ⟨x, o1, base, q1, q⟩
end Go.Am
end
noncomputable section
namespace Go.Am
open Go
def nm (n j : Nat) : Nat := n + j
theorem nm_inj {n j i : Nat} : (nm n j = nm n i) = (j = i) := by unfold nm; exact propext ⟨fun h => by omega, fun h => by omega⟩
theorem nm_lt {n j i : Nat} : (nm n j < nm n i) = (j < i) := by unfold nm; exact propext ⟨fun h => by omega, fun h => by omega⟩
theorem lt_nm {n j b : Nat} (h : b < n) : b < nm n j := by unfold nm; omega
theorem nm_ne {n j b : Nat} (h : b < n) : (nm n j = b) = False := by unfold nm; exact propext ⟨fun e => by omega, fun e => e.elim⟩
def lget : List (Nat × Option AObj) → Nat → Option AObj
  | [], _ => none
  | (k, o) :: r, j => if k = j then o else lget r j
def lput : List (Nat × Option AObj) → Nat → AObj → List (Nat × Option AObj)
  | [], j, o => [(j, some o)]
  | (k, x) :: r, j, o => if k = j then (k, some o) :: r else (k, x) :: lput r j o
def ldel : List (Nat × Option AObj) → Nat → List (Nat × Option AObj)
  | [], _ => []
  | (k, x) :: r, j => if k = j then ldel r j else (k, x) :: ldel r j
def lmap (f : AObj → AObj) : List (Nat × Option AObj) → List (Nat × Option AObj)
  | [] => []
  | (k, x) :: r => (k, x.map f) :: lmap f r
theorem lget_nil {j : Nat} : lget [] j = none := rfl
theorem lget_cons {k : Nat} {o : Option AObj} {r : List (Nat × Option AObj)} {j : Nat} : lget ((k, o) :: r) j = if k = j then o else lget r j := rfl
theorem lput_nil {j : Nat} {o : AObj} : lput [] j o = [(j, some o)] := rfl
theorem lput_cons {k : Nat} {x : Option AObj} {o : AObj} {r : List (Nat × Option AObj)} {j : Nat} : lput ((k, x) :: r) j o = if k = j then (k, some o) :: r else (k, x) :: lput r j o := rfl
theorem ldel_nil {j : Nat} : ldel [] j = [] := rfl
theorem ldel_cons {k : Nat} {x : Option AObj} {r : List (Nat × Option AObj)} {j : Nat} : ldel ((k, x) :: r) j = if k = j then ldel r j else (k, x) :: ldel r j := rfl
theorem lmap_nil {f : AObj → AObj} : lmap f [] = [] := rfl
theorem lmap_cons {f : AObj → AObj} {k : Nat} {x : Option AObj} {r : List (Nat × Option AObj)} : lmap f ((k, x) :: r) = (k, x.map f) :: lmap f r := rfl
theorem lget_lput (o : AObj) (j i : Nat) : ∀ (l : List (Nat × Option AObj)), lget (lput l j o) i = if i = j then some o else lget l i
  | [] => by
    simp only [lput, lget]
    by_cases h : i = j
    · subst h; simp
    · rw [if_neg h, if_neg (Ne.symm h)]
  | (k, x) :: r => by
    simp only [lput]
    split
    · rename_i h; subst h
      simp only [lget]
      by_cases h2 : i = k
      · subst h2; simp
      · rw [if_neg (Ne.symm h2), if_neg h2, if_neg (Ne.symm h2)]
    · rename_i h
      simp only [lget]
      rw [lget_lput o j i r]
      by_cases h2 : k = i
      · subst h2; rw [if_pos rfl, if_neg h, if_pos rfl]
      · rw [if_neg h2, if_neg h2]
theorem lget_ldel (j i : Nat) : ∀ (l : List (Nat × Option AObj)), lget (ldel l j) i = if i = j then none else lget l i
  | [] => by simp [ldel, lget]
  | (k, x) :: r => by
    simp only [ldel]
    split
    · rename_i h; subst h
      rw [lget_ldel k i r]
      simp only [lget]
      by_cases h2 : i = k
      · rw [if_pos h2, if_pos h2]
      · rw [if_neg h2, if_neg h2, if_neg (Ne.symm h2)]
    · rename_i h
      simp only [lget]
      rw [lget_ldel j i r]
      by_cases h2 : k = i
      · subst h2; rw [if_pos rfl, if_neg h, if_pos rfl]
      · rw [if_neg h2, if_neg h2]
theorem lget_lmap (f : AObj → AObj) (i : Nat) : ∀ (l : List (Nat × Option AObj)), lget (lmap f l) i = (lget l i).map f
  | [] => rfl
  | (k, x) :: r => by
    simp only [lmap, lget]
    split
    · rfl
    · exact lget_lmap f i r
theorem lget_mem {i : Nat} {o : AObj} : ∀ {l : List (Nat × Option AObj)}, lget l i = some o → (i, some o) ∈ l
  | [], h => by simp [lget] at h
  | (k, x) :: r, h => by
    simp only [lget] at h
    split at h
    · rename_i e; subst e; rw [h]; exact List.mem_cons_self ..
    · exact List.mem_cons_of_mem _ (lget_mem h)
def loc (s : AHeap) (n : Nat) (l : List (Nat × Option AObj)) : AHeap := ⟨s.nx + n, true, .nil, fun b => if b < s.nx then s.get b else lget l (b - s.nx)⟩
section
variable {s : AHeap} {n j b : Nat} {l : List (Nat × Option AObj)} {o : AObj}
theorem nx_loc : (loc s n l).nx = nm s.nx n := rfl
theorem get_loc : (loc s n l).get b = if b < s.nx then s.get b else lget l (b - s.nx) := rfl
theorem get_loc_nm : (loc s n l).get (nm s.nx j) = lget l j := by
  rw [get_loc, if_neg (by unfold nm; omega)]
  unfold nm; rw [Nat.add_sub_cancel_left]
theorem get_loc_out (h : b < s.nx) : (loc s n l).get b = s.get b := by rw [get_loc, if_pos h]
theorem upd_loc_nm : (loc s n l).upd (nm s.nx j) o = loc s n (lput l j o) := by
  show AHeap.mk _ _ _ _ = _
  unfold loc
  congr 1
  funext m
  show (if m = nm s.nx j then some o else if m < s.nx then s.get m else lget l (m - s.nx)) = _
  rw [lget_lput]
  unfold nm
  by_cases h : m = s.nx + j
  · subst h; rw [if_pos rfl, if_neg (by omega), if_pos (by omega)]
  · rw [if_neg h]
    by_cases h2 : m < s.nx
    · rw [if_pos h2, if_pos h2]
    · rw [if_neg h2, if_neg h2, if_neg (by omega)]
theorem del_loc_nm : (loc s n l).del (nm s.nx j) = loc s n (ldel l j) := by
  show AHeap.mk _ _ _ _ = _
  unfold loc
  congr 1
  funext m
  show (if m = nm s.nx j then none else if m < s.nx then s.get m else lget l (m - s.nx)) = _
  rw [lget_ldel]
  unfold nm
  by_cases h : m = s.nx + j
  · subst h; rw [if_pos rfl, if_neg (by omega), if_pos (by omega)]
  · rw [if_neg h]
    by_cases h2 : m < s.nx
    · rw [if_pos h2, if_pos h2]
    · rw [if_neg h2, if_neg h2, if_neg (by omega)]
theorem new_loc : (loc s n l).new o = loc s (n + 1) (lput l n o) := by
  show AHeap.mk _ _ _ _ = _
  unfold loc
  congr 1
  funext m
  show (if m = s.nx + n then some o else if m < s.nx then s.get m else lget l (m - s.nx)) = _
  rw [lget_lput]
  by_cases h : m = s.nx + n
  · subst h; rw [if_pos rfl, if_neg (by omega), if_pos (by omega)]
  · rw [if_neg h]
    by_cases h2 : m < s.nx
    · rw [if_pos h2, if_pos h2]
    · rw [if_neg h2, if_neg h2, if_neg (by omega)]
theorem upd_loc_out (h : b < s.nx) : (loc s n l).upd b o = loc (s.upd b o) n l := by
  show AHeap.mk _ _ _ _ = _
  unfold loc
  rw [AHeap.nx_upd]
  congr 1
  funext m
  show (if m = b then some o else if m < s.nx then s.get m else lget l (m - s.nx)) = _
  rw [AHeap.get_upd]
  by_cases h1 : m = b
  · subst h1; rw [if_pos rfl, if_pos h, if_pos rfl]
  · rw [if_neg h1, if_neg h1]
theorem get_loc_at {m : Nat} (h : s.nx = m) : (loc s n l).get (nm m j) = lget l j := by subst h; exact get_loc_nm
theorem upd_loc_at {m : Nat} (h : s.nx = m) : (loc s n l).upd (nm m j) o = loc s n (lput l j o) := by subst h; exact upd_loc_nm
theorem bump_loc {m : Nat} : bump (loc s n l) m = loc s (n + m) l := by
  unfold bump loc
  simp only [Nat.add_assoc]
end
theorem Trie.set_set (x y : Option AObj) : ∀ (f : Nat) (t : Trie) (n : Nat), Trie.set x f (Trie.set y f t n) n = Trie.set x f t n
  | 0, _, _ => rfl
  | f + 1, t, n => by
    cases h0 : Nat.beq n 0 with
    | true => simp only [Trie.set, h0]; rfl
    | false =>
      cases h1 : Nat.beq (n % 2) 1 with
      | true =>
        simp only [Trie.set, h0, h1]
        show Trie.node (Trie.val t) (Trie.set x f (Trie.set y f t.lf (n / 2)) (n / 2)) t.rt = _
        rw [Trie.set_set x y f]
      | false =>
        simp only [Trie.set, h0, h1]
        show Trie.node (Trie.val t) t.lf (Trie.set x f (Trie.set y f t.rt (n / 2 - 1)) (n / 2 - 1)) = _
        rw [Trie.set_set x y f]
theorem AHeap.put_put (s : AHeap) (b : Nat) (x y : Option AObj) : (s.put b y).put b x = s.put b x := by
  obtain ⟨nx, fnm, tr, rest⟩ := s
  unfold AHeap.put
  have hf : (fun m => if m = b then x else (fun m => if m = b then y else rest m) m) = fun m => if m = b then x else rest m := by
    funext m
    by_cases h : m = b <;> simp [h]
  cases fnm with
  | true => simp only [hf]
  | false =>
    cases hb : Nat.ble b trieMax with
    | true => simp only [Trie.set_set]
    | false => simp only [hf]
theorem upd_upd {s : AHeap} {b : Nat} {o o' : AObj} : (s.upd b o).upd b o' = s.upd b o' := s.put_put b _ _
theorem get_upd_same {s : AHeap} {b : Nat} {o : AObj} : (s.upd b o).get b = some o := by rw [AHeap.get_upd, if_pos rfl]
def OKo (s0 s1 : AHeap) : Prop := s1.nx = s0.nx ∧ ∀ b o, s1.get b = some o → s0.get b = some o ∨ (b < s0.nx ∧ lowO s0.nx o)
theorem OKo.refl (s : AHeap) : OKo s s := ⟨rfl, fun b o h => .inl h⟩
theorem OKo.upd {s0 s1 : AHeap} (h : OKo s0 s1) {b : Nat} {o : AObj} (hb : b < s0.nx) (ho : lowO s0.nx o) : OKo s0 (s1.upd b o) := by
  refine ⟨by rw [AHeap.nx_upd]; exact h.1, fun x ox hx => ?_⟩
  rw [AHeap.get_upd] at hx
  split at hx
  · rename_i e; subst e; cases hx; exact .inr ⟨hb, ho⟩
  · exact h.2 x ox hx
theorem OKo.del {s0 s1 : AHeap} (h : OKo s0 s1) {b : Nat} : OKo s0 (s1.del b) := by
  refine ⟨by rw [AHeap.nx_del]; exact h.1, fun x ox hx => ?_⟩
  rw [AHeap.get_del] at hx
  split at hx
  · cases hx
  · exact h.2 x ox hx
def rnm (n0 : Nat) (r : List Nat) (nx b : Nat) : Nat := if b < n0 then b else match r[b - n0]? with
  | some k => nm n0 k
  | none => b + nx
theorem rnm_nm {n0 : Nat} {r : List Nat} {nx j : Nat} : rnm n0 r nx (nm n0 j) = match r[j]? with
    | some k => nm n0 k
    | none => nm n0 j + nx := by
  unfold rnm
  rw [if_neg (by unfold nm; omega)]
  unfold nm
  rw [Nat.add_sub_cancel_left]
theorem rnm_low {n0 : Nat} {r : List Nat} {nx b : Nat} (h : b < n0) : rnm n0 r nx b = b := by unfold rnm; rw [if_pos h]
def okObjs (f : Nat → Nat) (r : List Nat) (l : List (Nat × Option AObj)) : List (Nat × Option AObj) → Prop
  | [] => True
  | (j, o) :: t => (match r[j]? with | some k => lget l k = o.map (renO f) | none => False) ∧ okObjs f r l t
theorem okObjs_mem {f : Nat → Nat} {r : List Nat} {l : List (Nat × Option AObj)} {j : Nat} {o : AObj} : ∀ {l' : List (Nat × Option AObj)}, okObjs f r l l' → (j, some o) ∈ l' → ∃ k, r[j]? = some k ∧ lget l k = some (renO f o)
  | (i, x) :: t, h, hm => by
    simp only [okObjs] at h
    simp only [List.mem_cons, Prod.mk.injEq] at hm
    rcases hm with ⟨rfl, rfl⟩ | hm
    · have := h.1
      split at this
      · rename_i k hk; exact ⟨k, hk, this⟩
      · exact this.elim
    · exact okObjs_mem h.2 hm
theorem ren_loc {s0 s1 : AHeap} {B : Base} (hB : B.At s0) {K : Know} {w : World} {n : Nat} {l l' : List (Nat × Option AObj)} {r : List Nat} (hw : WR K (loc s1 n l) w) (hx : B.X K (loc s1 n l) w)
    (hs : OKo s0 s1) (hr : r.Nodup) (ho : okObjs (rnm s0.nx r (nm s0.nx n)) r l l') :
    ∃ K', WR K' (loc s1 r.length l') w ∧ B.X K' (loc s1 r.length l') w ∧ ∀ v u, RV K (ren (rnm s0.nx r (nm s0.nx n)) v) u → RV K' v u := by
  have hnx : s1.nx = s0.nx := hs.1
  refine rename_core hB hw hx (f := rnm s0.nx r (nm s0.nx n)) (fun b hb => rnm_low hb) ?_ (by rw [nx_loc, hnx]; unfold nm; omega) ?_ ?_
  · intro b hb
    rw [nx_loc, hnx] at hb
    unfold nm at hb
    unfold rnm
    rw [if_neg (by omega), List.getElem?_eq_none (by omega)]
    show (loc s1 n l).nx ≤ b + nm s0.nx n
    rw [nx_loc, hnx]; omega
  · intro b o h
    rw [get_loc] at h
    split at h
    · rename_i hb
      rw [hnx] at hb
      rcases hs.2 b o h with q | ⟨_, q⟩
      · exact .inr ⟨hb, by rw [get_loc, if_pos (by omega)]; exact h, q⟩
      · left
        rw [rnm_low hb, renO_low (fun b hb => rnm_low hb) q, get_loc, if_pos (by omega)]; exact h
    · rename_i hb
      left
      rw [hnx] at h hb
      obtain ⟨k, hk, hl⟩ := okObjs_mem ho (lget_mem h)
      have : rnm s0.nx r (nm s0.nx n) b = nm s1.nx k := by unfold rnm; rw [if_neg hb, hk, hnx]
      rw [this, get_loc_nm]; exact hl
  · intro b b' o o' h h' e
    have cls : ∀ b o, (loc s1 r.length l').get b = some o → b < s0.nx ∨ (s0.nx ≤ b ∧ ∃ k, r[b - s0.nx]? = some k ∧ rnm s0.nx r (nm s0.nx n) b = nm s0.nx k) := by
      intro b o h
      rw [get_loc, hnx] at h
      split at h
      · rename_i hb; exact .inl hb
      · rename_i hb
        obtain ⟨k, hk, hl⟩ := okObjs_mem ho (lget_mem h)
        exact .inr ⟨by omega, k, hk, by unfold rnm; rw [if_neg hb, hk]⟩
    rcases cls b o h with hb | ⟨hb, k, hk, hf⟩ <;> rcases cls b' o' h' with hb' | ⟨hb', k', hk', hf'⟩
    · rwa [rnm_low hb, rnm_low hb'] at e
    · rw [rnm_low hb, hf'] at e; unfold nm at e; omega
    · rw [hf, rnm_low hb'] at e; unfold nm at e; omega
    · rw [hf, hf'] at e
      have e : k = k' := by unfold nm at e; omega
      subst e
      have hlt : b - s0.nx < r.length := by
        rcases Nat.lt_or_ge (b - s0.nx) r.length with q | q
        · exact q
        · rw [List.getElem?_eq_none q] at hk; cases hk
      have := (List.getElem?_inj hlt hr).1 (hk.trans hk'.symm)
      omega
def To (s0 : AHeap) (tm : List AV) (s : AHeap) (lv : List (Nat × AV)) (h : AHeap) : Prop :=
  Gh s0 (fun tm' s' => s' = h ∧ tm'.length = tm.length ∧ ∀ p ∈ lv, aev tm' (.tmp p.1) = p.2) tm s
def liveOf (lv : List (Nat × AV)) (us : List Value) (i : Nat) : AV := match findN lv i with
  | some v => v
  | none => .raw (us.getD i undef)
theorem findN_nodup {α : Type} : ∀ {lv : List (Nat × α)}, (lv.map (·.1)).Nodup → ∀ p ∈ lv, findN lv p.1 = some p.2
  | [], _, p, hp => by simp at hp
  | (k, v) :: r, hn, p, hp => by
    simp only [List.map_cons, List.nodup_cons] at hn
    simp only [List.mem_cons] at hp
    simp only [findN]
    rcases hp with rfl | hp
    · have : Nat.beq k k = true := Nat.beq_refl k
      simp only [this]
    · have hne : Nat.beq k p.1 = false := by
        cases hb : Nat.beq k p.1 with
        | false => rfl
        | true => exact absurd (List.mem_map_of_mem (f := (·.1)) hp) (by rw [← Nat.eq_of_beq_eq_true hb]; exact hn.1)
      simp only [hne]
      exact findN_nodup hn.2 p hp
theorem RVs.of_get {K : Know} : ∀ {l : List AV} {us : List Value}, l.length = us.length → (∀ (i : Nat) (v : AV) (u : Value), l[i]? = some v → us[i]? = some u → RV K v u) → RVs K l us
  | [], [], _, _ => .nil
  | [], _ :: _, h, _ => by simp at h
  | _ :: _, [], h, _ => by simp at h
  | x :: l, u :: us, h, hg => .cons _ _ _ _ (hg 0 x u rfl rfl) (RVs.of_get (by simpa using h) fun i v u h1 h2 => hg (i + 1) v u (by simpa using h1) (by simpa using h2))
theorem live_ok {K : Know} {us : List Value} {lv : List (Nat × AV)} (hn : (lv.map (·.1)).Nodup) (h : ∀ p ∈ lv, p.1 < us.length ∧ RV K p.2 (us.getD p.1 undef)) :
    ∃ tm', tm'.length = us.length ∧ RVs K tm' us ∧ ∀ p ∈ lv, aev tm' (.tmp p.1) = p.2 := by
  refine ⟨(List.range us.length).map (liveOf lv us), by simp, RVs.of_get (by simp) ?_, ?_⟩
  · intro i v u hi hu
    have hlt : i < us.length := by
      rcases Nat.lt_or_ge i us.length with q | q
      · exact q
      · rw [List.getElem?_eq_none q] at hu; cases hu
    simp only [List.getElem?_map, List.getElem?_range hlt, Option.map_some, Option.some.injEq] at hi
    subst hi
    have hgd : us.getD i undef = u := by rw [List.getD_eq_getElem?_getD, hu]; rfl
    unfold liveOf
    cases hf : findN lv i with
    | none => simp only; rw [hgd]; exact .raw u
    | some v =>
      simp only
      have := (h _ (findN_mem hf)).2
      rwa [hgd] at this
  · intro p hp
    obtain ⟨hlt, _⟩ := h p hp
    simp only [aev]
    rw [List.getD_eq_getElem?_getD]
    simp only [List.getElem?_map, List.getElem?_range hlt, Option.map_some, Option.getD_some, liveOf, findN_nodup hn p hp]
theorem To.ren {s0 s1 : AHeap} {tm : List AV} {n : Nat} {l l' : List (Nat × Option AObj)} {lv : List (Nat × AV)} (r : List Nat) (hs : OKo s0 s1) (hr : r.Nodup) (hn : (lv.map (·.1)).Nodup)
    (hlv : ∀ p ∈ lv, p.1 < tm.length ∧ aev tm (.tmp p.1) = ren (rnm s0.nx r (nm s0.nx n)) p.2) (ho : okObjs (rnm s0.nx r (nm s0.nx n)) r l l') : To s0 tm (loc s1 n l) lv (loc s1 r.length l') := by
  intro B hB K w us hw hv hx
  obtain ⟨K', h1, h2, h3⟩ := ren_loc hB hw hx hs hr ho
  have hlen := hv.length
  obtain ⟨tm', g1, g2, g3⟩ := live_ok (K := K') (us := us) hn fun p hp => ⟨by rw [← hlen]; exact (hlv p hp).1, h3 _ _ (by
    rw [← (hlv p hp).2]
    exact hv.getD p.1)⟩
  exact ⟨K', tm', _, h1, g2, h2, rfl, by rw [g1, hlen], g3⟩
theorem exit_pure {s0 s1 : AHeap} {n : Nat} {l : List (Nat × Option AObj)} {v : AV} {R : AV → AHeap → Prop} (hs : OKo s0 s1) (hv : low s0.nx v) (hR : R v s1) :
    Gh s0 (fun vs t => ∃ v', vs = [v'] ∧ R v' t) [v] (loc s1 n l) := by
  intro B hB K w us hw hvs hx
  obtain ⟨K', h1, h2, h3⟩ := rename_core (s' := s1) hB hw hx (f := fun b => if b < s0.nx then b else b + nm s0.nx n) (fun b hb => if_pos hb)
    (by intro b hb; have := hs.1; rw [if_neg (by omega), nx_loc, this]; omega) (by have := hs.1; omega)
    (by
      intro b o h
      have hb : b < s0.nx := by
        rcases hs.2 b o h with q | ⟨q, _⟩
        · obtain ⟨rfl, hBw, _⟩ := hB
          obtain ⟨g, base, q1, _⟩ := hBw.own b o q
          exact (hBw.bnd _ _ _ q1).1
        · exact q
      have hb1 : b < s1.nx := by have := hs.1; omega
      rcases hs.2 b o h with q | ⟨_, q⟩
      · exact .inr ⟨hb, by rw [get_loc_out hb1]; exact h, q⟩
      · left
        rw [if_pos hb, get_loc_out hb1, renO_low (fun b hb => if_pos hb) q]; exact h)
    (by
      intro b b' o o' h h' e
      have low : ∀ b o, s1.get b = some o → b < s0.nx := by
        intro b o h
        rcases hs.2 b o h with q | ⟨q, _⟩
        · obtain ⟨rfl, hBw, _⟩ := hB
          obtain ⟨g, base, q1, _⟩ := hBw.own b o q
          exact (hBw.bnd _ _ _ q1).1
        · exact q
      rwa [if_pos (low b o h), if_pos (low b' o' h')] at e)
  cases hvs with
  | cons _ u _ us hu hs' =>
    cases hs'
    refine ⟨K', [v], s1, h1, .cons _ _ _ _ (h3 _ _ ?_) .nil, h2, v, rfl, hR⟩
    rw [ren_low (fun b hb => if_pos hb) hv]
    exact hu
theorem Gh.freeze {s0 s1 : AHeap} {n : Nat} {l : List (Nat × Option AObj)} {vs : List AV} {Q : List AV → AHeap → Prop} (k sz : Nat) (xs : List AV) {T : Option TypeId} (hk : lget l k = some (.cells (xs.flatMap AV.cells) T))
    (hsz : ∀ x ∈ xs, x.cells.length = sz) (h : Gh s0 Q (fzL (nm s1.nx k) sz xs vs) (loc s1 n (lmap (fzO (nm s1.nx k) sz xs) (ldel l k)))) : Gh s0 Q vs (loc s1 n l) := by
  intro B hB K w us hw hvs hx
  obtain ⟨K', h1, h2, h3⟩ := freeze_core (s' := loc s1 n (lmap (fzO (nm s1.nx k) sz xs) (ldel l k))) hB hw hx (b := nm s1.nx k) (T := T) (by rw [get_loc_nm]; exact hk) hsz rfl (by
    intro x o hx
    rw [get_loc] at hx
    split at hx
    · rename_i hlt
      exact ⟨by unfold nm; omega, o, by rw [get_loc_out hlt]; exact hx, .inr rfl⟩
    · rename_i hlt
      rw [lget_lmap, lget_ldel] at hx
      split at hx
      · cases hx
      · rename_i hne
        obtain ⟨o1, q1, q2⟩ := Option.map_eq_some_iff.1 hx
        exact ⟨by unfold nm; omega, o1, by rw [get_loc, if_neg hlt]; exact q1, .inl q2.symm⟩)
  refine h B hB K' w us h1 ?_ h2
  have : ∀ {vs : List AV} {us : List Value}, RVs K vs us → RVs K' (fzL (nm s1.nx k) sz xs vs) us := by
    intro vs us h
    rw [fzL_map]
    exact RVs.of_get (by rw [List.length_map]; exact h.length) fun i v u h1 h2 => by
      rw [List.getElem?_map] at h1
      obtain ⟨x, q1, q2⟩ := Option.map_eq_some_iff.1 h1
      obtain ⟨u', q3, q4⟩ := h.get q1
      rw [h2] at q3; cases q3
      rw [← q2]; exact h3 _ _ q4
  exact this hvs
theorem To.freeze {s0 s1 : AHeap} {n : Nat} {l : List (Nat × Option AObj)} {tm : List AV} {lv : List (Nat × AV)} {h : AHeap} (k sz : Nat) (xs : List AV) {T : Option TypeId} (hk : lget l k = some (.cells (xs.flatMap AV.cells) T))
    (hsz : ∀ x ∈ xs, x.cells.length = sz) (hh : To s0 (fzL (nm s1.nx k) sz xs tm) (loc s1 n (lmap (fzO (nm s1.nx k) sz xs) (ldel l k))) lv h) : To s0 tm (loc s1 n l) lv h := by
  refine Gh.freeze k sz xs hk hsz ?_
  unfold To at hh
  rw [fzL_length] at hh
  exact hh
theorem exit_freeze {s0 s1 : AHeap} {n : Nat} {l : List (Nat × Option AObj)} {v : AV} {R : AV → AHeap → Prop} (k sz : Nat) (xs : List AV) {T : Option TypeId} (hk : lget l k = some (.cells (xs.flatMap AV.cells) T))
    (hsz : ∀ x ∈ xs, x.cells.length = sz) (h : Gh s0 (fun vs t => ∃ v', vs = [v'] ∧ R v' t) [fz (nm s1.nx k) sz xs v] (loc s1 n (lmap (fzO (nm s1.nx k) sz xs) (ldel l k)))) :
    Gh s0 (fun vs t => ∃ v', vs = [v'] ∧ R v' t) [v] (loc s1 n l) := Gh.freeze k sz xs hk hsz h
theorem aev_fzL {b sz : Nat} {xs tm : List AV} {i : Nat} : aev (fzL b sz xs tm) (.tmp i) = fz b sz xs (aev tm (.tmp i)) := by
  simp only [aev]
  rw [fzL_map, List.getD_eq_getElem?_getD, List.getD_eq_getElem?_getD, List.getElem?_map]
  cases tm[i]? with
  | none => rfl
  | some v => rfl
end Go.Am
end
noncomputable section
namespace Go.Am
open Go
section
variable {P : Program} {T : Tab} {ops : Array Oper} {p : Plan} {tm0 : List AV} {s0 : AHeap} {Q : APost}
theorem draw_any (hT : T.Ok P) (h : DrawOk P T ops p tm0 s0) {Qx : Exit → Act → World → Prop} {K0 : Know} {w0 : World} {act0 : Act}
    (hw0 : WR K0 s0 w0) (ha0 : RA K0 tm0 act0)
    (hend : ∀ K act w, WR K ((p.core (effs p fun i => decide (i < p.m))).upds (alTo p T s0.nx (fun i => decide (i < p.m)) p.m)) w → RA K (tmTo ops p tm0 (fun i => decide (i < p.m)) p.m) act →
      Ext K0 s0 w0 K ((p.core (effs p fun i => decide (i < p.m))).upds (alTo p T s0.nx (fun i => decide (i < p.m)) p.m)) w → wpOps P ops Qx (List.range' p.m (ops.size - p.m)) act w) :
    wpAny P .any ops Qx ops.size (Array.replicate ops.size false) act0 { w0 with drawn := w0.drawn + 1 } := by
  have hD0 : (fun i => (Array.replicate ops.size false).getD i false) = fun _ => false := by
    funext i
    rw [Array.getD_eq_getD_getElem?, Array.getElem?_replicate]
    split <;> rfl
  have hcnt0 : ∀ n, cntTo (fun _ => false) n = 0 := by
    intro n
    induction n with
    | zero => rfl
    | succ n ih => simp [cntTo, ih]
  refine draw_main hT h (K0 := K0) (w0 := w0) ?_ ops.size (Array.replicate ops.size false) K0 act0 _ (by simp) (by rw [hD0, hcnt0]; omega) ?_ ?_
  · intro K act w hv
    obtain ⟨hj, hx⟩ := hv.close
    exact hend K act w hj hv.ra hx
  · rw [hD0]
    exact ⟨fun i o hi => by simp at hi, fun i hi => by simp at hi⟩
  · rw [hD0]
    exact .start h hw0 ha0
def DStep (P : Program) (T : Tab) (ops : Array Oper) (nx0 i : Nat) (o : Oper) (tm : List AV) (s : AHeap) (k : DKind) (v : AV) (t : Option AHeap) : Prop :=
  (awanted ops tm o = some false ∧ k = .off ∧ v = aundef ∧ t = none) ∨ (awanted ops tm o = some true ∧
    ((∃ e ti, o.op = .alloc e ∧ o.guard = none ∧ T.ty e = some ti ∧ (AV.ofV ti.zero).israw = false ∧ k = .alloc e ∧ v = .ptr (nx0 + i) 0 ∧ t = none) ∨
     (aquiet T (aev tm) o.op s = some v ∧ k = .quiet ∧ t = none) ∨
     ((∃ cf, ∀ s, aop T cf (aev tm) o s = some (v, s)) ∧ k = .free ∧ t = none) ∨
     (∃ c fop f first captured, o.op = .call c ∧ c.callee = .value fop ∧ aev tm fop = .func (.func f) first captured ∧
        (∀ s, ACall P f (first ++ c.args.toList.map (aev tm) ++ captured) s fun v' t' => v' = v ∧ t' = s) ∧ k = .free ∧ t = none) ∨
     (∃ c fop f first captured t', o.op = .call c ∧ c.callee = .value fop ∧ aev tm fop = .func (.func f) first captured ∧
        (ACall P f (first ++ c.args.toList.map (aev tm) ++ captured) s fun v' t2 => v' = v ∧ t2 = t') ∧ k = .eff ∧ t = some t') ∨
     (∃ t', aop T {} (aev tm) o s = some (v, t') ∧ k = .eff ∧ t = some t')))
def Drun (P : Program) (T : Tab) (ops : Array Oper) (nx0 : Nat) : List Oper → Nat → DSt → AHeap → DSt → Prop
  | [], _, st, _, st' => st' = st
  | o :: r, i, st, s, st' => ∃ k v t, DStep P T ops nx0 i o st.tm s k v t ∧
      Drun P T ops nx0 r (i + 1) ⟨aput st.tm o.dst v, (match t with | some t => st.cores ++ [t] | none => st.cores), st.ress ++ [v], st.kinds ++ [k]⟩ (t.getD s) st'
theorem Drun_prefix {nx0 : Nat} : ∀ {l : List Oper} {i : Nat} {st st' : DSt} {s : AHeap}, Drun P T ops nx0 l i st s st' →
    st.ress <+: st'.ress ∧ st.kinds <+: st'.kinds ∧ st.cores <+: st'.cores
  | [], i, st, st', s, h => by cases h; exact ⟨List.prefix_refl _, List.prefix_refl _, List.prefix_refl _⟩
  | o :: r, i, st, st', s, h => by
    obtain ⟨k, v, t, hd, h⟩ := h
    obtain ⟨h1, h2, h3⟩ := Drun_prefix h
    refine ⟨(List.prefix_append _ _).trans h1, (List.prefix_append _ _).trans h2, ?_⟩
    cases t with
    | none => exact h3
    | some t => exact (List.prefix_append _ _).trans h3
theorem DStep_eff {nx0 i : Nat} {o : Oper} {tm : List AV} {s : AHeap} {k : DKind} {v : AV} {t : Option AHeap} (h : DStep P T ops nx0 i o tm s k v t) : k.isEff = t.isSome := by
  rcases h with ⟨_, rfl, _, rfl⟩ | ⟨_, h⟩
  · rfl
  · rcases h with ⟨e, ti, _, _, _, _, rfl, _, rfl⟩ | ⟨_, rfl, rfl⟩ | ⟨_, rfl, rfl⟩ | ⟨c, fop, f, first, captured, _, _, _, _, rfl, rfl⟩ | ⟨c, fop, f, first, captured, t', _, _, _, _, rfl, rfl⟩ | ⟨t', _, rfl, rfl⟩ <;> rfl
def DidB (P : Program) (T : Tab) (ops : Array Oper) (nx0 : Nat) (p : Plan) (tm0 : List AV) (i : Nat) (o : Oper) : Prop :=
  ∃ t, DStep P T ops nx0 i o (tmTo ops p tm0 (fun _ => true) i) (p.core (cntTo (fun j => (p.kind j).isEff) i)) (p.kind i) (p.res i) t ∧
    ∀ t', t = some t' → t' = p.core (cntTo (fun j => (p.kind j).isEff) i + 1)
theorem Drun_facts {nx0 m : Nat} {ms : List Nat} {tm0 : List AV} {st' : DSt} : ∀ {l : List Oper} {i : Nat} {st : DSt} {s : AHeap}, Drun P T ops nx0 l i st s st' →
    (∀ j o, l[j]? = some o → ops[i + j]? = some o) → st.ress.length = i → st.kinds.length = i → st.cores.length = cntTo (fun j => ((st'.plan m ms).kind j).isEff) i + 1 →
    (st'.plan m ms).core (cntTo (fun j => ((st'.plan m ms).kind j).isEff) i) = s → st.tm = tmTo ops (st'.plan m ms) tm0 (fun _ => true) i →
    (∀ j o, l[j]? = some o → DidB P T ops nx0 (st'.plan m ms) tm0 (i + j) o) ∧ st'.tm = tmTo ops (st'.plan m ms) tm0 (fun _ => true) (i + l.length)
  | [], i, st, s, h, _, _, _, _, _, htm => by
    cases h
    exact ⟨fun j o hj => by simp at hj, by simpa using htm⟩
  | o :: r, i, st, s, h, hops, hr, hk, hc, hs, htm => by
    obtain ⟨k, v, t, hd, h⟩ := h
    obtain ⟨p1, p2, p3⟩ := Drun_prefix h
    have ho : ops[i]? = some o := by have := hops 0 o rfl; simpa using this
    have hkind : (st'.plan m ms).kind i = k := by
      show st'.kinds.getD i .off = k
      rw [getD_of_prefix p2 (by simp [hk]), List.getD_eq_getElem?_getD, List.getElem?_append_right (by omega), hk]
      simp
    have hres : (st'.plan m ms).res i = v := by
      show st'.ress.getD i aundef = v
      rw [getD_of_prefix p1 (by simp [hr]), List.getD_eq_getElem?_getD, List.getElem?_append_right (by omega), hr]
      simp
    have heff := DStep_eff hd
    have hcnt : cntTo (fun j => ((st'.plan m ms).kind j).isEff) (i + 1) = cntTo (fun j => ((st'.plan m ms).kind j).isEff) i + (if t.isSome then 1 else 0) := by
      simp only [cntTo, hkind, heff]
    have hput : aput st.tm o.dst v = tmTo ops (st'.plan m ms) tm0 (fun _ => true) (i + 1) := by
      simp only [tmTo, if_true, hres, odst, ho, Option.bind_some, htm]
    have hnext : ∀ t', t = some t' → t' = (st'.plan m ms).core (cntTo (fun j => ((st'.plan m ms).kind j).isEff) i + 1) := by
      rintro t' rfl
      show t' = st'.cores.getD _ .empty
      simp only at p3
      rw [getD_of_prefix p3 (by simp; omega), List.getD_eq_getElem?_getD, List.getElem?_append_right (by omega), hc]
      simp
    have ih := Drun_facts (m := m) (ms := ms) (tm0 := tm0) h (fun j o' hj => by
        have := hops (j + 1) o' (by simpa using hj)
        rwa [show i + (j + 1) = i + 1 + j from by omega] at this) (by simp [hr]) (by simp [hk])
      (by
        rw [hcnt]
        cases t with
        | none => simpa using hc
        | some t => simp [hc])
      (by
        rw [hcnt]
        cases t with
        | none => simpa using hs
        | some t => simp only [Option.isSome_some, if_true, Option.getD_some]; exact (hnext t rfl).symm)
      hput
    refine ⟨fun j o' hj => ?_, by rw [ih.2]; simp only [List.length_cons]; congr 1; omega⟩
    cases j with
    | zero =>
      simp only [List.getElem?_cons_zero, Option.some.injEq] at hj
      subst hj
      rw [Nat.add_zero]
      exact ⟨t, by rw [hkind, hres, hs, ← htm]; exact hd, hnext⟩
    | succ j =>
      simp only [List.getElem?_cons_succ] at hj
      have := ih.1 j o' hj
      rwa [show i + 1 + j = i + (j + 1) from by omega] at this
theorem draw_anyB (hT : T.Ok P) {tm0 : List AV} {s0 : AHeap} {ms : List Nat} {m : Nat} {st : DSt}
    (hms : masks ops.toList [] = some ms) (hmd : headLen ms 0 0 = m)
    (hrun : Drun P T ops s0.nx (ops.toList.take m) 0 ⟨tm0, [{ s0 with nx := s0.nx + m }], [], []⟩ { s0 with nx := s0.nx + m } st)
    (hpair : ∀ i j o, ops[i]? = some o → i < m → j < m → i ≠ j → (st.plan m ms).A i j = true ∨ (st.plan m ms).A j i = true ∨
      ((∀ t, odst ops j = some t → t ∉ onames ops o) ∧ ¬ (((st.plan m ms).kind i).isEff = true ∧ ((st.plan m ms).kind j).isEff = true)))
    (heff : ∀ i o, i < m → ops[i]? = some o → ((st.plan m ms).kind i).isEff = true → lo (st.plan m ms) i = cntTo (fun j => ((st.plan m ms).kind j).isEff) i)
    (hld : ∀ i o, i < m → ops[i]? = some o → (st.plan m ms).kind i = .quiet → aquiet T (aev (tmTo ops (st.plan m ms) tm0 (fun _ => true) i)) o.op ((st.plan m ms).core (cntTo (fun j => ((st.plan m ms).kind j).isEff) i)) = some ((st.plan m ms).res i) →
      apure T (aev (tmTo ops (st.plan m ms) tm0 (fun _ => true) i)) o.op = none → ∀ k, lo (st.plan m ms) i ≤ k → k ≤ hi (st.plan m ms) i →
      aquiet T (aev (tmTo ops (st.plan m ms) tm0 (fun _ => true) i)) o.op ((st.plan m ms).core k) = some ((st.plan m ms).res i))
    {Qx : Exit → Act → World → Prop} {K0 : Know} {w0 : World} {act0 : Act} (hw0 : WR K0 s0 w0) (ha0 : RA K0 tm0 act0)
    (hend : ∀ K act w, WR K (((st.plan m ms).core (effs (st.plan m ms) fun i => decide (i < m))).upds (alTo (st.plan m ms) T s0.nx (fun i => decide (i < m)) m)) w → RA K st.tm act →
      Ext K0 s0 w0 K (((st.plan m ms).core (effs (st.plan m ms) fun i => decide (i < m))).upds (alTo (st.plan m ms) T s0.nx (fun i => decide (i < m)) m)) w →
      wpOps P ops Qx (List.range' m (ops.size - m)) act w) :
    wpAny P .any ops Qx ops.size (Array.replicate ops.size false) act0 { w0 with drawn := w0.drawn + 1 } := by
  have hmo := masks_ok hms
  obtain ⟨hl1, hl2, hl3⟩ := headLen_tail ms 0 0 (Nat.le_refl _)
  rw [hmd, hmo.len] at hl2
  have hlen : (ops.toList.take m).length = m := by simp; omega
  have hpre := Drun_prefix hrun
  have hcore0 : (st.plan m ms).core 0 = { s0 with nx := s0.nx + m } := by
    show st.cores.getD 0 .empty = _
    rw [getD_of_prefix hpre.2.2 (by simp)]; rfl
  have hops : ∀ j o, (ops.toList.take m)[j]? = some o → ops[0 + j]? = some o := by
    intro j o hj
    rw [List.getElem?_take] at hj
    split at hj
    · rw [Nat.zero_add]; simpa using hj
    · cases hj
  obtain ⟨hdid, htm⟩ := Drun_facts (m := m) (ms := ms) (tm0 := tm0) hrun hops rfl rfl rfl hcore0 rfl
  rw [Nat.zero_add, hlen] at htm
  have hdid' : ∀ i o, i < m → ops[i]? = some o → DidB P T ops s0.nx (st.plan m ms) tm0 i o := by
    intro i o hi ho
    have := hdid i o (by rw [List.getElem?_take, if_pos hi]; simpa using ho)
    rwa [Nat.zero_add] at this
  have hstep : ∀ i o, i < m → ops[i]? = some o → StepOk P T ops (st.plan m ms) tm0 s0 i o := by
    intro i o hi ho
    obtain ⟨t, hd, ht⟩ := hdid' i o hi ho
    unfold StepOk
    rcases hd with ⟨hw, hk, hv, _⟩ | ⟨hw, hrest⟩
    · rw [hk]
      exact fun tm ha => ⟨by rw [agree_wanted ha]; exact hw, hv⟩
    · rcases hrest with ⟨e, ti, h1, h2, h3, h4, hk, hv, _⟩ | ⟨h1, hk, _⟩ | ⟨h1, hk, _⟩ | ⟨c, fop, f, first, captured, h1, h2, h3, h4, hk, _⟩ | ⟨c, fop, f, first, captured, t', h1, h2, h3, h4, hk, h6⟩ | ⟨t', h1, hk, h6⟩
      · rw [hk]
        exact ⟨h2, h1, hv, ti, h3, h4⟩
      · rw [hk]
        simp only
        intro k hk1 hk2 tm ha
        refine ⟨by rw [agree_wanted ha]; exact hw, ?_⟩
        have hqk : aquiet T (aev tm) o.op ((st.plan m ms).core k) = some ((st.plan m ms).res i) := by
          rw [aquiet_congr o.op _ (agree_aev ha)]
          cases hap : apure T (aev (tmTo ops (st.plan m ms) tm0 (fun _ => true) i)) o.op with
          | some v =>
            unfold aquiet at h1 ⊢
            rw [hap] at h1 ⊢
            exact h1
          | none => exact hld i o hi ho hk h1 hap k hk1 hk2
        exact .op hT (cf := {}) (aquiet_aop hqk) ⟨rfl, rfl⟩
      · rw [hk]
        simp only
        intro s tm ha
        refine ⟨by rw [agree_wanted ha]; exact hw, ?_⟩
        obtain ⟨cf, h1⟩ := h1
        exact .op hT (cf := cf) (v := (st.plan m ms).res i) (s' := s) (by rw [aop_congr cf o s (agree_aev ha)]; exact h1 s) ⟨rfl, rfl⟩
      · rw [hk]
        simp only
        intro s tm ha
        refine ⟨by rw [agree_wanted ha]; exact hw, ?_⟩
        have hmem : ∀ x ∈ o.op.operands.toList, aev tm x = aev (tmTo ops (st.plan m ms) tm0 (fun _ => true) i) x := agree_aev ha
        have hfop : aev tm fop = .func (.func f) first captured := by
          rw [hmem fop (by rw [h1]; simp [Op.operands, Call.operands, h2]), h3]
        have hargs : c.args.toList.map (aev tm) = c.args.toList.map (aev (tmTo ops (st.plan m ms) tm0 (fun _ => true) i)) :=
          List.map_congr_left fun x hx => hmem x (by rw [h1]; simp only [Op.operands, Call.operands, Array.toList_append, List.mem_append]; exact .inr hx)
        refine AOpR.call h1 h2 hfop ?_
        rw [hargs]
        exact h4 _
      · rw [hk]
        simp only
        have hlo := heff i o hi ho (by rw [hk]; rfl)
        have ht' := ht t' h6
        intro tm ha
        refine ⟨by rw [agree_wanted ha]; exact hw, ?_⟩
        have hmem : ∀ x ∈ o.op.operands.toList, aev tm x = aev (tmTo ops (st.plan m ms) tm0 (fun _ => true) i) x := agree_aev ha
        have hfop : aev tm fop = .func (.func f) first captured := by
          rw [hmem fop (by rw [h1]; simp [Op.operands, Call.operands, h2]), h3]
        have hargs : c.args.toList.map (aev tm) = c.args.toList.map (aev (tmTo ops (st.plan m ms) tm0 (fun _ => true) i)) :=
          List.map_congr_left fun x hx => hmem x (by rw [h1]; simp only [Op.operands, Call.operands, Array.toList_append, List.mem_append]; exact .inr hx)
        refine AOpR.call h1 h2 hfop ?_
        rw [hargs, hlo]
        refine h4.mono ?_
        rintro v' t2 ⟨rfl, rfl⟩
        exact ⟨rfl, ht'⟩
      · rw [hk]
        simp only
        have hlo := heff i o hi ho (by rw [hk]; rfl)
        have ht' := ht t' h6
        intro tm ha
        refine ⟨by rw [agree_wanted ha]; exact hw, ?_⟩
        refine .op hT (cf := {}) (v := (st.plan m ms).res i) (s' := t') ?_ ⟨rfl, ?_⟩
        · rw [aop_congr {} o _ (agree_aev ha), hlo]; exact h1
        · rw [hlo]; exact ht'
  have hns : ∀ i, i < m → ∀ q nw, (st.plan m ms).kind i ≠ .side q nw := by
    intro i hi q nw hk
    have hi' : i < ops.size := by omega
    obtain ⟨t, hd, _⟩ := hdid' i ops[i] hi (Array.getElem?_eq_getElem hi')
    rw [hk] at hd
    rcases hd with ⟨_, h, _⟩ | ⟨_, h⟩
    · cases h
    · rcases h with ⟨e, ti, _, _, _, _, h, _, _⟩ | ⟨_, h, _⟩ | ⟨_, h, _⟩ | ⟨c, fop, f, first, captured, _, _, _, _, h, _⟩ | ⟨c, fop, f, first, captured, t', _, _, _, _, h, _⟩ | ⟨t', _, h, _⟩ <;> cases h
  have hok : DrawOk P T ops (st.plan m ms) tm0 s0 := by
    refine ⟨(by simpa using hl2 : m ≤ ops.size), hmo.edges, fun D hD i j hi hDi hA => hmo.clos D hD i j hi hDi hA, fun i j hA => hmo.lt i j hA, ?_, ?_, ?_, by rw [hcore0]; exact ⟨fun _ _ e => e, rfl⟩, fun i b o nw hi hk => absurd hk (hns i hi _ _), fun i j b o nw o' nw' hi hj hk _ => absurd hk (hns i hi _ _), hstep⟩
    · intro i j o ho hi hj hne t htn htd
      rcases hpair i j o ho hi hj hne with h1 | h1 | h1
      · exact .inl h1
      · exact .inr h1
      · exact absurd htn (h1.1 t htd)
    · intro i j hi hj hne hei hej
      have hi' : i < ops.size := by have : i < m := hi; omega
      have ho : ops[i]? = some ops[i] := Array.getElem?_eq_getElem hi'
      rcases hpair i j _ ho hi hj hne with h1 | h1 | h1
      · exact .inl h1
      · exact .inr h1
      · exact absurd ⟨hei, hej⟩ h1.2
    · intro i hi hlt j hj
      have hli : i < ms.length := by rw [hmo.len]; exact hlt
      have := hl3 i ms[i] (List.getElem?_eq_getElem hli) (by rw [hmd, Nat.zero_add]; exact hi)
      show (ms.getD i 0).testBit j = true
      rw [List.getD_eq_getElem?_getD, List.getElem?_eq_getElem hli, Option.getD_some, this, Nat.zero_add, Nat.testBit_two_pow_sub_one]
      simpa using hj
  have htmall : tmTo ops (st.plan m ms) tm0 (fun i => decide (i < m)) m = st.tm := by
    rw [htm]
    have : ∀ n, n ≤ m → tmTo ops (st.plan m ms) tm0 (fun i => decide (i < m)) n = tmTo ops (st.plan m ms) tm0 (fun _ => true) n := by
      intro n
      induction n with
      | zero => intro _; rfl
      | succ n ih =>
        intro hn
        simp only [tmTo]
        rw [ih (by omega)]
        have : n < m := by omega
        simp [this]
    exact this m (Nat.le_refl _)
  refine draw_any hT hok hw0 ha0 ?_
  intro K act w h1 h2 h3
  refine hend K act w h1 ?_ h3
  have h2' : RA K (tmTo ops (st.plan m ms) tm0 (fun i => decide (i < m)) m) act := h2
  rwa [htmall] at h2'
end
end Go.Am
end
