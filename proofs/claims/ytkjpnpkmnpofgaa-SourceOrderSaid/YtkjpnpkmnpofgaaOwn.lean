/- Slices that a call has made itself; slices.Clone. -/
import Derived.Test.YtkjpnpkmnpofgaaData
import Derived.WalkSpells
import Derived.Lib.SliceRun

namespace Go.Proofs.Ytkjpnpkmnpofgaa
open Go.RowKit

/-- A slice of one-cell elements of the call's own, in blocks from base on. -/
def Own1 (base : Nat) (E bytes : Nat) (w : World) (v : Value) (n : Nat) (f : Nat → Value) : Prop :=
  w.ownsRow base E 1 v n ((List.range n).map f) ∧ n * bytes ≤ 140737488351232

theorem Own1.sl {base E bytes : Nat} {w : World} {v : Value} {n : Nat} {f : Nat → Value} (h : Own1 base E bytes w v n f) : Sl w v bytes n f := by
  obtain ⟨⟨h1, h2⟩, h3⟩ := h
  rcases h2 with ⟨rfl, rfl⟩ | ⟨g, cap, cur, rfl, hb, hg, hn, hm, hs, hx⟩
  · exact ⟨none, 0, rfl, Nat.le_refl _, by unfold maxLen; omega, h3, fun h0 => absurd h0 (Nat.lt_irrefl 0)⟩
  · refine ⟨_, cap, rfl, hn, hm, h3, fun _ => ⟨g, 0, rfl, (Array.getElem?_eq_some_iff.1 hg).1, fun i hi => ?_⟩⟩
    have e : cur[i]? = some (f i) := by
      have h4 : (cur.toList.take (n * 1))[i]? = some (f i) := by rw [hx]; simp [hi]
      rw [List.getElem?_take_of_lt (by omega)] at h4
      simpa using h4
    simp [World.cell?, hg, e]

def OwnI (base : Nat) (w : World) (v : Value) (l : List Int) : Prop := Own1 base 3 8 w v l.length (fun i => .int .i64 (ix l i)) ∧ Fits l

theorem OwnI.ints {base : Nat} {w : World} {v : Value} {l : List Int} (h : OwnI base w v l) : Ints w v l := ⟨h.1.sl, h.2⟩

def OwnS (base : Nat) (w : World) (v : Value) (l : List ByteArray) : Prop := Own1 base 9 16 w v l.length (fun i => .string (ixS l i)) ∧ ∀ i, (ixS l i).size ≤ 140737488351232

theorem OwnS.strs {base : Nat} {w : World} {v : Value} {l : List ByteArray} (h : OwnS base w v l) : Strs w v l := ⟨h.1.sl, h.2⟩

/-- A slice of small ints. -/
def Bytes8 (w : World) (v : Value) (l : List Int) : Prop := Sl w v 1 l.length (fun i => .int .i8 (ix l i)) ∧ ∀ i, -128 ≤ ix l i ∧ ix l i ≤ 127
def Own8 (base : Nat) (w : World) (v : Value) (l : List Int) : Prop := Own1 base 58 1 w v l.length (fun i => .int .i8 (ix l i)) ∧ ∀ i, -128 ≤ ix l i ∧ ix l i ≤ 127
theorem Own8.bytes {base : Nat} {w : World} {v : Value} {l : List Int} (h : Own8 base w v l) : Bytes8 w v l := ⟨h.1.sl, h.2⟩
theorem Bytes8.below {w w' : World} {v : Value} {l : List Int} (h : Bytes8 w v l) (hb : Below w.heap.size w w') : Bytes8 w' v l := ⟨h.1.below hb, h.2⟩

theorem infoI : (Try.prog.info? 3).map (fun i => (i.zero, i.size, i.bytes)) = some (some (.int .i64 0), 1, 8) := by kernel_rfl
theorem infoS : (Try.prog.info? 9).map (fun i => (i.zero, i.size, i.bytes)) = some (some (.string ⟨#[]⟩), 1, 16) := by kernel_rfl
theorem info8 : (Try.prog.info? 58).map (fun i => (i.zero, i.size, i.bytes)) = some (some (.int .i8 0), 1, 1) := by kernel_rfl



set_option maxHeartbeats 1000000 in
set_option maxRecDepth 100000 in
theorem clone_int (v : Value) (n : Nat) (f : Nat → Value) (w : World) (h : Sl w v 8 n f) (hone : ∀ i, (f i).oneCell' = true) :
    Calls Try.prog 64 #[v] w fun e w' => ∃ v', e = .returned v' ∧ Own1 w.heap.size 3 8 w' v' n f ∧ Below w.heap.size w w' := by
  obtain ⟨a, cap, rfl, h1, hm, h2, h3⟩ := h
  have q : ∀ (w : World) (a : Option Addr) (n c n' c' : Nat), (binOp .eql 23 (.slice a n c) (.slice none n' c')).run Try.prog w = .ok (.bool a.isNone) w := fun w a n c n' c' => Lib.run_eql_slice_nil w _ _ a n c n' c' Try.underlying23
  cases a with
  | none =>
    have hn : n = 0 := by
      rcases Nat.eq_zero_or_pos n with h | h
      · exact h
      · obtain ⟨b, off, e, _⟩ := h3 h
        cases e
    subst hn
    clear h3
    go_enter Try.func64, Try.ntmps64
    go_wp2
    go_ret
    exact ⟨.slice none 0 0, rfl, ⟨World.ownsRow_nil _ _ _ _, h2⟩, Below.refl _ _⟩
  | some ad =>
    obtain ⟨i0, hi, hz0, hz1, hz2⟩ := info_parts infoI
    have hcell : Hid (∀ j, j < n → w.cell? (ad.add j) = some (f j)) := Lib.hid (fun j hj => by
      obtain ⟨b, off, e, _, hc⟩ := h3 (by omega)
      cases e
      rw [Addr.add_lit]; exact hc j hj)
    have HONE := Lib.hid hone
    clear h3 hone
    go_enter Try.func64, Try.ntmps64
    go_wp2_with (at_builtin; refine wpList_append_own _ rfl _ _ 23 rfl w.heap.size 3 i0 (.int .i64 0) 1 8 Try.underlying23 hi hz0 hz1 hz2 rfl (by decide) _ _ _ rfl (World.ownsRow_made w #[] 0 (Nat.le_refl _) (Nat.zero_le _) rfl) ad n cap ((List.range n).map f) rfl ?qc1 ?qc2 ?qc3 ?qc4 ?qc5 ?qc6 ?_)
    case qc1 => simp
    case qc2 =>
      intro j u hj
      have hjn : j < n := by
        have := (List.getElem?_eq_some_iff.1 hj).1
        simpa using this
      refine Lib.cell?_alloc_some _ ?_
      rw [hcell.out j hjn]
      simpa [hjn] using hj
    case qc3 => intro u hu; obtain ⟨x, _, rfl⟩ := List.mem_map.1 hu; exact HONE.out x
    case qc4 => unfold maxLen at *; omega
    case qc5 => omega
    case qc6 => simp
    intro v' w1 hown hgrow hnil
    go_wp2
    go_ret
    refine ⟨v', rfl, ⟨by simpa using hown, h2⟩, ?_⟩
    exact (bal (Below.refl _ w) _).grown hgrow (by simp) (by intro k hk; simp [Value.ownBlock] at hk; omega)

set_option maxHeartbeats 1000000 in
set_option maxRecDepth 100000 in
theorem clone_str (v : Value) (n : Nat) (f : Nat → Value) (w : World) (h : Sl w v 16 n f) (hone : ∀ i, (f i).oneCell' = true) :
    Calls Try.prog 32 #[v] w fun e w' => ∃ v', e = .returned v' ∧ Own1 w.heap.size 9 16 w' v' n f ∧ Below w.heap.size w w' := by
  obtain ⟨a, cap, rfl, h1, hm, h2, h3⟩ := h
  have q : ∀ (w : World) (a : Option Addr) (n c n' c' : Nat), (binOp .eql 22 (.slice a n c) (.slice none n' c')).run Try.prog w = .ok (.bool a.isNone) w := fun w a n c n' c' => Lib.run_eql_slice_nil w _ _ a n c n' c' Try.underlying22
  cases a with
  | none =>
    have hn : n = 0 := by
      rcases Nat.eq_zero_or_pos n with h | h
      · exact h
      · obtain ⟨b, off, e, _⟩ := h3 h
        cases e
    subst hn
    clear h3
    go_enter Try.func32, Try.ntmps32
    go_wp2
    go_ret
    exact ⟨.slice none 0 0, rfl, ⟨World.ownsRow_nil _ _ _ _, h2⟩, Below.refl _ _⟩
  | some ad =>
    obtain ⟨i0, hi, hz0, hz1, hz2⟩ := info_parts infoS
    have hcell : Hid (∀ j, j < n → w.cell? (ad.add j) = some (f j)) := Lib.hid (fun j hj => by
      obtain ⟨b, off, e, _, hc⟩ := h3 (by omega)
      cases e
      rw [Addr.add_lit]; exact hc j hj)
    have HONE := Lib.hid hone
    clear h3 hone
    go_enter Try.func32, Try.ntmps32
    go_wp2_with (at_builtin; refine wpList_append_own _ rfl _ _ 22 rfl w.heap.size 9 i0 (.string ⟨#[]⟩) 1 16 Try.underlying22 hi hz0 hz1 hz2 rfl (by decide) _ _ _ rfl (World.ownsRow_made w #[] 0 (Nat.le_refl _) (Nat.zero_le _) rfl) ad n cap ((List.range n).map f) rfl ?qc1 ?qc2 ?qc3 ?qc4 ?qc5 ?qc6 ?_)
    case qc1 => simp
    case qc2 =>
      intro j u hj
      have hjn : j < n := by
        have := (List.getElem?_eq_some_iff.1 hj).1
        simpa using this
      refine Lib.cell?_alloc_some _ ?_
      rw [hcell.out j hjn]
      simpa [hjn] using hj
    case qc3 => intro u hu; obtain ⟨x, _, rfl⟩ := List.mem_map.1 hu; exact HONE.out x
    case qc4 => unfold maxLen at *; omega
    case qc5 => omega
    case qc6 => simp
    intro v' w1 hown hgrow hnil
    go_wp2
    go_ret
    refine ⟨v', rfl, ⟨by simpa using hown, h2⟩, ?_⟩
    exact (bal (Below.refl _ w) _).grown hgrow (by simp) (by intro k hk; simp [Value.ownBlock] at hk; omega)

set_option maxHeartbeats 1000000 in
set_option maxRecDepth 100000 in
theorem clone_8 (v : Value) (n : Nat) (f : Nat → Value) (w : World) (h : Sl w v 1 n f) (hone : ∀ i, (f i).oneCell' = true) :
    Calls Try.prog 39 #[v] w fun e w' => ∃ v', e = .returned v' ∧ Own1 w.heap.size 58 1 w' v' n f ∧ Below w.heap.size w w' := by
  obtain ⟨a, cap, rfl, h1, hm, h2, h3⟩ := h
  have q : ∀ (w : World) (a : Option Addr) (n c n' c' : Nat), (binOp .eql 39 (.slice a n c) (.slice none n' c')).run Try.prog w = .ok (.bool a.isNone) w := fun w a n c n' c' => Lib.run_eql_slice_nil w _ _ a n c n' c' Try.underlying39
  cases a with
  | none =>
    have hn : n = 0 := by
      rcases Nat.eq_zero_or_pos n with h | h
      · exact h
      · obtain ⟨b, off, e, _⟩ := h3 h
        cases e
    subst hn
    clear h3
    go_enter Try.func39, Try.ntmps39
    go_wp2
    go_ret
    exact ⟨.slice none 0 0, rfl, ⟨World.ownsRow_nil _ _ _ _, h2⟩, Below.refl _ _⟩
  | some ad =>
    obtain ⟨i0, hi, hz0, hz1, hz2⟩ := info_parts info8
    have hcell : Hid (∀ j, j < n → w.cell? (ad.add j) = some (f j)) := Lib.hid (fun j hj => by
      obtain ⟨b, off, e, _, hc⟩ := h3 (by omega)
      cases e
      rw [Addr.add_lit]; exact hc j hj)
    have HONE := Lib.hid hone
    clear h3 hone
    go_enter Try.func39, Try.ntmps39
    go_wp2_with (at_builtin; refine wpList_append_own _ rfl _ _ 39 rfl w.heap.size 58 i0 (.int .i8 0) 1 1 Try.underlying39 hi hz0 hz1 hz2 rfl (by decide) _ _ _ rfl (World.ownsRow_made w #[] 0 (Nat.le_refl _) (Nat.zero_le _) rfl) ad n cap ((List.range n).map f) rfl ?qc1 ?qc2 ?qc3 ?qc4 ?qc5 ?qc6 ?_)
    case qc1 => simp
    case qc2 =>
      intro j u hj
      have hjn : j < n := by
        have := (List.getElem?_eq_some_iff.1 hj).1
        simpa using this
      refine Lib.cell?_alloc_some _ ?_
      rw [hcell.out j hjn]
      simpa [hjn] using hj
    case qc3 => intro u hu; obtain ⟨x, _, rfl⟩ := List.mem_map.1 hu; exact HONE.out x
    case qc4 => unfold maxLen at *; omega
    case qc5 => omega
    case qc6 => simp
    intro v' w1 hown hgrow hnil
    go_wp2
    go_ret
    refine ⟨v', rfl, ⟨by simpa using hown, h2⟩, ?_⟩
    exact (bal (Below.refl _ w) _).grown hgrow (by simp) (by intro k hk; simp [Value.ownBlock] at hk; omega)

theorem Own1.below {base E bytes : Nat} {w w' : World} {v : Value} {n : Nat} {f : Nat → Value} (h : Own1 base E bytes w v n f) (hb : Below w.heap.size w w') : Own1 base E bytes w' v n f :=
  ⟨h.1.kept (row := none) ⟨hb.os, hb.tape, hb.output, hb.size, fun k hk _ => hb.block k hk⟩ (by cases v.ownBlock <;> simp), h.2⟩
theorem OwnS.below {base : Nat} {w w' : World} {v : Value} {l : List ByteArray} (h : OwnS base w v l) (hb : Below w.heap.size w w') : OwnS base w' v l := ⟨h.1.below hb, h.2⟩
theorem OwnI.below {base : Nat} {w w' : World} {v : Value} {l : List Int} (h : OwnI base w v l) (hb : Below w.heap.size w w') : OwnI base w' v l := ⟨h.1.below hb, h.2⟩

theorem Own1.mono {base base' E bytes : Nat} {w : World} {v : Value} {n : Nat} {f : Nat → Value} (h : Own1 base E bytes w v n f) (hb : base' ≤ base) : Own1 base' E bytes w v n f := by
  obtain ⟨⟨h1, h2⟩, h3⟩ := h
  refine ⟨⟨h1, ?_⟩, h3⟩
  rcases h2 with h2 | ⟨g, cap, cur, e, hg, r⟩
  · exact .inl h2
  · exact .inr ⟨g, cap, cur, e, Nat.le_trans hb hg, r⟩
theorem OwnS.mono {base base' : Nat} {w : World} {v : Value} {l : List ByteArray} (h : OwnS base w v l) (hb : base' ≤ base) : OwnS base' w v l := ⟨h.1.mono hb, h.2⟩
theorem OwnI.mono {base base' : Nat} {w : World} {v : Value} {l : List Int} (h : OwnI base w v l) (hb : base' ≤ base) : OwnI base' w v l := ⟨h.1.mono hb, h.2⟩

theorem cloneI_any (v : Value) (l : List Int) (w : World) (h : Ints w v l) :
    Calls Try.prog 64 #[v] w fun e w' => ∃ v', e = .returned v' ∧ OwnI w.heap.size w' v' l ∧ Below w.heap.size w w' :=
  (clone_int v _ _ w h.1 (fun _ => rfl)).mono fun _ _ ⟨v', e, ho, hb⟩ => ⟨v', e, ⟨ho, h.2⟩, hb⟩

theorem cloneS_any (v : Value) (l : List ByteArray) (w : World) (h : Strs w v l) :
    Calls Try.prog 32 #[v] w fun e w' => ∃ v', e = .returned v' ∧ OwnS w.heap.size w' v' l ∧ Below w.heap.size w w' :=
  (clone_str v _ _ w h.1 (fun _ => rfl)).mono fun _ _ ⟨v', e, ho, hb⟩ => ⟨v', e, ⟨ho, h.2⟩, hb⟩

theorem clone8_any (v : Value) (l : List Int) (w : World) (h : Bytes8 w v l) :
    Calls Try.prog 39 #[v] w fun e w' => ∃ v', e = .returned v' ∧ Own8 w.heap.size w' v' l ∧ Below w.heap.size w w' :=
  (clone_8 v _ _ w h.1 (fun _ => rfl)).mono fun _ _ ⟨v', e, ho, hb⟩ => ⟨v', e, ⟨ho, h.2⟩, hb⟩

theorem Own1.form {base E bytes : Nat} {w : World} {v : Value} {n : Nat} {f : Nat → Value} (h : Own1 base E bytes w v n f) : ∃ a c, v = .slice a n c := by
  obtain ⟨a, c, e, _⟩ := h.sl
  exact ⟨a, c, e⟩

theorem cloneI_sl (v : Value) (l : List Int) (w : World) (h : Ints w v l) :
    Calls Try.prog 64 #[v] w fun e w' => ∃ a c, e = .returned (.slice a l.length c) ∧ OwnI w.heap.size w' (.slice a l.length c) l ∧ Below w.heap.size w w' :=
  (cloneI_any v l w h).mono fun _ _ ⟨v', e, ho, hb⟩ => by
    obtain ⟨a, c, rfl⟩ := ho.1.form
    exact ⟨a, c, e, ho, hb⟩

theorem Own1.apart {base E bytes : Nat} {w : World} {v : Value} {n : Nat} {f : Nat → Value} (h : Own1 base E bytes w v n f) {b : Nat} (hb : b < base) : Apart v b := by
  rintro b' o n' cap rfl h0 rfl
  rcases h.1.2 with ⟨e, _⟩ | ⟨g, cap', cur, e, hg, _⟩
  · cases e
  · cases e; omega

end Go.Proofs.Ytkjpnpkmnpofgaa
