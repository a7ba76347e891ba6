/- The closure that tells a candidate (gain$1$1), and slices.IndexFunc with it. -/
import Derived.Test.YtkjpnpkmnpofgaaDrop
import Derived.Test.YtkjpnpkmnpofgaaExt
namespace Go.Proofs.Ytkjpnpkmnpofgaa
open Go.RowKit


section
variable {m c1 : Nat} {s : SP} {p : GP} {F K : Int → Int} {clock : Int} {a : List Int} {w : World}

set_option maxHeartbeats 1000000 in
theorem cand_any (h : Src m s p F K clock a w) (hb : Blk w c1 [.pointer (some ⟨s.b, 0, none⟩)] 31) (i : Nat) (hi : i < p.rules.length) (hc : clock < 9223372036854775807) :
    Calls Try.prog 71 #[.int .i64 i, .pointer (some ⟨c1, 0, none⟩)] w fun e w' => e = .returned (.bool (availB p a F K i (clock + 1))) ∧ Below w.heap.size w w' := by
  obtain ⟨va, ho, -⟩ := h.obj
  have kb : ∀ e : Ext w, ∀ o, e.world.cell? ⟨c1, o, none⟩ = [Value.pointer (some ⟨s.b, 0, none⟩)][o]? := fun e o => (bcell e.below _ o hb.lt).trans (hb.cell o)
  have ko : ∀ e : Ext w, ∀ o, e.world.cell? ⟨s.b, o, none⟩ = [Value.int .i64 p.n, s.vn, nilS, s.vr, nilS, .map (some s.bh), .map (some s.bu), .map (some s.bf), .map (some s.bk), .int .i64 clock, va][o]? := fun e o => (bcell e.below _ o ho.lt).trans (ho.cell o)
  have HS : Hid (∀ e : Ext w, Src m s p F K clock a e.world) := Lib.hid (fun e => h.below e.below)
  have hcl := h.fitC
  unfold InI at hcl
  clear h ho hb
  go_enter Try.func71, Try.ntmps71
  go_wp2
  refine wp_region_ext (by kernel_rfl) (by kernel_rfl) ?_
  repeat (go_big_quiet_step ((first | (go_at_call 68; exact Calls.ext_of (available_any (HS.out _) i hi (clock + 1))))))
  refine wpQuiet_nil ?_
  intro _ hw'
  obtain ⟨⟨w9, hb9⟩, rfl⟩ := hw'
  try dsimp only
  go_wp2
  go_ret
  exact ⟨rfl, hb9⟩

def IdxPost (l : List Int) (g : Int → Bool) (r : Int) : Prop := (r = -1 ∧ ∀ j, j < l.length → g (ix l j) = false) ∨ ∃ k : Nat, k < l.length ∧ r = k ∧ g (ix l k) = true ∧ ∀ j, j < k → g (ix l j) = false

def IdxRel (l : List Int) (g : Int → Bool) (w : World) (i : Value) (wx : World) : Prop := ∃ k : Nat, k ≤ l.length ∧ i = .int .i64 k ∧ (∀ j, j < k → g (ix l j) = false) ∧ Below w.heap.size w wx

set_option maxHeartbeats 1000000 in
theorem indexFunc_any (v : Value) (l : List Int) (w : World) (h : Ints w v l) (g : Int → Bool) (cap : Value)
    (hg : ∀ w', Below w.heap.size w w' → ∀ j, j < l.length → Calls Try.prog 71 #[.int .i64 (ix l j), cap] w' fun e w'' => e = .returned (.bool (g (ix l j))) ∧ Below w'.heap.size w' w'') :
    Calls Try.prog 70 #[v, .func (.func 71) #[] #[cap]] w fun e w' => ∃ r, e = .returned (.int .i64 r) ∧ IdxPost l g r ∧ Below w.heap.size w w' := by
  obtain ⟨a1, c1, rfl, -, hl1, -, hcell⟩ := h.form
  have HG := Lib.hid hg
  clear h hg
  go_enter Try.func70, Try.ntmps70
  go_wp2
  go_loopw [8] (fun i wx => IdxRel l g w i wx) (fun i _ => l.length - (intOf i).toNat)
  case atStart => exact ⟨0, by omega, rfl, fun j hj => absurd hj (Nat.not_lt_zero _), Below.refl _ _⟩
  case round =>
    obtain ⟨k, hk, rfl, hall, hb⟩ := hrel
    have HA := Lib.hid hall
    clear hall
    by_cases hlt : k < l.length
    · obtain ⟨b, off, rfl, hbl, hc⟩ := hcell (by omega)
      have hk1 := (bcell hb _ _ hbl).trans (hc k hlt)
      clear hc hcell
      cases g1 : g (ix l k) with
      | true =>
        go_wp2_with (go_at_call 71; refine (HG.out _ hb k hlt).mono ?_; rintro e w1 ⟨rfl, hb1⟩)
        go_ret
        exact ⟨_, rfl, .inr ⟨k, hlt, rfl, g1, HA.out⟩, bon hb hb1⟩
      | false =>
        have HN := Lib.hid (lt_succ_all HA.out g1)
        go_wp2_with (go_at_call 71; refine (HG.out _ hb k hlt).mono ?_; rintro e w1 ⟨rfl, hb1⟩)
        first
          | (go_roundw
             case rel => (exact ⟨k + 1, by omega, by go_num, HN.out, bon hb hb1⟩)
             case measure => (simp [intOf]; omega))
          | (refine ⟨?_, ?_⟩
             · (exact ⟨k + 1, by omega, by go_num, HN.out, bon hb hb1⟩)
             · (simp [intOf]; omega))
    · have HN : Hid (∀ j, j < l.length → g (ix l j) = false) := Lib.hid (fun j hj => HA.out j (by omega))
      go_wp2
      go_ret
      exact ⟨_, rfl, .inl ⟨rfl, HN.out⟩, hb⟩

end

end Go.Proofs.Ytkjpnpkmnpofgaa
