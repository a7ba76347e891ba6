/- My texts Rg41e, Rg41f, merged. -/
import Derived.Test.YtgakoainjgjimaaGreatDoorM18
import Derived.Test.YtgakoainjgjimaaGreatDoorM24
import Derived.Test.YtgakoainjgjimaaGreatDoorM23
import Derived.Test.YtgakoainjgjimaaGreatDoorM22
import Derived.Test.YtgakoainjgjimaaGreatDoorM05
import Derived.Test.YtgakoainjgjimaaGreatDoorM04
import Derived.Test.YtgakoainjgjimaaGreatDoorM20
import Derived.Test.YtgakoainjgjimaaGreatDoorM03
import Derived.Test.YtgakoainjgjimaaGreatDoorM00
import Derived.Test.YtgakoainjgjimaaGreatDoorProg
import Derived.WalkKit
import Derived.Lib.Hide
import Derived.Deep.QuietTactic
import Derived.BigQuiet
import Derived.WalkSpells
import Derived.Lib.SliceRun
import Derived.MapKept
import Derived.Maps.OwnSet
import Derived.Maps.OwnOps
import Derived.Test.YtgakoainjgjimaaGreatDoorM02
import Derived.Test.YtgakoainjgjimaaGreatDoorM01
import Derived.Deep.AppendLies
import Derived.Lib.Bytealg
import Derived.Deep.DeepCutAuto
import Derived.Laws.EntriesVeiled
import Derived.Test.YtgakoainjgjimaaGreatDoorM21
import Derived.Test.YtgakoainjgjimaaGreatDoorM07
import Derived.Deep.RegionWith
import Derived.Deep.OwnRows
import Derived.Test.YtgakoainjgjimaaGreatDoorM06
import Derived.RangeFuncNested
import Derived.RangeFuncBound
import Derived.RangeFuncCalls
import Derived.RangeFuncLeaves
import Derived.OwnWalkIn
import Derived.TacticsInMore
import Derived.LoopNIn
import Derived.LoopIn
import Derived.Stop.RegionWithIn
import Derived.Shelf.Abstract
import Derived.Deep.LoopGhost
import Derived.Deep.DrawnRows
import Derived.Test.YtgakoainjgjimaaGreatDoorM08
import Derived.Shelf.Sort.Plain
import Derived.Shelf.Slices.CompactI
import Derived.Shelf.Slices.In.SortNone
import Derived.Shelf.Strconv.Itoa3
import Derived.Shelf.Strings.BuilderK
import Derived.Shelf.Slices.SearchI
import Derived.Shelf.Slices.Empties
import Derived.Test.YtgakoainjgjimaaGreatDoorM12
import Derived.Test.YtgakoainjgjimaaGreatDoorM11
import Derived.Test.YtgakoainjgjimaaGreatDoorM09
import Derived.Deep.AppendSrc
import Derived.Sort.QuietThIn
import Derived.Maps.RangeWalk
import Derived.Lib.SlicesCompact
import Derived.Sort.OwnSortedInts
import Derived.RangeFuncBox
import Derived.Maps.OwnIn
import Derived.Lib.RowBridge
import Derived.Test.YtgakoainjgjimaaGreatDoorM13
import Derived.Test.YtgakoainjgjimaaGreatDoorM10

namespace Go.Proofs.YtgakoainjgjimaaGreatDoor
open Go.RowKit
theorem ixP_ex (g : Nat → Bool) : ∀ n : Nat, ∃ r, IxP n g r
  | 0 => ⟨-1, .inl ⟨rfl, fun j hj => absurd hj (Nat.not_lt_zero _)⟩⟩
  | n + 1 => by
    obtain ⟨r, h⟩ := ixP_ex g n
    rcases h with ⟨rfl, h⟩ | ⟨k, hk, e, h1, h2⟩
    · cases hg : g n with
      | true => exact ⟨n, .inr ⟨n, Nat.lt_succ_self _, rfl, hg, h⟩⟩
      | false => exact ⟨-1, .inl ⟨rfl, fun j hj => by
          rcases Nat.lt_succ_iff_lt_or_eq.1 hj with h3 | rfl
          · exact h j h3
          · exact hg⟩⟩
    · exact ⟨r, .inr ⟨k, Nat.lt_succ_of_lt hk, e, h1, h2⟩⟩
theorem ixP_one {n : Nat} {g : Nat → Bool} {r s : Int} (h : IxP n g r) (h' : IxP n g s) : r = s := by
  rcases h with ⟨rfl, h⟩ | ⟨k, hk, rfl, h1, h2⟩
  · rcases h' with ⟨rfl, h'⟩ | ⟨k', hk', rfl, h1', h2'⟩
    · rfl
    · rw [h k' hk'] at h1'; cases h1'
  · rcases h' with ⟨rfl, h'⟩ | ⟨k', hk', rfl, h1', h2'⟩
    · rw [h' k hk] at h1; cases h1
    · rcases Nat.lt_trichotomy k k' with h3 | rfl | h3
      · rw [h2' k h3] at h1; cases h1
      · rfl
      · rw [h2 k' h3] at h1'; cases h1'
noncomputable def fdX (ws : List WY) (a : Int) : Int := Classical.epsilon (fun r => IxP ws.length (fun j => decide ((ixY ws j).atom = a)) r)
theorem fdX_spec (ws : List WY) (a : Int) : IxP ws.length (fun j => decide ((ixY ws j).atom = a)) (fdX ws a) := Classical.epsilon_spec (ixP_ex _ _)
theorem fdX_cases (ws : List WY) (a : Int) : (fdX ws a = -1 ∧ a ∉ atomsY ws) ∨ ∃ k : Nat, k < ws.length ∧ fdX ws a = k ∧ (ixY ws k).atom = a := by
  rcases fdX_spec ws a with ⟨e, h⟩ | ⟨k, hk, e, h, -⟩
  · refine .inl ⟨e, fun hm => ?_⟩
    obtain ⟨y, hy, rfl⟩ := List.mem_map.1 hm
    obtain ⟨k, hk, rfl⟩ := mem_ixY hy
    have := h k hk
    simp at this
  · exact .inr ⟨k, hk, e, of_decide_eq_true h⟩
theorem ret_i64 {r s : Int} (h : r = s) : Ending.returned (.int .i64 r) = Ending.returned (.int .i64 s) := by rw [h]
def FdR (ws : List WY) (a : Int) (W0 : World) (i : Value) (W : World) : Prop := ∃ t : Nat, t ≤ ws.length ∧ i = .int .i64 t ∧ (∀ j, j < t → decide ((ixY ws j).atom = a) = false) ∧ Below W0.heap.size W0 W
set_option maxHeartbeats 4000000 in
theorem find41_any (vx : Value) (x : XP) (a : Int) (w : World) (hx : ExplIs w vx x) (hwl : x.whys.length ≤ 100) :
    Calls Tryz.prog 56 #[vx, .int .i64 a] w fun e w' => e = .returned (.int .i64 (fdX x.whys a)) ∧ Below w.heap.size w w' := by
  obtain ⟨vw, vq, rfl, hwh, hrs⟩ := hx
  obtain ⟨aw, cw, rfl, -⟩ := id hwh.form
  obtain ⟨aq, cq, rfl, -⟩ := id hrs.form
  have hal := bal (Below.refl w.heap.size w) (.cells #[.slice aw x.whys.length cw, .slice aq x.rest.length cq] 30)
  have HE0 : Hid (Fd w (.slice aw x.whys.length cw) (.slice aq x.rest.length cq) x.whys (w.alloc (.cells #[.slice aw x.whys.length cw, .slice aq x.rest.length cq] 30))) := Lib.hid
    ⟨Blk.new w [.slice aw x.whys.length cw, .slice aq x.rest.length cq] _, hwh.below hal, hal⟩
  have HUQ : Hid (∀ r, IxP x.whys.length (fun j => decide ((ixY x.whys j).atom = a)) r → fdX x.whys a = r) := Lib.hid fun r h => ixP_one (fdX_spec _ _) h
  clear hal hwh hrs
  go_enter Tryz.func56, Tryz.ntmps56
  go_upto_region 1 with fail
  generalize w.alloc (.cells #[.slice aw x.whys.length cw, .slice aq x.rest.length cq] 30) = W0 at *
  go_wp2
  go_loopw [5] (fun i wx => FdR x.whys a W0 i wx) (fun i _ => x.whys.length - (intOf i).toNat)
  case atStart => exact ⟨0, Nat.zero_le _, rfl, fun j hj => absurd hj (Nat.not_lt_zero _), Below.refl _ _⟩
  case round =>
    obtain ⟨t, ht, rfl, hall, hb⟩ := hrel
    have HA := Lib.hid hall
    have HE1 := Lib.hid (HE0.out.on hb)
    have HBB := Lib.hid hb
    have ko := HE1.out.obx.cell
    clear hall hb
    by_cases hlt : t < x.whys.length
    · obtain ⟨b, off, rfl, hbw, k0, k1, k2⟩ := HE1.out.whs.at hlt
      cases hin : decide ((ixY x.whys t).atom = a) with
      | true =>
        have HR := Lib.hid (HUQ.out _ (.inr ⟨t, hlt, rfl, hin, HA.out⟩))
        have hkb : ((ixY x.whys t).atom == a) = true := by simpa using hin
        clear hin
        go_wp2
        go_ret
        exact ⟨ret_i64 HR.out.symm, HE1.out.below⟩
      | false =>
        have HN : Hid (∀ j, j < t + 1 → decide ((ixY x.whys j).atom = a) = false) := Lib.hid fun j hj => by
          rcases Nat.lt_succ_iff_lt_or_eq.1 hj with h1 | rfl
          · exact HA.out j h1
          · exact hin
        have hkb : ((ixY x.whys t).atom == a) = false := by simpa using hin
        clear hin
        go_wp2
        first
          | (go_roundw
             case rel => (exact ⟨t + 1, hlt, by go_num, HN.out, HBB.out⟩)
             case measure => (simp [intOf]; omega))
          | (refine ⟨?_, ?_⟩
             · (exact ⟨t + 1, hlt, by go_num, HN.out, HBB.out⟩)
             · (simp [intOf]; omega))
    · obtain rfl : t = x.whys.length := by omega
      have HR := Lib.hid (HUQ.out _ (.inl ⟨rfl, HA.out⟩))
      go_wp2
      go_ret
      exact ⟨ret_i64 HR.out.symm, HE1.out.below⟩
theorem find41_call {vx : Value} {x : XP} {a r : Int} {w : World} (hr : fdX x.whys a = r) (hx : ExplIs w vx x) (hwl : x.whys.length ≤ 100) :
    Calls Tryz.prog 56 #[vx, .int .i64 a] w fun e w' => e = .returned (.int .i64 r) ∧ Below w.heap.size w w' := by
  have := find41_any vx x a w hx hwl
  rwa [hr] at this
theorem in17_ext {v : Value} {l : List Int} {x : Int} {b : Bool} {w : World} (hb : decide (x ∈ l) = b) (h : Ints w v l) :
    Calls Tryz.prog 53 #[v, .int .i64 x] w fun e w' => e = .returned (.bool b) ∧ Below w.heap.size w w' :=
  (in17_call hb h).mono fun _ _ ⟨e, h⟩ => ⟨e, h ▸ Below.refl _ _⟩
def Clo (p : GP) (x : XP) (L : List Int) (y : WY) : Prop := y.atom ∈ L → ∀ z ∈ x.whys, z.atom ∈ (ixR p.rules y.rule.toNat).body → z.level < y.level → z.atom ∈ L
theorem clo_all {p : GP} {x : XP} {a : Int} {L : List Int} (h : SupL p x a L 0) (hc : ∀ y ∈ x.whys, Clo p x L y) {b : Int} (hs : SupR p x a b) : b ∈ L := by
  induction hs with
  | base => exact h.has
  | step hy hz hs hb hl ih => exact hc _ hy ih _ hz hb hl
theorem SupL.add0 {p : GP} {x : XP} {a : Int} {L : List Int} (h : SupL p x a L 0) {y z : WY} (hy : y ∈ x.whys) (hya : y.atom ∈ L) (hz : z ∈ x.whys) (hb : z.atom ∈ (ixR p.rules y.rule.toNat).body) (hl : z.level < y.level) (hnot : z.atom ∉ L) : SupL p x a (L ++ [z.atom]) 0 := by
  refine ⟨?_, fun b hb' => ?_, fun b hb' => ?_, by simp [h.has], fun i hi => absurd hi (Nat.not_lt_zero _)⟩
  · rw [List.nodup_append]
    exact ⟨h.nod, by simp, fun a ha b hb' e => hnot (by rw [List.mem_singleton.1 hb'] at e; rw [← e]; exact ha)⟩
  · rcases List.mem_append.1 hb' with hb' | hb'
    · exact h.reach b hb'
    · rw [List.mem_singleton.1 hb']
      exact .step hy hz (h.reach _ hya) hb hl
  · rcases List.mem_append.1 hb' with hb' | hb'
    · exact h.sub b hb'
    · rw [List.mem_singleton.1 hb']; exact List.mem_map.2 ⟨z, hz, rfl⟩
def Cov (p : GP) (x : XP) (a : Int) (L : List Int) : Prop := ∀ b, SupR p x a b → b ∈ L
theorem round_sup {p : GP} {x : XP} {a : Int} {L0 L : List Int} {t : Nat} (h0 : SupL p x a L0 0) (h : SupL p x a L 0) (h1 : t + 1 ≤ L0.length ∨ Cov p x a L0) (h2 : L0.length < L.length ∨ (L = L0 ∧ ∀ k, k < x.whys.length → Clo p x L0 (ixY x.whys k))) : t + 2 ≤ L.length ∨ Cov p x a L := by
  rcases h2 with h2 | ⟨rfl, h2⟩
  · rcases h1 with h1 | h1
    · exact .inl (by omega)
    · have := sub_len h.nod (b := L0) fun b hb => h1 b (h.reach b hb)
      omega
  · exact .inr fun b hb => clo_all h (fun y hy => by
      obtain ⟨k, hk, rfl⟩ := mem_ixY hy
      exact h2 k hk) hb
theorem end_sup {p : GP} {x : XP} {a : Int} {L : List Int} (h : SupL p x a L 0) (h1 : x.whys.length + 1 ≤ L.length ∨ Cov p x a L) : Cov p x a L := by
  rcases h1 with h1 | h1
  · have := h.len
    omega
  · exact h1
theorem sup2_next {p : GP} {x : XP} {L0 L : List Int} {t : Nat} (h : L0.length < L.length ∨ (L = L0 ∧ ∀ k, k < t → Clo p x L0 (ixY x.whys k))) (hc : Clo p x L (ixY x.whys t)) : L0.length < L.length ∨ (L = L0 ∧ ∀ k, k < t + 1 → Clo p x L0 (ixY x.whys k)) := by
  rcases h with h | ⟨rfl, h⟩
  · exact .inl h
  · refine .inr ⟨rfl, fun k hk => ?_⟩
    rcases Nat.lt_succ_iff_lt_or_eq.1 hk with h1 | rfl
    · exact h k h1
    · exact hc
theorem sup3_end {p : GP} {x : XP} {L0 L1 L B : List Int} {t : Nat} {y : WY} (hy : ixY x.whys t = y) (hB : (ixR p.rules y.rule.toNat).body = B) (h : L0.length < L1.length ∨ (L1 = L0 ∧ ∀ k, k < t → Clo p x L0 (ixY x.whys k))) (h3 : L1.length < L.length ∨ (L = L1 ∧ FolB x y B B.length L1)) : L0.length < L.length ∨ (L = L0 ∧ ∀ k, k < t + 1 → Clo p x L0 (ixY x.whys k)) := by
  rcases h3 with h3 | ⟨rfl, h3⟩
  · refine .inl ?_
    rcases h with h | ⟨rfl, -⟩
    · omega
    · exact h3
  · refine sup2_next h fun _ z hz hb hl => ?_
    rw [hy, hB] at hb
    rw [hy] at hl
    exact h3 z.atom (by rw [List.take_length]; exact hb) z hz rfl hl
theorem sup3_next {x : XP} {y : WY} {L1 L B : List Int} {t : Nat} (h : L1.length < L.length ∨ (L = L1 ∧ FolB x y B t L1)) (hj : t < B.length) (hc : ∀ z ∈ x.whys, z.atom = ix B t → z.level < y.level → ix B t ∈ L) : L1.length < L.length ∨ (L = L1 ∧ FolB x y B (t + 1) L1) := by
  rcases h with h | ⟨rfl, h⟩
  · exact .inl h
  · exact .inr ⟨rfl, h.next hj hc⟩
theorem sup3_add {x : XP} {y : WY} {L1 L B : List Int} {t : Nat} (c : Int) (h : L1.length < L.length ∨ (L = L1 ∧ FolB x y B t L1)) : L1.length < (L ++ [c]).length ∨ (L ++ [c] = L1 ∧ FolB x y B (t + 1) L1) := by
  refine .inl ?_
  rw [List.length_append]
  rcases h with h | ⟨rfl, h⟩
  · exact Nat.lt_succ_of_lt h
  · exact Nat.lt_succ_self _
def incL (L : List Int) (t : Nat) : List Int := ((List.range t).map (fun k : Nat => (k : Int) + 1)).filter (fun b => decide (b ∈ L))
theorem incL_next (L : List Int) (t : Nat) : incL L (t + 1) = incL L t ++ if (t : Int) + 1 ∈ L then [(t : Int) + 1] else [] := by
  unfold incL
  rw [List.range_succ, List.map_append, List.filter_append]
  by_cases h : (t : Int) + 1 ∈ L
  · simp [h]
  · simp [h]
theorem incL_len (L : List Int) (t : Nat) : (incL L t).length ≤ t := Nat.le_trans (List.length_filter_le _ _) (by simp)
theorem incL_mem (L : List Int) (t : Nat) (b : Int) : b ∈ incL L t ↔ b ∈ L ∧ 1 ≤ b ∧ b ≤ t := by
  unfold incL
  rw [List.mem_filter, List.mem_map]
  constructor
  · rintro ⟨⟨k, hk, rfl⟩, h⟩
    rw [List.mem_range] at hk
    exact ⟨of_decide_eq_true h, by omega, by omega⟩
  · rintro ⟨h, h1, h2⟩
    exact ⟨⟨(b - 1).toNat, List.mem_range.2 (by omega), by omega⟩, decide_eq_true h⟩
theorem incL_lt (L : List Int) (t : Nat) : (incL L t).Pairwise (· < ·) := by
  unfold incL
  refine List.Pairwise.filter _ (List.pairwise_map.2 (List.pairwise_lt_range.imp fun h => by omega))
def S1R (p : GP) (x : XP) (a : Int) (W0 : World) (s i : Value) (W : World) : Prop := ∃ (t : Nat) (L : List Int), i = .int .i64 t ∧ t ≤ x.whys.length ∧ SupL p x a L 0 ∧ (t + 1 ≤ L.length ∨ Cov p x a L) ∧ QRow W0.heap.size W s L ∧ Below W0.heap.size W0 W
def S2R (p : GP) (x : XP) (a : Int) (L0 : List Int) (W0 : World) (s i : Value) (W : World) : Prop := ∃ (t : Nat) (L : List Int), i = .int .i64 t ∧ t ≤ x.whys.length ∧ SupL p x a L 0 ∧ (L0.length < L.length ∨ (L = L0 ∧ ∀ k, k < t → Clo p x L0 (ixY x.whys k))) ∧ QRow W0.heap.size W s L ∧ Below W0.heap.size W0 W
def S3R (p : GP) (x : XP) (a : Int) (L1 : List Int) (y : WY) (B : List Int) (W0 : World) (s i : Value) (W : World) : Prop := ∃ (t : Nat) (L : List Int), i = .int .i64 t ∧ t ≤ B.length ∧ SupL p x a L 0 ∧ y.atom ∈ L ∧ (L1.length < L.length ∨ (L = L1 ∧ FolB x y B t L1)) ∧ QRow W0.heap.size W s L ∧ Below W0.heap.size W0 W
def S4R (L : List Int) (N : Nat) (W0 : World) (s i : Value) (W : World) : Prop := ∃ t : Nat, i = .int .i64 ((t : Int) + 1) ∧ t ≤ N ∧ QRow W0.heap.size W s (incL L t) ∧ Below W0.heap.size W0 W
def RSup (p : GP) (x : XP) (a : Int) (w : World) (e : Ending) (w' : World) : Prop := ∃ vo out, e = .returned vo ∧ QRow w.heap.size w' vo out ∧ Below w.heap.size w w' ∧ out.length ≤ 4000 ∧ out.Pairwise (· < ·) ∧ ∀ b, b ∈ out ↔ SupR p x a b
set_option maxHeartbeats 16000000 in
set_option maxRecDepth 100000 in
theorem rsupport41_any (v vx : Value) (p : GP) (m : List Int) (x : XP) (a : Int) (w : World) (h : ProgIs w v p) (hx : ExplIs w vx x) (ha : InI a) (hv : validE p = 0) (hset : setQ p.n m = true) (hck : chkX p m x = true) (hin : a ∈ atomsY x.whys) (hwl : x.whys.length ≤ 100) :
    Calls Tryz.prog 19 #[v, vx, .int .i64 a] w (RSup p x a w) := by
  have hx0 := hx
  obtain ⟨vn, vs, vr, vm, rfl, hps⟩ := h
  obtain ⟨vw, vq, rfl, hwh, hrs⟩ := hx
  obtain ⟨aR, c1, rfl, -, hl1, -, -⟩ := hps.rules.form
  obtain ⟨aw, cw, rfl, -⟩ := id hwh.form
  obtain ⟨aq, cq, rfl, -⟩ := id hrs.form
  have hal := bal (bal (Below.refl w.heap.size w) (.cells #[.int .i64 p.n, vn, vs, .slice aR p.rules.length c1, vm] 27)) (.cells #[.slice aw x.whys.length cw, .slice aq x.rest.length cq] 30)
  have HE0 : Hid (SuSt w p x (.int .i64 p.n) vn vs (.slice aR p.rules.length c1) vm (.slice aw x.whys.length cw) (.slice aq x.rest.length cq) ((w.alloc (.cells #[.int .i64 p.n, vn, vs, .slice aR p.rules.length c1, vm] 27)).alloc (.cells #[.slice aw x.whys.length cw, .slice aq x.rest.length cq] 30))) := Lib.hid
    ⟨(Blk.new w [.int .i64 p.n, vn, vs, .slice aR p.rules.length c1, vm] 27).alloc _, Blk.new2 w _ [.slice aw x.whys.length cw, .slice aq x.rest.length cq] 30, hps.rules.below hal, hwh.below hal, hal⟩
  have HX := Lib.hid hx0
  have HAI := Lib.hid ha
  have hpn := (validP hv).n
  have hval := chk_val hv hset hck
  have hrng : ∀ i, i < x.whys.length → 1 ≤ (ixY x.whys i).atom ∧ 0 ≤ (ixY x.whys i).rule ∧ (ixY x.whys i).rule < p.rules.length := fun i hi => by
    have hy := ixY_mem0 hi
    have h2 := setQ_rng hset ((hval.part (ixY x.whys i).atom).2 (.inr (List.mem_map.2 ⟨_, hy, rfl⟩)))
    obtain ⟨i, e, hi, -⟩ := hval.der _ hy
    omega
  have HRNG := Lib.hid hrng
  have HWI : Hid (∀ i, i < x.whys.length → InI (ixY x.whys i).atom ∧ InI (ixY x.whys i).rule ∧ InI (ixY x.whys i).level) := Lib.hid fun i hi => hwh.2 _ (ixY_mem0 hi)
  have HVAL := Lib.hid hval
  have HEND : Hid (∀ L : List Int, SupL p x a L 0 → Cov p x a L → ∀ b, b ∈ incL L p.n.toNat ↔ SupR p x a b) := Lib.hid fun L h1 h2 b => by
    rw [incL_mem]
    refine ⟨fun h => h1.reach b h.1, fun h => ⟨h2 b h, ?_⟩⟩
    have h3 := setQ_rng hset ((hval.part b).2 (.inr (h1.sub b (h2 b h))))
    omega
  have HST := Lib.hid (SupL.start (p := p) hin)
  obtain ⟨N, hN⟩ : ∃ N : Nat, p.n = N := ⟨p.n.toNat, by omega⟩
  have hNt : p.n.toNat = N := by omega
  have hN4 : N ≤ 4000 := by omega
  rw [hN] at HE0
  rw [hNt] at HEND
  rw [hN]
  clear hx0 hps hwh hrs hal ha hv hset hck hin hpn hval hrng hN hNt
  go_enter Tryz.func19, Tryz.ntmps19
  go_upto_region 1 with fail
  generalize (w.alloc (.cells #[.int .i64 (N : Int), vn, vs, .slice aR p.rules.length c1, vm] 27)).alloc (.cells #[.slice aw x.whys.length cw, .slice aq x.rest.length cq] 30) = W0 at *
  go_upto_region 2 with fail
  have HQ0 := Lib.hid ((OwnL.one W0 HAI.out).qrow (by simp))
  have HB0 := Lib.hid (bal (Below.refl W0.heap.size W0) (.cells #[.int .i64 a] 3))
  generalize W0.alloc (.cells #[.int .i64 a] 3) = W1 at *
  go_wp2
  go_loopw [7, 8] (fun s i wx => S1R p x a W0 s i wx) (fun _ i _ => x.whys.length - (intOf i).toNat)
  case atStart => exact ⟨0, [a], rfl, Nat.zero_le _, HST.out, .inl (by simp), HQ0.out, HB0.out⟩
  case round =>
    obtain ⟨t, L0, rfl, ht, hsl, hor, hq, hb⟩ := hrel
    obtain ⟨ao, co, rfl⟩ := hq.slen
    have HS1 := Lib.hid hsl
    have HO1 := Lib.hid hor
    have HQ1 := Lib.hid hq
    have HB1 := Lib.hid hb
    have HE1 := Lib.hid (HE0.out.on hb)
    have ko1 := HE1.out.xbx.cell
    clear hsl hor hq hb
    by_cases hlt : t < x.whys.length
    · go_wp2
      go_loopw [7, 9] (fun s i wx => S2R p x a L0 W0 s i wx) (fun _ i _ => x.whys.length - (intOf i).toNat)
      case atStart => exact ⟨0, L0, rfl, Nat.zero_le _, HS1.out, .inr ⟨rfl, fun k hk => absurd hk (Nat.not_lt_zero _)⟩, HQ1.out, HB1.out⟩
      case round =>
        obtain ⟨j, L1, rfl, hj, hsl, hor, hq, hb⟩ := hrel
        obtain ⟨a2, c2, rfl⟩ := hq.slen
        have hLl := hsl.len
        have HS2 := Lib.hid hsl
        have HO2 := Lib.hid hor
        have HQ2 := Lib.hid hq
        have HB2 := Lib.hid hb
        have HE2 := Lib.hid (HE0.out.on hb)
        have ko2 := HE2.out.xbx.cell
        have HI2 := Lib.hid (hq.ints (by omega))
        clear hsl hor hq hb ko1
        by_cases hlt2 : j < x.whys.length
        · obtain ⟨bw, ow, rfl, hbw, k0, k1, k2⟩ := HE2.out.whs.at hlt2
          have HCW0 : Hid (∀ i, i < x.whys.length → WhyCells W0 bw (ow + i * 3) (ixY x.whys i)) := Lib.hid fun i hi => by
            obtain ⟨b', o', e, -, h⟩ := HE0.out.whs.at hi
            simp only [Option.some.injEq, Addr.mk.injEq] at e
            obtain ⟨rfl, rfl, -⟩ := e
            exact h
          have hbwW : bw < W0.heap.size := by
            obtain ⟨b', o', e, h, -⟩ := HE0.out.whs.at hlt2
            simp only [Option.some.injEq, Addr.mk.injEq] at e
            obtain ⟨rfl, -, -⟩ := e
            exact h
          have hyr := HRNG.out j hlt2
          obtain ⟨y, hy⟩ : ∃ y, ixY x.whys j = y := ⟨_, rfl⟩
          have HYM : Hid (y ∈ x.whys) := Lib.hid (hy ▸ ixY_mem0 hlt2)
          have HYE := Lib.hid hy
          rw [hy] at k0 k1 k2 hyr
          cases hin : decide (y.atom ∈ L1) with
          | false =>
            have HIN := Lib.hid hin
            have HN := Lib.hid (sup2_next HO2.out (by rw [hy]; exact fun h => absurd h (of_decide_eq_false hin)))
            clear hin hy
            go_wp2_with (go_at_call 53; (with_reducible refine (in17_call HIN.out HI2.out).mono ?_); rintro e w5 ⟨rfl, rfl⟩)
            first
              | (go_roundw
                 case rel => (exact ⟨j + 1, L1, by go_num, hlt2, HS2.out, HN.out, HQ2.out, HB2.out⟩)
                 case measure => (simp [intOf]; omega))
              | (refine ⟨?_, ?_⟩
                 · (exact ⟨j + 1, L1, by go_num, hlt2, HS2.out, HN.out, HQ2.out, HB2.out⟩)
                 · (simp [intOf]; omega))
          | true =>
            have HIN := Lib.hid hin
            have HYL : Hid (y.atom ∈ L1) := Lib.hid (of_decide_eq_true hin)
            obtain ⟨ri, hri⟩ : ∃ ri : Nat, y.rule = ri := ⟨y.rule.toNat, by omega⟩
            have hrip : ri < p.rules.length := by omega
            have hrt : y.rule.toNat = ri := by omega
            rw [hri] at k1
            obtain ⟨bR, oR, rfl, hbR, vh, vb, vwt, ⟨r0, r1, r2, r3, r4, r5⟩, hrsl⟩ := HE2.out.rul.ruleAt hrip
            obtain ⟨B, hBb⟩ : ∃ B, (ixR p.rules y.rule.toNat).body = B := ⟨_, rfl⟩
            obtain ⟨bR0, oR0, eR0, hbR0, vh0, vb0, vw0, ⟨-, -, -, -, r40, -⟩, hrsl0⟩ := HE0.out.rul.ruleAt hrip
            simp only [Option.some.injEq, Addr.mk.injEq] at eR0
            obtain ⟨rfl, rfl, -⟩ := eR0
            have HBE := Lib.hid hBb
            rw [hrt] at hBb
            have hbody := hrsl.body
            rw [hBb] at hbody
            have hbody0 := hrsl0.body
            rw [hBb] at hbody0
            have evb : vb0 = vb := by
              have h1 := r40.symm.trans ((bcell HB2.out bR _ hbR0).symm.trans r4)
              exact Option.some.inj h1
            rw [evb] at hbody0
            have HBI0 := Lib.hid hbody0
            obtain ⟨ab, cb, rfl, -, hlb, -, -⟩ := hbody.form
            clear hrsl0 hbody0 r40
            have hpl := HE2.out.pbx.lt
            have hol := HE2.out.xbx.lt
            have kp2 := HE2.out.pbx.cell
            have so : ∀ e : Ext wr, ∀ o, e.world.cell? ⟨w.heap.size + 1, o, none⟩ = _ := fun e o => (bcell e.below _ o hol).trans (ko2 o)
            have sp : ∀ e : Ext wr, ∀ o, e.world.cell? ⟨w.heap.size, o, none⟩ = _ := fun e o => (bcell e.below _ o hpl).trans (kp2 o)
            have s1 : ∀ e : Ext wr, _ := fun e => (bcell e.below bw _ hbw).trans k1
            have s4 : ∀ e : Ext wr, _ := fun e => (bcell e.below bR _ hbR).trans r4
            clear hin hy r0 r1 r2 r3 r5 hrsl hbody hyr hri hrt hBb kp2
            go_upto_region 9 with (go_at_call 53; (with_reducible refine (in17_call HIN.out HI2.out).mono ?_); rintro e w5 ⟨rfl, rfl⟩)
            refine wp_region_ext (by kernel_rfl) (by kernel_rfl) ?_
            repeat (go_big_quiet_step (fail))
            refine wpQuiet_nil ?_
            intro w9 hw'
            obtain ⟨e9, he9⟩ := hw'
            have hb9 := e9.below
            rw [← he9] at hb9
            clear he9 e9
            try dsimp only
            obtain ⟨w2r, rfl⟩ : ∃ q : World, q = w9 := ⟨_, rfl⟩
            have HQ3 := Lib.hid (HQ2.out.below hb9)
            have HB3 := Lib.hid (bon HB2.out hb9)
            clear so sp s1 s4 k0 k1 k2 r4 ko2 hb9
            go_wp2
            go_loopw [7, 11] (fun s i wx => S3R p x a L1 y B W0 s i wx) (fun _ i _ => B.length - (intOf i).toNat)
            case atStart => exact ⟨0, L1, rfl, Nat.zero_le _, HS2.out, HYL.out, .inr ⟨rfl, FolB.zero _ _ _ _⟩, HQ3.out, HB3.out⟩
            case round =>
              obtain ⟨q, L, rfl, hq, hsl, hyl, hor, hqr, hb⟩ := hrel
              obtain ⟨a3, c3, rfl⟩ := hqr.slen
              have hLl3 := hsl.len
              have HS4 := Lib.hid hsl
              have HY4 := Lib.hid hyl
              have HO4 := Lib.hid hor
              have HQ4 := Lib.hid hqr
              have HB4 := Lib.hid hb
              have HE4 := Lib.hid (HE0.out.on hb)
              have hz4 := hb.size
              clear hsl hyl hor hqr
              by_cases hlt3 : q < B.length
              · obtain ⟨b5, o5, rfl, hb5, hc5⟩ := (HBI0.out.below hb).at hlt3
                obtain ⟨c, hcc⟩ : ∃ c, ix B q = c := ⟨_, rfl⟩
                have HCC := Lib.hid hcc
                have HCI : Hid (InI c) := Lib.hid (by rw [← hcc]; exact HBI0.out.2 q)
                have HCB : Hid (c ∈ (ixR p.rules y.rule.toNat).body) := Lib.hid (by rw [HBE.out, ← hcc]; exact ix_mem hlt3)
                rw [hcc] at hc5
                have ko4 := HE4.out.xbx.cell
                have hol4 := HE4.out.xbx.lt
                have so : ∀ e : Ext wr, ∀ o, e.world.cell? ⟨w.heap.size + 1, o, none⟩ = _ := fun e o => (bcell e.below _ o hol4).trans (ko4 o)
                have sb : ∀ e : Ext wr, _ := fun e => (bcell e.below b5 _ hb5).trans hc5
                have HX4 := Lib.hid (HX.out.below HE4.out.below)
                clear hcc hb ko4
                rcases fdX_cases x.whys c with ⟨hfd, hnin⟩ | ⟨k, hk, hfd, hka⟩
                · have HFD := Lib.hid hfd
                  have HF : Hid (∀ e : Ext wr, Calls Tryz.prog 56 #[.agg #[.slice (some ⟨bw, ow, none⟩) x.whys.length cw, .slice aq x.rest.length cq], .int .i64 c] e.world fun x w' => x = .returned (.int .i64 (-1)) ∧ Below e.world.heap.size e.world w') := Lib.hid fun e =>
                    find41_call HFD.out (HX4.out.below e.below) hwl
                  have HN := Lib.hid (sup3_next HO4.out hlt3 fun z hz e _ => absurd (List.mem_map.2 ⟨z, hz, e.trans HCC.out⟩) hnin)
                  clear hnin hfd hc5
                  go_upto_region 13 with fail
                  refine wp_region_ext (by kernel_rfl) (by kernel_rfl) ?_
                  repeat (go_big_quiet_step ((go_at_call 56; exact Calls.ext_of (HF.out _))))
                  refine wpQuiet_nil ?_
                  intro w9 hw'
                  obtain ⟨e9, he9⟩ := hw'
                  have hb9 := e9.below
                  rw [← he9] at hb9
                  clear he9 e9
                  try dsimp only
                  obtain ⟨w7, rfl⟩ : ∃ q : World, q = w9 := ⟨_, rfl⟩
                  have HB7 := Lib.hid (bon HB4.out hb9)
                  have HQ7 := Lib.hid (HQ4.out.below hb9)
                  clear so sb hb9
                  go_upto_region 14 with fail
                  refine wp_region_ext (by kernel_rfl) (by kernel_rfl) ?_
                  repeat (go_big_quiet_step (fail))
                  refine wpQuiet_nil ?_
                  intro w9 hw'
                  obtain ⟨e9, he9⟩ := hw'
                  have hb9 := e9.below
                  rw [← he9] at hb9
                  clear he9 e9
                  try dsimp only
                  have HB8 := Lib.hid (bon HB7.out hb9)
                  have HQ8 := Lib.hid (HQ7.out.below hb9)
                  clear hb9
                  go_wp2_with fail
                  first
                    | (go_roundw
                       case rel => (exact ⟨q + 1, L, by go_num, hlt3, HS4.out, HY4.out, HN.out, HQ8.out, HB8.out⟩)
                       case measure => (simp [intOf]; omega))
                    | (refine ⟨?_, ?_⟩
                       · (exact ⟨q + 1, L, by go_num, hlt3, HS4.out, HY4.out, HN.out, HQ8.out, HB8.out⟩)
                       · (simp [intOf]; omega))
                · have HFD := Lib.hid hfd
                  have HF : Hid (∀ e : Ext wr, Calls Tryz.prog 56 #[.agg #[.slice (some ⟨bw, ow, none⟩) x.whys.length cw, .slice aq x.rest.length cq], .int .i64 c] e.world fun x w' => x = .returned (.int .i64 (k : Int)) ∧ Below e.world.heap.size e.world w') := Lib.hid fun e =>
                    find41_call HFD.out (HX4.out.below e.below) hwl
                  clear hfd
                  go_upto_region 13 with fail
                  refine wp_region_ext (by kernel_rfl) (by kernel_rfl) ?_
                  repeat (go_big_quiet_step ((go_at_call 56; exact Calls.ext_of (HF.out _))))
                  refine wpQuiet_nil ?_
                  intro w9 hw'
                  obtain ⟨e9, he9⟩ := hw'
                  have hb9 := e9.below
                  rw [← he9] at hb9
                  clear he9 e9
                  try dsimp only
                  obtain ⟨w7, rfl⟩ : ∃ q : World, q = w9 := ⟨_, rfl⟩
                  have HB7 := Lib.hid (bon HB4.out hb9)
                  have HQ7 := Lib.hid (HQ4.out.below hb9)
                  have HE7 := Lib.hid (HE4.out.on hb9)
                  have HI7 := Lib.hid (HQ7.out.ints (by omega))
                  have hb7 := hb9.size
                  have hb57 : b5 < w7.heap.size := Nat.lt_of_lt_of_le hb5 hb9.size
                  have hc57 := (bcell hb9 b5 _ hb5).trans hc5
                  clear so sb hc5
                  have hbw4 : bw < wr.heap.size := Nat.lt_of_lt_of_le hbwW HB4.out.size
                  have hbw7 : bw < w7.heap.size := Nat.lt_of_lt_of_le hbw4 hb9.size
                  obtain ⟨f0, f1, f2⟩ := ((HCW0.out k hk).below HB7.out hbwW)
                  obtain ⟨g0, g1, g2⟩ := ((HCW0.out j hlt2).below HB7.out hbwW)
                  have HZM : Hid (ixY x.whys k ∈ x.whys) := Lib.hid (ixY_mem0 hk)
                  have HZU : Hid (∀ z' ∈ x.whys, z'.atom = c → z' = ixY x.whys k) := Lib.hid fun z' hz' e => why_same HVAL.out.nod hz' (ixY_mem0 hk) (e.trans hka.symm)
                  obtain ⟨z, hz⟩ : ∃ z, ixY x.whys k = z := ⟨_, rfl⟩
                  rw [hz] at f0 f1 f2 HZM HZU hka
                  rw [HYE.out] at g0 g1 g2
                  have HKA := Lib.hid hka
                  have ko7 := HE7.out.xbx.cell
                  have hol7 := HE7.out.xbx.lt
                  have so : ∀ e : Ext w7, ∀ o, e.world.cell? ⟨w.heap.size + 1, o, none⟩ = _ := fun e o => (bcell e.below _ o hol7).trans (ko7 o)
                  have sb : ∀ e : Ext w7, _ := fun e => (bcell e.below b5 _ hb57).trans hc57
                  have sf : ∀ e : Ext w7, _ := fun e => (bcell e.below bw _ hbw7).trans f2
                  have sg : ∀ e : Ext w7, _ := fun e => (bcell e.below bw _ hbw7).trans g2
                  have hk0 : (0 : Int) ≤ (k : Int) := by omega
                  have hk1 : decide ((k : Int) ≥ 0) = true := decide_eq_true hk0
                  clear f0 f1 f2 g0 g1 g2 hz hka ko7 hb9
                  by_cases hlv : z.level < y.level
                  · have hlvb := decide_eq_true hlv
                    by_cases hct : c ∈ L
                    · have HIC : Hid (∀ e : Ext w7, Calls Tryz.prog 53 #[.slice a3 L.length c3, .int .i64 c] e.world fun x w' => x = .returned (.bool true) ∧ Below e.world.heap.size e.world w') := Lib.hid fun e =>
                        in17_ext (decide_eq_true hct) (HI7.out.below e.below)
                      have HN := Lib.hid (sup3_next HO4.out hlt3 fun z' _ _ _ => by rw [HCC.out]; exact hct)
                      clear hct hlv
                      go_upto_region 14 with fail
                      refine wp_region_ext (by kernel_rfl) (by kernel_rfl) ?_
                      repeat (go_big_quiet_step ((go_at_call 53; exact Calls.ext_of (HIC.out _))))
                      refine wpQuiet_nil ?_
                      intro w9 hw'
                      obtain ⟨e9, he9⟩ := hw'
                      have hb9 := e9.below
                      rw [← he9] at hb9
                      clear he9 e9
                      try dsimp only
                      have HB8 := Lib.hid (bon HB7.out hb9)
                      have HQ8 := Lib.hid (HQ7.out.below hb9)
                      clear hb9 so sb sf sg
                      go_wp2_with fail
                      first
                        | (go_roundw
                           case rel => (exact ⟨q + 1, L, by go_num, hlt3, HS4.out, HY4.out, HN.out, HQ8.out, HB8.out⟩)
                           case measure => (simp [intOf]; omega))
                        | (refine ⟨?_, ?_⟩
                           · (exact ⟨q + 1, L, by go_num, hlt3, HS4.out, HY4.out, HN.out, HQ8.out, HB8.out⟩)
                           · (simp [intOf]; omega))
                    · have HIC : Hid (∀ e : Ext w7, Calls Tryz.prog 53 #[.slice a3 L.length c3, .int .i64 c] e.world fun x w' => x = .returned (.bool false) ∧ Below e.world.heap.size e.world w') := Lib.hid fun e =>
                        in17_ext (decide_eq_false hct) (HI7.out.below e.below)
                      have HADD : Hid (SupL p x a (L ++ [c]) 0) := Lib.hid (by
                        have := HS4.out.add0 HYM.out HY4.out HZM.out (by rw [HKA.out]; exact HCB.out) hlv (by rw [HKA.out]; exact hct)
                        rwa [HKA.out] at this)
                      have HN : Hid (L1.length < (L ++ [c]).length ∨ (L ++ [c] = L1 ∧ FolB x y B (q + 1) L1)) := Lib.hid (sup3_add c HO4.out)
                      have HYA : Hid (y.atom ∈ L ++ [c]) := Lib.hid (List.mem_append.2 (.inl HY4.out))
                      clear hct hlv
                      go_upto_region 14 with fail
                      refine wp_region_ext (by kernel_rfl) (by kernel_rfl) ?_
                      repeat (go_big_quiet_step ((go_at_call 53; exact Calls.ext_of (HIC.out _))))
                      refine wpQuiet_nil ?_
                      intro w9 hw'
                      obtain ⟨e9, he9⟩ := hw'
                      have hb9 := e9.below
                      rw [← he9] at hb9
                      clear he9 e9
                      try dsimp only
                      have HB8 := Lib.hid (bon HB7.out hb9)
                      have HQ8 := Lib.hid (HQ7.out.below hb9)
                      have hc58 := (bcell hb9 b5 _ hb57).trans hc57
                      have hb8 := HB8.out.size
                      clear hb9 so sb sf sg hc57
                      go_wp2_with (at_builtin; refine wpList_appendQ rfl _ _ 23 Tryz.underlying23 rfl W0.heap.size (.slice a3 L.length c3) L c rfl (HQ8.out.below (bal (Below.refl _ _) _)) w9.heap.size 1 rfl (Blk.new w9 [.int .i64 c] _) HCI.out (by omega) (by simp; omega) ?_; intro v10 w10 hq10 hg10 hn10; obtain ⟨a10, c10, e10⟩ := hq10.slen; subst e10; rw [show (L ++ [c]).length = L.length + 1 by simp] at hq10; have HQ10 := Lib.hid hq10; have HB10 : Hid (Below W0.heap.size W0 w10) := Lib.hid ((bal HB8.out _).grown hg10 (by simp; omega) fun k e => (HQ8.out.lt41 e).1); clear hq10 hg10 hn10)
                      first
                        | (go_roundw
                           case rel => (exact ⟨q + 1, L ++ [c], by go_num, hlt3, HADD.out, HYA.out, HN.out, HQ10.out, HB10.out⟩)
                           case measure => (simp [intOf]; omega))
                        | (refine ⟨?_, ?_⟩
                           · (exact ⟨q + 1, L ++ [c], by go_num, hlt3, HADD.out, HYA.out, HN.out, HQ10.out, HB10.out⟩)
                           · (simp [intOf]; omega))
                  · have hlvb := decide_eq_false hlv
                    have HN := Lib.hid (sup3_next HO4.out hlt3 fun z' hz' e h1 => by
                      have : z' = z := HZU.out z' hz' (e.trans HCC.out)
                      rw [this] at h1
                      exact absurd h1 hlv)
                    clear hlv
                    go_upto_region 14 with fail
                    refine wp_region_ext (by kernel_rfl) (by kernel_rfl) ?_
                    repeat (go_big_quiet_step (fail))
                    refine wpQuiet_nil ?_
                    intro w9 hw'
                    obtain ⟨e9, he9⟩ := hw'
                    have hb9 := e9.below
                    rw [← he9] at hb9
                    clear he9 e9
                    try dsimp only
                    have HB8 := Lib.hid (bon HB7.out hb9)
                    have HQ8 := Lib.hid (HQ7.out.below hb9)
                    clear hb9 so sb sf sg
                    go_wp2_with fail
                    first
                      | (go_roundw
                         case rel => (exact ⟨q + 1, L, by go_num, hlt3, HS4.out, HY4.out, HN.out, HQ8.out, HB8.out⟩)
                         case measure => (simp [intOf]; omega))
                      | (refine ⟨?_, ?_⟩
                         · (exact ⟨q + 1, L, by go_num, hlt3, HS4.out, HY4.out, HN.out, HQ8.out, HB8.out⟩)
                         · (simp [intOf]; omega))
              · obtain rfl : q = B.length := by omega
                have HN := Lib.hid (sup3_end HYE.out HBE.out HO2.out HO4.out)
                go_wp2
                first
                  | (go_roundw
                     case rel => (exact ⟨j + 1, L, by go_num, hlt2, HS4.out, HN.out, HQ4.out, HB4.out⟩)
                     case measure => (simp [intOf]; omega))
                  | (refine ⟨?_, ?_⟩
                     · (exact ⟨j + 1, L, by go_num, hlt2, HS4.out, HN.out, HQ4.out, HB4.out⟩)
                     · (simp [intOf]; omega))
        · obtain rfl : j = x.whys.length := by omega
          have HN := Lib.hid (round_sup HS1.out HS2.out HO1.out HO2.out)
          go_wp2
          first
            | (go_roundw
               case rel => (exact ⟨t + 1, L1, by go_num, hlt, HS2.out, HN.out, HQ2.out, HB2.out⟩)
               case measure => (simp [intOf]; omega))
            | (refine ⟨?_, ?_⟩
               · (exact ⟨t + 1, L1, by go_num, hlt, HS2.out, HN.out, HQ2.out, HB2.out⟩)
               · (simp [intOf]; omega))
    · obtain rfl : t = x.whys.length := by omega
      have HCV := Lib.hid (end_sup HS1.out HO1.out)
      have HMB := Lib.hid (HEND.out L0 HS1.out HCV.out)
      have hLl := HS1.out.len
      have HI1 := Lib.hid (HQ1.out.ints (by omega))
      obtain ⟨w2r, rfl⟩ : ∃ q : World, q = wr := ⟨_, rfl⟩
      have hkk := HE1.out.pbx.lt
      have hz1 := HB1.out.size
      go_wp2
      go_loopw [13, 14] (fun s i wx => S4R L0 N w2r s i wx) (fun _ i _ => N + 1 - (intOf i).toNat)
      case atStart => exact ⟨0, rfl, Nat.zero_le _, .nil _ _, Below.refl _ _⟩
      case round =>
        obtain ⟨t4, rfl, ht4, hq4, hb4⟩ := hrel
        obtain ⟨a4, c4, rfl⟩ := hq4.slen
        have HQ4 := Lib.hid hq4
        have HB4 := Lib.hid hb4
        have HE4 := Lib.hid (HE1.out.on hb4)
        have kp4 := HE4.out.pbx.cell
        have hl4 := incL_len L0 t4
        have hzz := hb4.size
        have HNX := Lib.hid (incL_next L0 t4)
        clear hq4 ko1
        by_cases hlt4 : t4 < N
        · have hle : decide ((t4 : Int) + 1 ≤ (N : Int)) = true := decide_eq_true (by omega)
          obtain ⟨LS, hLS⟩ : ∃ LS, incL L0 t4 = LS := ⟨_, rfl⟩
          rw [hLS] at HQ4 HNX hl4
          rw [hLS]
          have HI4 := Lib.hid (HI1.out.below hb4)
          clear hLS hb4
          by_cases hm4 : (t4 : Int) + 1 ∈ L0
          · have HM4 : Hid (decide ((t4 : Int) + 1 ∈ L0) = true) := Lib.hid (decide_eq_true hm4)
            rw [if_pos hm4] at HNX
            clear hm4
            go_wp2_with (first | (go_at_call 53; (with_reducible refine (in17_call HM4.out HI4.out).mono ?_); rintro e w5 ⟨rfl, rfl⟩) | (at_builtin; refine wpList_appendQ rfl _ _ 23 Tryz.underlying23 rfl w2r.heap.size (.slice a4 LS.length c4) LS ((t4 : Int) + 1) rfl (HQ4.out.below (bal (Below.refl _ _) _)) wr.heap.size 1 rfl (Blk.new wr [.int .i64 ((t4 : Int) + 1)] _) (by unfold InI; omega) (by omega) (by simp; omega) ?_; intro v10 w10 hq10 hg10 hn10; obtain ⟨a10, c10, e10⟩ := hq10.slen; subst e10; rw [show (LS ++ [(t4 : Int) + 1]).length = LS.length + 1 by simp] at hq10; have HQ10 := Lib.hid hq10; have HB10 : Hid (Below w2r.heap.size w2r w10) := Lib.hid ((bal HB4.out _).grown hg10 (by simp; omega) fun k e => (HQ4.out.lt41 e).1); clear hq10 hg10 hn10))
            first
              | (go_roundw
                 case rel => (exact ⟨t4 + 1, by go_num, hlt4, by rw [HNX.out]; exact HQ10.out, HB10.out⟩)
                 case measure => (simp [intOf]; omega))
              | (refine ⟨?_, ?_⟩
                 · (exact ⟨t4 + 1, by go_num, hlt4, by rw [HNX.out]; exact HQ10.out, HB10.out⟩)
                 · (simp [intOf]; omega))
          · have HM4 : Hid (decide ((t4 : Int) + 1 ∈ L0) = false) := Lib.hid (decide_eq_false hm4)
            rw [if_neg hm4, List.append_nil] at HNX
            clear hm4
            go_wp2_with (go_at_call 53; (with_reducible refine (in17_call HM4.out HI4.out).mono ?_); rintro e w5 ⟨rfl, rfl⟩)
            first
              | (go_roundw
                 case rel => (exact ⟨t4 + 1, by go_num, hlt4, by rw [HNX.out]; exact HQ4.out, HB4.out⟩)
                 case measure => (simp [intOf]; omega))
              | (refine ⟨?_, ?_⟩
                 · (exact ⟨t4 + 1, by go_num, hlt4, by rw [HNX.out]; exact HQ4.out, HB4.out⟩)
                 · (simp [intOf]; omega))
        · obtain rfl : t4 = N := by omega
          have hle : decide ((t4 : Int) + 1 ≤ (t4 : Int)) = false := decide_eq_false (by omega)
          clear hb4
          go_wp2
          go_ret
          exact ⟨_, incL L0 t4, rfl, HQ4.out.mono (by omega), HE4.out.below, by omega, incL_lt L0 t4, HMB.out⟩
end Go.Proofs.YtgakoainjgjimaaGreatDoor
