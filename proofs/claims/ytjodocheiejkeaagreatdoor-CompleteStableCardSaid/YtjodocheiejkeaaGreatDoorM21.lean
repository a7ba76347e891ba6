/- My texts SrF, St4, SrG, St6, Frame, merged. -/
import Derived.Shelf.SlSortCmp.Kit1
import Derived.RangeFuncOwn
import Derived.Test.YtjodocheiejkeaaGreatDoorM03
import Derived.Test.YtjodocheiejkeaaGreatDoorM00
import Derived.Test.YtjodocheiejkeaaGreatDoorProg
import Derived.WalkKit
import Derived.Lib.Hide
import Derived.Deep.QuietTactic
import Derived.BigQuiet
import Derived.MapKept
import Derived.Maps.OwnSet
import Derived.Maps.OwnOps
import Derived.Test.YtjodocheiejkeaaGreatDoorM04
import Derived.Test.YtjodocheiejkeaaGreatDoorM02
import Derived.WalkSpells
import Derived.Lib.SliceRun
import Derived.Test.YtjodocheiejkeaaGreatDoorM01
import Derived.Deep.AppendLies
import Derived.Lib.Bytealg
import Derived.Test.YtjodocheiejkeaaGreatDoorM20
import Derived.Test.YtjodocheiejkeaaGreatDoorM18
import Derived.Test.YtjodocheiejkeaaGreatDoorM17
import Derived.Test.YtjodocheiejkeaaGreatDoorM16
import Derived.Test.YtjodocheiejkeaaGreatDoorM07
import Derived.Test.YtjodocheiejkeaaGreatDoorM06
import Derived.Test.YtjodocheiejkeaaGreatDoorM05
import Derived.Deep.DeepCutAuto
import Derived.Laws.EntriesVeiled
import Derived.Deep.RegionWith
import Derived.Deep.OwnRows
import Derived.RangeFuncNested
import Derived.RangeFuncBound
import Derived.RangeFuncCalls
import Derived.RangeFuncLeaves
import Derived.OwnWalkIn
import Derived.TacticsInMore
import Derived.LoopNIn
import Derived.LoopIn
import Derived.Stop.RegionWithIn
import Derived.Shelf.Abstract
import Derived.Test.YtjodocheiejkeaaGreatDoorM15
import Derived.Test.YtjodocheiejkeaaGreatDoorM14
import Derived.Test.YtjodocheiejkeaaGreatDoorM13
import Derived.Deep.LoopGhost
import Derived.Deep.DrawnRows
import Derived.Deep.RegionHeld3
import Derived.Laws.ResultCell
import Derived.Laws.Rows
import Derived.Deep.RegionLaw
import Derived.Test.YtjodocheiejkeaaGreatDoorM11
import Derived.Deep.AppendSrc
import Derived.Maps.OwnIn
import Derived.Test.YtjodocheiejkeaaGreatDoorM09
import Derived.Test.YtjodocheiejkeaaGreatDoorM08
import Derived.Sort.QuietThIn
import Derived.Test.YtjodocheiejkeaaGreatDoorM10
import Derived.Maps.RangeWalk
import Derived.Lib.SlicesCompact
import Derived.Shelf.Sort.Plain
import Derived.Shelf.Slices.CompactI
import Derived.Shelf.Slices.In.SortNone
import Derived.Shelf.Strconv.Itoa3
import Derived.Shelf.Strings.BuilderK
import Derived.Sort.OwnSortedInts
import Derived.RangeFuncBox
import Derived.Lib.RowBridge
import Derived.Test.YtjodocheiejkeaaGreatDoorM12
import Derived.Deep.DeepMust
import Derived.ProofKit
import Derived.OpenShut
import Derived.ChangeArms
import Derived.SizedLaws
import Derived.Shelf.SlSortCmp.NoneTotal
import Derived.Shelf.SlLaysF
import Derived.Test.YtjodocheiejkeaaGreatDoorM19
import Derived.Sort.CutIn

namespace Go.Proofs.YtjodocheiejkeaaGreatDoor
open Go.RowKit Go.Sort
def cmpL : List Int → List Int → Int
  | [], [] => 0
  | [], _ :: _ => -1
  | _ :: _, [] => 1
  | x :: a, y :: b => if cmpI x y = 0 then cmpL a b else cmpI x y
theorem cmpL_self : ∀ a : List Int, cmpL a a = 0
  | [] => rfl
  | x :: a => by
    have h : cmpI x x = 0 := by unfold cmpI; simp
    unfold cmpL
    rw [if_pos h]
    exact cmpL_self a
theorem cmpL_trans : ∀ a b c : List Int, cmpL a b < 0 → cmpL b c < 0 → cmpL a c < 0
  | [], [], _, h, _ => by simp [cmpL] at h
  | [], _ :: _, [], _, k => by simp [cmpL] at k
  | [], _ :: _, _ :: _, _, _ => by simp [cmpL]
  | _ :: _, [], _, h, _ => by simp [cmpL] at h
  | _ :: _, _ :: _, [], _, k => by simp [cmpL] at k
  | x :: a, y :: b, z :: c, h, k => by
    have ih := cmpL_trans a b c
    simp only [cmpL, cmpI] at *
    grind
theorem cmpL_ntrans : ∀ a b c : List Int, ¬ cmpL a b < 0 → ¬ cmpL b c < 0 → ¬ cmpL a c < 0
  | [], [], _, _, k => k
  | [], _ :: _, _, h, _ => by simp [cmpL] at h
  | _ :: _, [], [], _, _ => by simp [cmpL]
  | _ :: _, [], _ :: _, _, k => by simp [cmpL] at k
  | _ :: _, _ :: _, [], _, _ => by simp [cmpL]
  | x :: a, y :: b, z :: c, h, k => by
    have ih := cmpL_ntrans a b c
    simp only [cmpL, cmpI] at *
    grind
theorem drop_at {l : List Int} {k : Nat} (h : k < l.length) : l.drop k = ix l k :: l.drop (k + 1) := by
  rw [List.drop_eq_getElem_cons h]
  congr 1
  unfold ix
  simp [List.getD_eq_getElem?_getD, List.getElem?_eq_getElem h]
def CmpRel (l1 l2 : List Int) (w : World) (i : Value) (wx : World) : Prop :=
  ∃ k : Nat, k ≤ l1.length ∧ i = .int .i64 k ∧ cmpL (l1.drop k) (l2.drop k) = cmpL l1 l2 ∧ wx = w
set_option maxHeartbeats 1000000 in
theorem compareL_any (v1 v2 : Value) (l1 l2 : List Int) (w : World) (h1 : Ints w v1 l1) (h2 : Ints w v2 l2) :
    Calls Tryz.prog 33 #[v1, v2] w fun e w' => e = .returned (.int .i64 (cmpL l1 l2)) ∧ w = w' := by
  have F1 := Lib.hid h1.2
  have F2 := Lib.hid h2.2
  obtain ⟨a1, c1, rfl, -, hl1, -, hc1⟩ := h1.form
  obtain ⟨a2, c2, rfl, -, hl2, -, hc2⟩ := h2.form
  clear h1 h2
  go_enter Tryz.func33, Tryz.ntmps33
  go_wp2
  go_loopw [11] (fun i wx => CmpRel l1 l2 w i wx) (fun i _ => l1.length - (intOf i).toNat)
  case atStart => exact ⟨0, by omega, rfl, rfl, rfl⟩
  case round =>
    obtain ⟨k, hk, rfl, hcm, rfl⟩ := hrel
    have HCM := Lib.hid hcm
    clear hcm
    by_cases hlt : k < l1.length
    · obtain ⟨b1, off1, rfl, hbl1, hcc1⟩ := hc1 (by omega)
      have k1 := hcc1 k hlt
      have f1 := F1.out k
      have HD1 := Lib.hid (drop_at hlt)
      clear hcc1 hc1
      by_cases hlt2 : k < l2.length
      · obtain ⟨b2, off2, rfl, hbl2, hcc2⟩ := hc2 (by omega)
        have k2 := hcc2 k hlt2
        have f2 := F2.out k
        have HD2 := Lib.hid (drop_at hlt2)
        clear hcc2 hc2
        have HC := Lib.hid (compare_any (ix l1 k) (ix l2 k) wr)
        have HZ : Hid (cmpL l1 l2 = if cmpI (ix l1 k) (ix l2 k) = 0 then cmpL (l1.drop (k + 1)) (l2.drop (k + 1)) else cmpI (ix l1 k) (ix l2 k)) := Lib.hid (by rw [← HCM.out, HD1.out, HD2.out]; rfl)
        generalize cmpI (ix l1 k) (ix l2 k) = c at *
        by_cases hz : c = 0
        · subst hz
          go_wp2_with (go_at_call 76; (with_reducible refine (HC.out).mono ?_); rintro e w1 ⟨rfl, rfl⟩)
          first
            | (go_roundw
               case rel => (exact ⟨k + 1, by omega, by go_num, by rw [HZ.out]; simp, rfl⟩)
               case measure => (simp [intOf]; omega))
            | (refine ⟨?_, ?_⟩
               · (exact ⟨k + 1, by omega, by go_num, by rw [HZ.out]; simp, rfl⟩)
               · (simp [intOf]; omega))
        · go_wp2_with (go_at_call 76; (with_reducible refine (HC.out).mono ?_); rintro e w1 ⟨rfl, rfl⟩)
          go_ret
          exact ⟨by rw [HZ.out, if_neg hz]; rfl, rfl⟩
      · have HZ : Hid (cmpL l1 l2 = 1) := Lib.hid (by rw [← HCM.out, HD1.out, (List.drop_eq_nil_of_le (by omega) : l2.drop k = [])]; rfl)
        go_wp2
        go_ret
        exact ⟨by rw [HZ.out]; rfl, rfl⟩
    · have hk1 : k = l1.length := by omega
      have HD1 : Hid (l1.drop k = []) := Lib.hid (List.drop_eq_nil_of_le (by omega))
      by_cases hlt2 : l1.length < l2.length
      · have HZ : Hid (cmpL l1 l2 = -1) := Lib.hid (by rw [← HCM.out, HD1.out, drop_at (by omega : k < l2.length)]; rfl)
        clear hk1
        go_wp2
        go_ret
        exact ⟨by rw [HZ.out]; rfl, rfl⟩
      · have HZ : Hid (cmpL l1 l2 = 0) := Lib.hid (by rw [← HCM.out, HD1.out, (List.drop_eq_nil_of_le (by omega) : l2.drop k = [])]; rfl)
        clear hk1
        go_wp2
        go_ret
        exact ⟨by rw [HZ.out]; rfl, rfl⟩
def ListsIs (w : World) (v : Value) (L : List (List Int)) : Prop := ∃ vs : Nat → Value, Sl w v 24 L.length vs ∧ ∀ i, i < L.length → Ints w (vs i) (L.getD i [])
theorem ListsIs.below {w w' : World} {v : Value} {L : List (List Int)} (h : ListsIs w v L) (hb : Below w.heap.size w w') : ListsIs w' v L := by
  obtain ⟨vs, h1, h2⟩ := h
  exact ⟨vs, h1.below hb, fun i hi => (h2 i hi).below hb⟩
theorem ListsIs.ownT {w w' : World} {v : Value} {L : List (List Int)} {row : Option Nat} (h : ListsIs w v L) (hg : w.grownBy w' row) (hr : ∀ r, row = some r → ∃ o : Obj, w.heap[r]? = some o ∧ o.isCells = false) : ListsIs w' v L := by
  have key : ∀ {v : Value} {by8 n : Nat} {f : Nat → Value}, Sl w v by8 n f → Sl w' v by8 n f := fun {v by8 n f} h => by
    obtain ⟨a, cap, e, h1, hm, h2, h3⟩ := h
    exact ⟨a, cap, e, h1, hm, h2, fun h0 => let ⟨b, off, e, hl, hc⟩ := h3 h0; ⟨b, off, e, Nat.lt_of_lt_of_le hl hg.size, fun i hi => cell_kept (hc i hi) hg hr⟩⟩
  obtain ⟨vs, h1, h2⟩ := h
  exact ⟨vs, key h1, fun i hi => ⟨key (h2 i hi).1, (h2 i hi).2⟩⟩
structure RowE (w : World) (blk : Nat) where
  v : Value
  l : List Int
  form : ∃ a n c, v = .slice a n c
  ints : ∀ W', Lim w.heap.size [blk] w W' → Ints W' v l
theorem nil_intsE (W : World) : Ints W (.slice none 0 0) [] := nil_ints W
instance rowE_inh (w : World) (blk : Nat) : Inhabited (RowE w blk) := ⟨⟨.slice none 0 0, [], ⟨_, _, _, rfl⟩, fun W' _ => nil_intsE W'⟩⟩
theorem lim_sortWorld {α : Type} [Inhabited α] (enc : α → Value) (w : World) (blk off m : Nat) (dk : Array α) (os : Array Obj) : Lim w.heap.size [blk] w (sortWorld enc w blk off m dk os) := by
  refine ⟨rfl, rfl, rfl, ?_, fun i hi hs => ?_⟩
  · unfold sortWorld
    rw [size_grow, size_putRow]
    show w.heap.size ≤ w.heap.size + _
    omega
  · have hne : i ≠ blk := by simpa using hs
    show (((Sort.ahead w m).heap.modify blk _) ++ os)[i]? = _
    have hsz : i < ((Sort.ahead w m).heap.modify blk (Sort.onCells (Sort.putCells enc off dk))).size := by rw [Array.size_modify]; exact hi
    rw [Array.getElem?_append_left hsz, Array.getElem?_modify]
    rw [if_neg (fun e => hne e.symm)]
    rfl
theorem swoL (w : World) (blk : Nat) : Sort.SWO (ltOf (fun x y : RowE w blk => cmpL x.l y.l)) where
  irrefl x := by unfold ltOf; simp [cmpL_self]
  trans x y z h1 h2 := by
    unfold ltOf at *
    exact decide_eq_true (cmpL_trans _ _ _ (of_decide_eq_true h1) (of_decide_eq_true h2))
  ntrans x y z h1 h2 := by
    unfold ltOf at *
    exact decide_eq_false (cmpL_ntrans _ _ _ (of_decide_eq_false h1) (of_decide_eq_false h2))
theorem cmp_reads (w : World) (blk off size : Nat) : CmpReads Tryz.prog 33 #[] (fun x : RowE w blk => x.v) (fun x y => cmpL x.l y.l) blk off size w := fun m os dk _ x y => by
  have hL := lim_sortWorld (fun x : RowE w blk => x.v) w blk off m dk os
  exact (compareL_any x.v y.v x.l y.l _ (x.ints _ hL) (y.ints _ hL)).mono fun e w' ⟨h1, h2⟩ => ⟨h1, 0, h2 ▸ rfl⟩
end Go.Proofs.YtjodocheiejkeaaGreatDoor
namespace Go.Proofs.YtjodocheiejkeaaGreatDoor
open Go.RowKit
theorem infoL : (Tryz.prog.info? 23).map (fun i => (i.zero, i.size, i.bytes)) = some (some (.slice none 0 0), 1, 24) := by kernel_rfl
structure OutI (B : Nat) (atoms : List Int) (v : Value) (L : List (Nat × Value)) (w : World) : Prop where
  row : w.ownsRow B 23 1 v L.length (L.map (·.2))
  each : ∀ x ∈ L, QRow B w x.2 (sbL atoms x.1)
section
variable {B n : Nat} {atoms : List Int} {xs : List Value} {v : Value} {w w' : World} {L : List (Nat × Value)}
theorem OutI.nil (B : Nat) (atoms : List Int) (w : World) : OutI B atoms (.slice none 0 0) [] w := ⟨⟨by simp, .inl ⟨rfl, rfl⟩⟩, fun q hq => by simp at hq⟩
theorem QRow.rowKeptL {u : Value} {l : List Int} (h : QRow B w u l) (hr : w.ownsRow B 23 1 v n xs) (hg : w.grownBy w' v.ownBlock) : QRow B w' u l := by
  refine h.kept fun i hi hi2 hu => hg.block i hi2 (fun e => ?_)
  rcases hr.2 with ⟨rfl, _⟩ | ⟨g, cap, cur, rfl, hb, hgg, _⟩
  · cases e
  · simp only [Value.ownBlock, Option.some.injEq] at e
    subst e
    rcases h.2 with ⟨rfl, _⟩ | ⟨g', off, cap', cur', rfl, _, hgg', _⟩
    · cases hu
    · simp only [Value.ownBlock, Option.some.injEq] at hu
      subst hu
      rw [hgg'] at hgg
      have := Option.some.inj hgg
      injection this with _ h2 _
      revert h2; decide
theorem OutI.below (h : OutI B atoms v L w) (hb : Below w.heap.size w w') : OutI B atoms v L w' :=
  ⟨rowBelow h.row hb, fun q hq => (h.each q hq).below hb⟩
theorem OutI.push {g cap : Nat} {q : Nat × Value} (h : OutI B atoms v L w) (hq : QRow B w q.2 (sbL atoms q.1))
    (hown : w'.ownsRow B 23 1 (.slice (some ⟨g, 0, none⟩) (L.length + 1) cap) (L.length + 1) (L.map (·.2) ++ [q.2])) (hg : w.grownBy w' v.ownBlock) : OutI B atoms (.slice (some ⟨g, 0, none⟩) (L.length + 1) cap) (L ++ [q]) w' := by
  refine ⟨by simpa using hown, fun q' hq' => ?_⟩
  simp only [List.mem_append, List.mem_singleton] at hq'
  rcases hq' with hq' | rfl
  · exact (h.each q' hq').rowKeptL h.row hg
  · exact hq.rowKeptL h.row hg
theorem OutI.setCell (h : OutI B atoms v L w) {b : Nat} (o : Nat) (u : Value) (hb : b < B) : OutI B atoms v L (w.setCell ⟨b, o, none⟩ u) := by
  have hk : ∀ i, B ≤ i → (w.setCell ⟨b, o, none⟩ u).heap[i]? = w.heap[i]? := fun i hi => Below.heap_setCell _ _ _ _ (show i ≠ b by omega)
  refine ⟨⟨h.row.1, ?_⟩, fun q hq => (h.each q hq).kept fun i hi _ _ => hk i hi⟩
  rcases h.row.2 with hn | ⟨g, cap, cur, e, hbg, hgg, rest⟩
  · exact .inl hn
  · exact .inr ⟨g, cap, cur, e, hbg, (hk g hbg).trans hgg, rest⟩
theorem OutI.ownT {row : Option Nat} (h : OutI B atoms v L w) (hg : w.grownBy w' row) (hr : ∀ r, row = some r → ∃ o : Obj, w.heap[r]? = some o ∧ o.isCells = false) : OutI B atoms v L w' := by
  refine ⟨h.row.kept hg ?_, fun q hq => (h.each q hq).ownT hg hr⟩
  rcases h.row.2 with ⟨e, _⟩ | ⟨g, cap, cur, e, _, hgg, _⟩
  · exact .inl (by rw [e]; rfl)
  · refine .inr (fun e2 => ?_)
    rw [e] at e2
    simp only [Value.ownBlock] at e2
    obtain ⟨o, ho, hf⟩ := hr g e2.symm
    rw [hgg] at ho
    cases ho
    cases hf
end
def AllI (ob B N : Nat) (w : World) (atoms : List Int) (P : List Int → Prop) (pre : List (Nat × Value)) (W : World) : Prop :=
  ∃ a n c L, Blk W ob [.slice a n c] 30 ∧ OutI B atoms (.slice a n c) L W ∧ Below N w W ∧ B ≤ W.heap.size ∧ L.length ≤ pre.length ∧ (L.map (·.1)).Sublist (pre.map (·.1)) ∧ ∀ k ∈ pre.map (·.1), k ∈ L.map (·.1) ↔ P (sbL atoms k)
theorem AllI.own {ob B N Z : Nat} {w : World} {atoms : List Int} {P : List Int → Prop} (hN : N ≤ w.heap.size) (hZ : N ≤ Z) : OwnFrom Z (AllI ob B N w atoms P) := fun pre X Y row h hg hr => by
  obtain ⟨a, n, c, L, h1, h2, h3, h4, h5⟩ := h
  have hr' := fun r e => (hr r e).2
  exact ⟨a, n, c, L, h1.ownT hg hr', h2.ownT hg hr', (ownFrom_below (β := Unit) hN hZ) () X Y row h3 hg hr, Nat.le_trans h4 hg.size, h5⟩
theorem AllI.skip {ob B N : Nat} {w W W' : World} {atoms : List Int} {P : List Int → Prop} {pre : List (Nat × Value)} {q : Nat × Value} (h : AllI ob B N w atoms P pre W) (hb : Below W.heap.size W W') (hN : N ≤ w.heap.size) (hP : ¬ P (sbL atoms q.1)) : AllI ob B N w atoms P (pre ++ [q]) W' := by
  obtain ⟨a, n, c, L, h1, h2, h3, h4, h5, h6, h7⟩ := h
  have hz := h3.size
  refine ⟨a, n, c, L, h1.below hb, h2.below hb, h3.trans (hb.mono (by omega)), Nat.le_trans h4 hb.size, by simp; omega, by rw [List.map_append]; exact h6.trans (List.sublist_append_left _ _), fun k hk => ?_⟩
  rw [List.map_append, List.mem_append] at hk
  rcases hk with hk | hk
  · exact h7 k hk
  · obtain rfl : k = q.1 := by simpa using hk
    exact ⟨fun hh => (h7 _ (h6.subset hh)).1 hh, fun hh => absurd hh hP⟩
theorem all_push {ob B N Z : Nat} {w W w1 : World} {atoms : List Int} {P : List Int → Prop} {a : Option Addr} {n c : Nat} {L pre : List (Nat × Value)} {q : Nat × Value} {tmp : Obj} {v' : Value} (hrb : ob < B) (hB : B ≤ W.heap.size) (hN : N ≤ ob) (_hW : N ≤ w.heap.size)
    (hb : Blk W ob [.slice a n c] 30) (hm : OutI B atoms (.slice a n c) L W) (hw : Below N w W) (hq : QRow B W q.2 (sbL atoms q.1))
    (hlen : L.length ≤ pre.length) (hsub : (L.map (·.1)).Sublist (pre.map (·.1))) (hiff : ∀ k ∈ pre.map (·.1), k ∈ L.map (·.1) ↔ P (sbL atoms k)) (hP : P (sbL atoms q.1))
    (hown : w1.ownsRow B 23 1 v' (L.length + 1) (L.map (·.2) ++ [q.2])) (hg : (W.alloc tmp).grownBy w1 (Value.slice a n c).ownBlock) :
    Blk w1 ob [.slice a n c] 30 ∧ (KeepsFrom Z W (w1.setCell ⟨ob, 0, none⟩ v') ∧ Lim B [ob] W (w1.setCell ⟨ob, 0, none⟩ v') ∧ AllI ob B N w atoms P (pre ++ [q]) (w1.setCell ⟨ob, 0, none⟩ v')) := by
  have hz : W.heap.size ≤ w1.heap.size := by have := hg.size; simp at this; omega
  have hrow : ∀ g, (Value.slice a n c).ownBlock = some g → B ≤ g ∧ ∃ o : Obj, W.heap[g]? = some o ∧ o.isCells = true := fun g e => by
    rcases hm.row.2 with ⟨e1, _⟩ | ⟨g', cap, cur, e1, hb', hgg, _⟩
    · rw [e1] at e; cases e
    · rw [e1] at e
      simp only [Value.ownBlock, Option.some.injEq] at e
      subst e
      exact ⟨hb', _, hgg, rfl⟩
  have hkeep : ∀ i, i < W.heap.size → (Value.slice a n c).ownBlock ≠ some i → w1.heap[i]? = W.heap[i]? := fun i hi hne =>
    (hg.block i (by simp; omega) (fun e => hne e.symm)).trans (Below.heap_alloc _ _ _ hi)
  have hb1 : Blk w1 ob [.slice a n c] 30 := hb.same (hkeep ob hb.lt (fun e => by have := (hrow _ e).1; omega))
  obtain ⟨g, cap, rfl⟩ := ownsRow_succ hown
  have hmp := (hm.below (bal (Below.refl W.heap.size W) tmp)).push (q := q) (w' := w1) (g := g) (cap := cap) (hq.below (bal (Below.refl _ _) _)) hown hg
  have hset : ∀ i, i ≠ ob → (w1.setCell ⟨ob, 0, none⟩ (.slice (some ⟨g, 0, none⟩) (L.length + 1) cap)).heap[i]? = w1.heap[i]? := fun i hi => Below.heap_setCell _ _ _ _ hi
  have hsz : (w1.setCell ⟨ob, 0, none⟩ (.slice (some ⟨g, 0, none⟩) (L.length + 1) cap)).heap.size = w1.heap.size := by simp [World.setCell]
  have hb3 : Blk (w1.setCell ⟨ob, 0, none⟩ (.slice (some ⟨g, 0, none⟩) (L.length + 1) cap)) ob [.slice (some ⟨g, 0, none⟩) (L.length + 1) cap] 30 := hb1.set 0 _
  have hlim : Lim B [ob] W (w1.setCell ⟨ob, 0, none⟩ (.slice (some ⟨g, 0, none⟩) (L.length + 1) cap)) :=
    ⟨hg.os, hg.tape, hg.output, by rw [hsz]; exact hz, fun i hi hs => (hset i (by simpa using hs)).trans (hkeep i (by omega) (fun e => by have := (hrow _ e).1; omega))⟩
  refine ⟨hb1, (((KeepsOthers.alloc W tmp).trans (KeepsOthers.of_grownBy hg fun j o ej hj => ?_)).trans (KeepsOthers.setCell _ _ _)).from _, hlim, _, _, _, L ++ [q], hb3, hmp.setCell 0 _ hrb, ?_, by rw [hsz]; omega, by simp; omega, ?_, fun k hk => ?_⟩
  · obtain ⟨_, o2, ho2, hc2⟩ := hrow j ej
    rw [Below.heap_alloc _ _ _ (Array.getElem?_eq_some_iff.1 ho2).1, ho2] at hj
    cases hj; exact hc2
  · exact hw.trans ⟨hg.os, hg.tape, hg.output, by rw [hsz]; exact hz, fun i hi => (hset i (by omega)).trans (hkeep i (by have := hw.size; omega) (fun e => by have := (hrow _ e).1; omega))⟩
  · rw [List.map_append, List.map_append]
    exact hsub.append (List.Sublist.refl _)
  · rw [List.map_append, List.mem_append] at hk
    rw [List.map_append, List.mem_append]
    rcases hk with hk | hk
    · constructor
      · rintro (h | h)
        · exact (hiff k hk).1 h
        · obtain rfl : k = q.1 := by simpa using h
          exact hP
      · exact fun h => .inl ((hiff k hk).2 h)
    · obtain rfl : k = q.1 := by simpa using hk
      exact ⟨fun _ => hP, fun _ => .inr (by simp)⟩
def AllOf (P : List Int → Prop) (n : Nat) (LL : List (List Int)) : Prop :=
  ∃ ks : List Nat, ks.Pairwise (· < ·) ∧ (∀ k, k ∈ ks ↔ k < 2 ^ n ∧ P (subL k n)) ∧ LL.Perm (ks.map fun (k : Nat) => subL k n)
theorem AllOf.mem {P : List Int → Prop} {n : Nat} {LL : List (List Int)} (h : AllOf P n LL) {m : List Int} : m ∈ LL ↔ ∃ k : Nat, k < 2 ^ n ∧ m = subL k n ∧ P m := by
  obtain ⟨ks, -, h2, h3⟩ := h
  rw [h3.mem_iff, List.mem_map]
  constructor
  · rintro ⟨k, hk, rfl⟩
    obtain ⟨h4, h5⟩ := (h2 k).1 hk
    exact ⟨k, h4, rfl, h5⟩
  · rintro ⟨k, hk, rfl, hP⟩
    exact ⟨k, (h2 k).2 ⟨hk, hP⟩, rfl⟩
theorem allOf_of {P : List Int → Prop} {n : Nat} {LL : List (List Int)} {L xs : List (Nat × Value)} (hS : xs.map (·.1) = List.range (2 ^ n)) (hsub : (L.map (·.1)).Sublist (xs.map (·.1))) (hiff : ∀ k ∈ xs.map (·.1), k ∈ L.map (·.1) ↔ P (sbL (atL n) k))
    (hp : LL.Perm (L.map fun x => sbL (atL n) x.1)) : AllOf P n LL := by
  rw [hS] at hsub hiff
  refine ⟨L.map (·.1), List.pairwise_lt_range.sublist hsub, fun k => ?_, ?_⟩
  · constructor
    · intro hk
      have h1 := hsub.subset hk
      have h2 := (hiff k h1).1 hk
      rw [sbL_atL] at h2
      exact ⟨List.mem_range.1 h1, h2⟩
    · rintro ⟨h1, h2⟩
      refine (hiff k (List.mem_range.2 h1)).2 ?_
      rw [sbL_atL]; exact h2
  · refine hp.trans (List.Perm.of_eq ?_)
    rw [List.map_map]
    refine List.map_congr_left fun x _ => ?_
    exact sbL_atL n x.1
theorem lift_list {w : World} {g : Nat} : ∀ l : List (Value × List Int), (∀ x ∈ l, (∃ a n c, x.1 = .slice a n c) ∧ ∀ W', Lim w.heap.size [g] w W' → Ints W' x.1 x.2) → ∃ d : List (RowE w g), d.map (fun x => (x.v, x.l)) = l
  | [], _ => ⟨[], rfl⟩
  | x :: l, h => by
    obtain ⟨d, hd⟩ := lift_list l (fun y hy => h y (.tail _ hy))
    obtain ⟨h1, h2⟩ := h x (.head _)
    exact ⟨⟨x.1, x.2, h1, h2⟩ :: d, by rw [List.map_cons, hd]⟩
theorem permIn_list {α : Type} [Inhabited α] {d d' : Array α} (h : Sort.PermIn 0 d.size d d') : d'.toList.Perm d.toList := by
  obtain ⟨hs, -, hp⟩ := h
  have e1 : d'.extract 0 d.size = d' := by rw [← hs, Array.extract_size]
  have e2 : d.extract 0 d.size = d := by rw [Array.extract_size]
  rwa [e1, e2] at hp
theorem sortRows_any (B : Nat) (atoms : List Int) (v : Value) (L : List (Nat × Value)) (w : World) (h : OutI B atoms v L w) (hal : atoms.length ≤ 1000) (hL : L.length ≤ 1000000000) :
    Calls Tryz.prog 32 #[v, .func (.func 33) #[] #[]] w fun e w' =>
      e = .returned (.tuple #[]) ∧ Below B w w' ∧ KeepsOthers w w' ∧ ∃ LL : List (List Int), ListsIs w' v LL ∧ LL.Perm (L.map fun x => sbL atoms x.1) := by
  have hen : ∀ x ∈ L, (∃ a n c, x.2 = .slice a n c) ∧ Ints w x.2 (sbL atoms x.1) := fun x hx => by
    have hq := h.each x hx
    have := sbTo_len atoms x.1 atoms.length
    exact ⟨hq.form, hq.ints (by unfold sbL; omega)⟩
  rcases h.row.2 with ⟨rfl, h0⟩ | ⟨g, cap, cur, rfl, hb, hg, hn, hm, hs, hx⟩
  · obtain rfl : L = [] := List.length_eq_zero_iff.1 h0
    have hcon := AnyF.slices_SortFunc_none (P := Tryz.prog) (ρ := Tryz.sortF_ren) { Tryz.sortF with } none 0 (.func (.func 33) #[] #[]) w
    refine hcon.mono ?_
    rintro e w' ⟨rfl, hw⟩
    subst hw
    exact ⟨rfl, Below.refl _ _, KeepsOthers.refl _, [], ⟨fun _ => .slice none 0 0, ⟨none, 0, rfl, Nat.le_refl _, by unfold maxLen; omega, by simp, fun h => absurd h (by simp)⟩, fun i hi => absurd hi (by simp)⟩, List.Perm.refl _⟩
  · have hglt := (Array.getElem?_eq_some_iff.1 hg).1
    obtain ⟨dl, hdl⟩ := lift_list (w := w) (g := g) (L.map fun x => (x.2, sbL atoms x.1)) (by
      intro y hy
      obtain ⟨x, hxL, rfl⟩ := List.mem_map.1 hy
      refine ⟨(hen x hxL).1, fun W' hl => ?_⟩
      have hq := h.each x hxL
      have hq' : QRow B W' x.2 (sbL atoms x.1) := hq.kept fun i _ hi hu => hl.block i hi (fun e => by
        obtain rfl : i = g := by simpa using e
        rcases hq.2 with ⟨e2, _⟩ | ⟨g', off, cap', cur', e2, _, hgg', _⟩
        · rw [e2] at hu; cases hu
        · rw [e2] at hu
          simp only [Value.ownBlock, Option.some.injEq] at hu
          subst hu
          rw [hgg'] at hg
          have := Option.some.inj hg
          injection this with _ h2 _
          revert h2; decide)
      have := sbTo_len atoms x.1 atoms.length
      exact hq'.ints (by unfold sbL; omega))
    have hlen : dl.length = L.length := by have := congrArg List.length hdl; simpa using this
    obtain ⟨d, hd⟩ : ∃ d : Array (RowE w g), d = dl.toArray := ⟨_, rfl⟩
    have hsz : d.size = L.length := by rw [hd, List.size_toArray, hlen]
    have hdi : ∀ j, j < d.size → (d[j]!.v, d[j]!.l) = ((L.getD j default).2, sbL atoms (L.getD j default).1) := fun j hj => by
      have hj1 : j < dl.length := by omega
      have hj2 : j < L.length := by omega
      have e1 : d[j]! = dl[j] := by subst hd; simp [getElem!_pos, hj1]
      have e2 : (dl.map (fun x => (x.v, x.l)))[j]? = some (dl[j].v, dl[j].l) := by simp [hj1]
      rw [hdl] at e2
      have e3 : L.getD j default = L[j] := by simp [List.getD_eq_getElem?_getD, List.getElem?_eq_getElem hj2]
      rw [List.getElem?_map, List.getElem?_eq_getElem hj2] at e2
      rw [e1, e3]
      exact (Option.some.inj e2).symm
    have hH : Sort.Holds (fun x : RowE w g => x.v) w g 0 d := fun j hj => by
      have hj2 : j < L.length := by omega
      have hv := congrArg Prod.fst (hdi j hj)
      have hv2 : d[j]!.v = (L.getD j default).2 := hv
      show _ = some d[j]!.v ∧ _
      rw [hv2]
      have e3 : L.getD j default = L[j] := by simp [List.getD_eq_getElem?_getD, List.getElem?_eq_getElem hj2]
      have hBk : Blk w g cur.toList 23 := by unfold Blk; simpa using hg
      refine ⟨?_, hBk.free _⟩
      rw [Nat.zero_add, hBk.cell j, e3]
      have h1 : (cur.toList.take (L.length * 1))[j]? = some (L[j]).2 := by rw [hx, List.getElem?_map, List.getElem?_eq_getElem hj2]; rfl
      rwa [List.getElem?_take_of_lt (by omega)] at h1
    have eg : ∀ args w, (callFunc 33 args).run Tryz.prog w = .ok (.enter 33 args) w := enters_of Tryz.func33 (by kernel_rfl) rfl
    have h1 : OneCell (fun x : RowE w g => x.v) := fun x => by
      obtain ⟨a, n, c, e⟩ := x.form
      show x.v.oneCell' = true
      rw [e]; rfl
    have hcon := Any.slices_SortFunc Tryz.sortF (fun x : RowE w g => x.v) h1 (fun x y => cmpL x.l y.l) (swoL w g) 33 #[] g 0 cap d w eg (cmp_reads w g 0 d.size).lays hH hglt (by omega)
    rw [hsz] at hcon
    refine hcon.mono ?_
    rintro e w' ⟨rfl, d', n, os, hp, -, rfl⟩
    rw [← hsz] at hp
    have hs' : d'.size = L.length := hp.1.trans hsz
    have hlim := lim_sortWorld (fun x : RowE w g => x.v) w g 0 n d' os
    have hH' := holds_sortWorld (fun x : RowE w g => x.v) w g 0 n d d' os hglt hH hp.1
    have hlt' := lt_sortWorld (fun x : RowE w g => x.v) w g 0 n d' os hglt
    refine ⟨rfl, ⟨hlim.os, hlim.tape, hlim.output, hlim.size, fun i hi => ?_⟩, ⟨hlim.size, fun i o hi ho => (hlim.block i (Array.getElem?_eq_some_iff.1 hi).1 (fun e => ?_)).trans hi⟩, d'.toList.map (fun x => x.l), ⟨fun i => d'[i]!.v, ?_, fun i hi => ?_⟩, ?_⟩
    · by_cases hiw : i < w.heap.size
      · exact hlim.block i hiw (by simp; omega)
      · exact absurd (Nat.lt_of_lt_of_le hi hb) (by omega)
    · obtain rfl : i = g := by simpa using e
      rw [hg] at hi
      cases hi
      cases ho
    · have hll : (d'.toList.map (fun x => x.l)).length = L.length := by rw [List.length_map]; exact (Array.length_toList (xs := d')).trans hs'
      rw [hll]
      exact ⟨_, cap, rfl, by omega, hm, by omega, fun _ => ⟨g, 0, rfl, hlt', fun i hi => (hH' i (by omega)).1⟩⟩
    · replace hi : i < d'.size := by rw [List.length_map] at hi; exact hi
      have e : (d'.toList.map (fun x => x.l)).getD i [] = d'[i]!.l := by
        rw [List.getD_eq_getElem?_getD, List.getElem?_map, Array.getElem?_toList, Array.getElem?_eq_getElem hi, getElem!_pos d' i hi]
        rfl
      rw [e]
      exact d'[i]!.ints _ hlim
    · have := (permIn_list hp).map (fun x : RowE w g => x.l)
      refine this.trans (List.Perm.of_eq ?_)
      rw [hd]
      have e4 := congrArg (List.map (fun y : Value × List Int => y.2)) hdl
      rw [List.map_map, List.map_map] at e4
      exact e4
attribute [local go_sem] Oper.semAt_some memUpon
theorem lim_own {β : Type} {n B : Nat} {S : List Nat} {w : World} (hn : n ≤ w.heap.size) (hB : n ≤ B) : OwnFrom B (fun (_ : β) W => Lim n S w W) := fun _ X Y row h hg hr => by
  refine h.trans ⟨hg.os, hg.tape, hg.output, hg.size, fun i hi _ => hg.block i (Nat.lt_of_lt_of_le hi (Nat.le_trans hn h.size)) (fun e => ?_)⟩
  have := (hr i e.symm).1
  omega
def AtV (N k : Nat) : List Value := (List.range N).map fun (j : Nat) => Value.int .i64 (if j < k then (j : Int) + 1 else 0)
def AtRel (W2 : World) (N : Nat) (i : Value) (wx : World) : Prop :=
  ∃ k : Nat, k ≤ N ∧ i = .int .i64 k ∧ Below W2.heap.size W2 wx ∧ Blk wx W2.heap.size (AtV N k) 3
theorem atV_set {N k : Nat} (_hk : k < N) : (AtV N k).set k (.int .i64 ((k : Int) + 1)) = AtV N (k + 1) := by
  unfold AtV
  refine List.ext_getElem (by simp) fun i h1 h2 => ?_
  rw [List.getElem_set]
  simp only [List.getElem_map, List.getElem_range]
  split
  · rename_i e; subst e; rw [if_pos (by omega)]
  · rename_i e
    by_cases h : i < k
    · rw [if_pos h, if_pos (by omega)]
    · rw [if_neg h, if_neg (by omega)]
theorem atV_get {N k j : Nat} (hj : j < N) : (AtV N k)[j]? = some (.int .i64 (if j < k then (j : Int) + 1 else 0)) := by
  unfold AtV
  rw [List.getElem?_map, List.getElem?_range hj]
  rfl
theorem atV_ints {N b : Nat} {w : World} (h : Blk w b (AtV N N) 3) (hN : N ≤ 1000) : Ints w (.slice (some ⟨b, 0, none⟩) N N) (atL N) := by
  refine ⟨⟨_, N, by rw [atL_len], Nat.le_of_eq (atL_len N), by unfold maxLen; omega, by rw [atL_len]; omega, fun h0 => ⟨b, 0, rfl, h.lt, fun i hi => ?_⟩⟩, fun i => ?_⟩
  · rw [atL_len] at hi
    show _ = some (Value.int .i64 (ix (atL N) i))
    rw [Nat.zero_add, h.cell i, atV_get hi, if_pos hi, atL_ix hi]
  · by_cases hi : i < N
    · rw [atL_ix hi]; omega
    · have : ix (atL N) i = 0 := by unfold ix; rw [List.getD_eq_getElem?_getD, List.getElem?_eq_none (by rw [atL_len]; omega)]; rfl
      rw [this]; omega
set_option maxHeartbeats 4000000 in
set_option maxRecDepth 100000 in
theorem all_stable (v : Value) (p : GP) (N : Nat) (w : World) (h : ProgIs w v p) (hv : validE p = 0) (hN : p.n = N) (hN12 : N ≤ 12) (hr : p.rules.length ≤ 1000) :
    Calls Tryz.prog 8 #[v] w fun e w' => ∃ vr LL, e = .returned (.tuple #[vr, .int .i64 0]) ∧ ListsIs w' vr LL ∧ AllOf (StabD p) N LL ∧ Below w.heap.size w w' := by
  have h0 := h
  obtain ⟨vn, vs, vr, vmn, rfl, hps⟩ := h
  have hal := bal (Below.refl w.heap.size w) (.cells #[.int .i64 p.n, vn, vs, vr, vmn] 27)
  have HBX := Lib.hid (Blk.new w [.int .i64 p.n, vn, vs, vr, vmn] 27)
  have HP0 := Lib.hid h0
  have HP := Lib.hid (h0.below hal)
  have HAL := Lib.hid hal
  have HV := Lib.hid hv
  have HFL : Hid (disjB p = false → flatP p = true) := Lib.hid (by
    intro hd
    unfold disjB at hd
    refine allR_true fun i hi => ?_
    have h1 : disjAt (ixR p.rules i) = false := by
      cases e : disjAt (ixR p.rules i) with
      | false => rfl
      | true => rw [anyR_true i hi e] at hd; cases hd
    unfold disjAt at h1
    cases hc : (ixR p.rules i).choice with
    | true => rfl
    | false => rw [hc] at h1; simp at h1 ⊢; omega)
  have HRL : Hid (∀ m, (redL p m).length ≤ 40000) := Lib.hid (fun m => by
    have hV := validP hv
    have hh : ∀ i, i < p.rules.length → (ixR p.rules i).head.length ≤ 24 := fun i hi => by
      have := lits_le2 (increasing_ordered (hV.head i hi)) hV.n.1
      omega
    have h1 := redTo_len (m := m) hh p.rules.length (Nat.le_refl _)
    unfold redL
    omega)
  clear hps h0 hal hv
  have kx := HBX.out.cell
  have hlt := HBX.out.lt
  have hmk : ∀ w : World, (Instr.makeSlice 23 (.int .i64 p.n) (.int .i64 p.n)).run Tryz.prog w = .ok (.slice (some ⟨w.heap.size, 0, none⟩) N N) (w.alloc (.cells (madeCells #[.int .i64 0] N) 3)) := fun w => by rw [hN]; exact run_make_row' _ _ _ _ Tryz.underlying23 infoI rfl .i64 .i64 N (by omega) (by omega) w
  have hgt : decide (p.n > 12) = false := by rw [decide_eq_false]; omega
  have HNI := Lib.hid hN
  clear hN
  refine (callsIn_wide (n := 6)).1 ?_
  refine callsIn_of_wp_marks Tryz.func8 rfl trivial ?_ rfl
  simp only [Tryz.ntmps8, List.size_toArray, List.length_cons, List.length_nil, Nat.reduceAdd, Nat.reduceSub, Array.replicate_succ, Array.replicate_zero, List.push_toArray, List.append_toArray, List.nil_append, List.cons_append]
  gi_upto_region 7 with (refine ⟨trivial, ?_⟩; gi_at_call 22; refine (callsIn_wide.2 (valid_any _ p _ HP.out)).mono ?_; rintro e w1 ⟨e1, hb1⟩; rw [HV.out] at e1; subst e1; have kx1 := fun o => (bcell hb1 _ o hlt).trans (kx o); have HB1 := Lib.hid hb1; have hlt1 := Nat.lt_of_lt_of_le hlt hb1.size; clear hb1)
  have hb3 : Below w1.heap.size w1 (w1.alloc (.cells (madeCells #[.int .i64 0] N) 3)) := bal (Below.refl _ _) _
  have hs3 : Blk (w1.alloc (.cells (madeCells #[.int .i64 0] N) 3)) w1.heap.size (AtV N 0) 3 := by
    have := Blk.new w1 (List.replicate N (Value.int .i64 0)) 3
    rw [← made_list] at this
    have e : AtV N 0 = List.replicate N (Value.int .i64 0) := by
      unfold AtV
      apply List.ext_getElem (by simp)
      intro i h1 h2; simp
    rw [e]; exact this
  have HS3 := Lib.hid hs3
  have HB3 := Lib.hid hb3
  have HK1 := Lib.hid kx1
  clear hs3 hb3 hmk hgt kx kx1
  generalize w1.alloc (.cells (madeCells #[.int .i64 0] N) 3) = W3 at *
  gi_wp2
  gi_loopw [25] (fun i wx => AtRel w1 N i wx) (fun i _ => N - (intOf i).toNat)
  case atStart => exact ⟨0, Nat.zero_le _, rfl, HB3.out, HS3.out⟩
  case round =>
    obtain ⟨k, hk, rfl, hb, hx⟩ := hrel
    have HX := Lib.hid hx
    have HB := Lib.hid hb
    by_cases hlt3 : k < N
    · have q1 := (hx.cell k).trans (atV_get hlt3)
      rw [if_neg (Nat.lt_irrefl k)] at q1
      have q2 := hx.free k
      clear hx hb
      gi_wp2
      first
        | (go_roundw
           case rel => (exact ⟨k + 1, hlt3, by go_num, HB.out.setCell (p := ⟨w1.heap.size, k, none⟩) (Nat.le_refl _) _, by rw [← atV_set hlt3]; exact HX.out.set k _⟩)
           case measure => (simp [intOf]; omega))
        | (refine ⟨?_, ?_⟩
           · (exact ⟨k + 1, hlt3, by go_num, HB.out.setCell (p := ⟨w1.heap.size, k, none⟩) (Nat.le_refl _) _, by rw [← atV_set hlt3]; exact HX.out.set k _⟩)
           · (simp [intOf]; omega))
    · obtain rfl : k = N := by omega
      have HIA := Lib.hid (atV_ints hx (by omega))
      have kp := fun o => (bcell hb _ o hlt1).trans (HK1.out o)
      have HBP := Lib.hid (HBX.out.below (bon HB1.out hb))
      have hbw : Below w.heap.size w wr := bon (bon HAL.out HB1.out) hb
      have HBW := Lib.hid hbw
      have hltr : w.heap.size < wr.heap.size := Nat.lt_of_lt_of_le hlt1 hb.size
      have BO := Lib.hid (Blk.new wr [.slice none 0 0] 30)
      clear hx hb hbw
      gi_upto_region 14 with (refine ⟨trivial, ?_⟩; gi_at_call 29; refine (callsIn_wide.2 (disj_any _ p _ (HP0.out.below (bal HBW.out (.cells #[.slice none 0 0] 30))))).mono ?_; rintro e w2 ⟨rfl, hb2⟩)
      have hz2 : wr.heap.size < w2.heap.size := by have := hb2.size; simp at this; omega
      have HB2 := Lib.hid hb2
      have HBO := Lib.hid (BO.out.below hb2)
      clear hb2
      have hb4 : Below w2.heap.size w2 (w2.alloc (.cells #[.bool (disjB p)] 4)) := bal (Below.refl _ _) _
      have bM : Blk (w2.alloc (.cells #[.bool (disjB p)] 4)) w2.heap.size [.bool (disjB p)] 4 := Blk.new w2 [.bool (disjB p)] 4
      have hz4 : (w2.alloc (.cells #[.bool (disjB p)] 4)).heap.size = w2.heap.size + 1 := by simp
      have hbw2 : Below w.heap.size w w2 := bon (bal HBW.out (.cells #[.slice none 0 0] 30)) HB2.out
      have bX2 : Blk w2 w1.heap.size (AtV k k) 3 := (HX.out.below (bal (Below.refl _ _) (.cells #[.slice none 0 0] 30))).below HB2.out
      have bP2 : Blk w2 w.heap.size [.int .i64 p.n, vn, vs, vr, vmn] 27 := (HBP.out.below (bal (Below.refl _ _) (.cells #[.slice none 0 0] 30))).below HB2.out
      have bX4 := bX2.below hb4
      have bP4 := bP2.below hb4
      have bO4 := HBO.out.below hb4
      have hbw4 : Below w.heap.size w (w2.alloc (.cells #[.bool (disjB p)] 4)) := bon hbw2 hb4
      have hX1 := HX.out.lt
      clear HX HBP HIA kp HBW BO HB2 HBO hb4 hbw2 bX2 bP2 HS3 HB3 HB
      generalize w2.alloc (.cells #[.bool (disjB p)] 4) = W4 at *
      have BX4 := Lib.hid bX4
      have BP4 := Lib.hid bP4
      have BO4 := Lib.hid bO4
      have BM4 := Lib.hid bM
      have HBW4 := Lib.hid hbw4
      have HZ4 := Lib.hid hz4
      clear bX4 bP4 bO4 bM hbw4 hz4
      gi_wp2_with (refine ⟨trivial, ?_⟩; gi_at_call 30; refine (callsIn_wide.2 (subsets_any _ _ _ _)).mono ?_; rintro e w5 ⟨rfl, hb5, hbm5⟩)
      have bX5 := BX4.out.below hb5
      have bP5 := BP4.out.below hb5
      have bO5 := BO4.out.below hb5
      have bM5 := BM4.out.below hb5
      have hbw5 := bon HBW4.out hb5
      have hz5 := hb5.size
      have hO5 := bO5.lt
      have hm5 := hbm5.lt
      clear BX4 BP4 BO4 BM4 HBW4 hb5
      have HK : ∀ W', Lim w5.heap.size [wr.heap.size] w5 W' → Blk W' W4.heap.size [.slice (some ⟨w1.heap.size, 0, none⟩) (atL k).length k] 23 ∧ Ints W' (.slice (some ⟨w1.heap.size, 0, none⟩) (atL k).length k) (atL k) := fun W' h => by
        have hz4 := HZ4.out
        rw [atL_len]
        exact ⟨hbm5.same (h.block _ hm5 (by simp; omega)), atV_ints (bX5.same (h.block _ bX5.lt (by simp; omega))) (by omega)⟩
      have hlk : (atL k).length ≤ 12 := by rw [atL_len]; exact hN12
      obtain ⟨T, hT⟩ : ∃ T : Nat, 2 ^ (atL k).length = T := ⟨_, rfl⟩
      have hT2 := (sh_wrap2 (atL k).length (by omega)).2
      have hstop := subs_stops (atL k) w5 W4.heap.size (some ⟨w1.heap.size, 0, none⟩) k [wr.heap.size] HK hlk 5 (by omega)
      refine wpIn_rangeFunc_ownR rfl (by omega) (gf := 69) (lb := #[.pointer (some ⟨W4.heap.size, 0, none⟩)]) rfl trivial (enters_of Tryz.func69 (by kernel_rfl) rfl)
        hstop (fun h k => h.trans k) (fun W l o o' hl h hc hw => .of_below (belowK_b (w := w5) (Nat.le_refl _) W l o o' hl h hc hw) (Nat.le_refl _)) (Below.refl _ _) (fun _ => rfl)
        (fun pre W => AllI wr.heap.size w5.heap.size w.heap.size w (atL k) (StabD p) pre W ∧ Lim w5.heap.size [wr.heap.size] w5 W)
        (fun _ _ _ => False)
        (OwnFrom.and (AllI.own (Nat.le_refl _) (by omega)) (lim_own (Nat.le_refl _) (Nat.le_refl _)))
        (fun _ _ _ _ _ hs _ _ => hs)
        ⟨⟨none, 0, 0, [], bO5, OutI.nil _ _ _, hbw5, Nat.le_refl _, Nat.le_refl _, by simp, by simp⟩, Lim.refl _ _ _⟩
        (fun x a' W => QRow w5.heap.size W x.2 (sbL (atL k) x.1) ∧ a' = { tmps := #[.agg #[.int .i64 p.n, vn, vs, vr, vmn], .pointer (some ⟨w.heap.size, 0, none⟩), .slice none 0 0, .int .i64 0, .int .i64 0, .slice (some ⟨w1.heap.size, 0, none⟩) k k, u6, .pointer (some ⟨wr.heap.size, 0, none⟩), .pointer (some ⟨w2.heap.size, 0, none⟩), x.2, .agg #[.int .i64 p.n, vn, vs, vr, vmn], .int .i64 0, .bool false, .int .i64 0, .bool false, undef, .bool false, .pointer (some ⟨w.heap.size, 0, none⟩), .int .i64 p.n, .bool false, .pointer (some ⟨w.heap.size, 0, none⟩), .int .i64 p.n, .slice (some ⟨w1.heap.size, 0, none⟩) k k, .slice (some ⟨w1.heap.size, 0, none⟩) k k, .int .i64 k, .int .i64 k, .bool false, u27, u28, u29, u30, u31, u32, u33, .agg #[.int .i64 p.n, vn, vs, vr, vmn], .bool (disjB p), .slice (some ⟨w1.heap.size, 0, none⟩) k k, .func (.func 69) #[] #[.pointer (some ⟨W4.heap.size, 0, none⟩)], x.2, undef, undef, undef, undef, undef, undef, undef, undef, undef, undef, undef], defers := [] })
        (fun x a' _ X Y row hs hg hr => ⟨hs.1.ownR hg (fun r e => (hr r e).2), hs.2⟩)
        ?assign ?body ?done ?stop
      case assign =>
        rintro l pre ⟨q, xv⟩ W K hI hR hK
        obtain ⟨x1, x2, x3, rfl⟩ := hR.form
        have HRR := Lib.hid hR
        have HI := Lib.hid hI
        clear hR hI
        gi_wp2
        exact hK _ _ (KeepsFrom.refl _ _) (Lim.refl _ _ _) HI.out ⟨HRR.out, rfl⟩
      case body =>
        rintro l pre ⟨q, xv⟩ a' W hl ⟨r, hr9⟩ ⟨hI, hlim⟩ ⟨hq, rfl⟩ hlt9
        dsimp only at hq ⊢
        have hle : (sbL (atL k) q).length ≤ (atL k).length := sbTo_len (atL k) q _
        have hqi := hq.ints (by omega)
        obtain ⟨x1, x3, rfl, -⟩ := hqi.form
        obtain ⟨a9, n9, c9, L, hbo, hout, hbw, hsz, hlen, hsub, hiff⟩ := id hI
        have bPW := bP5.same (hlim.block _ bP5.lt (by simp; omega))
        have bMW := bM5.same (hlim.block _ bM5.lt (by simp; omega))
        have kP := bPW.cell
        have kM := bMW.cell 0
        have hltW := bPW.lt
        have hset : setQ p.n (sbL (atL k) q) = true := by
          rw [sbL_atL]
          exact setQ_of (subL_sorted _ _) (fun x hx => by have := subL_range _ _ x hx; have := HNI.out; omega)
        have HS := isD_any _ _ p (sbL (atL k) q) (disjB p) W (HP0.out.below hbw) hqi HV.out HFL.out hset (HRL.out _) (by omega)
        have HBO := Lib.hid hbo
        have HOU := Lib.hid hout
        have HBW := Lib.hid hbw
        have HI := Lib.hid hI
        have HQ := Lib.hid hq
        have HLIM := Lib.hid hlim
        have HSUB := Lib.hid hsub
        have HIFF := Lib.hid hiff
        have hlen2 : L.length < 4096 := by omega
        clear hbo hout hbw hI hq hlim hsub hiff hqi hset bPW bMW
        by_cases hP : StabD p (sbL (atL k) q)
        · have HPP := Lib.hid hP
          have HS2 : Hid (Calls Tryz.prog 31 #[.agg #[.int .i64 p.n, vn, vs, vr, vmn], .slice x1 (sbL (atL k) q).length x3, .bool (disjB p)] W fun e w' => e = .returned (.bool true) ∧ Below W.heap.size W w') := Lib.hid (HS.mono fun e w' ⟨b, h1, h2, h3⟩ => by
            have hbt := h2.2 hP
            subst hbt
            exact ⟨h1, h3⟩)
          clear HS hP
          obtain ⟨i0, hi, hy0, hy1, hy2⟩ := info_parts infoL
          gi_wp2_with (first
            | (gi_at_builtin; refine wpListIn_append_own_at _ rfl _ _ 30 rfl w5.heap.size 23 i0 _ 1 24 Tryz.underlying30 hi hy0 hy1 hy2 rfl (by decide) (.slice a9 n9 c9) L.length (L.map (·.2)) rfl (HOU.out.below (bon hb6 (bal (Below.refl _ _) _))).row ⟨w6.heap.size, 0, none⟩ 1 1 [.slice x1 (sbL (atL k) q).length x3] rfl rfl (newsOf (Blk.new w6 [.slice x1 (sbL (atL k) q).length x3] 23)) (by intro u hu; obtain rfl := List.mem_singleton.1 hu; rfl) (by unfold maxLen; omega) (by omega) (by simp; omega) ?_; intro v' w3 hown' hgrow _ hat; have hp := all_push (ob := wr.heap.size) (B := w5.heap.size) (N := w.heap.size) (Z := w5.heap.size) (w := w) (W := w6) (atoms := atL k) (P := StabD p) (pre := pre) (q := (q, .slice x1 (sbL (atL k) q).length x3)) (by omega) (by omega) (by omega) (Nat.le_refl _) (HBO.out.below hb6) (HOU.out.below hb6) (bon HBW.out hb6) (HQ.out.below hb6) hlen HSUB.out HIFF.out HPP.out hown' hgrow; obtain ⟨g', cap', rfl⟩ := ownsRow_succ hown'; have hc1 := hp.1.cell 0; have hf1 := hp.1.free 0; have HPQ := Lib.hid hp.2; clear hp hown' hgrow hat)
            | (refine ⟨trivial, ?_⟩; gi_at_call 31; refine (CallsIn.inRound l (callsIn_wide.2 HS2.out)).mono ?_; rintro e w6 ⟨rfl, hb6⟩; have kv6 := (HBO.out.below hb6).cell 0; have hz6 := hb6.size; have hlt6 := (HBO.out.below hb6).lt))
          exact ⟨(keeps_below hb6).trans HPQ.out.1, (Lim.of_below hb6 (by omega)).trans HPQ.out.2.1, HPQ.out.2.2, (HLIM.out.trans (Lim.of_below hb6 (by omega))).trans HPQ.out.2.1⟩
        · have HS2 : Hid (Calls Tryz.prog 31 #[.agg #[.int .i64 p.n, vn, vs, vr, vmn], .slice x1 (sbL (atL k) q).length x3, .bool (disjB p)] W fun e w' => e = .returned (.bool false) ∧ Below W.heap.size W w') := Lib.hid (HS.mono fun e w' ⟨b, h1, h2, h3⟩ => by
            have hbt : b = false := by cases b with | false => rfl | true => exact absurd (h2.1 rfl) hP
            subst hbt
            exact ⟨h1, h3⟩)
          have HPP := Lib.hid hP
          clear HS hP
          gi_wp2_with (refine ⟨trivial, ?_⟩; gi_at_call 31; refine (CallsIn.inRound l (callsIn_wide.2 HS2.out)).mono ?_; rintro e w6 ⟨rfl, hb6⟩)
          exact ⟨keeps_below hb6, Lim.of_below hb6 (by omega), HI.out.skip hb6 (Nat.le_refl _) HPP.out, HLIM.out.trans (Lim.of_below hb6 (by omega))⟩
      case done =>
        rintro D xs W hD hS ⟨hI, hlim⟩ hK
        obtain ⟨a9, n9, c9, L, hbo, hout, hbw, hsz, hlen, hsub, hiff⟩ := hI
        have hxl : xs.length = 2 ^ (atL k).length := by have := congrArg List.length hS; rwa [List.length_map, List.length_range] at this
        have hk0 := hbo.cell 0
        have hltB : wr.heap.size < w5.heap.size := by omega
        have hltO := hbo.lt
        have HBO := Lib.hid hbo
        have HOU := Lib.hid hout
        have HBW := Lib.hid hbw
        have HALL := Lib.hid (fun (LL : List (List Int)) (h : LL.Perm (L.map fun x => sbL (atL k) x.1)) => allOf_of (n := k) (P := StabD p) (by rw [hS, atL_len]) hsub hiff h)
        have hlen2 : L.length ≤ 1000000000 := by omega
        have hKD : W.heap[D]? = some (.deferred (some [])) := hK
        have HKD := Lib.hid hKD
        clear hbo hout hbw hsub hiff hS hxl hlim hK hKD
        gi_wp2_with (refine ⟨trivial, ?_⟩; gi_at_call 32; refine (callsIn_wide.2 (sortRows_any w5.heap.size (atL k) _ L W HOU.out (by omega) hlen2)).mono ?_; rintro e w7 ⟨rfl, hb7, hko7, LL, hls, hpm⟩; have hk7 := (HBO.out.same (hb7.block _ hltB)).cell 0)
        have hK7 := hko7.same D _ HKD.out rfl
        refine ⟨by simp, .inl ⟨_, _, rfl, run_takeDeferred hK7, ?_⟩⟩
        refine ⟨_, ?_, _, LL, rfl, hls.ownT (grownBy_putObj' w7 D (.deferred none)) (fun r e => by cases e; exact ⟨_, hK7, rfl⟩), HALL.out LL hpm, (HBW.out.trans (hb7.mono (by omega))).trans (belowK_b (w := w) (Nat.le_refl _) w7 D _ _ (by omega) hK7 rfl rfl)⟩
        simp [results, Tryz.f8, go_sem]
      case stop =>
        rintro D c pre W _ _ h _
        exact h.elim
end Go.Proofs.YtjodocheiejkeaaGreatDoor
namespace Go.Proofs.YtjodocheiejkeaaGreatDoor
open Go.RowKit Go.WideShapes
section
variable {H : Type} {enc : TypeId × Value → H} {w : World} {r : Reach} {b0 : Nat} {v : Value} {d : DataW H} {q : List MemPlace}
theorem arg_reads {P : Program} {t : TypeId} (h : DataW.Trod enc P w 0 (fun _ => true) true t v d q) (hw : ∀ m ∈ d.weights P t, m ≤ reachBytes) : Reads enc P w t v.cells.toList := by
  obtain ⟨fuel, hf⟩ := h
  exact ⟨fuel, _, hf, hw⟩
set_option maxRecDepth 100000 in
theorem arg_Prog (hv : Value.okWide Tryz.prog w r b0 27 v) (h : DataW.Trod enc Tryz.prog w 0 (fun _ => true) true 27 v d q) (hw : ∀ m ∈ d.weights Tryz.prog 27, m ≤ reachBytes) : ∃ p, ProgIs w v p := by
  obtain ⟨cs, rfl, -⟩ := okWide_struct Tryz.underlying27 hv
  have hr := arg_reads h hw
  obtain ⟨p, vn, vs, vr, vm, he, hp⟩ := open_Prog hr
  refine ⟨p, vn, vs, vr, vm, ?_, hp⟩
  have : cs.toList = [.int .i64 p.n, vn, vs, vr, vm] := by simpa [Value.cells] using he
  congr 1
  exact Array.toList_inj.1 this
end
end Go.Proofs.YtjodocheiejkeaaGreatDoor
