/- My texts Cm3, Rounds1, RoundsU, Rounds2, Least, SrcSt, Entry, Try2, Plain2, Gain, New2, Plain3, MoreP, Lp11, merged. -/
import Derived.Test.YtgakoainjgjimaaGreatDoorM05
import Derived.Test.YtgakoainjgjimaaGreatDoorM04
import Derived.Test.YtgakoainjgjimaaGreatDoorM03
import Derived.Test.YtgakoainjgjimaaGreatDoorM00
import Derived.Test.YtgakoainjgjimaaGreatDoorProg
import Derived.WalkKit
import Derived.Lib.Hide
import Derived.Deep.QuietTactic
import Derived.BigQuiet
import Derived.WalkSpells
import Derived.Lib.SliceRun
import Derived.MapKept
import Derived.Maps.OwnSet
import Derived.Maps.OwnOps
import Derived.Test.YtgakoainjgjimaaGreatDoorM02
import Derived.Test.YtgakoainjgjimaaGreatDoorM01
import Derived.Deep.AppendLies
import Derived.Lib.Bytealg
import Derived.Deep.DeepCutAuto
import Derived.Laws.EntriesVeiled
import Derived.Deep.RegionWith
import Derived.RangeFuncNested
import Derived.RangeFuncBound
import Derived.RangeFuncCalls
import Derived.RangeFuncLeaves
import Derived.OwnWalkIn
import Derived.TacticsInMore
import Derived.LoopNIn
import Derived.LoopIn
import Derived.Stop.RegionWithIn
import Derived.Shelf.Abstract
import Derived.Deep.OwnRows
import Derived.Deep.LoopGhost
import Derived.Deep.DrawnRows

namespace Go.Proofs.YtgakoainjgjimaaGreatDoor
open Go.RowKit
def CntSt (W0 : World) (bm : Nat) (P : Int → Prop) (B : Int) (wx : World) : Prop :=
  ∃ G, MapIs (Value.int .i64) wx bm (mapI G) ∧ (∀ y, 0 ≤ G y ∧ G y ≤ B ∧ (0 < G y ↔ P y)) ∧ Below W0.heap.size W0 wx
theorem CntSt.start (W0 : World) : CntSt W0 W0.heap.size (fun _ => False) 0 (W0.alloc (.map #[] 0)) := by
  refine ⟨fun _ => 0, ?_, fun y => by simp, bal (Below.refl _ _) _⟩
  have : mapI (fun _ => 0) = fun _ => none := by funext x; simp [mapI]
  rw [this]; exact MapIs.made W0
theorem CntSt.on {W0 wx wy : World} {bm : Nat} {P : Int → Prop} {B : Int} (h : CntSt W0 bm P B wx) (hb : Below wx.heap.size wx wy) : CntSt W0 bm P B wy :=
  let ⟨G, h1, h2, h3⟩ := h; ⟨G, h1.below hb, h2, bon h3 hb⟩
theorem CntSt.same {W0 wx : World} {bm : Nat} {P Q : Int → Prop} {B C : Int} (h : CntSt W0 bm P B wx) (hp : ∀ y, P y ↔ Q y) (hB : B ≤ C) : CntSt W0 bm Q C wx :=
  let ⟨G, h1, h2, h3⟩ := h; ⟨G, h1, fun y => ⟨(h2 y).1, Int.le_trans (h2 y).2.1 hB, (h2 y).2.2.trans (hp y)⟩, h3⟩
theorem CntSt.put {W0 wx w7 : World} {bm : Nat} {P Q : Int → Prop} {B : Int} {G : Int → Int} {x : Int} (hG : ∀ y, 0 ≤ G y ∧ G y ≤ B ∧ (0 < G y ↔ P y)) (hb : Below W0.heap.size W0 wx) (hbm : W0.heap.size ≤ bm)
    (hm : MapIs (Value.int .i64) w7 bm (upd (mapI G) x (some (.int .i64 (G x + 1))))) (hg : wx.grownBy w7 (some bm)) (hQ : ∀ y, Q y ↔ P y ∨ y = x) : CntSt W0 bm Q (B + 1) w7 := by
  have hx := hG x
  have hsz := hb.size
  refine ⟨setI G x (G x + 1), by rw [mapI_set (by omega)]; exact hm, fun y => ?_, hb.trans ⟨hg.os, hg.tape, hg.output, hg.size, fun i hi => hg.block i (by omega) (fun e => by have := Option.some.inj e; omega)⟩⟩
  rw [hQ y]
  by_cases e : y = x
  · subst e
    have e2 : setI G y (G y + 1) y = G y + 1 := by simp [setI]
    rw [e2]
    exact ⟨by omega, by omega, ⟨fun _ => .inr rfl, fun _ => by omega⟩⟩
  · have e2 : setI G x (G x + 1) y = G y := by simp [setI, e]
    rw [e2]
    have := hG y
    exact ⟨this.1, by omega, ⟨fun h => .inl (this.2.2.1 h), fun h => this.2.2.2 (h.resolve_right e)⟩⟩
attribute [local go_sem] memUpon
structure RFx (R : List GR) (n : Int) (w w1 : World) (nb ob b9 b6 b3 b8 : Nat) (ar : Option Addr) (cr : Nat) : Prop where
  need : Blk w1 b6 [.slice (some ⟨nb, 0, none⟩) R.length R.length] 23
  out : Blk w1 b8 [.slice (some ⟨ob, 0, none⟩) n.toNat n.toNat] 23
  rbox : Blk w1 b3 [.slice ar R.length cr] 24
  rules : RulesIs w (.slice ar R.length cr) R
  below : Below w.heap.size w w1
  lo : w.heap.size ≤ nb ∧ w.heap.size ≤ ob ∧ w.heap.size ≤ b9 ∧ w.heap.size ≤ b6 ∧ w.heap.size ≤ b3 ∧ w.heap.size ≤ b8
  lt : nb < w1.heap.size ∧ ob < w1.heap.size ∧ b9 < w1.heap.size
  ne : nb ≠ ob ∧ nb ≠ b9 ∧ ob ≠ b9 ∧ b6 ≠ nb ∧ b6 ≠ ob ∧ b6 ≠ b9 ∧ b8 ≠ nb ∧ b8 ≠ ob ∧ b8 ≠ b9 ∧ b3 ≠ nb ∧ b3 ≠ ob ∧ b3 ≠ b9
structure RSt (w1 : World) (nb ob b9 : Nat) (nd od l : List Int) (wx : World) : Prop where
  lim : Lim w1.heap.size [nb, ob, b9] w1 wx
  need : Blk wx nb (nd.map (Value.int .i64)) 3
  out : Blk wx ob (od.map (Value.int .i64)) 3
  now : ∃ an cn, Blk wx b9 [.slice an l.length cn] 23 ∧ QRow w1.heap.size wx (.slice an l.length cn) l
section
variable {R : List GR} {n : Int} {w w1 wx w' : World} {nb ob b9 b6 b3 b8 : Nat} {ar : Option Addr} {cr : Nat} {nd od l : List Int}
theorem RSt.on (h : RSt w1 nb ob b9 nd od l wx) (hb : Below wx.heap.size wx w') : RSt w1 nb ob b9 nd od l w' := by
  obtain ⟨an, cn, h1, h2⟩ := h.now
  exact ⟨h.lim.trans (.of_below hb h.lim.size), h.need.below hb, h.out.below hb, an, cn, h1.below hb, h2.kept fun i _ hi _ => hb.block i hi⟩
theorem RFx.at (hf : RFx R n w w1 nb ob b9 b6 b3 b8 ar cr) (h : RSt w1 nb ob b9 nd od l wx) :
    Blk wx b6 [.slice (some ⟨nb, 0, none⟩) R.length R.length] 23 ∧ Blk wx b8 [.slice (some ⟨ob, 0, none⟩) n.toNat n.toNat] 23 ∧ Blk wx b3 [.slice ar R.length cr] 24 ∧ Below w.heap.size w wx := by
  have hn := hf.ne
  have k : ∀ b, b < w1.heap.size → b ≠ nb → b ≠ ob → b ≠ b9 → wx.heap[b]? = w1.heap[b]? := fun b h1 h2 h3 h4 => h.lim.block b h1 (by simp [h2, h3, h4])
  refine ⟨hf.need.same (k _ hf.need.lt (by omega) (by omega) (by omega)), hf.out.same (k _ hf.out.lt (by omega) (by omega) (by omega)), hf.rbox.same (k _ hf.rbox.lt (by omega) (by omega) (by omega)), hf.below.trans ((h.lim.mono hf.below.size (fun i hi _ => hi)).below (fun i hi => ?_))⟩
  have := hf.lo
  simp only [List.mem_cons, List.not_mem_nil, or_false] at hi
  rcases hi with rfl | rfl | rfl <;> omega
theorem mapI_setL (l : List Int) (i : Nat) (v : Int) : (l.map (Value.int .i64)).set i (.int .i64 v) = (l.set i v).map (Value.int .i64) := by
  rw [List.map_set]
theorem QRow.slenQ {base : Nat} {w : World} {v : Value} {l : List Int} (h : QRow base w v l) : ∃ a c, v = .slice a l.length c := by
  rcases h.2 with ⟨rfl, rfl⟩ | ⟨g, off, cap, cur, rfl, _⟩
  · exact ⟨_, _, rfl⟩
  · exact ⟨_, _, rfl⟩
theorem RSt.push {an : Option Addr} {cn : Nat} {v4 : Value} {x : Int} {w4 : World} (h : RSt w1 nb ob b9 nd od l wx) (hb : Blk wx b9 [.slice an l.length cn] 23) (hq : QRow w1.heap.size wx (.slice an l.length cn) l) (hne : nb ≠ b9 ∧ ob ≠ b9) (hlt : nb < w1.heap.size ∧ ob < w1.heap.size ∧ b9 < w1.heap.size)
    (hq4 : QRow w1.heap.size w4 v4 (l ++ [x])) (hg : wx.grownBy w4 (Value.slice an l.length cn).ownBlock) : Blk w4 b9 [.slice an l.length cn] 23 ∧ RSt w1 nb ob b9 nd od (l ++ [x]) (w4.setCell ⟨b9, 0, none⟩ v4) := by
  have hlow : ∀ i, i < w1.heap.size → some i ≠ (Value.slice an l.length cn).ownBlock := fun i hi e => by
    rcases hq.2 with ⟨e2, _⟩ | ⟨g, off, cap, cur, e2, hbg, _⟩
    · rw [e2] at e; cases e
    · rw [e2] at e; simp only [Value.ownBlock, Option.some.injEq] at e; omega
  have hs := h.lim.size
  have hk : ∀ i, i < w1.heap.size → w4.heap[i]? = wx.heap[i]? := fun i hi => hg.block i (by omega) (hlow i hi)
  obtain ⟨a4, c4, rfl⟩ := hq4.slenQ
  have hb4 := hb.same (hk _ hlt.2.2)
  refine ⟨hb4, ⟨(h.lim.trans ⟨hg.os, hg.tape, hg.output, hg.size, fun i hi _ => hk i hi⟩).trans (.setCell _ (.inl (by simp))), (h.need.same (hk _ hlt.1)).setOther _ _ hne.1, (h.out.same (hk _ hlt.2.1)).setOther _ _ hne.2, a4, c4, hb4.set 0 _, hq4.kept fun i hi _ _ => Below.heap_setCell _ _ _ _ (show i ≠ b9 by omega)⟩⟩
def ReachP (R : List GR) (nd : List Int) (i : Nat) (round : Int) (od l od' l' : List Int) : Prop :=
  (od' = od ∧ l' = l ∧ (ix nd i ≤ 0 → ∀ x ∈ (ixR R i).head, ix od (x - 1).toNat ≠ 0)) ∨
    (ix nd i ≤ 0 ∧ ∃ x, (ixR R i).head = [x] ∧ ix od (x - 1).toNat = 0 ∧ od' = od.set (x - 1).toNat round ∧ l' = l ++ [x])
theorem Lv.reach {C od' l' : List Int} (hd : DefR n R) (h : Lv n R C l od nd) (hp : Paid R C nd) {i : Nat} (hi : i < R.length) {round : Int} (hr : 1 ≤ round ∧ round ≤ 4000000) (hx : ReachP R nd i round od l od' l') :
    Lv n R C l' od' nd ∧ (∀ x ∈ C ++ l, x ∈ C ++ l') ∧ (ix nd i ≤ 0 → ∀ x ∈ (ixR R i).head, x ∈ C ++ l') := by
  rcases hx with ⟨rfl, rfl, h1⟩ | ⟨h0, x, e, ho, rfl, rfl⟩
  · refine ⟨h, fun _ h => h, fun h0 x hx => ?_⟩
    have hxr := (hd.head i hi).2 x hx
    have ho := h.out x hxr.1 hxr.2
    have := h1 h0 x hx
    exact ho.1.1 (by omega)
  · refine ⟨h.take hd hp hi h0 e ho hr, fun y hy => by rw [← List.append_assoc]; exact List.mem_append_left _ hy, fun _ y hy => ?_⟩
    rw [e] at hy
    simp only [List.mem_singleton] at hy
    subst hy
    simp
theorem Asked.reach {A A' : List Int} {T T' : Nat → Prop} {i : Nat} (h : Asked R A nd T) (hA : ∀ x ∈ A, x ∈ A') (hi : ix nd i ≤ 0 → ∀ x ∈ (ixR R i).head, x ∈ A') (hT : ∀ j, T j → j = i ∨ T' j) : Asked R A' nd T' := fun j hj h0 => by
  rcases h j hj h0 with h1 | h1
  · exact .inl fun x hx => hA x (h1 x hx)
  · rcases hT j h1 with rfl | h2
    · exact .inl (hi h0)
    · exact .inr h2
end
end Go.Proofs.YtgakoainjgjimaaGreatDoor
namespace Go.Proofs.YtgakoainjgjimaaGreatDoor
open Go.RowKit
def cells2 (u : Int × Int) : List Value := [.int .i64 u.1, .int .i64 u.2]
structure UT (nn B tb : Nat) (V : List Value) (U : Int → List (Int × Int)) (w : World) : Prop where
  tab : Blk w tb V 201
  len : V.length = nn + 1
  row : ∀ a : Nat, a ≤ nn → w.ownsRow B 202 2 (V.getD a nilS) (U a).length ((U a).flatMap cells2)
  dis : ∀ a a' : Nat, ∀ g, a ≤ nn → a' ≤ nn → (V.getD a nilS).ownBlock = some g → (V.getD a' nilS).ownBlock = some g → a = a'
  lo : tb < B ∧ B ≤ w.heap.size
section
variable {nn B tb : Nat} {V : List Value} {U : Int → List (Int × Int)} {w w' : World}
theorem UT.kept (h : UT nn B tb V U w) (hs : w.heap.size ≤ w'.heap.size) (hb : ∀ i, (i = tb ∨ B ≤ i) → i < w.heap.size → w'.heap[i]? = w.heap[i]?) : UT nn B tb V U w' := by
  refine ⟨h.tab.same (hb _ (.inl rfl) h.tab.lt), h.len, fun a ha => ⟨(h.row a ha).1, ?_⟩, h.dis, h.lo.1, by have := h.lo; omega⟩
  rcases (h.row a ha).2 with hn | ⟨g, cap, cur, e, hbg, hgg, rest⟩
  · exact .inl hn
  · exact .inr ⟨g, cap, cur, e, hbg, (hb g (.inr hbg) (Array.getElem?_eq_some_iff.1 hgg).1).trans hgg, rest⟩
theorem UT.below (h : UT nn B tb V U w) (hb : Below w.heap.size w w') : UT nn B tb V U w' := h.kept hb.size fun i _ hi => hb.block i hi
theorem row_block {base E size n : Nat} {xs : List Value} {v : Value} {g : Nat} (h : w.ownsRow base E size v n xs) (hg : v.ownBlock = some g) : base ≤ g ∧ g < w.heap.size := by
  rcases h.2 with ⟨rfl, _⟩ | ⟨g', cap, cur, rfl, hb, hgg, _⟩
  · cases hg
  · simp only [Value.ownBlock, Option.some.injEq] at hg
    subst hg
    exact ⟨hb, (Array.getElem?_eq_some_iff.1 hgg).1⟩
theorem getDV_set (V : List Value) (a b : Nat) (v : Value) (ha : a < V.length) : (V.set a v).getD b nilS = if b = a then v else V.getD b nilS := by
  simp only [List.getD_eq_getElem?_getD]
  by_cases h : b = a
  · subst h; rw [if_pos rfl, List.getElem?_set_self ha]; rfl
  · rw [if_neg h, List.getElem?_set_ne (by omega)]
theorem UT.push (h : UT nn B tb V U w) (a : Nat) (ha : a ≤ nn) (u : Int × Int) {g cap : Nat} (hown : w'.ownsRow B 202 2 (.slice (some ⟨g, 0, none⟩) ((U a).length + 1) cap) ((U a).length + 1) ((U a).flatMap cells2 ++ cells2 u))
    (hg : w.grownBy w' (V.getD a nilS).ownBlock) (hl : (V.getD a nilS).ownBlock = some g ∨ g = w.heap.size) :
    Blk w' tb V 201 ∧ UT nn B tb (V.set a (.slice (some ⟨g, 0, none⟩) ((U a).length + 1) cap)) (fun b => if b = (a : Int) then U b ++ [u] else U b) (w'.setCell ⟨tb, a, none⟩ (.slice (some ⟨g, 0, none⟩) ((U a).length + 1) cap)) := by
  have hlo := h.lo
  have hrow : ∀ g', (V.getD a nilS).ownBlock = some g' → B ≤ g' := fun g' e => (row_block (h.row a ha) e).1
  have htab : Blk w' tb V 201 := h.tab.same (hg.block _ h.tab.lt (fun e => by have := hrow _ e.symm; omega))
  refine ⟨htab, htab.set _ _, by simpa using h.len, fun b hb => ?_, fun b b' g' hb hb' => ?_, hlo.1, by have := hg.size; simp [World.setCell]; omega⟩
  · rw [getDV_set V a b _ (by have := h.len; omega)]
    have setK : ∀ {v : Value} {n : Nat} {xs : List Value} {nv : Value}, w'.ownsRow B 202 2 v n xs → (w'.setCell ⟨tb, a, none⟩ nv).ownsRow B 202 2 v n xs := fun {v n xs nv} hr => by
      refine ⟨hr.1, ?_⟩
      rcases hr.2 with hn | ⟨g', cap, cur, e, hbg, hgg, rest⟩
      · exact .inl hn
      · exact .inr ⟨g', cap, cur, e, hbg, (Below.heap_setCell _ _ _ _ (show g' ≠ tb by omega)).trans hgg, rest⟩
    by_cases e : b = a
    · subst e
      rw [if_pos rfl]
      simp only [if_true, List.length_append, List.length_singleton, List.flatMap_append, List.flatMap_cons, List.flatMap_nil, List.append_nil]
      exact setK hown
    · rw [if_neg e]
      simp only [show ¬ ((b : Int) = (a : Int)) by omega, if_false]
      refine setK ⟨(h.row b hb).1, ?_⟩
      rcases (h.row b hb).2 with hn | ⟨g', cap', cur, e', hbg, hgg, rest⟩
      · exact .inl hn
      · refine .inr ⟨g', cap', cur, e', hbg, (hg.block g' (Array.getElem?_eq_some_iff.1 hgg).1 (fun e2 => e (h.dis b a g' hb ha (by rw [e']; rfl) e2.symm))).trans hgg, rest⟩
  · have hlen := h.len
    rw [getDV_set V a b _ (by omega), getDV_set V a b' _ (by omega)]
    have key : ∀ c : Nat, c ≤ nn → c ≠ a → (V.getD c nilS).ownBlock ≠ some g := fun c hc hca e => by
      rcases hl with hl | hl
      · exact hca (h.dis c a g hc ha e hl)
      · have := (row_block (h.row c hc) e).2; omega
    by_cases e1 : b = a
    · by_cases e2 : b' = a
      · intro _ _; omega
      · rw [if_pos e1, if_neg e2]
        intro h1 h2
        simp only [Value.ownBlock, Option.some.injEq] at h1
        exact absurd (h1 ▸ h2) (key b' hb' e2)
    · by_cases e2 : b' = a
      · rw [if_neg e1, if_pos e2]
        intro h1 h2
        simp only [Value.ownBlock, Option.some.injEq] at h2
        exact absurd (h2 ▸ h1) (key b hb e1)
      · rw [if_neg e1, if_neg e2]
        exact h.dis b b' g' hb hb'
theorem UT.cell (h : UT nn B tb V U w) (a : Nat) (ha : a ≤ nn) : w.cell? ⟨tb, a, none⟩ = some (V.getD a nilS) := by
  rw [h.tab.cell]
  have := h.len
  rw [List.getElem?_eq_getElem (by omega)]
  simp [List.getD_eq_getElem?_getD, List.getElem?_eq_getElem (show a < V.length by omega)]
theorem flat2 : ∀ (L : List (Int × Int)) (i : Nat), i < L.length → (L.flatMap cells2)[i * 2]? = some (.int .i64 (L.getD i (0, 0)).1) ∧ (L.flatMap cells2)[i * 2 + 1]? = some (.int .i64 (L.getD i (0, 0)).2)
  | [], i, hi => absurd hi (Nat.not_lt_zero _)
  | q :: L, 0, _ => by simp [cells2]
  | q :: L, i + 1, hi => by
    have ih := flat2 L i (by simpa using hi)
    have e1 : (i + 1) * 2 = i * 2 + 1 + 1 := by omega
    simp only [List.flatMap_cons, cells2, List.cons_append, List.nil_append, e1, List.getElem?_cons_succ, List.getD_cons_succ]
    exact ih
theorem UT.at (h : UT nn B tb V U w) (a : Nat) (ha : a ≤ nn) : ∃ ad cap, V.getD a nilS = .slice ad (U a).length cap ∧ ∀ j, j < (U a).length → ∃ g, ad = some ⟨g, 0, none⟩ ∧ B ≤ g ∧ g < w.heap.size ∧ w.cell? ⟨g, j * 2, none⟩ = some (.int .i64 ((U a).getD j (0, 0)).1) ∧ w.cell? ⟨g, j * 2 + 1, none⟩ = some (.int .i64 ((U a).getD j (0, 0)).2) := by
  rcases (h.row a ha).2 with ⟨e, e2⟩ | ⟨g, cap, cur, e, hb, hg, hn, hm, hs, hx⟩
  · exact ⟨none, 0, by rw [e, e2], fun j hj => by omega⟩
  · refine ⟨_, cap, e, fun j hj => ⟨g, rfl, hb, (Array.getElem?_eq_some_iff.1 hg).1, ?_⟩⟩
    obtain ⟨h1, h2⟩ := flat2 (U a) j hj
    rw [← hx, List.getElem?_take_of_lt (by omega)] at h1 h2
    have c1 := cell_of_row w g (j * 2) cur _ (0, 0) hg
    have c2 := cell_of_row w g (j * 2 + 1) cur _ (0, 0) hg
    rw [c1, c2]
    exact ⟨by simpa using h1, by simpa using h2⟩
end
structure P1 (R : List GR) (nn : Nat) (W6 : World) (nb tb : Nat) (i : Nat) (nd : List Int) (V : List Value) (U : Int → List (Int × Int)) (wx : World) : Prop where
  lim : Lim W6.heap.size [nb, tb] W6 wx
  need : Blk wx nb (nd.map (Value.int .i64)) 3
  len : nd.length = R.length
  val : ∀ j, j < i → ix nd j = need0 (ixR R j)
  uses : UT nn W6.heap.size tb V U wx
  ne : nb ≠ tb ∧ nb < W6.heap.size
theorem P1.below {R : List GR} {nn nb tb i : Nat} {W6 wx w' : World} {nd : List Int} {V : List Value} {U : Int → List (Int × Int)} (h : P1 R nn W6 nb tb i nd V U wx) (hb : Below wx.heap.size wx w') : P1 R nn W6 nb tb i nd V U w' :=
  ⟨h.lim.trans (.of_below hb h.lim.size), h.need.below hb, h.len, h.val, h.uses.below hb, h.ne⟩
theorem P1.next {R : List GR} {nn nb tb i : Nat} {W6 wx : World} {nd : List Int} {V : List Value} {U : Int → List (Int × Int)} (h : P1 R nn W6 nb tb i nd V U wx) (hv : ix nd i = need0 (ixR R i)) : P1 R nn W6 nb tb (i + 1) nd V U wx :=
  ⟨h.lim, h.need, h.len, lt_succ_all h.val hv, h.uses, h.ne⟩
theorem P1.push {R : List GR} {nn nb tb i : Nat} {W6 wx w4 : World} {nd : List Int} {V : List Value} {U : Int → List (Int × Int)} (h : P1 R nn W6 nb tb i nd V U wx) (a : Nat) (ha : a ≤ nn) (u : Int × Int) {g cap : Nat} (hown : w4.ownsRow W6.heap.size 202 2 (.slice (some ⟨g, 0, none⟩) ((U a).length + 1) cap) ((U a).length + 1) ((U a).flatMap cells2 ++ cells2 u))
    (hg : wx.grownBy w4 (V.getD a nilS).ownBlock) (hl : (V.getD a nilS).ownBlock = some g ∨ g = wx.heap.size) :
    Blk w4 tb V 201 ∧ P1 R nn W6 nb tb i nd (V.set a (.slice (some ⟨g, 0, none⟩) ((U a).length + 1) cap)) (fun b => if b = (a : Int) then U b ++ [u] else U b) (w4.setCell ⟨tb, a, none⟩ (.slice (some ⟨g, 0, none⟩) ((U a).length + 1) cap)) := by
  obtain ⟨h1, h2⟩ := h.uses.push a ha u hown hg hl
  have hn := h.ne
  have hs := h.lim.size
  have hlow : ∀ j, j < W6.heap.size → w4.heap[j]? = wx.heap[j]? := fun j hj => hg.block j (by omega) (fun e => by have := (row_block (h.uses.row a ha) e.symm).1; omega)
  refine ⟨h1, (h.lim.trans ⟨hg.os, hg.tape, hg.output, hg.size, fun j hj _ => hlow j hj⟩).trans (.setCell _ (.inl (by simp))), (h.need.same (hlow _ hn.2)).setOther _ _ hn.1, h.len, h.val, h2, h.ne⟩
theorem P1.blk {R : List GR} {nn nb tb i b : Nat} {c : List Value} {T : TypeId} {W6 wx : World} {nd : List Int} {V : List Value} {U : Int → List (Int × Int)} (h : P1 R nn W6 nb tb i nd V U wx) (hb : Blk W6 b c T) (h1 : b ≠ nb) (h2 : b ≠ tb) : Blk wx b c T :=
  hb.same (h.lim.block b hb.lt (by simp [h1, h2]))
theorem P1.bel {R : List GR} {nn nb tb i : Nat} {w W6 wx : World} {nd : List Int} {V : List Value} {U : Int → List (Int × Int)} (h : P1 R nn W6 nb tb i nd V U wx) (hb : Below w.heap.size w W6) (h1 : w.heap.size ≤ nb) (h2 : w.heap.size ≤ tb) : Below w.heap.size w wx :=
  hb.trans ((h.lim.mono hb.size (fun i hi _ => hi)).below (fun i hi => by simp only [List.mem_cons, List.not_mem_nil, or_false] at hi; omega))
attribute [local go_sem] memUpon
theorem RSt.clear {w1 wx : World} {nb ob b9 : Nat} {nd od l : List Int} (h : RSt w1 nb ob b9 nd od l wx) (hne : nb ≠ b9 ∧ ob ≠ b9) : RSt (wx.setCell ⟨b9, 0, none⟩ (.slice none 0 0)) nb ob b9 nd od [] (wx.setCell ⟨b9, 0, none⟩ (.slice none 0 0)) := by
  obtain ⟨an, cn, h1, h2⟩ := h.now
  exact ⟨.refl _ _ _, h.need.setOther _ _ hne.1, h.out.setOther _ _ hne.2, none, 0, h1.set 0 _, QRow.nil _ _⟩
theorem RSt.back {w1 wx wy : World} {nb ob b9 : Nat} {nd od l nd' od' l' : List Int} {v : Value} (h : RSt w1 nb ob b9 nd od l wx) (k : RSt (wx.setCell ⟨b9, 0, none⟩ v) nb ob b9 nd' od' l' wy) : RSt w1 nb ob b9 nd' od' l' wy := by
  obtain ⟨an, cn, h1, h2⟩ := k.now
  have hs : (wx.setCell ⟨b9, 0, none⟩ v).heap.size = wx.heap.size := by simp [World.setCell]
  have hz := h.lim.size
  exact ⟨(h.lim.trans (.setCell _ (.inl (by simp)))).trans (k.lim.mono (by omega) (fun i hi _ => hi)), k.need, k.out, an, cn, h1, h2.mono (by omega)⟩
theorem RFx.clear {R : List GR} {n : Int} {w w1 wx : World} {nb ob b9 b6 b3 b8 : Nat} {ar : Option Addr} {cr : Nat} {nd od l : List Int} (hf : RFx R n w w1 nb ob b9 b6 b3 b8 ar cr) (h : RSt w1 nb ob b9 nd od l wx) (v : Value) : RFx R n w (wx.setCell ⟨b9, 0, none⟩ v) nb ob b9 b6 b3 b8 ar cr := by
  obtain ⟨h6, h8, h3, hb⟩ := hf.at h
  have := h.lim.size
  have h1 := hf.lt
  have h2 := hf.ne
  have h4 := hf.lo
  have hs : (wx.setCell ⟨b9, 0, none⟩ v).heap.size = wx.heap.size := by simp [World.setCell]
  exact ⟨h6.setOther _ _ (by omega), h8.setOther _ _ (by omega), h3.setOther _ _ (by omega), hf.rules, hb.setCell (show w.heap.size ≤ b9 by omega) _, hf.lo, by omega, hf.ne⟩
theorem Lv.turn {n : Int} {R : List GR} {C l od nd nd' : List Int} (h : Lv n R C l od nd) (hn : nd'.length = R.length) : Lv n R (C ++ l) [] od nd' :=
  ⟨by simpa using h.nodup, by simpa using h.range, h.olen, hn, by simpa using h.out, by simpa using h.der⟩
theorem UT.lim {nn B tb nb ob b9 : Nat} {V : List Value} {U : Int → List (Int × Int)} {w1 wx : World} (h : UT nn B tb V U w1) (hl : Lim w1.heap.size [nb, ob, b9] w1 wx) (hn : tb ≠ nb ∧ tb ≠ ob ∧ tb ≠ b9) (hB : nb < B ∧ ob < B ∧ b9 < B) : UT nn B tb V U wx :=
  h.kept hl.size fun i hi hi2 => hl.block i hi2 (by simp only [List.mem_cons, List.not_mem_nil, or_false]; omega)
theorem QRow.lo {base : Nat} {w : World} {b o n c : Nat} {l : List Int} (h : QRow base w (.slice (some ⟨b, o, none⟩) n c) l) : base ≤ b := by
  rcases h.2 with ⟨e, _⟩ | ⟨g, off, cap, cur, e, hb, _⟩
  · cases e
  · simp only [Value.slice.injEq, Option.some.injEq, Addr.mk.injEq] at e
    omega
theorem Lv.at {n : Int} {R : List GR} {C l od nd : List Int} (h : Lv n R C l od nd) {j : Nat} (hj : j < l.length) : 1 ≤ ix l j ∧ ix l j ≤ n :=
  h.range _ (List.mem_append_right _ (ix_mem hj))
theorem DefR.part {n : Int} {R : List GR} (h : DefR n R) {D : List Int} {a : Int} (ha : a ∉ D) {i : Nat} (hi : i < R.length) (q : Nat) :
    -1048576 ≤ need0 (ixR R i) - lhs D (ixR R i) - sumAt i ((usesU R R.length a).take q) ∧ need0 (ixR R i) - lhs D (ixR R i) - sumAt i ((usesU R R.length a).take q) ≤ 1048576 := by
  have hpos : ∀ u ∈ usesU R R.length a, 0 ≤ u.2 := fun u hu => by
    obtain ⟨i', k, h1, h2, h3, rfl⟩ := (usesU_mem _).1 hu
    have := (h.w1 h1 h2).1
    simp only
    omega
  have h1 := sumAt_take_le i (usesU R R.length a) hpos q
  have h2 := h.need hi D (Nat.le_refl _)
  have h3 := h.need hi (D ++ [a]) (Nat.le_refl _)
  rw [lhsTo_push ha] at h3
  have h4 := usesU_sum R i a R.length
  rw [if_pos hi] at h4
  unfold lhs
  omega
end Go.Proofs.YtgakoainjgjimaaGreatDoor
namespace Go.Proofs.YtgakoainjgjimaaGreatDoor
open Go.RowKit
theorem sorted_eq : ∀ {L M : List Int}, L.Pairwise (· < ·) → M.Pairwise (· < ·) → (∀ x, x ∈ L ↔ x ∈ M) → L = M
  | [], [], _, _, _ => rfl
  | [], y :: M, _, _, h => absurd ((h y).2 (by simp)) (by simp)
  | x :: L, [], _, _, h => absurd ((h x).1 (by simp)) (by simp)
  | x :: L, y :: M, hL, hM, h => by
    have hL' := List.pairwise_cons.1 hL
    have hM' := List.pairwise_cons.1 hM
    have hxy : x = y := by
      have h1 := (h x).1 (by simp)
      have h2 := (h y).2 (by simp)
      simp only [List.mem_cons] at h1 h2
      rcases h1 with h1 | h1
      · exact h1
      · rcases h2 with h2 | h2
        · exact h2.symm
        · have := hM'.1 x h1; have := hL'.1 y h2; omega
    subst hxy
    refine congrArg (x :: ·) (sorted_eq hL'.2 hM'.2 fun z => ?_)
    have hz := h z
    simp only [List.mem_cons] at hz
    constructor
    · intro hm
      have := hL'.1 z hm
      rcases hz.1 (.inr hm) with rfl | h1
      · omega
      · exact h1
    · intro hm
      have := hM'.1 z hm
      rcases hz.2 (.inr hm) with rfl | h1
      · omega
      · exact h1
structure SP where
  H : Nat
  T : Nat
  b : Nat
  bh : Nat
  bu : Nat
  bf : Nat
  bk : Nat
  vn : Value
  vr : Value
  gh : Int → Option Value
  gu : Int → Option Value
  Rh : Int → List Int
  Ru : Int → List Int
  qh : Nat → Value
  qb : Nat → Value
  qw : Nat → Value
structure FixC (s : SP) (p : GP) (w : World) : Prop where
  names : Strs w s.vn p.names
  rulesA : RulesAt w s.vr p.rules s.qh s.qb s.qw
  heads : MapIs (Value.int .i64) w s.bh s.gh
  uses : MapIs (Value.int .i64) w s.bu s.gu
  headRow : ∀ x, Ints w ((s.gh x).getD nilS) (s.Rh x)
  useRow : ∀ x, Ints w ((s.gu x).getD nilS) (s.Ru x)
theorem FixC.rules {s : SP} {p : GP} {w : World} (h : FixC s p w) : RulesIs w s.vr p.rules := ⟨_, _, _, h.rulesA⟩
theorem FixC.cells {s : SP} {p : GP} {w : World} (h : FixC s p w) : ∃ a cap, s.vr = .slice a p.rules.length cap ∧ (0 < p.rules.length → ∃ b off, a = some ⟨b, off, none⟩ ∧ b < w.heap.size ∧ ∀ i, i < p.rules.length → RuleCells w b (off + i * 6) (ixR p.rules i) (s.qh i) (s.qb i) (s.qw i)) := by
  obtain ⟨a, cap, e, h1, hm, h2, h3⟩ := h.rulesA.1
  refine ⟨a, cap, e, fun hp => ?_⟩
  obtain ⟨b, off, e, hl, hc⟩ := h3 hp
  exact ⟨b, off, e, hl, fun i hi => ⟨hc i hi 0 (by omega), hc i hi 1 (by omega), hc i hi 2 (by omega), hc i hi 3 (by omega), hc i hi 4 (by omega), hc i hi 5 (by omega)⟩⟩
end Go.Proofs.YtgakoainjgjimaaGreatDoor
namespace Go.Proofs.YtgakoainjgjimaaGreatDoor
open Go.RowKit Go.MapKept
section
variable {κ : Type} {kv : κ → Value} {d : TypeDesc} {P : Program} {w : World} {b : Nat} {g : κ → Option Value} {t kt et : TypeId}
def MapE (kv : κ → Value) (w : World) (b : Nat) (g : κ → Option Value) (k : κ) (c : Nat) : Prop :=
  ∃ es clock, w.heap[b]? = some (.map es clock) ∧ Stamped es clock ∧ (∀ x ∈ es.toList, ∃ k, x.key = kv k) ∧ (∀ k' v, k' ≠ k → (g k' = some v ↔ ∃ x ∈ es.toList, x.key = kv k' ∧ x.val = v)) ∧
    ∃ (j : Nat) (e : MapEntry), es[j]? = some e ∧ e.key = kv k ∧ e.born = c
theorem MapIs.entry [DecidableEq κ] (h : MapIs kv w b g) (V : KV kv d) (ht : P.underlying t = some (.map kt et)) (hd : P.underlying kt = some d) {z : Value} (hz : (zeroValue et).run P w = .ok z w) (k : κ) :
    ∃ (w' : World) (v0 : Value) (c : Nat), (Instr.mapEntry t (.map (some b)) (kv k)).run P w = .ok (.tuple #[v0, goInt (c : Int)]) w' ∧ MapE kv w' b g k c ∧ w.grownBy w' (some b) ∧ w'.heap.size = w.heap.size := by
  obtain ⟨es, clock, hb, hs, hks, hg⟩ := h
  have hks' : ∀ x ∈ es.toList, IsKey d x.key := fun x hx => let ⟨k, e⟩ := hks x hx; e ▸ V.key k
  rcases findNow_spec (V.key k) es.toList 0 hks' with ⟨h1, h2⟩ | ⟨j, e, h1, h2, h3⟩
  · refine ⟨{ w with heap := w.heap.setIfInBounds b (.map (es.push { key := kv k, val := z, born := clock }) (clock + 1)) }, z, clock, ?_, ⟨_, _, (heap_set hb).1, stamped_push hs h2, ?_, ?_, es.size, { key := kv k, val := z, born := clock }, by simp, rfl, rfl⟩, grownBy_set b _ hb, by simp⟩
    · simp [Instr.mapEntry, run_underlying ht, Go.MapKept.run_getObj_map hb, run_checkKey hd (V.key k), run_findKey hd h1, hz, Go.MapKept.run_setObj_map _ hb, Result.andThen]
    · intro x hx
      simp only [Array.toList_push, List.mem_append, List.mem_singleton] at hx
      rcases hx with hx | rfl
      · exact hks x hx
      · exact ⟨k, rfl⟩
    · intro k' v' hk
      simp only [Array.toList_push, List.mem_append, List.mem_singleton]
      rw [hg]
      constructor
      · rintro ⟨x, hx, h4⟩; exact ⟨x, .inl hx, h4⟩
      · rintro ⟨x, hx | rfl, h4, h5⟩
        · exact ⟨x, hx, h4, h5⟩
        · exact absurd (V.inj _ _ h4).symm hk
  · have hj : es[j]? = some e := by simpa using h2
    have hjl : j < es.size := (Array.getElem?_eq_some_iff.1 hj).1
    have hej : es[j] = e := by rw [Array.getElem?_eq_getElem hjl] at hj; exact Option.some.inj hj
    have hkey : ∀ e', es[j]? = some e' → ({ e' with key := kv k } : MapEntry).key = e'.key := fun e' he' => by rw [hj] at he'; cases he'; exact h3.symm
    have hsame : es.modify j (fun e => { e with key := kv k }) = es := by
      apply Array.ext (by simp)
      intro i h4 h5
      rw [Array.getElem_modify]
      split
      · rename_i hji; subst hji; rw [hej, ← h3]
      · rfl
    refine ⟨{ w with heap := w.heap.setIfInBounds b (.map es clock) }, e.val, e.born, ?_, ⟨_, _, (heap_set hb).1, hs, hks, fun k' v' _ => hg k' v', j, e, hj, h3, rfl⟩, grownBy_set b _ hb, by simp⟩
    simp [Instr.mapEntry, run_underlying ht, Go.MapKept.run_getObj_map hb, run_checkKey hd (V.key k), run_findKey hd h1, hj, h3, run_keyThatStays (V.key k), Go.MapKept.run_setObj_map _ hb, Result.andThen, hsame]
theorem MapE.store [DecidableEq κ] {k : κ} {c : Nat} (h : MapE kv w b g k c) (V : KV kv d) (v : Value) :
    ∃ w', (Instr.entryStore t (.map (some b)) (goInt (c : Int)) v).run P w = .ok () w' ∧ MapIs kv w' b (upd g k (some v)) ∧ w.grownBy w' (some b) ∧ w'.heap.size = w.heap.size := by
  obtain ⟨es, clock, hb, hs, hks, hg, j, e, hj, h3, h4⟩ := h
  have hjl : j < es.size := (Array.getElem?_eq_some_iff.1 hj).1
  have hej : es[j] = e := by rw [Array.getElem?_eq_getElem hjl] at hj; exact Option.some.inj hj
  have hborn : ∀ (p q : Nat) (hp : p < es.size) (hq : q < es.size), p < q → es[p].born ≠ es[q].born := fun p q hp hq hpq => by
    have := List.pairwise_iff_getElem.1 hs.2.1 p q (by simpa using hp) (by simpa using hq) hpq
    simpa using this
  have hkeys : ∀ (p q : Nat) (hp : p < es.size) (hq : q < es.size), p < q → es[p].key ≠ es[q].key := fun p q hp hq hpq => by
    have := List.pairwise_iff_getElem.1 hs.2.2 p q (by simpa using hp) (by simpa using hq) hpq
    simpa using this
  have hf : es.findIdx? (fun e => (e.born : Int) == (c : Int)) = some j := by
    rw [Array.findIdx?_eq_some_iff_getElem]
    refine ⟨hjl, by rw [hej, h4]; simp, fun i hi => ?_⟩
    have := hborn i j (by omega) hjl hi
    rw [hej, h4] at this
    simp; omega
  have huniq : ∀ i (hi : i < es.size), es[i].key = kv k → i = j := fun i hi he => by
    rcases Nat.lt_trichotomy i j with h5 | h5 | h5
    · exact absurd (he.trans (h3.symm.trans (by rw [hej]))) (hkeys i j hi hjl h5)
    · exact h5
    · exact absurd ((show es[j].key = kv k by rw [hej, h3]).trans he.symm) (hkeys j i hjl hi h5)
  refine ⟨{ w with heap := w.heap.setIfInBounds b (.map (es.modify j fun e => { e with val := v }) clock) }, ?_, ⟨_, _, (heap_set hb).1, stamped_modify hs _ _ (fun _ _ => rfl) (fun _ _ _ => rfl), ?_, ?_⟩, grownBy_set b _ hb, by simp⟩
  · simp [Instr.entryStore, Go.MapKept.run_getObj_map hb, goInt, asInt, asIntOf, hf, Go.MapKept.run_setObj_map _ hb, Result.andThen]
  · intro x hx
    obtain ⟨i, hi, rfl⟩ := List.mem_iff_getElem.1 hx
    simp only [Array.length_toList, Array.size_modify] at hi
    simp only [Array.getElem_toList, Array.getElem_modify]
    split
    · exact hks es[i] (by simp)
    · exact hks _ (by simp)
  · intro k' v'
    simp only [upd]
    by_cases hk : k' = k
    · subst hk
      rw [if_pos rfl]
      constructor
      · intro e'; cases e'
        refine ⟨(es.modify j fun e => { e with val := v })[j]'(by simpa using hjl), Array.getElem_mem_toList _, ?_, ?_⟩ <;> rw [Array.getElem_modify, if_pos rfl]
        rw [hej, h3]
      · rintro ⟨x, hx, h5, h6⟩
        obtain ⟨i, hi, rfl⟩ := List.mem_iff_getElem.1 hx
        simp only [Array.length_toList, Array.size_modify] at hi
        simp only [Array.getElem_toList, Array.getElem_modify] at h5 h6
        by_cases hij : j = i
        · rw [if_pos hij] at h6; rw [← h6]
        · rw [if_neg hij] at h5
          exact absurd (huniq i hi h5).symm hij
    · rw [if_neg hk, hg k' v' hk]
      constructor
      · rintro ⟨x, hx, h5, h6⟩
        obtain ⟨i, hi, rfl⟩ := List.mem_iff_getElem.1 hx
        simp only [Array.length_toList] at hi
        simp only [Array.getElem_toList] at h5 h6
        have hij : j ≠ i := fun e' => by subst e'; rw [hej, h3] at h5; exact hk (V.inj _ _ h5).symm
        refine ⟨(es.modify j fun e => { e with val := v })[i]'(by simpa using hi), Array.getElem_mem_toList _, ?_, ?_⟩ <;> simp only [Array.getElem_modify, if_neg hij] <;> assumption
      · rintro ⟨x, hx, h5, h6⟩
        obtain ⟨i, hi, rfl⟩ := List.mem_iff_getElem.1 hx
        simp only [Array.length_toList, Array.size_modify] at hi
        simp only [Array.getElem_toList, Array.getElem_modify] at h5 h6
        by_cases hij : j = i
        · rw [if_pos hij] at h5
          subst hij
          rw [hej, h3] at h5
          exact absurd (V.inj _ _ h5).symm hk
        · rw [if_neg hij] at h5 h6
          exact ⟨es[i], by simp, h5, h6⟩
end
end Go.Proofs.YtgakoainjgjimaaGreatDoor
namespace Go.Proofs.YtgakoainjgjimaaGreatDoor
open Go.RowKit
section
variable {base c1 q : Nat} {s : SP} {p : GP} {F K : Int → Int} {clock : Int} {a l : List Int} {w : World}
structure KeepS (s : SP) (W : World) where
  world : World
  size : W.heap.size ≤ world.heap.size
  block : ∀ i, i < W.heap.size → i ≠ s.bf → i ≠ s.bk → world.heap[i]? = W.heap[i]?
instance instKeepS (s : SP) (W : World) : Nonempty (KeepS s W) := ⟨⟨W, Nat.le_refl _, fun _ _ _ _ => rfl⟩⟩
theorem KeepS.cell {W : World} (e : KeepS s W) (b o : Nat) (hb : b < W.heap.size) (h1 : b ≠ s.bf) (h2 : b ≠ s.bk) : e.world.cell? ⟨b, o, none⟩ = W.cell? ⟨b, o, none⟩ := World.cell?_of_block (e.block b hb h1 h2)
end
def InHead (p : GP) (i x : Int) : Prop := 0 ≤ i ∧ i < p.rules.length ∧ x ∈ (ixR p.rules i.toNat).head
def InBody (p : GP) (i x : Int) : Prop := 0 ≤ i ∧ i < p.rules.length ∧ x ∈ (ixR p.rules i.toNat).body
def avB (p : GP) (a : List Int) (F K : Int → Int) (i before : Int) : Bool := availB p a F K i.toNat before
def SInv (p : GP) (F K : Int → Int) (clock : Int) : Prop :=
  ∀ x, F x = 0 ∨ (0 < F x ∧ 1 ≤ x ∧ x ≤ p.n ∧ InHead p (F x - 1) x ∧ 1 ≤ K x ∧ K x ≤ clock)
theorem cntF_le (F : Int → Int) : ∀ n, cntF F n ≤ n
  | 0 => Nat.le_refl _
  | n + 1 => by have := cntF_le F n; unfold cntF; split <;> omega
theorem setI_eq (F : Int → Int) (x v : Int) : setI F x v x = v := by simp [setI]
theorem setI_ne (F : Int → Int) {x y : Int} (v : Int) (h : y ≠ x) : setI F x v y = F y := by simp [setI, h]
theorem cntF_set_out (F : Int → Int) (x v : Int) : ∀ n : Nat, (n : Int) < x → cntF (setI F x v) n = cntF F n
  | 0, _ => rfl
  | n + 1, h => by
    unfold cntF
    rw [cntF_set_out F x v n (by omega), setI_ne F v (by omega)]
theorem cntF_up (F : Int → Int) (x v : Int) (h0 : ¬ 0 < F x) (hv : 0 < v) : ∀ n : Nat, 1 ≤ x → x ≤ n → cntF (setI F x v) n = cntF F n + 1
  | 0, h1, h2 => by omega
  | n + 1, h1, h2 => by
    unfold cntF
    by_cases e : x = (n : Int) + 1
    · subst e
      rw [cntF_set_out F _ v n (by omega), setI_eq, if_pos hv, if_neg h0]
    · rw [cntF_up F x v h0 hv n h1 (by omega), setI_ne F v (fun e' => e e'.symm)]
      omega
theorem cntF_down (F : Int → Int) (x : Int) (h0 : 0 < F x) : ∀ n : Nat, 1 ≤ x → x ≤ n → cntF (setI F x 0) n + 1 = cntF F n
  | 0, h1, h2 => by omega
  | n + 1, h1, h2 => by
    unfold cntF
    by_cases e : x = (n : Int) + 1
    · subst e
      rw [cntF_set_out F _ 0 n (by omega), setI_eq, if_neg (by omega), if_pos h0]
    · have := cntF_down F x h0 n h1 (by omega)
      rw [setI_ne F 0 (fun e' => e e'.symm)]
      omega
section avail
variable {p : GP} {a : List Int} {F K F' K' : Int → Int}
theorem avSum_congr {r : GR} {b b' : Int} (h : ∀ l ∈ r.body, holdsB a F K b l = holdsB a F' K' b' l) : ∀ k, k ≤ r.body.length → avSum r a F K b k = avSum r a F' K' b' k
  | 0, _ => rfl
  | k + 1, hk => by
    unfold avSum
    rw [avSum_congr h k (by omega), h (ix r.body k) (by
      have e : ix r.body k = r.body[k] := by simp [ix, List.getD_eq_getElem?_getD, List.getElem?_eq_getElem (show k < r.body.length by omega)]
      rw [e]; exact List.getElem_mem (by omega))]
theorem avB_congr {i b b' : Int} (h : ∀ l ∈ (ixR p.rules i.toNat).body, holdsB a F K b l = holdsB a F' K' b' l) : avB p a F K i b = avB p a F' K' i b' := by
  unfold avB availB
  rw [avSum_congr h _ (Nat.le_refl _)]
  congr 2
  have e : ∀ k, k < (ixR p.rules i.toNat).body.length → holdsB a F K b (ix (ixR p.rules i.toNat).body k) = holdsB a F' K' b' (ix (ixR p.rules i.toNat).body k) := fun k hk => h _ (by
    have e : ix (ixR p.rules i.toNat).body k = (ixR p.rules i.toNat).body[k] := by simp [ix, List.getD_eq_getElem?_getD, List.getElem?_eq_getElem hk]
    rw [e]; exact List.getElem_mem hk)
  unfold allR
  rw [Bool.eq_iff_iff]
  simp only [List.all_eq_true, List.mem_range]
  constructor
  · intro h1 k hk; rw [← e k hk]; exact h1 k hk
  · intro h1 k hk; rw [e k hk]; exact h1 k hk
theorem avB_away {i b x u v : Int} (h : x ∉ (ixR p.rules i.toNat).body) : avB p a (setI F x u) (setI K x v) i b = avB p a F K i b :=
  avB_congr fun l hl => by
    have : l ≠ x := fun e => h (e ▸ hl)
    unfold holdsB
    rw [setI_ne F u this, setI_ne K v this]
theorem avB_new {i b x u c : Int} (h0 : ¬ 0 < F x) (hb : b ≤ c) : avB p a (setI F x u) (setI K x c) i b = avB p a F K i b :=
  avB_congr fun l hl => by
    unfold holdsB
    by_cases e : l = x
    · subst e
      rw [setI_eq, setI_eq]
      have h1 : decide (c < b) = false := decide_eq_false (by omega)
      have h2 : decide (0 < F l) = false := decide_eq_false h0
      rw [h1, h2]; simp
    · rw [setI_ne F u e, setI_ne K c e]
theorem avB_time {i b b' clock : Int} (h : SInv p F K clock) (hb : clock < b) (hb' : clock < b') : avB p a F K i b = avB p a F K i b' :=
  avB_congr fun l hl => by
    unfold holdsB
    rcases h l with h1 | h1
    · rw [h1]; simp
    · have h2 : decide (K l < b) = true := decide_eq_true (by omega)
      have h3 : decide (K l < b') = true := decide_eq_true (by omega)
      rw [h2, h3]
end avail
structure LI (p : GP) (a : List Int) (F K : Int → Int) (clock : Int) (l : List Int) (X : Int) (R : Int → Int → Prop) : Prop where
  inv : SInv p F K clock
  off : ∀ z, 0 < F z → z < X → offB a z = false
  ok : ∀ z, 0 < F z → avB p a F K (F z - 1) (K z) = true ∨ (∃ y ∈ l, InBody p (F z - 1) y) ∨ R z (F z - 1)
  q : ∀ y ∈ l, 1 ≤ y ∧ y ≤ p.n
  cnt : (cntF F p.n.toNat + l.length : Int) ≤ p.n
section lose
variable {p : GP} {a l : List Int} {F K : Int → Int} {clock X X' : Int} {R R' : Int → Int → Prop}
theorem LI.start (h : SInv p F K clock) (hn : 0 ≤ p.n) : LI p a F K clock [] 1 (fun z _ => 1 ≤ z) := by
  refine ⟨h, fun z hz hx => ?_, fun z hz => .inr (.inr ?_), fun y hy => by simp at hy, ?_⟩
  · rcases h z with h1 | h1 <;> omega
  · rcases h z with h1 | h1 <;> omega
  · have := cntF_le F p.n.toNat; simp; omega
theorem LI.drop (h : LI p a F K clock l X R) (x : Int) (hx : 0 < F x) (hX : ∀ z, z < X' → z ≠ x → z < X) (hR : ∀ z i, z ≠ x → R z i → R' z i) : LI p a (setI F x 0) (setI K x 0) clock (l ++ [x]) X' R' := by
  have hi := h.inv x
  refine ⟨fun z => ?_, fun z hz hzx => ?_, fun z hz => ?_, fun y hy => ?_, ?_⟩
  · by_cases e : z = x
    · subst e; left; rw [setI_eq]
    · rw [setI_ne F 0 e, setI_ne K 0 e]; exact h.inv z
  · have e : z ≠ x := fun e => by subst e; rw [setI_eq] at hz; omega
    rw [setI_ne F 0 e] at hz
    exact h.off z hz (hX z hzx e)
  · have e : z ≠ x := fun e => by subst e; rw [setI_eq] at hz; omega
    rw [setI_ne F 0 e] at hz ⊢
    rw [setI_ne K 0 e]
    by_cases hb : x ∈ (ixR p.rules (F z - 1).toNat).body
    · right; left
      refine ⟨x, by simp, ?_⟩
      rcases h.inv z with h1 | h1
      · omega
      · have := h1.2.2.2.1; exact ⟨this.1, this.2.1, hb⟩
    · rw [avB_away hb]
      rcases h.ok z hz with h1 | ⟨y, h1, h2⟩ | h1
      · exact .inl h1
      · exact .inr (.inl ⟨y, by simp [h1], h2⟩)
      · exact .inr (.inr (hR z _ e h1))
  · simp only [List.mem_append, List.mem_singleton] at hy
    rcases hy with hy | rfl
    · exact h.q y hy
    · omega
  · have h2 := h.cnt
    have h3 := cntF_down F x hx p.n.toNat (by omega) (by omega)
    simp only [List.length_append, List.length_singleton]
    push_cast
    omega
theorem LI.keep (h : LI p a F K clock l X R) (hX : ∀ z, 0 < F z → z < X' → z < X ∨ offB a z = false) (hR : ∀ z, 0 < F z → R z (F z - 1) → avB p a F K (F z - 1) (K z) = true ∨ R' z (F z - 1)) : LI p a F K clock l X' R' := by
  refine ⟨h.inv, fun z hz hzx => ?_, fun z hz => ?_, h.q, h.cnt⟩
  · rcases hX z hz hzx with h1 | h1
    · exact h.off z hz h1
    · exact h1
  · rcases h.ok z hz with h1 | h1 | h1
    · exact .inl h1
    · exact .inr (.inl h1)
    · rcases hR z hz h1 with h2 | h2
      · exact .inl h2
      · exact .inr (.inr h2)
end lose
structure Lost (p : GP) (a : List Int) (F K : Int → Int) (clock : Int) : Prop where
  inv : SInv p F K clock
  off : ∀ z, 0 < F z → offB a z = false
  ok : ∀ z, 0 < F z → avB p a F K (F z - 1) (K z) = true
theorem LI.done {p : GP} {a : List Int} {F K : Int → Int} {clock X : Int} {R : Int → Int → Prop} (h : LI p a F K clock [] X R) (hX : p.n < X) (hR : ∀ z i, ¬ R z i) : Lost p a F K clock := by
  refine ⟨h.inv, fun z hz => h.off z hz ?_, fun z hz => ?_⟩
  · rcases h.inv z with h1 | h1 <;> omega
  · rcases h.ok z hz with h1 | ⟨y, h1, h2⟩ | h1
    · exact h1
    · simp at h1
    · exact absurd h1 (hR _ _)
structure GI (p : GP) (a : List Int) (F K : Int → Int) (clock C0 : Int) (l : List Int) (R : Int → Int → Prop) : Prop where
  lost : Lost p a F K clock
  cmp : ∀ z i, 1 ≤ z → z ≤ p.n → ¬ 0 < F z → offB a z = false → InHead p i z → avB p a F K i (clock + 1) = false ∨ (∃ y ∈ l, InBody p i y) ∨ R z i
  q : ∀ y ∈ l, 1 ≤ y ∧ y ≤ p.n
  cnt : l.length ≤ cntF F p.n.toNat
  clk : clock ≤ C0 + cntF F p.n.toNat
section gain
variable {p : GP} {a l : List Int} {F K : Int → Int} {clock C0 : Int} {R R' : Int → Int → Prop}
theorem GI.start (h : Lost p a F K clock) : GI p a F K clock clock [] (fun z _ => 1 ≤ z) :=
  ⟨h, fun z i h1 h2 h3 h4 h5 => .inr (.inr h1), fun y hy => by simp at hy, by simp, by omega⟩
theorem GI.push (h : GI p a F K clock C0 l R) (hc : 0 ≤ clock) (x i : Int) (h0 : ¬ 0 < F x) (hx : 1 ≤ x ∧ x ≤ p.n) (ho : offB a x = false) (hi : InHead p i x) (hav : avB p a F K i (clock + 1) = true) (hR : ∀ z j, z ≠ x → R z j → R' z j) :
    GI p a (setI F x (i + 1)) (setI K x (clock + 1)) (clock + 1) C0 (l ++ [x]) R' := by
  have hinv : SInv p (setI F x (i + 1)) (setI K x (clock + 1)) (clock + 1) := fun z => by
    by_cases e : z = x
    · subst e
      rw [setI_eq, setI_eq]
      have := hi.1
      exact .inr ⟨by omega, hx.1, hx.2, by rwa [show i + 1 - 1 = i by omega], by omega, by omega⟩
    · rw [setI_ne F _ e, setI_ne K _ e]
      rcases h.lost.inv z with h1 | h1
      · exact .inl h1
      · exact .inr ⟨h1.1, h1.2.1, h1.2.2.1, h1.2.2.2.1, h1.2.2.2.2.1, by omega⟩
  have hup := cntF_up F x (i + 1) h0 (by have := hi.1; omega) p.n.toNat hx.1 (by omega)
  refine ⟨⟨hinv, fun z hz => ?_, fun z hz => ?_⟩, fun z j h1 h2 h3 h4 h5 => ?_, fun y hy => ?_, ?_, ?_⟩
  · by_cases e : z = x
    · subst e; exact ho
    · rw [setI_ne F _ e] at hz; exact h.lost.off z hz
  · by_cases e : z = x
    · subst e
      rw [setI_eq, setI_eq, avB_new h0 (by omega), show i + 1 - 1 = i by omega]
      exact hav
    · rw [setI_ne F _ e] at hz ⊢
      rw [setI_ne K _ e]
      rcases h.lost.inv z with h1 | h1
      · omega
      · rw [avB_new h0 (by omega)]
        exact h.lost.ok z hz
  · have e : z ≠ x := fun e => by subst e; rw [setI_eq] at h3; have := hi.1; omega
    rw [setI_ne F _ e] at h3
    by_cases hb : x ∈ (ixR p.rules j.toNat).body
    · exact .inr (.inl ⟨x, by simp, h5.1, h5.2.1, hb⟩)
    · rw [avB_away hb, avB_time (b' := clock + 1) h.lost.inv (by omega) (by omega)]
      rcases h.cmp z j h1 h2 h3 h4 h5 with h6 | ⟨y, h6, h7⟩ | h6
      · exact .inl h6
      · exact .inr (.inl ⟨y, by simp [h6], h7⟩)
      · exact .inr (.inr (hR z j e h6))
  · simp only [List.mem_append, List.mem_singleton] at hy
    rcases hy with hy | rfl
    · exact h.q y hy
    · exact hx
  · have := h.cnt
    simp only [List.length_append, List.length_singleton]
    omega
  · have := h.clk
    rw [hup]; push_cast; omega
theorem GI.keep (h : GI p a F K clock C0 l R) (hR : ∀ z i, 1 ≤ z → z ≤ p.n → ¬ 0 < F z → offB a z = false → InHead p i z → R z i → avB p a F K i (clock + 1) = false ∨ R' z i) : GI p a F K clock C0 l R' := by
  refine ⟨h.lost, fun z i h1 h2 h3 h4 h5 => ?_, h.q, h.cnt, h.clk⟩
  rcases h.cmp z i h1 h2 h3 h4 h5 with h6 | h6 | h6
  · exact .inl h6
  · exact .inr (.inl h6)
  · rcases hR z i h1 h2 h3 h4 h5 h6 with h7 | h7
    · exact .inl h7
    · exact .inr (.inr h7)
end gain
structure Found (p : GP) (a : List Int) (F K : Int → Int) (clock : Int) : Prop where
  lost : Lost p a F K clock
  cmp : ∀ z i, 1 ≤ z → z ≤ p.n → ¬ 0 < F z → offB a z = false → InHead p i z → avB p a F K i (clock + 1) = false
theorem GI.done {p : GP} {a : List Int} {F K : Int → Int} {clock C0 : Int} {R : Int → Int → Prop} (h : GI p a F K clock C0 [] R) (hR : ∀ z i, ¬ R z i) : Found p a F K clock ∧ clock ≤ C0 + cntF F p.n.toNat := by
  refine ⟨⟨h.lost, fun z i h1 h2 h3 h4 h5 => ?_⟩, h.clk⟩
  rcases h.cmp z i h1 h2 h3 h4 h5 with h6 | ⟨y, h6, h7⟩ | h6
  · exact h6
  · simp at h6
  · exact absurd h6 (hR _ _)
def R3 (row : List Int) (k : Nat) (_ i : Int) : Prop := ∃ j, k ≤ j ∧ j < row.length ∧ i = ix row j
def R4 (row head : List Int) (k m : Nat) (z i : Int) : Prop := (i = ix row k ∧ ∃ j, m ≤ j ∧ j < head.length ∧ z = ix head j) ∨ ∃ j, k < j ∧ j < row.length ∧ i = ix row j
theorem ix_of_mem {l : List Int} {x : Int} (h : x ∈ l) : ∃ j, j < l.length ∧ x = ix l j := by
  obtain ⟨j, hj, e⟩ := List.mem_iff_getElem.1 h
  exact ⟨j, hj, by simp [ix, List.getD_eq_getElem?_getD, List.getElem?_eq_getElem hj, e]⟩
theorem R4.start {row head : List Int} {k : Nat} {z i : Int} (h : R3 row k z i) (hz : i = ix row k → z ∈ head) : R4 row head k 0 z i := by
  obtain ⟨j, h1, h2, h3⟩ := h
  rcases Nat.eq_or_lt_of_le h1 with rfl | h4
  · obtain ⟨m, h5, h6⟩ := ix_of_mem (hz h3)
    exact .inl ⟨h3, m, Nat.zero_le _, h5, h6⟩
  · exact .inr ⟨j, h4, h2, h3⟩
theorem R4.next {row head : List Int} {k m : Nat} {z i : Int} (h : R4 row head k m z i) : (z = ix head m ∧ i = ix row k) ∨ R4 row head k (m + 1) z i := by
  rcases h with ⟨h1, j, h2, h3, h4⟩ | h1
  · rcases Nat.eq_or_lt_of_le h2 with rfl | h5
    · exact .inl ⟨h4, h1⟩
    · exact .inr (.inl ⟨h1, j, h5, h3, h4⟩)
  · exact .inr (.inr h1)
theorem R4.done {row head : List Int} {k : Nat} {z i : Int} (h : R4 row head k head.length z i) : R3 row (k + 1) z i := by
  rcases h with ⟨h1, j, h2, h3, h4⟩ | ⟨j, h1, h2, h3⟩
  · omega
  · exact ⟨j, h1, h2, h3⟩
theorem R3.done {row : List Int} {z i : Int} : ¬ R3 row row.length z i := by
  rintro ⟨j, h1, h2, h3⟩; omega
theorem R3.start {p : GP} {R : Int → List Int} (h : RowsAt (fun x => decide (0 < x)) (fun i => (ixR p.rules i).body) p.rules.length 0 R) {y z i : Int} (hy : 1 ≤ y) (hb : InBody p i y) : R3 (R y) 0 z i := by
  have hm : i ∈ R y := ((h y).2 i).2 ⟨decide_eq_true (by omega), .inl hb⟩
  obtain ⟨j, h1, h2⟩ := ix_of_mem hm
  exact ⟨j, Nat.zero_le _, h1, h2⟩
section
variable {m : Nat} {s : SP} {p : GP} {F K : Int → Int} {clock : Int} {a : List Int} {w : World}
theorem GI.small {l : List Int} {C0 : Int} {R : Int → Int → Prop} (h : GI p a F K clock C0 l R) (hn : 0 ≤ p.n ∧ p.n ≤ 4000) (hC : C0 ≤ 2305843009213693952) : (l.length + 1) * 8 ≤ 140737488351232 ∧ clock < 4611686018427387904 ∧ l.length ≤ 4000 := by
  have h1 := cntF_le F p.n.toNat
  have h2 := h.cnt
  have h3 := h.clk
  omega
end
section
variable {κ : Nat → Tg} {t : Tg} {w w' : World} {H : Nat}
theorem RulesOwn.rulesA {v : Value} {L : List RQ} (h : RulesOwn κ H v L w) (l : List GR) (hl : L.map (·.1) = l) : RulesAt w v l (fun i => (L.getD i default).2.1) (fun i => (L.getD i default).2.2.1) (fun i => (L.getD i default).2.2.2) := by
  have hlen : l.length = L.length := by rw [← hl]; simp
  have hq : ∀ i, i < l.length → L.getD i default ∈ L ∧ (L.getD i default).1 = ixR l i := fun i hi => by
    have hi' : i < L.length := by omega
    have e : L.getD i default = L[i] := by simp [List.getD_eq_getElem?_getD, List.getElem?_eq_getElem hi']
    rw [e]
    refine ⟨List.getElem_mem hi', ?_⟩
    subst hl
    simp [ixR, List.getD_eq_getElem?_getD, List.getElem?_eq_getElem hi']
  refine ⟨?_, fun i hi => ?_⟩
  · rw [hlen]
    rcases h.row.2 with ⟨rfl, h0⟩ | ⟨g, cap, cur, rfl, hb, hg, hn, hm, hs, hx⟩
    · exact ⟨none, 0, by rw [h0], by omega, by unfold maxLen; omega, by omega, fun hp => by omega⟩
    · refine ⟨_, cap, rfl, hn, hm, h.fit, fun _ => ⟨g, 0, rfl, (Array.getElem?_eq_some_iff.1 hg).1, fun i hi j hj => ?_⟩⟩
      have h6 := flat6 L i j hi hj
      rw [← hx, List.getElem?_take_of_lt (by omega)] at h6
      rw [cell_of_row w g (0 + i * 6 + j) cur _ (0, 0) hg, Nat.zero_add]
      have e2 := (hq i (by omega)).2
      dsimp only
      rw [← e2]
      have : cur[i * 6 + j]? = cur.toList[i * 6 + j]? := by simp
      rw [this, h6]
      rcases (show j = 0 ∨ j = 1 ∨ j = 2 ∨ j = 3 ∨ j = 4 ∨ j = 5 by omega) with rfl | rfl | rfl | rfl | rfl | rfl <;> rfl
  · obtain ⟨hm, e⟩ := hq i hi
    have := h.each _ hm
    rw [← e]
    exact ⟨this.head.ints, this.body.ints, this.wts.ints, this.bound⟩
end
section mono
variable {p : GP} {a : List Int} {F K F' K' : Int → Int}
theorem avSum_mono {r : GR} {b b' : Int} (hw : ∀ k, k < r.w.length → 1 ≤ ix r.w k) (hl : r.w.length = r.body.length) (h : ∀ l ∈ r.body, holdsB a F K b l = true → holdsB a F' K' b' l = true) : ∀ k, k ≤ r.body.length → avSum r a F K b k ≤ avSum r a F' K' b' k
  | 0, _ => Int.le_refl _
  | k + 1, hk => by
    have h1 := avSum_mono hw hl h k (by omega)
    have h2 := hw k (by omega)
    have h3 := h (ix r.body k) (ix_mem (by omega))
    unfold avSum
    cases h4 : holdsB a F K b (ix r.body k) with
    | true => rw [h3 h4]; simp only [if_true]; omega
    | false =>
      simp only [Bool.false_eq_true, if_false]
      split <;> omega
theorem avB_mono {i : Int} {b b' : Int} (hv : validE p = 0) (hi : 0 ≤ i ∧ i < p.rules.length) (h : ∀ l ∈ (ixR p.rules i.toNat).body, holdsB a F K b l = true → holdsB a F' K' b' l = true) (hav : avB p a F K i b = true) : avB p a F' K' i b' = true := by
  unfold avB availB at *
  simp only [Bool.and_eq_true] at *
  refine ⟨hav.1, ?_⟩
  have h2 := hav.2
  have hil : i.toNat < p.rules.length := by omega
  cases hs : (ixR p.rules i.toNat).sum with
  | true =>
    rw [hs] at h2
    simp only [if_true, decide_eq_true_eq] at h2 ⊢
    obtain ⟨h3, h4, -⟩ := weights_sum ((validP hv).sum i.toNat hil hs)
    have := avSum_mono h4 (by omega) h _ (Nat.le_refl _)
    omega
  | false =>
    rw [hs] at h2
    simp only [Bool.false_eq_true, if_false] at h2 ⊢
    exact allR_true fun k hk => h _ (ix_mem hk) (allR_get h2 k hk)
end mono
def avS (p : GP) (a : List Int) (G : Int → Int) (i : Int) : Bool := avB p a G (fun _ => 0) i 1
theorem holds_set {a : List Int} {G : Int → Int} {l : Int} : holdsB a G (fun _ => 0) 1 l = (!offB a l && (decide (l < 0) || decide (0 < G l))) := by
  unfold holdsB
  have : decide ((0 : Int) < 1) = true := decide_eq_true (by omega)
  rw [this, Bool.and_true]
def Closed (p : GP) (a : List Int) (G : Int → Int) : Prop :=
  ∀ x i, 1 ≤ x → x ≤ p.n → offB a x = false → InHead p i x → avS p a G i = true → 0 < G x
structure IsFnd (p : GP) (a : List Int) (G : Int → Int) : Prop where
  dom : ∀ x, 0 < G x → 1 ≤ x ∧ x ≤ p.n
  closed : Closed p a G
  least : ∀ T, Closed p a T → ∀ x, 0 < G x → 0 < T x
theorem IsFnd.unique {p : GP} {a : List Int} {G G' : Int → Int} (h : IsFnd p a G) (h' : IsFnd p a G') (x : Int) : 0 < G x ↔ 0 < G' x :=
  ⟨h.least G' h'.closed x, h'.least G h.closed x⟩
structure Round (p : GP) (F K G0 G : Int → Int) (x : Int) : Prop where
  one : ∀ y, G y = 0 ∨ (G y = 1 ∧ 0 < F y)
  up : ∀ y, 0 < G0 y → 0 < G y
  done : ∀ y, 1 ≤ y → y < x → 0 < F y → (∀ l, 0 < F l → K l < K y → 0 < G0 l) → 0 < G y
section round
variable {p : GP} {a : List Int} {F K G0 G : Int → Int} {clock x : Int}
theorem Round.start (h : ∀ y, G y = 0 ∨ (G y = 1 ∧ 0 < F y)) : Round p F K G G 1 := ⟨h, fun _ h => h, fun y h1 h2 => by omega⟩
theorem Round.add (h : Round p F K G0 G x) (hF : 0 < F x) : Round p F K G0 (setI G x 1) (x + 1) := by
  refine ⟨fun y => ?_, fun y hy => ?_, fun y h1 h2 h3 h4 => ?_⟩ <;> by_cases e : y = x
  · subst e; rw [setI_eq]; exact .inr ⟨rfl, hF⟩
  · rw [setI_ne G _ e]; exact h.one y
  · subst e; rw [setI_eq]; omega
  · rw [setI_ne G _ e]; exact h.up y hy
  · subst e; rw [setI_eq]; omega
  · rw [setI_ne G _ e]; exact h.done y h1 (by omega) h3 h4
theorem Round.skip (hv : validE p = 0) (hl : Lost p a F K clock) (h : Round p F K G0 G x) (hs : ¬ 0 < F x ∨ 0 < G x ∨ avS p a G (F x - 1) = false) : Round p F K G0 G (x + 1) := by
  refine ⟨h.one, h.up, fun y h1 h2 h3 h4 => ?_⟩
  by_cases e : y = x
  · subst e
    rcases hs with h5 | h5 | h5
    · exact absurd h3 h5
    · exact h5
    · have hin : InHead p (F y - 1) y := by
        rcases hl.inv y with h6 | h6
        · omega
        · exact h6.2.2.2.1
      have : avS p a G (F y - 1) = true := avB_mono hv ⟨hin.1, hin.2.1⟩ (fun l hl hh => by
        rw [holds_set]
        unfold holdsB at hh
        simp only [Bool.and_eq_true, Bool.or_eq_true, decide_eq_true_eq] at hh ⊢
        exact ⟨hh.1, hh.2.imp id (fun h6 => h.up l (h4 l h6.1 h6.2))⟩) (hl.ok y h3)
      rw [h5] at this; cases this
  · exact h.done y h1 (by omega) h3 h4
end round
def posR (r : GR) : Bool := decide (r.head.length = 1) && !r.choice && allR r.body.length (fun k => decide (0 < ix r.body k))
def posRules (l : List GR) : List GR := l.filter posR
def GP.pos (p : GP) : GP := { p with rules := posRules p.rules }
theorem anyR_some {n : Nat} {f : Nat → Bool} (h : anyR n f = true) : ∃ k, k < n ∧ f k = true := by
  apply Classical.byContradiction
  intro hn
  rw [anyR_false (fun j hj => by
    cases e : f j with
    | false => rfl
    | true => exact absurd ⟨j, hj, e⟩ hn)] at h
  cases h
end Go.Proofs.YtgakoainjgjimaaGreatDoor
