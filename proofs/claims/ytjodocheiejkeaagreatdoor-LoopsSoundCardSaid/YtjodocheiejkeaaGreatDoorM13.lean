/- My texts Rounds1, RoundsU, merged. -/
import Derived.Test.YtjodocheiejkeaaGreatDoorM05
import Derived.Test.YtjodocheiejkeaaGreatDoorM04
import Derived.Test.YtjodocheiejkeaaGreatDoorM03
import Derived.Test.YtjodocheiejkeaaGreatDoorM00
import Derived.Test.YtjodocheiejkeaaGreatDoorProg
import Derived.WalkKit
import Derived.Lib.Hide
import Derived.Deep.QuietTactic
import Derived.BigQuiet
import Derived.Lib.Bytealg
import Derived.MapKept
import Derived.Maps.OwnSet
import Derived.Maps.OwnOps
import Derived.WalkSpells
import Derived.Lib.SliceRun
import Derived.Test.YtjodocheiejkeaaGreatDoorM02
import Derived.Test.YtjodocheiejkeaaGreatDoorM01
import Derived.Deep.AppendLies
import Derived.Deep.DeepCutAuto
import Derived.Deep.OwnRows

namespace Go.Proofs.YtjodocheiejkeaaGreatDoor
open Go.RowKit
attribute [local go_sem] memUpon
structure RFx (R : List GR) (n : Int) (w w1 : World) (nb ob b9 b6 b3 b8 : Nat) (ar : Option Addr) (cr : Nat) : Prop where
  need : Blk w1 b6 [.slice (some ⟨nb, 0, none⟩) R.length R.length] 23
  out : Blk w1 b8 [.slice (some ⟨ob, 0, none⟩) n.toNat n.toNat] 23
  rbox : Blk w1 b3 [.slice ar R.length cr] 24
  rules : RulesIs w (.slice ar R.length cr) R
  below : Below w.heap.size w w1
  lo : w.heap.size ≤ nb ∧ w.heap.size ≤ ob ∧ w.heap.size ≤ b9 ∧ w.heap.size ≤ b6 ∧ w.heap.size ≤ b3 ∧ w.heap.size ≤ b8
  lt : nb < w1.heap.size ∧ ob < w1.heap.size ∧ b9 < w1.heap.size
  ne : nb ≠ ob ∧ nb ≠ b9 ∧ ob ≠ b9 ∧ b6 ≠ nb ∧ b6 ≠ ob ∧ b6 ≠ b9 ∧ b8 ≠ nb ∧ b8 ≠ ob ∧ b8 ≠ b9 ∧ b3 ≠ nb ∧ b3 ≠ ob ∧ b3 ≠ b9
structure RSt (w1 : World) (nb ob b9 : Nat) (nd od l : List Int) (wx : World) : Prop where
  lim : Lim w1.heap.size [nb, ob, b9] w1 wx
  need : Blk wx nb (nd.map (Value.int .i64)) 3
  out : Blk wx ob (od.map (Value.int .i64)) 3
  now : ∃ an cn, Blk wx b9 [.slice an l.length cn] 23 ∧ QRow w1.heap.size wx (.slice an l.length cn) l
section
variable {R : List GR} {n : Int} {w w1 wx w' : World} {nb ob b9 b6 b3 b8 : Nat} {ar : Option Addr} {cr : Nat} {nd od l : List Int}
theorem RSt.on (h : RSt w1 nb ob b9 nd od l wx) (hb : Below wx.heap.size wx w') : RSt w1 nb ob b9 nd od l w' := by
  obtain ⟨an, cn, h1, h2⟩ := h.now
  exact ⟨h.lim.trans (.of_below hb h.lim.size), h.need.below hb, h.out.below hb, an, cn, h1.below hb, h2.kept fun i _ hi _ => hb.block i hi⟩
theorem RFx.at (hf : RFx R n w w1 nb ob b9 b6 b3 b8 ar cr) (h : RSt w1 nb ob b9 nd od l wx) :
    Blk wx b6 [.slice (some ⟨nb, 0, none⟩) R.length R.length] 23 ∧ Blk wx b8 [.slice (some ⟨ob, 0, none⟩) n.toNat n.toNat] 23 ∧ Blk wx b3 [.slice ar R.length cr] 24 ∧ Below w.heap.size w wx := by
  have hn := hf.ne
  have k : ∀ b, b < w1.heap.size → b ≠ nb → b ≠ ob → b ≠ b9 → wx.heap[b]? = w1.heap[b]? := fun b h1 h2 h3 h4 => h.lim.block b h1 (by simp [h2, h3, h4])
  refine ⟨hf.need.same (k _ hf.need.lt (by omega) (by omega) (by omega)), hf.out.same (k _ hf.out.lt (by omega) (by omega) (by omega)), hf.rbox.same (k _ hf.rbox.lt (by omega) (by omega) (by omega)), hf.below.trans ((h.lim.mono hf.below.size (fun i hi _ => hi)).below (fun i hi => ?_))⟩
  have := hf.lo
  simp only [List.mem_cons, List.not_mem_nil, or_false] at hi
  rcases hi with rfl | rfl | rfl <;> omega
theorem mapI_at (l : List Int) (i : Nat) (hi : i < l.length) : (l.map (Value.int .i64))[i]? = some (.int .i64 (ix l i)) := by
  simp [ix, List.getD_eq_getElem?_getD, List.getElem?_eq_getElem hi]
theorem mapI_setL (l : List Int) (i : Nat) (v : Int) : (l.map (Value.int .i64)).set i (.int .i64 v) = (l.set i v).map (Value.int .i64) := by
  rw [List.map_set]
theorem RSt.setOut (h : RSt w1 nb ob b9 nd od l wx) (hne : nb ≠ ob ∧ ob ≠ b9) (hlt : ob < w1.heap.size) (i : Nat) (v : Int) : RSt w1 nb ob b9 nd (od.set i v) l (wx.setCell ⟨ob, i, none⟩ (.int .i64 v)) := by
  obtain ⟨an, cn, h1, h2⟩ := h.now
  refine ⟨h.lim.trans (.setCell _ (.inl (by simp))), h.need.setOther _ _ hne.1, by rw [← mapI_setL]; exact h.out.set _ _, an, cn, h1.setOther _ _ (fun e => hne.2 e.symm), h2.kept fun j hj _ _ => Below.heap_setCell _ _ _ _ (show j ≠ ob by omega)⟩
theorem RSt.setNeed (h : RSt w1 nb ob b9 nd od l wx) (hne : nb ≠ ob ∧ nb ≠ b9) (hlt : nb < w1.heap.size) (i : Nat) (v : Int) : RSt w1 nb ob b9 (nd.set i v) od l (wx.setCell ⟨nb, i, none⟩ (.int .i64 v)) := by
  obtain ⟨an, cn, h1, h2⟩ := h.now
  refine ⟨h.lim.trans (.setCell _ (.inl (by simp))), by rw [← mapI_setL]; exact h.need.set _ _, h.out.setOther _ _ (fun e => hne.1 e.symm), an, cn, h1.setOther _ _ (fun e => hne.2 e.symm), h2.kept fun j hj _ _ => Below.heap_setCell _ _ _ _ (show j ≠ nb by omega)⟩
theorem QRow.slenQ {base : Nat} {w : World} {v : Value} {l : List Int} (h : QRow base w v l) : ∃ a c, v = .slice a l.length c := by
  rcases h.2 with ⟨rfl, rfl⟩ | ⟨g, off, cap, cur, rfl, _⟩
  · exact ⟨_, _, rfl⟩
  · exact ⟨_, _, rfl⟩
theorem RSt.push {an : Option Addr} {cn : Nat} {v4 : Value} {x : Int} {w4 : World} (h : RSt w1 nb ob b9 nd od l wx) (hb : Blk wx b9 [.slice an l.length cn] 23) (hq : QRow w1.heap.size wx (.slice an l.length cn) l) (hne : nb ≠ b9 ∧ ob ≠ b9) (hlt : nb < w1.heap.size ∧ ob < w1.heap.size ∧ b9 < w1.heap.size)
    (hq4 : QRow w1.heap.size w4 v4 (l ++ [x])) (hg : wx.grownBy w4 (Value.slice an l.length cn).ownBlock) : Blk w4 b9 [.slice an l.length cn] 23 ∧ RSt w1 nb ob b9 nd od (l ++ [x]) (w4.setCell ⟨b9, 0, none⟩ v4) := by
  have hlow : ∀ i, i < w1.heap.size → some i ≠ (Value.slice an l.length cn).ownBlock := fun i hi e => by
    rcases hq.2 with ⟨e2, _⟩ | ⟨g, off, cap, cur, e2, hbg, _⟩
    · rw [e2] at e; cases e
    · rw [e2] at e; simp only [Value.ownBlock, Option.some.injEq] at e; omega
  have hs := h.lim.size
  have hk : ∀ i, i < w1.heap.size → w4.heap[i]? = wx.heap[i]? := fun i hi => hg.block i (by omega) (hlow i hi)
  obtain ⟨a4, c4, rfl⟩ := hq4.slenQ
  have hb4 := hb.same (hk _ hlt.2.2)
  refine ⟨hb4, ⟨(h.lim.trans ⟨hg.os, hg.tape, hg.output, hg.size, fun i hi _ => hk i hi⟩).trans (.setCell _ (.inl (by simp))), (h.need.same (hk _ hlt.1)).setOther _ _ hne.1, (h.out.same (hk _ hlt.2.1)).setOther _ _ hne.2, a4, c4, hb4.set 0 _, hq4.kept fun i hi _ _ => Below.heap_setCell _ _ _ _ (show i ≠ b9 by omega)⟩⟩
def ReachP (R : List GR) (nd : List Int) (i : Nat) (round : Int) (od l od' l' : List Int) : Prop :=
  (od' = od ∧ l' = l ∧ (ix nd i ≤ 0 → ∀ x ∈ (ixR R i).head, ix od (x - 1).toNat ≠ 0)) ∨
    (ix nd i ≤ 0 ∧ ∃ x, (ixR R i).head = [x] ∧ ix od (x - 1).toNat = 0 ∧ od' = od.set (x - 1).toNat round ∧ l' = l ++ [x])
theorem Lv.reach {C od' l' : List Int} (hd : DefR n R) (h : Lv n R C l od nd) (hp : Paid R C nd) {i : Nat} (hi : i < R.length) {round : Int} (hr : 1 ≤ round ∧ round ≤ 4000000) (hx : ReachP R nd i round od l od' l') :
    Lv n R C l' od' nd ∧ (∀ x ∈ C ++ l, x ∈ C ++ l') ∧ (ix nd i ≤ 0 → ∀ x ∈ (ixR R i).head, x ∈ C ++ l') := by
  rcases hx with ⟨rfl, rfl, h1⟩ | ⟨h0, x, e, ho, rfl, rfl⟩
  · refine ⟨h, fun _ h => h, fun h0 x hx => ?_⟩
    have hxr := (hd.head i hi).2 x hx
    have ho := h.out x hxr.1 hxr.2
    have := h1 h0 x hx
    exact ho.1.1 (by omega)
  · refine ⟨h.take hd hp hi h0 e ho hr, fun y hy => by rw [← List.append_assoc]; exact List.mem_append_left _ hy, fun _ y hy => ?_⟩
    rw [e] at hy
    simp only [List.mem_singleton] at hy
    subst hy
    simp
theorem Asked.reach {A A' : List Int} {T T' : Nat → Prop} {i : Nat} (h : Asked R A nd T) (hA : ∀ x ∈ A, x ∈ A') (hi : ix nd i ≤ 0 → ∀ x ∈ (ixR R i).head, x ∈ A') (hT : ∀ j, T j → j = i ∨ T' j) : Asked R A' nd T' := fun j hj h0 => by
  rcases h j hj h0 with h1 | h1
  · exact .inl fun x hx => hA x (h1 x hx)
  · rcases hT j h1 with rfl | h2
    · exact .inl (hi h0)
    · exact .inr h2
def app2Φ (x : Int) : Nat → List Value → Value → Nat → Nat → World → Prop
  | _, _, v, lo, hi, w => v = .slice (some ⟨lo, 0, none⟩) 1 1 ∧ lo < hi ∧ Blk w lo [.int .i64 x] 3
theorem app2Φ_later (x : Int) : ∀ i args v lo hi w w', app2Φ x i args v lo hi w → Below w.heap.size w w' → app2Φ x i args v lo hi w' := by
  intro i args v lo hi w w' h hb
  obtain ⟨e, hl, h⟩ := h
  exact ⟨e, hl, h.below hb⟩
set_option maxHeartbeats 4000000 in
set_option maxRecDepth 100000 in
theorem reach_any (hd : DefR n R) (hf : RFx R n w w1 nb ob b9 b6 b3 b8 ar cr) (h : RSt w1 nb ob b9 nd od l wx) (hnl : nd.length = R.length) (hol : (od.length : Int) = n) (hll : l.length ≤ 4000) (i : Nat) (hi : i < R.length) (round : Int) :
    Calls Tryz.prog 150 #[.int .i64 i, .int .i64 round, .pointer (some ⟨b6, 0, none⟩), .pointer (some ⟨b3, 0, none⟩), .pointer (some ⟨b8, 0, none⟩), .pointer (some ⟨b9, 0, none⟩)] wx fun e w' =>
      e = .returned (.tuple #[]) ∧ ∃ od' l', RSt w1 nb ob b9 nd od' l' w' ∧ ReachP R nd i round od l od' l' := by
  obtain ⟨h6, h8, h3, hbw⟩ := hf.at h
  obtain ⟨a1, c1, e1, -, hl1, -, hcell⟩ := hf.rules.form
  simp only [Value.slice.injEq, true_and] at e1
  obtain ⟨rfl, rfl⟩ := e1
  obtain ⟨b, off, rfl, hbl, hc⟩ := hcell (by omega)
  obtain ⟨vh, vb, vw, ⟨-, q1, -⟩, hsl⟩ := hc i hi
  obtain ⟨a3, c3, rfl, -, hl3, -, hcell3⟩ := hsl.head.form
  have hhd := hd.head i hi
  have hrng := hd.rng
  have hlen := hd.len
  have hi' : i < nd.length := by omega
  have HKR : Hid (∀ w', Below w.heap.size w w' → w'.cell? ⟨b, off + i * 6 + 1, none⟩ = some (.slice a3 (ixR R i).head.length c3)) := Lib.hid (fun w' hb => (bcell hb _ _ hbl).trans q1)
  have k6 : ∀ e : Ext wx, e.world.cell? ⟨b6, 0, none⟩ = some (.slice (some ⟨nb, 0, none⟩) R.length R.length) := fun e => (bcell e.below _ _ h6.lt).trans (h6.cell 0)
  have k8 : ∀ e : Ext wx, e.world.cell? ⟨b8, 0, none⟩ = some (.slice (some ⟨ob, 0, none⟩) n.toNat n.toNat) := fun e => (bcell e.below _ _ h8.lt).trans (h8.cell 0)
  have k3 : ∀ e : Ext wx, e.world.cell? ⟨b3, 0, none⟩ = some (.slice (some ⟨b, off, none⟩) R.length cr) := fun e => (bcell e.below _ _ h3.lt).trans (h3.cell 0)
  have kn : ∀ e : Ext wx, e.world.cell? ⟨nb, i, none⟩ = some (.int .i64 (ix nd i)) := fun e => (bcell e.below _ _ h.need.lt).trans ((h.need.cell i).trans (mapI_at nd i hi'))
  have kr : ∀ e : Ext wx, e.world.cell? ⟨b, off + i * 6 + 1, none⟩ = some (.slice a3 (ixR R i).head.length c3) := fun e => HKR.out _ (bon hbw e.below)
  have HS := Lib.hid h
  have HF := Lib.hid hf
  have HHD := Lib.hid hhd.2
  have HBW := Lib.hid hbw
  have hh1 := hhd.1
  have HB6 := Lib.hid h6
  have HB8 := Lib.hid h8
  have HB3 := Lib.hid h3
  clear hhd hsl hc q1 hf h h6 h8 h3 hbw
  by_cases c1' : ix nd i ≤ 0
  · by_cases c2 : (ixR R i).head.length = 0
    · have HE : Hid ((ixR R i).head = []) := Lib.hid (List.eq_nil_of_length_eq_zero c2)
      have HC := Lib.hid hcell3
      clear hcell3
      go_enter Tryz.func150, Tryz.ntmps150
      go_wp2
      refine wp_region_ext (by kernel_rfl) (by kernel_rfl) ?_
      repeat (go_big_quiet_step (fail))
      refine wpQuiet_nil ?_
      intro w9 hw'
      obtain ⟨e9, he9⟩ := hw'
      have hb9 := e9.below
      rw [← he9] at hb9
      clear he9 e9
      try dsimp only
      go_wp2
      refine bodyPost_end (v := .tuple #[]) ?_ rfl ?_
      · simp [results, Tryz.results150, go_sem]
      · exact ⟨rfl, od, l, HS.out.on hb9, .inl ⟨rfl, rfl, fun _ x hx => by rw [HE.out] at hx; simp at hx⟩⟩
    · obtain ⟨x, hx⟩ : ∃ x, (ixR R i).head = [x] := by
        match hh : (ixR R i).head, hh1, c2 with
        | [], _, h => exact absurd rfl h
        | [x], _, _ => exact ⟨x, rfl⟩
        | x :: y :: t, h, _ => simp at h
      have hx1 := HHD.out x (by rw [hx]; simp)
      obtain ⟨m, rfl⟩ : ∃ m : Nat, x = (m : Int) + 1 := ⟨(x - 1).toNat, by omega⟩
      obtain ⟨bh, offh, rfl, hbh, hch⟩ := hcell3 (by omega)
      have kx : ∀ e : Ext wx, e.world.cell? ⟨bh, offh, none⟩ = some (.int .i64 ((m : Int) + 1)) := fun e => (bcell (bon HBW.out e.below) _ _ hbh).trans ((hch 0 (by omega)).trans (by rw [hx]; rfl))
      have HKX : Hid (∀ w', Below w.heap.size w w' → w'.cell? ⟨bh, offh, none⟩ = some (.int .i64 ((m : Int) + 1))) := Lib.hid (fun w' hb => (bcell hb _ _ hbh).trans ((hch 0 (by omega)).trans (by rw [hx]; rfl)))
      have hml : m < n.toNat := by omega
      have hmo : m < od.length := by omega
      have kod : ∀ e : Ext wx, e.world.cell? ⟨ob, m, none⟩ = some (.int .i64 (ix od m)) := fun e => (bcell e.below _ _ HS.out.out.lt).trans ((HS.out.out.cell m).trans (mapI_at od m hmo))
      have HX := Lib.hid hx
      have hlen1 : (ixR R i).head.length = 1 := by rw [hx]; rfl
      have hmm : ((m : Int) + 1 - 1).toNat = m := by omega
      have HMM := Lib.hid hmm
      have hwm : IntKind.i64.wrap ((m : Int) + 1 - 1) = (m : Int) := by rw [IntKind.wrap_i64]; omega
      clear hx hx1 hch hmm hh1 c2
      by_cases ho : ix od m = 0
      · have HO := Lib.hid ho
        have HR0 : Hid (InI ((m : Int) + 1)) := Lib.hid (by unfold InI; omega)
        go_enter Tryz.func150, Tryz.ntmps150
        go_wp2
        refine wp_region_ext (by kernel_rfl) (by kernel_rfl) ?_
        repeat (go_big_quiet_step (fail))
        refine wpQuiet_nil ?_
        intro w9 hw'
        obtain ⟨e9, he9⟩ := hw'
        have hb9 := e9.below
        rw [← he9] at hb9
        clear he9 e9
        try dsimp only
        have hs9 := HS.out.on hb9
        obtain ⟨g6, g8, g3, gbw⟩ := HF.out.at hs9
        have HS9 := Lib.hid hs9
        have HG9 := Lib.hid gbw
        clear k6 k8 k3 kn kr kx kod
        have k8 : ∀ e : Ext w9, e.world.cell? ⟨b8, 0, none⟩ = some (.slice (some ⟨ob, 0, none⟩) n.toNat n.toNat) := fun e => (bcell e.below _ _ g8.lt).trans (g8.cell 0)
        have k3 : ∀ e : Ext w9, e.world.cell? ⟨b3, 0, none⟩ = some (.slice (some ⟨b, off, none⟩) R.length cr) := fun e => (bcell e.below _ _ g3.lt).trans (g3.cell 0)
        have kr : ∀ e : Ext w9, e.world.cell? ⟨b, off + i * 6 + 1, none⟩ = some (.slice (some ⟨bh, offh, none⟩) (ixR R i).head.length c3) := fun e => HKR.out _ (bon HG9.out e.below)
        have kx : ∀ e : Ext w9, e.world.cell? ⟨bh, offh, none⟩ = some (.int .i64 ((m : Int) + 1)) := fun e => HKX.out _ (bon HG9.out e.below)
        clear hs9 gbw g6 g8 g3 hb9
        go_upto_region 1 with fail
        refine wp_region_tail' 11 (fun _ => True) (fun _ _ _ _ _ _ => False) (fun _ => false) (by kernel_rfl) (by kernel_rfl) (by kernel_rfl) (fun _ _ => trivial) (fun _ _ _ _ _ _ _ h _ => h) ?_
        simp only [List.take_succ_cons, List.take_zero, List.drop_succ_cons, List.drop_zero]
        iterate 11 (refine walkP_head (by kernel_rfl) rfl rfl rfl (fun K hK => ?_); go_big_quiet_op; refine hK _ ?_; clear hK K)
        intro wy hby hF hI hP
        clear hF hI hP
        have hsy := HS9.out.on hby
        have ky : wy.cell? ⟨ob, m, none⟩ = some (.int .i64 (ix od m)) := (hsy.out.cell m).trans (mapI_at od m hmo)
        have fy := hsy.out.free m
        have HSY := Lib.hid (hsy.setOut ⟨HF.out.ne.1, HF.out.ne.2.2.1⟩ HF.out.lt.2.1 m round)
        clear hsy hby
        refine ⟨rfl, rfl, ?_⟩
        go_simp
        simp only [tailW]
        clear ky fy k8 k3 kr kx
        generalize wy.setCell ⟨ob, m, none⟩ (.int .i64 round) = W2 at *
        go_upto_region 2 with fail
        obtain ⟨g6, g8, g3, gbw⟩ := HF.out.at HSY.out
        obtain ⟨an, cn, hbn, hqn⟩ := HSY.out.now
        have HG2 := Lib.hid gbw
        have k9 : ∀ e : Ext W2, e.world.cell? ⟨b9, 0, none⟩ = some (.slice an l.length cn) := fun e => (bcell e.below _ _ hbn.lt).trans (hbn.cell 0)
        have k3 : ∀ e : Ext W2, e.world.cell? ⟨b3, 0, none⟩ = some (.slice (some ⟨b, off, none⟩) R.length cr) := fun e => (bcell e.below _ _ g3.lt).trans (g3.cell 0)
        have kr : ∀ e : Ext W2, e.world.cell? ⟨b, off + i * 6 + 1, none⟩ = some (.slice (some ⟨bh, offh, none⟩) (ixR R i).head.length c3) := fun e => HKR.out _ (bon HG2.out e.below)
        have kx : ∀ e : Ext W2, e.world.cell? ⟨bh, offh, none⟩ = some (.int .i64 ((m : Int) + 1)) := fun e => HKX.out _ (bon HG2.out e.below)
        have HBN := Lib.hid hbn
        have HQN := Lib.hid hqn
        clear g6 g8 g3 gbw hbn hqn
        refine wp_region_tail' 9 (fun _ => True) (app2Φ ((m : Int) + 1)) (fun i => i == 8) (by kernel_rfl) (by kernel_rfl) (by kernel_rfl) (fun _ _ => trivial) (app2Φ_later _) ?_
        simp only [List.take_succ_cons, List.take_zero, List.drop_succ_cons, List.drop_zero]
        iterate 8 (refine walkP_head (by kernel_rfl) rfl rfl rfl (fun K hK => ?_); go_big_quiet_op; refine hK _ ?_; clear hK K)
        refine walkP_mem rfl rfl (fun wa hba hFa => ?_) (fun v8 lo8 hi8 l8 g8 h8 => ?_)
        · go_simp
          exact ⟨bal (Below.refl _ _) _, rfl, by simp, Blk.new _ [.int .i64 ((m : Int) + 1)] _⟩
        obtain ⟨_, rfl, -, -⟩ := h8
        simp only [Act.put, List.setIfInBounds_toArray, List.set_cons_succ, List.set_cons_zero]
        intro wy2 hby2 hF hI hP
        obtain ⟨-, -, F8⟩ := hF _ (.head _)
        clear hF hI hP
        have hsy := HSY.out.on hby2
        have hbn := HBN.out.below hby2
        have hqn := HQN.out.kept (w' := wy2) (fun i _ hi _ => hby2.block i hi)
        have HSZ := Lib.hid hsy
        have HBZ := Lib.hid hbn
        have HQZ := Lib.hid hqn
        have hzy := hsy.lim.size
        have hll8 : (l.length + 1) * 8 ≤ 140737488351232 := by omega
        clear hsy hbn hqn hby2 k9 k3 kr kx
        refine ⟨rfl, rfl, wp_appendQ _ _ 23 Tryz.underlying23 rfl w1.heap.size (.slice an l.length cn) l ((m : Int) + 1) rfl HQZ.out lo8 1 rfl F8 HR0.out hll8 hzy ?_⟩
        intro v4 w4 hq4 hg4 hl4
        have hpp := HSZ.out.push HBZ.out HQZ.out ⟨HF.out.ne.2.1, HF.out.ne.2.2.1⟩ HF.out.lt hq4 hg4
        have k9 := hpp.1.cell 0
        have f9 := hpp.1.free 0
        have HPP := Lib.hid hpp.2
        obtain ⟨a4, n4, c4, rfl⟩ := hq4.form
        clear hpp hq4 hg4 hl4
        refine ⟨trivial, rfl, rfl, ?_⟩
        go_simp
        simp only [tailW]
        refine bodyPost_end (v := .tuple #[]) ?_ rfl ?_
        · simp [results, Tryz.results150, go_sem]
        · exact ⟨rfl, _, _, HPP.out, .inr ⟨c1', (m : Int) + 1, HX.out, by rw [HMM.out]; exact HO.out, by rw [HMM.out], rfl⟩⟩
      · have ho' : (ix od m == 0) = false := by simp [ho]
        have HO := Lib.hid ho
        clear ho
        go_enter Tryz.func150, Tryz.ntmps150
        go_wp2
        refine wp_region_ext (by kernel_rfl) (by kernel_rfl) ?_
        repeat (go_big_quiet_step (fail))
        refine wpQuiet_nil ?_
        intro w9 hw'
        obtain ⟨e9, he9⟩ := hw'
        have hb9 := e9.below
        rw [← he9] at hb9
        clear he9 e9
        try dsimp only
        go_wp2
        refine bodyPost_end (v := .tuple #[]) ?_ rfl ?_
        · simp [results, Tryz.results150, go_sem]
        · exact ⟨rfl, od, l, HS.out.on hb9, .inl ⟨rfl, rfl, fun _ y hy => by rw [HX.out] at hy; simp only [List.mem_singleton] at hy; subst hy; rw [HMM.out]; exact HO.out⟩⟩
  · have c1'' : decide (ix nd i ≤ 0) = false := decide_eq_false c1'
    have HC1 := Lib.hid c1'
    have HC := Lib.hid hcell3
    clear hcell3 c1'
    go_enter Tryz.func150, Tryz.ntmps150
    go_wp2
    refine wp_region_ext (by kernel_rfl) (by kernel_rfl) ?_
    repeat (go_big_quiet_step (fail))
    refine wpQuiet_nil ?_
    intro w9 hw'
    obtain ⟨e9, he9⟩ := hw'
    have hb9 := e9.below
    rw [← he9] at hb9
    clear he9 e9
    try dsimp only
    go_wp2
    refine bodyPost_end (v := .tuple #[]) ?_ rfl ?_
    · simp [results, Tryz.results150, go_sem]
    · exact ⟨rfl, od, l, HS.out.on hb9, .inl ⟨rfl, rfl, fun h => by have := HC1.out; omega⟩⟩
end
end Go.Proofs.YtjodocheiejkeaaGreatDoor
namespace Go.Proofs.YtjodocheiejkeaaGreatDoor
open Go.RowKit
theorem infoU : (Tryz.prog.info? 174).map (fun i => (i.zero, i.size, i.bytes)) = some (some (.slice none 0 0), 1, 24) := by kernel_rfl
theorem infoA : (Tryz.prog.info? 175).map (fun i => (i.zero, i.size, i.bytes)) = some (some (.agg #[.int .i64 0, .int .i64 0]), 2, 16) := by kernel_rfl
def cells2 (u : Int × Int) : List Value := [.int .i64 u.1, .int .i64 u.2]
theorem wp_appendU {o : Oper} {a : Act} {w : World} {K : Act → World → Prop} {Q : Exit → Act → World → Prop} (s x : Operand) (T : TypeId) (hT : Tryz.prog.underlying T = some (.slice 175))
    (ho : o.op = .call { callee := .builtin .append, args := #[s, x], argTypes := #[T, T] }) (base : Nat) (v : Value) (n : Nat) (xs : List Value) (u : Int × Int) (hs : a.eval s = v) (hown : w.ownsRow base 175 2 v n xs)
    (g0 c : Nat) (hx : a.eval x = .slice (some ⟨g0, 0, none⟩) 1 c) (hb : Blk w g0 (cells2 u) 175) (hlen : (n + 1) * 16 ≤ 140737488351232) (hbase : base ≤ w.heap.size)
    (h : ∀ g cap w', w'.ownsRow base 175 2 (.slice (some ⟨g, 0, none⟩) (n + 1) cap) (n + 1) (xs ++ cells2 u) → w.grownBy w' v.ownBlock →
      (v.ownBlock = some g ∨ g = w.heap.size) → g < w'.heap.size → K (a.put o.dst (.slice (some ⟨g, 0, none⟩) (n + 1) cap)) w') : o.wp Tryz.prog a w K Q := by
  have hi := infoA
  obtain ⟨i, hi, he⟩ := Option.map_eq_some_iff.1 hi
  simp only [Prod.mk.injEq] at he
  refine wp_append_lies w s x T ho base 175 i _ 2 16 hT hi he.1 he.2.1 he.2.2 rfl (by decide) v n _ hs hown ⟨g0, 0, none⟩ 1 c (cells2 u) hx rfl (newsOf hb) (by simp [cells2, Value.oneCell']) (by omega) (by unfold maxLen; omega) (by omega) hbase _ rfl ?_
  exact h
structure UT (nn B tb : Nat) (V : List Value) (U : Int → List (Int × Int)) (w : World) : Prop where
  tab : Blk w tb V 174
  len : V.length = nn + 1
  row : ∀ a : Nat, a ≤ nn → w.ownsRow B 175 2 (V.getD a nilS) (U a).length ((U a).flatMap cells2)
  dis : ∀ a a' : Nat, ∀ g, a ≤ nn → a' ≤ nn → (V.getD a nilS).ownBlock = some g → (V.getD a' nilS).ownBlock = some g → a = a'
  lo : tb < B ∧ B ≤ w.heap.size
section
variable {nn B tb : Nat} {V : List Value} {U : Int → List (Int × Int)} {w w' : World}
theorem UT.kept (h : UT nn B tb V U w) (hs : w.heap.size ≤ w'.heap.size) (hb : ∀ i, (i = tb ∨ B ≤ i) → i < w.heap.size → w'.heap[i]? = w.heap[i]?) : UT nn B tb V U w' := by
  refine ⟨h.tab.same (hb _ (.inl rfl) h.tab.lt), h.len, fun a ha => ⟨(h.row a ha).1, ?_⟩, h.dis, h.lo.1, by have := h.lo; omega⟩
  rcases (h.row a ha).2 with hn | ⟨g, cap, cur, e, hbg, hgg, rest⟩
  · exact .inl hn
  · exact .inr ⟨g, cap, cur, e, hbg, (hb g (.inr hbg) (Array.getElem?_eq_some_iff.1 hgg).1).trans hgg, rest⟩
theorem UT.below (h : UT nn B tb V U w) (hb : Below w.heap.size w w') : UT nn B tb V U w' := h.kept hb.size fun i _ hi => hb.block i hi
theorem row_block {base E size n : Nat} {xs : List Value} {v : Value} {g : Nat} (h : w.ownsRow base E size v n xs) (hg : v.ownBlock = some g) : base ≤ g ∧ g < w.heap.size := by
  rcases h.2 with ⟨rfl, _⟩ | ⟨g', cap, cur, rfl, hb, hgg, _⟩
  · cases hg
  · simp only [Value.ownBlock, Option.some.injEq] at hg
    subst hg
    exact ⟨hb, (Array.getElem?_eq_some_iff.1 hgg).1⟩
theorem getDV_set (V : List Value) (a b : Nat) (v : Value) (ha : a < V.length) : (V.set a v).getD b nilS = if b = a then v else V.getD b nilS := by
  simp only [List.getD_eq_getElem?_getD]
  by_cases h : b = a
  · subst h; rw [if_pos rfl, List.getElem?_set_self ha]; rfl
  · rw [if_neg h, List.getElem?_set_ne (by omega)]
theorem UT.push (h : UT nn B tb V U w) (a : Nat) (ha : a ≤ nn) (u : Int × Int) {g cap : Nat} (hown : w'.ownsRow B 175 2 (.slice (some ⟨g, 0, none⟩) ((U a).length + 1) cap) ((U a).length + 1) ((U a).flatMap cells2 ++ cells2 u))
    (hg : w.grownBy w' (V.getD a nilS).ownBlock) (hl : (V.getD a nilS).ownBlock = some g ∨ g = w.heap.size) :
    Blk w' tb V 174 ∧ UT nn B tb (V.set a (.slice (some ⟨g, 0, none⟩) ((U a).length + 1) cap)) (fun b => if b = (a : Int) then U b ++ [u] else U b) (w'.setCell ⟨tb, a, none⟩ (.slice (some ⟨g, 0, none⟩) ((U a).length + 1) cap)) := by
  have hlo := h.lo
  have hrow : ∀ g', (V.getD a nilS).ownBlock = some g' → B ≤ g' := fun g' e => (row_block (h.row a ha) e).1
  have htab : Blk w' tb V 174 := h.tab.same (hg.block _ h.tab.lt (fun e => by have := hrow _ e.symm; omega))
  refine ⟨htab, htab.set _ _, by simpa using h.len, fun b hb => ?_, fun b b' g' hb hb' => ?_, hlo.1, by have := hg.size; simp [World.setCell]; omega⟩
  · rw [getDV_set V a b _ (by have := h.len; omega)]
    have setK : ∀ {v : Value} {n : Nat} {xs : List Value} {nv : Value}, w'.ownsRow B 175 2 v n xs → (w'.setCell ⟨tb, a, none⟩ nv).ownsRow B 175 2 v n xs := fun {v n xs nv} hr => by
      refine ⟨hr.1, ?_⟩
      rcases hr.2 with hn | ⟨g', cap, cur, e, hbg, hgg, rest⟩
      · exact .inl hn
      · exact .inr ⟨g', cap, cur, e, hbg, (Below.heap_setCell _ _ _ _ (show g' ≠ tb by omega)).trans hgg, rest⟩
    by_cases e : b = a
    · subst e
      rw [if_pos rfl]
      simp only [if_true, List.length_append, List.length_singleton, List.flatMap_append, List.flatMap_cons, List.flatMap_nil, List.append_nil]
      exact setK hown
    · rw [if_neg e]
      simp only [show ¬ ((b : Int) = (a : Int)) by omega, if_false]
      refine setK ⟨(h.row b hb).1, ?_⟩
      rcases (h.row b hb).2 with hn | ⟨g', cap', cur, e', hbg, hgg, rest⟩
      · exact .inl hn
      · refine .inr ⟨g', cap', cur, e', hbg, (hg.block g' (Array.getElem?_eq_some_iff.1 hgg).1 (fun e2 => e (h.dis b a g' hb ha (by rw [e']; rfl) e2.symm))).trans hgg, rest⟩
  · have hlen := h.len
    rw [getDV_set V a b _ (by omega), getDV_set V a b' _ (by omega)]
    have key : ∀ c : Nat, c ≤ nn → c ≠ a → (V.getD c nilS).ownBlock ≠ some g := fun c hc hca e => by
      rcases hl with hl | hl
      · exact hca (h.dis c a g hc ha e hl)
      · have := (row_block (h.row c hc) e).2; omega
    by_cases e1 : b = a
    · by_cases e2 : b' = a
      · intro _ _; omega
      · rw [if_pos e1, if_neg e2]
        intro h1 h2
        simp only [Value.ownBlock, Option.some.injEq] at h1
        exact absurd (h1 ▸ h2) (key b' hb' e2)
    · by_cases e2 : b' = a
      · rw [if_neg e1, if_pos e2]
        intro h1 h2
        simp only [Value.ownBlock, Option.some.injEq] at h2
        exact absurd (h2 ▸ h1) (key b hb e1)
      · rw [if_neg e1, if_neg e2]
        exact h.dis b b' g' hb hb'
theorem UT.cell (h : UT nn B tb V U w) (a : Nat) (ha : a ≤ nn) : w.cell? ⟨tb, a, none⟩ = some (V.getD a nilS) := by
  rw [h.tab.cell]
  have := h.len
  rw [List.getElem?_eq_getElem (by omega)]
  simp [List.getD_eq_getElem?_getD, List.getElem?_eq_getElem (show a < V.length by omega)]
theorem flat2 : ∀ (L : List (Int × Int)) (i : Nat), i < L.length → (L.flatMap cells2)[i * 2]? = some (.int .i64 (L.getD i (0, 0)).1) ∧ (L.flatMap cells2)[i * 2 + 1]? = some (.int .i64 (L.getD i (0, 0)).2)
  | [], i, hi => absurd hi (Nat.not_lt_zero _)
  | q :: L, 0, _ => by simp [cells2]
  | q :: L, i + 1, hi => by
    have ih := flat2 L i (by simpa using hi)
    have e1 : (i + 1) * 2 = i * 2 + 1 + 1 := by omega
    simp only [List.flatMap_cons, cells2, List.cons_append, List.nil_append, e1, List.getElem?_cons_succ, List.getD_cons_succ]
    exact ih
theorem UT.at (h : UT nn B tb V U w) (a : Nat) (ha : a ≤ nn) : ∃ ad cap, V.getD a nilS = .slice ad (U a).length cap ∧ ∀ j, j < (U a).length → ∃ g, ad = some ⟨g, 0, none⟩ ∧ B ≤ g ∧ g < w.heap.size ∧ w.cell? ⟨g, j * 2, none⟩ = some (.int .i64 ((U a).getD j (0, 0)).1) ∧ w.cell? ⟨g, j * 2 + 1, none⟩ = some (.int .i64 ((U a).getD j (0, 0)).2) := by
  rcases (h.row a ha).2 with ⟨e, e2⟩ | ⟨g, cap, cur, e, hb, hg, hn, hm, hs, hx⟩
  · exact ⟨none, 0, by rw [e, e2], fun j hj => by omega⟩
  · refine ⟨_, cap, e, fun j hj => ⟨g, rfl, hb, (Array.getElem?_eq_some_iff.1 hg).1, ?_⟩⟩
    obtain ⟨h1, h2⟩ := flat2 (U a) j hj
    rw [← hx, List.getElem?_take_of_lt (by omega)] at h1 h2
    have c1 := cell_of_row w g (j * 2) cur _ (0, 0) hg
    have c2 := cell_of_row w g (j * 2 + 1) cur _ (0, 0) hg
    rw [c1, c2]
    exact ⟨by simpa using h1, by simpa using h2⟩
end
structure P1 (R : List GR) (nn : Nat) (W6 : World) (nb tb : Nat) (i : Nat) (nd : List Int) (V : List Value) (U : Int → List (Int × Int)) (wx : World) : Prop where
  lim : Lim W6.heap.size [nb, tb] W6 wx
  need : Blk wx nb (nd.map (Value.int .i64)) 3
  len : nd.length = R.length
  val : ∀ j, j < i → ix nd j = need0 (ixR R j)
  uses : UT nn W6.heap.size tb V U wx
  ne : nb ≠ tb ∧ nb < W6.heap.size
theorem P1.below {R : List GR} {nn nb tb i : Nat} {W6 wx w' : World} {nd : List Int} {V : List Value} {U : Int → List (Int × Int)} (h : P1 R nn W6 nb tb i nd V U wx) (hb : Below wx.heap.size wx w') : P1 R nn W6 nb tb i nd V U w' :=
  ⟨h.lim.trans (.of_below hb h.lim.size), h.need.below hb, h.len, h.val, h.uses.below hb, h.ne⟩
theorem P1.setNeed {R : List GR} {nn nb tb i : Nat} {W6 wx : World} {nd : List Int} {V : List Value} {U : Int → List (Int × Int)} (h : P1 R nn W6 nb tb i nd V U wx) (v : Int) : P1 R nn W6 nb tb i (nd.set i v) V U (wx.setCell ⟨nb, i, none⟩ (.int .i64 v)) := by
  have hn := h.ne
  refine ⟨h.lim.trans (.setCell _ (.inl (by simp))), by rw [← mapI_setL]; exact h.need.set _ _, by simpa using h.len, fun j hj => ?_, h.uses.kept (by simp [World.setCell]) (fun b hb _ => Below.heap_setCell _ _ _ _ (show b ≠ nb by omega)), h.ne⟩
  rw [← h.val j hj]
  unfold ix
  simp only [List.getD_eq_getElem?_getD]
  rw [List.getElem?_set_ne (by omega)]
theorem P1.next {R : List GR} {nn nb tb i : Nat} {W6 wx : World} {nd : List Int} {V : List Value} {U : Int → List (Int × Int)} (h : P1 R nn W6 nb tb i nd V U wx) (hv : ix nd i = need0 (ixR R i)) : P1 R nn W6 nb tb (i + 1) nd V U wx :=
  ⟨h.lim, h.need, h.len, lt_succ_all h.val hv, h.uses, h.ne⟩
theorem P1.push {R : List GR} {nn nb tb i : Nat} {W6 wx w4 : World} {nd : List Int} {V : List Value} {U : Int → List (Int × Int)} (h : P1 R nn W6 nb tb i nd V U wx) (a : Nat) (ha : a ≤ nn) (u : Int × Int) {g cap : Nat} (hown : w4.ownsRow W6.heap.size 175 2 (.slice (some ⟨g, 0, none⟩) ((U a).length + 1) cap) ((U a).length + 1) ((U a).flatMap cells2 ++ cells2 u))
    (hg : wx.grownBy w4 (V.getD a nilS).ownBlock) (hl : (V.getD a nilS).ownBlock = some g ∨ g = wx.heap.size) :
    Blk w4 tb V 174 ∧ P1 R nn W6 nb tb i nd (V.set a (.slice (some ⟨g, 0, none⟩) ((U a).length + 1) cap)) (fun b => if b = (a : Int) then U b ++ [u] else U b) (w4.setCell ⟨tb, a, none⟩ (.slice (some ⟨g, 0, none⟩) ((U a).length + 1) cap)) := by
  obtain ⟨h1, h2⟩ := h.uses.push a ha u hown hg hl
  have hn := h.ne
  have hs := h.lim.size
  have hlow : ∀ j, j < W6.heap.size → w4.heap[j]? = wx.heap[j]? := fun j hj => hg.block j (by omega) (fun e => by have := (row_block (h.uses.row a ha) e.symm).1; omega)
  refine ⟨h1, (h.lim.trans ⟨hg.os, hg.tape, hg.output, hg.size, fun j hj _ => hlow j hj⟩).trans (.setCell _ (.inl (by simp))), (h.need.same (hlow _ hn.2)).setOther _ _ hn.1, h.len, h.val, h2, h.ne⟩
theorem P1.blk {R : List GR} {nn nb tb i b : Nat} {c : List Value} {T : TypeId} {W6 wx : World} {nd : List Int} {V : List Value} {U : Int → List (Int × Int)} (h : P1 R nn W6 nb tb i nd V U wx) (hb : Blk W6 b c T) (h1 : b ≠ nb) (h2 : b ≠ tb) : Blk wx b c T :=
  hb.same (h.lim.block b hb.lt (by simp [h1, h2]))
theorem P1.bel {R : List GR} {nn nb tb i : Nat} {w W6 wx : World} {nd : List Int} {V : List Value} {U : Int → List (Int × Int)} (h : P1 R nn W6 nb tb i nd V U wx) (hb : Below w.heap.size w W6) (h1 : w.heap.size ≤ nb) (h2 : w.heap.size ≤ tb) : Below w.heap.size w wx :=
  hb.trans ((h.lim.mono hb.size (fun i hi _ => hi)).below (fun i hi => by simp only [List.mem_cons, List.not_mem_nil, or_false] at hi; omega))
end Go.Proofs.YtjodocheiejkeaaGreatDoor
