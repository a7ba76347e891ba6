/- My texts Rg41b, Rg41d, merged. -/
import Derived.Test.YtgakoainjgjimaaGreatDoorM23
import Derived.Test.YtgakoainjgjimaaGreatDoorM22
import Derived.Test.YtgakoainjgjimaaGreatDoorM05
import Derived.Test.YtgakoainjgjimaaGreatDoorM04
import Derived.Test.YtgakoainjgjimaaGreatDoorM20
import Derived.Test.YtgakoainjgjimaaGreatDoorM03
import Derived.Test.YtgakoainjgjimaaGreatDoorM00
import Derived.Test.YtgakoainjgjimaaGreatDoorProg
import Derived.WalkKit
import Derived.Lib.Hide
import Derived.Deep.QuietTactic
import Derived.BigQuiet
import Derived.WalkSpells
import Derived.Lib.SliceRun
import Derived.MapKept
import Derived.Maps.OwnSet
import Derived.Maps.OwnOps
import Derived.Test.YtgakoainjgjimaaGreatDoorM02
import Derived.Test.YtgakoainjgjimaaGreatDoorM01
import Derived.Deep.AppendLies
import Derived.Lib.Bytealg
import Derived.Deep.DeepCutAuto
import Derived.Laws.EntriesVeiled
import Derived.Test.YtgakoainjgjimaaGreatDoorM21
import Derived.Test.YtgakoainjgjimaaGreatDoorM07
import Derived.Deep.RegionWith
import Derived.Deep.OwnRows
import Derived.Test.YtgakoainjgjimaaGreatDoorM06
import Derived.RangeFuncNested
import Derived.RangeFuncBound
import Derived.RangeFuncCalls
import Derived.RangeFuncLeaves
import Derived.OwnWalkIn
import Derived.TacticsInMore
import Derived.LoopNIn
import Derived.LoopIn
import Derived.Stop.RegionWithIn
import Derived.Shelf.Abstract
import Derived.Deep.LoopGhost
import Derived.Deep.DrawnRows
import Derived.Test.YtgakoainjgjimaaGreatDoorM08
import Derived.Shelf.Sort.Plain
import Derived.Shelf.Slices.CompactI
import Derived.Shelf.Slices.In.SortNone
import Derived.Shelf.Strconv.Itoa3
import Derived.Shelf.Strings.BuilderK
import Derived.Shelf.Slices.SearchI
import Derived.Shelf.Slices.Empties
import Derived.Test.YtgakoainjgjimaaGreatDoorM12
import Derived.Test.YtgakoainjgjimaaGreatDoorM11
import Derived.Test.YtgakoainjgjimaaGreatDoorM09
import Derived.Deep.AppendSrc
import Derived.Sort.QuietThIn
import Derived.Maps.RangeWalk
import Derived.Lib.SlicesCompact
import Derived.Sort.OwnSortedInts
import Derived.RangeFuncBox
import Derived.Maps.OwnIn
import Derived.Lib.RowBridge
import Derived.Test.YtgakoainjgjimaaGreatDoorM18

namespace Go.Proofs.YtgakoainjgjimaaGreatDoor
open Go.RowKit
def nowI (p : GP) (m : List Int) (ws : List WY) (k : Int) (i : Nat) : List WY := nowX p m (atomsY ws) k (leftX (m.take i) ws)
theorem nowX_app (p : GP) (m T : List Int) (k : Int) (a b : List Int) : nowX p m T k (a ++ b) = nowX p m T k a ++ nowX p m T k b := by simp [nowX]
theorem leftX_take {m : List Int} {ws : List WY} {i : Nat} (hi : i < m.length) : leftX (m.take (i + 1)) ws = leftX (m.take i) ws ++ if ix m i ∈ atomsY ws then [] else [ix m i] := by
  unfold leftX
  rw [List.take_succ_eq_append_getElem hi, List.filter_append]
  have e : m[i] = ix m i := by simp [ix, List.getD, hi]
  rw [e]
  by_cases h : ix m i ∈ atomsY ws
  · simp [h]
  · simp [h]
theorem nowI_zero (p : GP) (m : List Int) (ws : List WY) (k : Int) : nowI p m ws k 0 = [] := by simp [nowI, leftX, nowX]
theorem nowI_end (p : GP) (m : List Int) (ws : List WY) (k : Int) : nowI p m ws k m.length = nowX p m (atomsY ws) k (leftX m ws) := by unfold nowI; rw [List.take_length]
theorem nowI_old {p : GP} {m : List Int} {ws : List WY} {k : Int} {i : Nat} (hi : i < m.length) (h : ix m i ∈ atomsY ws) : nowI p m ws k (i + 1) = nowI p m ws k i := by
  unfold nowI
  rw [leftX_take hi, if_pos h, List.append_nil]
theorem nowI_new {p : GP} {m : List Int} {ws : List WY} {k : Int} {i n : Nat} (hi : i < m.length) (h : ix m i ∉ atomsY ws) (hf : firR p m (atomsY ws) (ix m i) = some n) : nowI p m ws k (i + 1) = nowI p m ws k i ++ [⟨ix m i, n, k⟩] := by
  unfold nowI
  rw [leftX_take hi, if_neg h, nowX_app]
  congr 1
  simp [nowX, hf]
theorem nowI_no {p : GP} {m : List Int} {ws : List WY} {k : Int} {i : Nat} (hi : i < m.length) (h : ix m i ∉ atomsY ws) (hf : firR p m (atomsY ws) (ix m i) = none) : nowI p m ws k (i + 1) = nowI p m ws k i := by
  unfold nowI
  rw [leftX_take hi, if_neg h, nowX_app]
  simp [nowX, hf]
theorem nowI_len (p : GP) (m : List Int) (ws : List WY) (k : Int) (i : Nat) : (nowI p m ws k i).length ≤ m.length := by
  unfold nowI nowX
  refine Nat.le_trans (List.length_filterMap_le _ _) ?_
  unfold leftX
  refine Nat.le_trans (List.length_filter_le _ _) ?_
  rw [List.length_take]; omega
theorem firR_at {p : GP} {m T : List Int} {a : Int} {n : Nat} (hn : n < p.rules.length) (hb : ∀ j, j < n → derT T m (ixR p.rules j) a = false) (ht : derT T m (ixR p.rules n) a = true) : firR p m T a = some n := by
  unfold firR
  rw [List.find?_range_eq_some]
  refine ⟨ht, List.mem_range.2 hn, fun j hj => ?_⟩
  rw [hb j hj]; rfl
theorem firR_no {p : GP} {m T : List Int} {a : Int} (hb : ∀ j, j < p.rules.length → derT T m (ixR p.rules j) a = false) : firR p m T a = none := by
  unfold firR
  rw [List.find?_eq_none]
  intro j hj
  rw [hb j (List.mem_range.1 hj)]; exact Bool.false_ne_true
theorem exrTo_len (p : GP) {m : List Int} (hm : m.Nodup) (k : Nat) : (exrTo p m k).length ≤ m.length := by
  have := sub_len (exrTo_nod p hm k) (fun x hx => by
    obtain ⟨y, hy, rfl⟩ := List.mem_map.1 hx
    exact exrTo_sub p m k y hy : ∀ x ∈ atomsY (exrTo p m k), x ∈ m)
  unfold atomsY at this
  rwa [List.length_map] at this
theorem derS_eq {m : List Int} {ws : List WY} (h : ∀ y ∈ ws, y.atom ∈ m) (r : GR) (a : Int) : derT (inM (atomsY ws) m) m r a = derT (atomsY ws) m r a :=
  derT_congr (inM_same fun x hx => by obtain ⟨y, hy, rfl⟩ := List.mem_map.1 hx; exact h y hy) r a
section
variable {w W W' : World} {n vn vs vr vm vw vq : Value} {WL : List WY} {RL : List Int}
theorem Ef.low (h : Ef w n vn vs vr vm vw vq WL RL W) : w.heap.size + 3 ≤ W.heap.size := by have := h.obx.lt; omega
theorem QRow.whyKept {B B' : Nat} {u : Value} {l : List Int} (h : QRow B W u l) (hr : MineY B' vw WL W) (hg : W.grownBy W' vw.ownBlock) : QRow B W' u l :=
  h.kept fun i _ hi2 hu => hg.block i hi2 fun e => by
    rcases hr.1.2 with ⟨rfl, _⟩ | ⟨g, cap, cur, rfl, _, hgg, _⟩
    · cases e
    · have : g = i := by simpa [Value.ownBlock] using e.symm
      subst this
      have hk : Blk W g cur.toList 49 := by unfold Blk; simpa using hgg
      exact h.far hk (by decide) hu
theorem Ef.pushW (h : Ef w n vn vs vr vm vw vq WL RL W) (hg : W.grownBy W' vw.ownBlock) {g c : Nat} {WL' : List WY} {k : Nat} (hm : MineY (w.heap.size + 3) (.slice (some ⟨g, 0, none⟩) k c) WL' W') :
    Ef w n vn vs vr vm (.slice (some ⟨g, 0, none⟩) k c) vq WL' RL (W'.setCell ⟨w.heap.size + 2, 0, none⟩ (.slice (some ⟨g, 0, none⟩) k c)) := by
  have hP : ∀ {b : Nat} {cs : List Value} {T : TypeId}, Blk W b cs T → T ≠ 49 → Blk W' b cs T := fun hb hT => hb.same (hg.block _ hb.lt fun e => h.whs.far hb hT e.symm)
  have ho := hP h.obx (by decide)
  refine ⟨(hP h.pbx (by decide)).setOther _ _ (by omega), (hP h.rbx (by decide)).setOther _ _ (by omega), ho.set 0 _, ?_, (h.rst.whyKept h.whs hg).setT41 ho (by decide) _ _, (h.below.grown hg h.below.size fun k e => by have := (h.whs.lt e).1; omega).setCell (by show w.heap.size ≤ w.heap.size + 2; omega) _⟩
  exact hm.same fun i h1 _ _ => Below.heap_setCell _ _ _ _ (by show i ≠ w.heap.size + 2; omega)
theorem Ef.pushI (h : Ef w n vn vs vr vm vw vq WL RL W) {B : Nat} {u : Value} {l : List Int} (hu : QRow B W u l) (hB : w.heap.size + 3 ≤ B) (hg : W.grownBy W' u.ownBlock) (hq : ∀ i, vq.ownBlock = some i → u.ownBlock ≠ some i) : Ef w n vn vs vr vm vw vq WL RL W' := by
  have hP : ∀ {b : Nat} {cs : List Value} {T : TypeId}, Blk W b cs T → T ≠ 3 → Blk W' b cs T := fun hb hT => hb.same (hg.block _ hb.lt fun e => hu.far hb hT e.symm)
  refine ⟨hP h.pbx (by decide), hP h.rbx (by decide), hP h.obx (by decide), h.whs.same fun i h1 h2 e => hg.block i h2 fun e2 => ?_, h.rst.kept fun i h1 h2 e => hg.block i h2 fun e2 => hq i e e2.symm, h.below.grown hg h.below.size fun k e => ?_⟩
  · rcases h.whs.1.2 with ⟨rfl, _⟩ | ⟨g, cap, cur, rfl, _, hgg, _⟩
    · cases e
    · have : g = i := by simpa [Value.ownBlock] using e
      subst this
      have hk : Blk W g cur.toList 49 := by unfold Blk; simpa using hgg
      exact hu.far hk (by decide) e2.symm
  · rcases hu.2 with ⟨rfl, _⟩ | ⟨g, off, cap, cur, rfl, hb, _⟩
    · cases e
    · have : g = k := by simpa [Value.ownBlock] using e
      omega
theorem QRow.lt41 {B : Nat} {v : Value} {l : List Int} (h : QRow B W v l) {i : Nat} (e : v.ownBlock = some i) : B ≤ i ∧ i < W.heap.size := by
  rcases h.2 with ⟨rfl, _⟩ | ⟨g, off, cap, cur, rfl, hb, hg, _⟩
  · cases e
  · have : g = i := by simpa [Value.ownBlock] using e
    subst this
    exact ⟨hb, (Array.getElem?_eq_some_iff.1 hg).1⟩
end
theorem wp_appendY1 {o : Oper} {a : Act} {w : World} {K : Act → World → Prop} {Q : Exit → Act → World → Prop} (s x : Operand)
    (ho : o.op = .call { callee := .builtin .append, args := #[s, x], argTypes := #[28, 28] }) (B g0 c : Nat) (v : Value) (L : List WY) (y : WY) (hs : a.eval s = v) (h : MineY B v L w) (hx : a.eval x = .slice (some ⟨g0, 0, none⟩) 1 c)
    (hy : Blk w g0 (cellsY y) 49) (hyi : YI y) (hlen : L.length + 1 ≤ 1000000000) (hbase : B ≤ w.heap.size)
    (hK : ∀ g cap w', MineY B (.slice (some ⟨g, 0, none⟩) (L.length + 1) cap) (L ++ [y]) w' → w.grownBy w' v.ownBlock → K (a.put o.dst (.slice (some ⟨g, 0, none⟩) (L.length + 1) cap)) w') : o.wp Tryz.prog a w K Q := by
  obtain ⟨i0, hi, hz0, hz1, hz2⟩ := info_parts infoY
  refine wp_append_own w s x _ ho B 49 i0 _ 3 24 Tryz.underlying28 hi hz0 hz1 hz2 rfl (by decide) _ L.length (L.flatMap cellsY) hs h.1 ⟨g0, 0, none⟩ 1 c (cellsY y) hx rfl (fun j u hu => ?_) (fun u hu => ?_) (by unfold maxLen; omega) (by omega) hbase (fun v' w' h1 h2 _ => ?_)
  · rw [Addr.add_lit, Nat.zero_add, hy.cell]; exact hu
  · simp only [cellsY, List.mem_cons, List.not_mem_nil, or_false] at hu
    rcases hu with rfl | rfl | rfl <;> rfl
  · have hne : ∃ g2 cap2, v' = .slice (some ⟨g2, 0, none⟩) (L.length + 1) cap2 := by
      rcases h1.2 with ⟨-, h0⟩ | ⟨g2, cap2, cur2, rfl, _⟩
      · omega
      · exact ⟨g2, cap2, rfl⟩
    obtain ⟨g2, cap2, rfl⟩ := hne
    refine hK g2 cap2 w' ⟨by simpa using h1, fun q hq => ?_⟩ h2
    rcases List.mem_append.1 hq with hq | hq
    · exact h.2 q hq
    · rw [List.mem_singleton.1 hq]; exact hyi
def egΦ (y : WY) (_ : Nat) (_ : List Value) (v : Value) (lo hi : Nat) (w : World) : Prop := v = .slice (some ⟨lo, 0, none⟩) 1 1 ∧ lo < hi ∧ Blk w lo (cellsY y) 49
theorem egΦ_later (y : WY) : ∀ i args v lo hi w w', egΦ y i args v lo hi w → Below w.heap.size w w' → egΦ y i args v lo hi w' := fun _ _ _ _ _ _ _ h hb => ⟨h.1, h.2.1, h.2.2.below hb⟩
def egI (x : Int) (_ : Nat) (_ : List Value) (v : Value) (lo hi : Nat) (w : World) : Prop := v = .slice (some ⟨lo, 0, none⟩) 1 1 ∧ lo < hi ∧ Blk w lo [.int .i64 x] 3
theorem egI_later (x : Int) : ∀ i args v lo hi w w', egI x i args v lo hi w → Below w.heap.size w w' → egI x i args v lo hi w' := fun _ _ _ _ _ _ _ h hb => ⟨h.1, h.2.1, h.2.2.below hb⟩
def chkD (p : GP) (m : List Int) (x : XP) (i : Nat) : Bool := derT (inM (lowY x.whys (ixY x.whys i).level) m) m (ixR p.rules (ixY x.whys i).rule.toNat) (ixY x.whys i).atom
def chkO (x : XP) (i : Nat) : Bool := i == 0 || !(decide ((ixY x.whys i).level < (ixY x.whys (i - 1)).level) || (decide ((ixY x.whys (i - 1)).level = (ixY x.whys i).level) && decide ((ixY x.whys i).atom ≤ (ixY x.whys (i - 1)).atom)))
def chkU (x : XP) (i : Nat) : Bool := allR x.whys.length (fun k => k == i || !decide ((ixY x.whys k).atom = (ixY x.whys i).atom))
def chkAt2 (p : GP) (m : List Int) (x : XP) (i : Nat) : Bool :=
  decide ((ixY x.whys i).atom ∈ m) && (!decide ((ixY x.whys i).atom ∈ x.rest) && (decide (1 ≤ (ixY x.whys i).level) && (decide (0 ≤ (ixY x.whys i).rule) && (decide ((ixY x.whys i).rule < p.rules.length) && (chkO x i && (chkU x i && chkD p m x i))))))
def chkR2 (p : GP) (m : List Int) (x : XP) : Bool :=
  setQ p.n x.rest && (decide (x.whys.length + x.rest.length = m.length) && (allR x.rest.length (fun i => decide (ix x.rest i ∈ m)) && allR x.whys.length (chkAt2 p m x)))
theorem chkR2_eq (p : GP) (m : List Int) (x : XP) : chkR2 p m x = chkR p m x := by
  unfold chkR2 chkR
  have key : allR x.whys.length (chkAt2 p m x) = allR x.whys.length (chkAt p m x) := by
    by_cases hall : ∀ i, i < x.whys.length → (ixY x.whys i).atom ∈ m
    · refine Bool.eq_iff_iff.2 ⟨fun h => allR_true fun i hi => ?_, fun h => allR_true fun i hi => ?_⟩
      all_goals
        have h1 := allR_get h i hi
        have e : chkD p m x i = derT (lowY x.whys (ixY x.whys i).level) m (ixR p.rules (ixY x.whys i).rule.toNat) (ixY x.whys i).atom := derT_congr (inM_same fun z hz => by
          unfold lowY at hz
          obtain ⟨y, hy, rfl⟩ := List.mem_map.1 hz
          obtain ⟨k, hk, e⟩ := mem_ixY (List.mem_filter.1 hy).1
          rw [← e]; exact hall k hk) _ _
        unfold chkAt2 chkO chkU at *
        unfold chkAt at *
        first
          | (rw [e] at h1; exact h1)
          | (rw [e]; exact h1)
    · obtain ⟨i, hi⟩ := Classical.not_forall.1 hall
      obtain ⟨hi, hn⟩ := Classical.not_imp.1 hi
      rw [allR_false i hi (by unfold chkAt2; rw [decide_eq_false hn]; rfl), allR_false i hi (by unfold chkAt; rw [decide_eq_false hn]; rfl)]
  rw [key]
theorem lowY_take {ws : List WY} {lv : Int} {t : Nat} (ht : t < ws.length) : lowY (ws.take (t + 1)) lv = lowY (ws.take t) lv ++ if (ixY ws t).level < lv then [(ixY ws t).atom] else [] := by
  unfold lowY
  rw [List.take_succ_eq_append_getElem ht, List.filter_append, ← ixY_get ht]
  by_cases h : (ixY ws t).level < lv
  · simp [h, atomsY]
  · simp [h, atomsY]
theorem lowY_len (ws : List WY) (lv : Int) : (lowY ws lv).length ≤ ws.length := by
  unfold lowY atomsY
  rw [List.length_map]; exact List.length_filter_le _ _
def Ec1 (RL m : List Int) (W0 : World) (i : Value) (W : World) : Prop := ∃ t : Nat, t ≤ RL.length ∧ i = .int .i64 t ∧ (∀ j, j < t → decide (ix RL j ∈ m) = true) ∧ Below W0.heap.size W0 W
def Ec2 (p : GP) (m : List Int) (x : XP) (W0 : World) (i : Value) (W : World) : Prop := ∃ t : Nat, t ≤ x.whys.length ∧ i = .int .i64 t ∧ (∀ j, j < t → chkAt2 p m x j = true) ∧ Below W0.heap.size W0 W
def Ec3 (x : XP) (i : Nat) (y : WY) (W0 : World) (s k : Value) (W : World) : Prop := ∃ t : Nat, t ≤ x.whys.length ∧ k = .int .i64 t ∧ (∀ j, j < t → (j == i || !decide ((ixY x.whys j).atom = y.atom)) = true) ∧ QRow W0.heap.size W s (lowY (x.whys.take t) y.level) ∧ Below W0.heap.size W0 W
set_option maxHeartbeats 16000000 in
set_option maxRecDepth 100000 in
theorem rcheck41_any (v vset vx : Value) (p : GP) (m : List Int) (x : XP) (w : World) (h : ProgIs w v p) (hm : Ints w vset m) (hx : ExplIs w vx x) (hv : validE p = 0) (hwl : x.whys.length ≤ 100) (hrl : x.rest.length ≤ 100) (_hml : m.length ≤ 100) :
    Calls Tryz.prog 17 #[v, vset, vx] w fun e w' => e = .returned (.bool (chkR2 p m x)) ∧ Below w.heap.size w w' := by
  obtain ⟨vn, vs, vr, vm, rfl, hps⟩ := h
  obtain ⟨vw, vq, rfl, hwh, hrs⟩ := hx
  have hpn := hps.n
  unfold InI at hpn
  obtain ⟨aR, c1, rfl, -, hl1, -, hcr⟩ := hps.rules.form
  obtain ⟨am, cm, rfl, -⟩ := id hm.form
  obtain ⟨aw, cw, rfl, -⟩ := id hwh.form
  obtain ⟨aq, cq, rfl, -⟩ := id hrs.form
  have hal := bal (bal (Below.refl w.heap.size w) (.cells #[.int .i64 p.n, vn, vs, .slice aR p.rules.length c1, vm] 27)) (.cells #[.slice aw x.whys.length cw, .slice aq x.rest.length cq] 30)
  have HE0 : Hid (Ec w (.int .i64 p.n) vn vs (.slice aR p.rules.length c1) vm (.slice aw x.whys.length cw) (.slice aq x.rest.length cq) x.whys x.rest m (.slice am m.length cm) ((w.alloc (.cells #[.int .i64 p.n, vn, vs, .slice aR p.rules.length c1, vm] 27)).alloc (.cells #[.slice aw x.whys.length cw, .slice aq x.rest.length cq] 30))) := Lib.hid
    ⟨(Blk.new w _ _).alloc _, Blk.new2 w _ [.slice aw x.whys.length cw, .slice aq x.rest.length cq] _, hwh.below hal, hrs.below hal, hm.below hal, hal⟩
  have HCR := Lib.hid hcr
  have HDV : Hid (∀ j, j < p.rules.length → DvOk (ixR p.rules j)) := Lib.hid fun j hj => dvOk_valid hv hj
  have HWI : Hid (∀ i, i < x.whys.length → InI (ixY x.whys i).atom ∧ InI (ixY x.whys i).rule ∧ InI (ixY x.whys i).level) := Lib.hid fun i hi => hwh.2 _ (ixY_mem0 hi)
  have hrl0 := (validP hv).rules
  have HR2 : Hid (chkR2 p m x = (setQ p.n x.rest && (decide (x.whys.length + x.rest.length = m.length) && (allR x.rest.length (fun i => decide (ix x.rest i ∈ m)) && allR x.whys.length (chkAt2 p m x))))) := Lib.hid rfl
  clear hps hm hcr hal hwh hrs hv
  go_enter Tryz.func17, Tryz.ntmps17
  go_upto_region 1 with fail
  generalize (w.alloc (.cells #[.int .i64 p.n, vn, vs, .slice aR p.rules.length c1, vm] 27)).alloc (.cells #[.slice aw x.whys.length cw, .slice aq x.rest.length cq] 30) = W0 at *
  have kp0 := HE0.out.pbx.cell
  have ko0 := HE0.out.obx.cell
  cases hsq : setQ p.n x.rest with
  | false =>
    have HSQ := Lib.hid hsq
    have HZ : Hid (chkR2 p m x = false) := Lib.hid (by rw [HR2.out, hsq]; rfl)
    clear hsq
    go_wp2_with (go_at_call 55; (with_reducible refine (atoms_ref _ x.rest p.n W0 HE0.out.rst).mono ?_); rintro e w1 ⟨e1, hb1⟩; rw [inc_set, HSQ.out] at e1; subst e1; have HE9 := Lib.hid (HE0.out.on hb1); have ko1 := HE9.out.obx.cell)
    go_ret
    exact ⟨ret_bool HZ.out.symm, HE9.out.below⟩
  | true =>
    have HSQ := Lib.hid hsq
    rw [hsq, Bool.true_and] at HR2
    clear hsq
    by_cases hln : x.whys.length + x.rest.length = m.length
    case neg =>
      have HZ : Hid (chkR2 p m x = false) := Lib.hid (by rw [HR2.out, decide_eq_false hln]; rfl)
      have hlb : ((x.whys.length : Int) + (x.rest.length : Int) != (m.length : Int)) = true := by simp only [bne_iff_ne, ne_eq]; omega
      clear hln
      go_wp2_with (go_at_call 55; (with_reducible refine (atoms_ref _ x.rest p.n W0 HE0.out.rst).mono ?_); rintro e w1 ⟨e1, hb1⟩; rw [inc_set, HSQ.out] at e1; subst e1; have HE9 := Lib.hid (HE0.out.on hb1); have ko1 := HE9.out.obx.cell; clear hb1)
      go_ret
      exact ⟨ret_bool HZ.out.symm, HE9.out.below⟩
    rw [decide_eq_true hln, Bool.true_and] at HR2
    have hlb : ((x.whys.length : Int) + (x.rest.length : Int) != (m.length : Int)) = false := by simp only [bne_eq_false_iff_eq]; omega
    clear hln
    go_wp2_with (go_at_call 55; (with_reducible refine (atoms_ref _ x.rest p.n W0 HE0.out.rst).mono ?_); rintro e w1 ⟨e1, hb1⟩; rw [inc_set, HSQ.out] at e1; subst e1; have HE1 := Lib.hid (HE0.out.on hb1); have ko1 := HE1.out.obx.cell; clear hb1)
    clear kp0 ko0 ko1 hlb
    go_loopw [7] (fun i wx => Ec1 x.rest m w1 i wx) (fun i _ => x.rest.length - (intOf i).toNat)
    case atStart => exact ⟨0, Nat.zero_le _, rfl, fun j hj => absurd hj (Nat.not_lt_zero _), Below.refl _ _⟩
    case round =>
      obtain ⟨t, ht, rfl, hall, hb⟩ := hrel
      have HA := Lib.hid hall
      have HE2 := Lib.hid (HE1.out.on hb)
      have HBB := Lib.hid hb
      have ko2 := HE2.out.obx.cell
      clear hall
      by_cases hlt : t < x.rest.length
      · obtain ⟨bq, oq, rfl, hbq, hcq⟩ := HE2.out.rst.at hlt
        cases hin : decide (ix x.rest t ∈ m) with
        | true =>
          have HIN := Lib.hid hin
          have HN : Hid (∀ j, j < t + 1 → decide (ix x.rest j ∈ m) = true) := Lib.hid fun j hj => by
            rcases Nat.lt_succ_iff_lt_or_eq.1 hj with h1 | rfl
            · exact HA.out j h1
            · exact hin
          clear hin hb
          go_wp2_with (go_at_call 53; (with_reducible refine (in17_call HIN.out HE2.out.set).mono ?_); rintro e w2 ⟨rfl, rfl⟩)
          first
            | (go_roundw
               case rel => (exact ⟨t + 1, hlt, by go_num, HN.out, HBB.out⟩)
               case measure => (simp [intOf]; omega))
            | (refine ⟨?_, ?_⟩
               · (exact ⟨t + 1, hlt, by go_num, HN.out, HBB.out⟩)
               · (simp [intOf]; omega))
        | false =>
          have HIN := Lib.hid hin
          have HZ : Hid (chkR2 p m x = false) := Lib.hid (by rw [HR2.out, allR_false t hlt hin]; rfl)
          clear hin hb
          go_wp2_with (go_at_call 53; (with_reducible refine (in17_call HIN.out HE2.out.set).mono ?_); rintro e w2 ⟨rfl, rfl⟩)
          go_ret
          exact ⟨ret_bool HZ.out.symm, HE2.out.below⟩
      · obtain rfl : t = x.rest.length := by omega
        rw [allR_true HA.out, Bool.true_and] at HR2
        clear HA hb ht hlt
        obtain ⟨w2, rfl⟩ : ∃ q : World, q = wr := ⟨_, rfl⟩
        go_wp2
        go_loopw [8] (fun i wx => Ec2 p m x w2 i wx) (fun i _ => x.whys.length - (intOf i).toNat)
        case atStart => exact ⟨0, Nat.zero_le _, rfl, fun j hj => absurd hj (Nat.not_lt_zero _), Below.refl _ _⟩
        case round =>
          obtain ⟨i, hi, rfl, hall, hb⟩ := hrel
          have HA := Lib.hid hall
          have HE3 := Lib.hid (HE2.out.on hb)
          have HB3 := Lib.hid hb
          have ko3 := HE3.out.obx.cell
          clear hall ko2
          by_cases hlt : i < x.whys.length
          · obtain ⟨a6, c6, e6, -, -, -, hcY⟩ := HE3.out.whs.form
            simp only [Value.slice.injEq] at e6
            obtain ⟨rfl, -, rfl⟩ := e6
            obtain ⟨bw, ow, rfl, hbw, hcw⟩ := hcY (by omega)
            have HCW := Lib.hid hcw
            obtain ⟨k0, k1, k2⟩ := hcw i hlt
            obtain ⟨yI1, yI2, yI3⟩ := HWI.out i hlt
            have HYI : Hid (InI (ixY x.whys i).atom ∧ InI (ixY x.whys i).level) := Lib.hid ⟨yI1, yI3⟩
            have HC : Hid (chkAt2 p m x i = (decide ((ixY x.whys i).atom ∈ m) && (!decide ((ixY x.whys i).atom ∈ x.rest) && (decide (1 ≤ (ixY x.whys i).level) && (decide (0 ≤ (ixY x.whys i).rule) && (decide ((ixY x.whys i).rule < p.rules.length) && (chkO x i && (chkU x i && chkD p m x i)))))))) := Lib.hid rfl
            have HZF : Hid (chkAt2 p m x i = false → chkR2 p m x = false) := Lib.hid fun h => by rw [HR2.out, allR_false i hlt h]
            have HOD : Hid (chkO x i = (i == 0 || !(decide ((ixY x.whys i).level < (ixY x.whys (i - 1)).level) || (decide ((ixY x.whys (i - 1)).level = (ixY x.whys i).level) && decide ((ixY x.whys i).atom ≤ (ixY x.whys (i - 1)).atom))))) := Lib.hid rfl
            have HUD : Hid (chkU x i = allR x.whys.length (fun k => k == i || !decide ((ixY x.whys k).atom = (ixY x.whys i).atom))) := Lib.hid rfl
            have HDD : Hid (chkD p m x i = derT (inM (lowY x.whys (ixY x.whys i).level) m) m (ixR p.rules (ixY x.whys i).rule.toNat) (ixY x.whys i).atom) := Lib.hid rfl
            clear hcY hcw hb yI1 yI3
            unfold InI at yI2
            generalize ixY x.whys i = y at *
            go_upto_region 12 with fail
            have hal := bal (Below.refl wr.heap.size wr) (.cells #[.int .i64 y.atom, .int .i64 y.rule, .int .i64 y.level] 49)
            have HYB := Lib.hid (Blk.new wr [.int .i64 y.atom, .int .i64 y.rule, .int .i64 y.level] 49)
            have HE4 := Lib.hid (HE3.out.on hal)
            have HB4 := Lib.hid (bon HB3.out hal)
            have HCW4 : Hid (∀ j, j < x.whys.length → WhyCells (wr.alloc (.cells #[.int .i64 y.atom, .int .i64 y.rule, .int .i64 y.level] 49)) bw (ow + j * 3) (ixY x.whys j)) := Lib.hid fun j hj => (HCW.out j hj).below hal hbw
            have hbw4 : bw < (wr.alloc (.cells #[.int .i64 y.atom, .int .i64 y.rule, .int .i64 y.level] 49)).heap.size := by simp; omega
            have ky4 := HYB.out.cell
            have kp4 := HE4.out.pbx.cell
            have ko4 := HE4.out.obx.cell
            clear hal k0 k1 k2 ko3 hbw
            generalize wr.alloc (.cells #[.int .i64 y.atom, .int .i64 y.rule, .int .i64 y.level] 49) = W4 at *
            generalize wr.heap.size = yb at *
            have HE9 := HE4
            cases h1 : decide (y.atom ∈ m) with
            | false =>
              have H1 := Lib.hid h1
              have HZ := Lib.hid (HZF.out (by rw [HC.out, h1]; rfl))
              clear h1
              go_wp2_with (go_at_call 53; (with_reducible refine (in17_call H1.out HE4.out.set).mono ?_); rintro e w5 ⟨rfl, rfl⟩)
              go_ret
              exact ⟨ret_bool HZ.out.symm, HE9.out.below⟩
            | true =>
              have H1 := Lib.hid h1
              rw [h1, Bool.true_and] at HC
              clear h1
              cases h2 : decide (y.atom ∈ x.rest) with
              | true =>
                have H2 := Lib.hid h2
                have HZ := Lib.hid (HZF.out (by rw [HC.out, h2]; rfl))
                clear h2
                go_wp2_with (first | (go_at_call 53; (with_reducible refine (in17_call H1.out HE4.out.set).mono ?_); rintro e w5 ⟨rfl, rfl⟩) | (go_at_call 53; (with_reducible refine (in17_call H2.out HE4.out.rst).mono ?_); rintro e w5 ⟨rfl, rfl⟩))
                go_ret
                exact ⟨ret_bool HZ.out.symm, HE9.out.below⟩
              | false =>
                have H2 := Lib.hid h2
                rw [h2, Bool.not_false, Bool.true_and] at HC
                clear h2
                by_cases h3 : 1 ≤ y.level ∧ 0 ≤ y.rule ∧ y.rule < p.rules.length
                case neg =>
                  have HZ := Lib.hid (HZF.out (by
                    rw [HC.out]
                    by_cases g1 : 1 ≤ y.level
                    · by_cases g2 : 0 ≤ y.rule
                      · rw [decide_eq_false (show ¬ y.rule < p.rules.length from fun g3 => h3 ⟨g1, g2, g3⟩)]; simp
                      · rw [decide_eq_false g2]; simp
                    · rw [decide_eq_false g1]; rfl))
                  by_cases g1 : y.level < 1
                  · go_wp2_with (first | (go_at_call 53; (with_reducible refine (in17_call H1.out HE4.out.set).mono ?_); rintro e w5 ⟨rfl, rfl⟩) | (go_at_call 53; (with_reducible refine (in17_call H2.out HE4.out.rst).mono ?_); rintro e w5 ⟨rfl, rfl⟩))
                    go_ret
                    exact ⟨ret_bool HZ.out.symm, HE9.out.below⟩
                  · by_cases g2 : y.rule < 0
                    · go_wp2_with (first | (go_at_call 53; (with_reducible refine (in17_call H1.out HE4.out.set).mono ?_); rintro e w5 ⟨rfl, rfl⟩) | (go_at_call 53; (with_reducible refine (in17_call H2.out HE4.out.rst).mono ?_); rintro e w5 ⟨rfl, rfl⟩))
                      go_ret
                      exact ⟨ret_bool HZ.out.symm, HE9.out.below⟩
                    · have g3 : (p.rules.length : Int) ≤ y.rule := by omega
                      go_wp2_with (first | (go_at_call 53; (with_reducible refine (in17_call H1.out HE4.out.set).mono ?_); rintro e w5 ⟨rfl, rfl⟩) | (go_at_call 53; (with_reducible refine (in17_call H2.out HE4.out.rst).mono ?_); rintro e w5 ⟨rfl, rfl⟩))
                      go_ret
                      exact ⟨ret_bool HZ.out.symm, HE9.out.below⟩
                obtain ⟨h3, h4, h5⟩ := h3
                rw [decide_eq_true h3, decide_eq_true h4, decide_eq_true h5, Bool.true_and, Bool.true_and, Bool.true_and] at HC
                go_upto_region 14 with (first | (go_at_call 53; (with_reducible refine (in17_call H1.out HE4.out.set).mono ?_); rintro e w5 ⟨rfl, rfl⟩) | (go_at_call 53; (with_reducible refine (in17_call H2.out HE4.out.rst).mono ?_); rintro e w5 ⟨rfl, rfl⟩))
                clear HE9
                have hyl := HYB.out.lt
                have hpl := HE4.out.pbx.lt
                have hol := HE4.out.obx.lt
                have so : ∀ e : Ext W4, ∀ o, e.world.cell? ⟨w.heap.size + 1, o, none⟩ = _ := fun e o => (bcell e.below _ o hol).trans (ko4 o)
                have sy : ∀ e : Ext W4, ∀ o, e.world.cell? ⟨yb, o, none⟩ = _ := fun e o => (bcell e.below _ o hyl).trans (ky4 o)
                go_cut [124] (fun s wx => (∃ b, s = .bool b ∧ chkO x i = !b) ∧ Below W4.heap.size W4 wx)
                case first =>
                  by_cases hi0 : i = 0
                  · subst hi0
                    have HO : Hid (chkO x 0 = true) := Lib.hid (by rw [HOD.out]; rfl)
                    refine wp_region_ext (by kernel_rfl) (by kernel_rfl) ?_
                    repeat (go_big_quiet_step (fail))
                    refine wpQuiet_nil ?_
                    intro w9 hw'
                    obtain ⟨e9, he9⟩ := hw'
                    have hb9 := e9.below
                    rw [← he9] at hb9
                    clear he9 e9
                    try dsimp only
                    go_wp2_with fail
                    go_meet
                    case rel => exact ⟨⟨_, rfl, by simp [HO.out]⟩, hb9⟩
                  · obtain ⟨q, rfl⟩ : ∃ q, i = q + 1 := ⟨i - 1, by omega⟩
                    have hgt : decide ((0 : Int) < ((q + 1 : Nat) : Int)) = true := decide_eq_true (by omega)
                    have hgt2 : decide ((0 : Int) < (q : Int) + 1) = true := decide_eq_true (by omega)
                    obtain ⟨j0, j1, j2⟩ := HCW4.out q (by omega)
                    have sq0 : ∀ e : Ext W4, _ := fun e => (bcell e.below bw _ hbw4).trans j0
                    have sq2 : ∀ e : Ext W4, _ := fun e => (bcell e.below bw _ hbw4).trans j2
                    have HO : Hid (chkO x (q + 1) = !(decide (y.level < (ixY x.whys q).level) || (decide ((ixY x.whys q).level = y.level) && decide (y.atom ≤ (ixY x.whys q).atom)))) := Lib.hid (by rw [HOD.out]; rfl)
                    clear j0 j1 j2 hi0
                    generalize ixY x.whys q = z at *
                    by_cases d1 : y.level < z.level
                    · have d1b := decide_eq_true d1
                      rw [d1b] at HO
                      refine wp_region_ext (by kernel_rfl) (by kernel_rfl) ?_
                      repeat (go_big_quiet_step (fail))
                      refine wpQuiet_nil ?_
                      intro w9 hw'
                      obtain ⟨e9, he9⟩ := hw'
                      have hb9 := e9.below
                      rw [← he9] at hb9
                      clear he9 e9
                      try dsimp only
                      go_wp2_with fail
                      go_meet
                      case rel => exact ⟨⟨_, rfl, by simp [HO.out]⟩, hb9⟩
                    · have d1b := decide_eq_false d1
                      rw [d1b] at HO
                      by_cases d2 : z.level = y.level
                      · have d2b : (z.level == y.level) = true := by simp [d2]
                        rw [decide_eq_true d2] at HO
                        by_cases d3 : y.atom ≤ z.atom
                        · have d3b := decide_eq_true d3
                          rw [d3b] at HO
                          clear d2
                          refine wp_region_ext (by kernel_rfl) (by kernel_rfl) ?_
                          repeat (go_big_quiet_step (fail))
                          refine wpQuiet_nil ?_
                          intro w9 hw'
                          obtain ⟨e9, he9⟩ := hw'
                          have hb9 := e9.below
                          rw [← he9] at hb9
                          clear he9 e9
                          try dsimp only
                          go_wp2_with fail
                          go_meet
                          case rel => exact ⟨⟨_, rfl, by simp [HO.out]⟩, hb9⟩
                        · have d3b := decide_eq_false d3
                          rw [d3b] at HO
                          clear d2
                          refine wp_region_ext (by kernel_rfl) (by kernel_rfl) ?_
                          repeat (go_big_quiet_step (fail))
                          refine wpQuiet_nil ?_
                          intro w9 hw'
                          obtain ⟨e9, he9⟩ := hw'
                          have hb9 := e9.below
                          rw [← he9] at hb9
                          clear he9 e9
                          try dsimp only
                          go_wp2_with fail
                          go_meet
                          case rel => exact ⟨⟨_, rfl, by simp [HO.out]⟩, hb9⟩
                      · have d2b : (z.level == y.level) = false := by simp [d2]
                        rw [decide_eq_false d2] at HO
                        clear d2
                        refine wp_region_ext (by kernel_rfl) (by kernel_rfl) ?_
                        repeat (go_big_quiet_step (fail))
                        refine wpQuiet_nil ?_
                        intro w9 hw'
                        obtain ⟨e9, he9⟩ := hw'
                        have hb9 := e9.below
                        rw [← he9] at hb9
                        clear he9 e9
                        try dsimp only
                        go_wp2_with fail
                        go_meet
                        case rel => exact ⟨⟨_, rfl, by simp [HO.out]⟩, hb9⟩
                case rest =>
                  obtain ⟨⟨bo, rfl, hbo⟩, hbc⟩ := hcut
                  have HBO := Lib.hid hbo
                  clear hbo
                  have HE5 := Lib.hid (HE4.out.on hbc)
                  have HB5 := Lib.hid (bon HB4.out hbc)
                  have HYB5 := Lib.hid (HYB.out.below hbc)
                  have HCW5 : Hid (∀ j, j < x.whys.length → WhyCells wc bw (ow + j * 3) (ixY x.whys j)) := Lib.hid fun j hj => (HCW4.out j hj).below hbc hbw4
                  have hbw5 : bw < wc.heap.size := by have := hbc.size; omega
                  clear so sy hbc kp4 ko4 ky4
                  have HE9 := HE5
                  cases bo with
                  | true =>
                    have HZ := Lib.hid (HZF.out (by rw [HC.out, HBO.out]; rfl))
                    go_wp2_with fail
                    go_ret
                    exact ⟨ret_bool HZ.out.symm, HE9.out.below⟩
                  | false =>
                    rw [HBO.out, Bool.not_false, Bool.true_and] at HC
                    clear HE9
                    go_wp2_with fail
                    go_loopw [10, 11] (fun s k wx => Ec3 x i y wc s k wx) (fun _ k _ => x.whys.length - (intOf k).toNat)
                    case atStart => exact ⟨0, Nat.zero_le _, rfl, fun j hj => absurd hj (Nat.not_lt_zero _), .nil _ _, Below.refl _ _⟩
                    case round =>
                      obtain ⟨t, ht, rfl, hall, hq, hb⟩ := hrel
                      obtain ⟨a8, c8, rfl⟩ := hq.slen
                      have HA3 := Lib.hid hall
                      have HE6 := Lib.hid (HE5.out.on hb)
                      have HB6 := Lib.hid hb
                      have HQ6 := Lib.hid hq
                      have HYB6 := Lib.hid (HYB5.out.below hb)
                      have ko6 := HE6.out.obx.cell
                      have ky6 := HYB6.out.cell
                      have hol6 := HE6.out.obx.lt
                      have hyl6 := HYB6.out.lt
                      have hlw : (lowY (x.whys.take t) y.level).length ≤ 100 := Nat.le_trans (lowY_len _ _) (by rw [List.length_take]; omega)
                      clear hall hq
                      by_cases hlt3 : t < x.whys.length
                      · obtain ⟨j0, j1, j2⟩ := (HCW5.out t hlt3).below hb hbw5
                        have hbw6 : bw < wr.heap.size := by have := hb.size; omega
                        have HTK := Lib.hid (lowY_take (lv := y.level) hlt3)
                        have HUF : Hid ((t == i || !decide ((ixY x.whys t).atom = y.atom)) = false → chkU x i = false) := Lib.hid fun h => by rw [HUD.out]; exact allR_false t hlt3 h
                        have HZI : Hid (InI (ixY x.whys t).atom) := Lib.hid (HWI.out t hlt3).1
                        obtain ⟨z, hze⟩ : ∃ z, ixY x.whys t = z := ⟨_, rfl⟩
                        rw [hze] at j0 j1 j2 HTK HUF HZI
                        obtain ⟨LS, hLS⟩ : ∃ LS, lowY (x.whys.take t) y.level = LS := ⟨_, rfl⟩
                        rw [hLS] at HQ6 HTK hlw
                        rw [hLS]
                        have so6 : ∀ e : Ext wr, ∀ o, e.world.cell? ⟨w.heap.size + 1, o, none⟩ = _ := fun e o => (bcell e.below _ o hol6).trans (ko6 o)
                        have sy6 : ∀ e : Ext wr, ∀ o, e.world.cell? ⟨yb, o, none⟩ = _ := fun e o => (bcell e.below _ o hyl6).trans (ky6 o)
                        have sz0 : ∀ e : Ext wr, _ := fun e => (bcell e.below bw _ hbw6).trans j0
                        have sz2 : ∀ e : Ext wr, _ := fun e => (bcell e.below bw _ hbw6).trans j2
                        clear hLS hb
                        by_cases hk : t = i
                        · have hkb : ((t : Int) != (i : Int)) = false := by simp [hk]
                          have HN3 : Hid (∀ j, j < t + 1 → (j == i || !decide ((ixY x.whys j).atom = y.atom)) = true) := Lib.hid fun j hj => by
                            rcases Nat.lt_succ_iff_lt_or_eq.1 hj with h1 | rfl
                            · exact HA3.out j h1
                            · simp [hk]
                          clear hk
                          go_upto_region 20 with fail
                          refine wp_region_ext (by kernel_rfl) (by kernel_rfl) ?_
                          repeat (go_big_quiet_step (fail))
                          refine wpQuiet_nil ?_
                          intro w9 hw'
                          obtain ⟨e9, he9⟩ := hw'
                          have hb9 := e9.below
                          rw [← he9] at hb9
                          clear he9 e9
                          try dsimp only
                          have HE7 := Lib.hid (HE6.out.on hb9)
                          have HB7 := Lib.hid (bon HB6.out hb9)
                          have HQ7 := Lib.hid (HQ6.out.below hb9)
                          have HYB7 := Lib.hid (HYB6.out.below hb9)
                          have hb7 := HB7.out.size
                          obtain ⟨j0', j1', j2'⟩ := (HCW5.out t hlt3).below HB7.out hbw5
                          rw [hze] at j0' j2'
                          have ko7 := HE7.out.obx.cell
                          have ky7 := HYB7.out.cell
                          have hol7 := HE7.out.obx.lt
                          have hyl7 := HYB7.out.lt
                          have hbw7 : bw < w9.heap.size := by omega
                          have so7 : ∀ e : Ext w9, ∀ o, e.world.cell? ⟨w.heap.size + 1, o, none⟩ = _ := fun e o => (bcell e.below _ o hol7).trans (ko7 o)
                          have sy7 : ∀ e : Ext w9, ∀ o, e.world.cell? ⟨yb, o, none⟩ = _ := fun e o => (bcell e.below _ o hyl7).trans (ky7 o)
                          have sz7 : ∀ e : Ext w9, _ := fun e => (bcell e.below bw _ hbw7).trans j2'
                          clear so6 sy6 sz0 sz2 hb9 j0 j1 j2
                          by_cases hlv : z.level < y.level
                          · have hlvb := decide_eq_true hlv
                            rw [if_pos hlv] at HTK
                            clear hlv
                            go_upto_region 22 with fail
                            obtain ⟨w7, rfl⟩ : ∃ q : World, q = w9 := ⟨_, rfl⟩
                            refine wp_region_ext (by kernel_rfl) (by kernel_rfl) ?_
                            repeat (go_big_quiet_step (fail))
                            refine wpQuiet_nil ?_
                            intro w9 hw'
                            obtain ⟨e9, he9⟩ := hw'
                            have hb9 := e9.below
                            rw [← he9] at hb9
                            clear he9 e9
                            try dsimp only
                            have HE8 := Lib.hid (HE7.out.on hb9)
                            have HB8 := Lib.hid (bon HB7.out hb9)
                            have HQ8 := Lib.hid (HQ7.out.below hb9)
                            obtain ⟨m0, m1, m2⟩ := (HCW5.out t hlt3).below HB8.out hbw5
                            rw [hze] at m0
                            have ko8 := HE8.out.obx.cell
                            have hb8 := HB8.out.size
                            clear so7 sy7 sz7 hb9 ko7 ky7 j0' j1' j2'
                            go_wp2_with (at_builtin; refine wpList_appendQ rfl _ _ 23 Tryz.underlying23 rfl wc.heap.size (.slice a8 LS.length c8) LS z.atom rfl (HQ8.out.below (bal (Below.refl _ _) _)) w9.heap.size 1 rfl (Blk.new w9 [.int .i64 z.atom] _) HZI.out (by omega) (by simp; omega) ?_; intro v10 w10 hq10 hg10 hn10; obtain ⟨a10, c10, e10⟩ := hq10.slen; subst e10; rw [show (LS ++ [z.atom]).length = LS.length + 1 by simp] at hq10; have HQ10 := Lib.hid hq10; have HB10 : Hid (Below wc.heap.size wc w10) := Lib.hid ((bal HB8.out _).grown hg10 (by simp; omega) fun k e => (HQ8.out.lt41 e).1); clear hq10 hg10 hn10)
                            first
                              | (go_roundw
                                 case rel => (exact ⟨t + 1, hlt3, by go_num, HN3.out, by rw [HTK.out]; exact HQ10.out, HB10.out⟩)
                                 case measure => (simp [intOf]; omega))
                              | (refine ⟨?_, ?_⟩
                                 · (exact ⟨t + 1, hlt3, by go_num, HN3.out, by rw [HTK.out]; exact HQ10.out, HB10.out⟩)
                                 · (simp [intOf]; omega))
                          · have hlvb := decide_eq_false hlv
                            rw [if_neg hlv, List.append_nil] at HTK
                            clear hlv
                            go_upto_region 22 with fail
                            obtain ⟨w7, rfl⟩ : ∃ q : World, q = w9 := ⟨_, rfl⟩
                            refine wp_region_ext (by kernel_rfl) (by kernel_rfl) ?_
                            repeat (go_big_quiet_step (fail))
                            refine wpQuiet_nil ?_
                            intro w9 hw'
                            obtain ⟨e9, he9⟩ := hw'
                            have hb9 := e9.below
                            rw [← he9] at hb9
                            clear he9 e9
                            try dsimp only
                            have HB8 := Lib.hid (bon HB7.out hb9)
                            have HQ8 := Lib.hid (HQ7.out.below hb9)
                            clear so7 sy7 sz7 hb9 ko7 ky7 j0' j1' j2'
                            go_wp2_with fail
                            first
                              | (go_roundw
                                 case rel => (exact ⟨t + 1, hlt3, by go_num, HN3.out, by rw [HTK.out]; exact HQ8.out, HB8.out⟩)
                                 case measure => (simp [intOf]; omega))
                              | (refine ⟨?_, ?_⟩
                                 · (exact ⟨t + 1, hlt3, by go_num, HN3.out, by rw [HTK.out]; exact HQ8.out, HB8.out⟩)
                                 · (simp [intOf]; omega))
                        · have hkb : ((t : Int) != (i : Int)) = true := by simp only [bne_iff_ne, ne_eq]; omega
                          have hkt : (t == i) = false := by simp [hk]
                          by_cases hka : z.atom = y.atom
                          · have hkab : (z.atom == y.atom) = true := by simp [hka]
                            have HZ := Lib.hid (HZF.out (by rw [HC.out, HUF.out (by rw [hkt, decide_eq_true hka]; rfl)]; rfl))
                            clear hka
                            go_upto_region 20 with fail
                            refine wp_region_ext (by kernel_rfl) (by kernel_rfl) ?_
                            repeat (go_big_quiet_step (fail))
                            refine wpQuiet_nil ?_
                            intro w9 hw'
                            obtain ⟨e9, he9⟩ := hw'
                            have hb9 := e9.below
                            rw [← he9] at hb9
                            clear he9 e9
                            try dsimp only
                            have HE9 := Lib.hid (HE6.out.on hb9)
                            go_wp2_with fail
                            go_ret
                            exact ⟨ret_bool HZ.out.symm, HE9.out.below⟩
                          · have hkab : (z.atom == y.atom) = false := by simp [hka]
                            have HN3 : Hid (∀ j, j < t + 1 → (j == i || !decide ((ixY x.whys j).atom = y.atom)) = true) := Lib.hid fun j hj => by
                              rcases Nat.lt_succ_iff_lt_or_eq.1 hj with h1 | rfl
                              · exact HA3.out j h1
                              · rw [hze, decide_eq_false hka]; simp
                            clear hka
                            go_upto_region 20 with fail
                            refine wp_region_ext (by kernel_rfl) (by kernel_rfl) ?_
                            repeat (go_big_quiet_step (fail))
                            refine wpQuiet_nil ?_
                            intro w9 hw'
                            obtain ⟨e9, he9⟩ := hw'
                            have hb9 := e9.below
                            rw [← he9] at hb9
                            clear he9 e9
                            try dsimp only
                            have HE7 := Lib.hid (HE6.out.on hb9)
                            have HB7 := Lib.hid (bon HB6.out hb9)
                            have HQ7 := Lib.hid (HQ6.out.below hb9)
                            have HYB7 := Lib.hid (HYB6.out.below hb9)
                            have hb7 := HB7.out.size
                            obtain ⟨j0', j1', j2'⟩ := (HCW5.out t hlt3).below HB7.out hbw5
                            rw [hze] at j0' j2'
                            have ko7 := HE7.out.obx.cell
                            have ky7 := HYB7.out.cell
                            have hol7 := HE7.out.obx.lt
                            have hyl7 := HYB7.out.lt
                            have hbw7 : bw < w9.heap.size := by omega
                            have so7 : ∀ e : Ext w9, ∀ o, e.world.cell? ⟨w.heap.size + 1, o, none⟩ = _ := fun e o => (bcell e.below _ o hol7).trans (ko7 o)
                            have sy7 : ∀ e : Ext w9, ∀ o, e.world.cell? ⟨yb, o, none⟩ = _ := fun e o => (bcell e.below _ o hyl7).trans (ky7 o)
                            have sz7 : ∀ e : Ext w9, _ := fun e => (bcell e.below bw _ hbw7).trans j2'
                            clear so6 sy6 sz0 sz2 hb9 j0 j1 j2
                            by_cases hlv : z.level < y.level
                            · have hlvb := decide_eq_true hlv
                              rw [if_pos hlv] at HTK
                              clear hlv
                              go_upto_region 22 with fail
                              obtain ⟨w7, rfl⟩ : ∃ q : World, q = w9 := ⟨_, rfl⟩
                              refine wp_region_ext (by kernel_rfl) (by kernel_rfl) ?_
                              repeat (go_big_quiet_step (fail))
                              refine wpQuiet_nil ?_
                              intro w9 hw'
                              obtain ⟨e9, he9⟩ := hw'
                              have hb9 := e9.below
                              rw [← he9] at hb9
                              clear he9 e9
                              try dsimp only
                              have HE8 := Lib.hid (HE7.out.on hb9)
                              have HB8 := Lib.hid (bon HB7.out hb9)
                              have HQ8 := Lib.hid (HQ7.out.below hb9)
                              obtain ⟨m0, m1, m2⟩ := (HCW5.out t hlt3).below HB8.out hbw5
                              rw [hze] at m0
                              have ko8 := HE8.out.obx.cell
                              have hb8 := HB8.out.size
                              clear so7 sy7 sz7 hb9 ko7 ky7 j0' j1' j2'
                              go_wp2_with (at_builtin; refine wpList_appendQ rfl _ _ 23 Tryz.underlying23 rfl wc.heap.size (.slice a8 LS.length c8) LS z.atom rfl (HQ8.out.below (bal (Below.refl _ _) _)) w9.heap.size 1 rfl (Blk.new w9 [.int .i64 z.atom] _) HZI.out (by omega) (by simp; omega) ?_; intro v10 w10 hq10 hg10 hn10; obtain ⟨a10, c10, e10⟩ := hq10.slen; subst e10; rw [show (LS ++ [z.atom]).length = LS.length + 1 by simp] at hq10; have HQ10 := Lib.hid hq10; have HB10 : Hid (Below wc.heap.size wc w10) := Lib.hid ((bal HB8.out _).grown hg10 (by simp; omega) fun k e => (HQ8.out.lt41 e).1); clear hq10 hg10 hn10)
                              first
                                | (go_roundw
                                   case rel => (exact ⟨t + 1, hlt3, by go_num, HN3.out, by rw [HTK.out]; exact HQ10.out, HB10.out⟩)
                                   case measure => (simp [intOf]; omega))
                                | (refine ⟨?_, ?_⟩
                                   · (exact ⟨t + 1, hlt3, by go_num, HN3.out, by rw [HTK.out]; exact HQ10.out, HB10.out⟩)
                                   · (simp [intOf]; omega))
                            · have hlvb := decide_eq_false hlv
                              rw [if_neg hlv, List.append_nil] at HTK
                              clear hlv
                              go_upto_region 22 with fail
                              obtain ⟨w7, rfl⟩ : ∃ q : World, q = w9 := ⟨_, rfl⟩
                              refine wp_region_ext (by kernel_rfl) (by kernel_rfl) ?_
                              repeat (go_big_quiet_step (fail))
                              refine wpQuiet_nil ?_
                              intro w9 hw'
                              obtain ⟨e9, he9⟩ := hw'
                              have hb9 := e9.below
                              rw [← he9] at hb9
                              clear he9 e9
                              try dsimp only
                              have HB8 := Lib.hid (bon HB7.out hb9)
                              have HQ8 := Lib.hid (HQ7.out.below hb9)
                              clear so7 sy7 sz7 hb9 ko7 ky7 j0' j1' j2'
                              go_wp2_with fail
                              first
                                | (go_roundw
                                   case rel => (exact ⟨t + 1, hlt3, by go_num, HN3.out, by rw [HTK.out]; exact HQ8.out, HB8.out⟩)
                                   case measure => (simp [intOf]; omega))
                                | (refine ⟨?_, ?_⟩
                                   · (exact ⟨t + 1, hlt3, by go_num, HN3.out, by rw [HTK.out]; exact HQ8.out, HB8.out⟩)
                                   · (simp [intOf]; omega))
                      · obtain rfl : t = x.whys.length := by omega
                        rw [List.take_length] at HQ6 hlw
                        have HU : Hid (chkU x i = true) := Lib.hid (by rw [HUD.out]; exact allR_true HA3.out)
                        rw [HU.out, Bool.true_and] at HC
                        obtain ⟨ri, hri⟩ : ∃ ri : Nat, y.rule = ri := ⟨y.rule.toNat, by omega⟩
                        have hrip : ri < p.rules.length := by omega
                        have HRT : Hid (y.rule.toNat = ri) := Lib.hid (by omega)
                        obtain ⟨LS, hLS⟩ : ∃ LS, lowY x.whys y.level = LS := ⟨_, rfl⟩
                        have hHQ := HQ6.out
                        rw [hLS] at hHQ
                        have HSI := Lib.hid (hHQ.ints (by rw [← hLS]; omega))
                        rw [HRT.out, hLS] at HDD
                        rw [List.take_length, hLS]
                        rw [hri] at HYB6
                        clear hHQ hLS ky6 hol6
                        obtain ⟨bR, oR, rfl, hbR, hcR⟩ := HCR.out (by omega)
                        obtain ⟨vh, vb, vwt, ⟨r0, r1, r2, r3, r4, r5⟩, hsl⟩ := hcR ri hrip
                        have HDQ := Lib.hid (HDV.out ri hrip)
                        obtain ⟨r, hr⟩ : ∃ r, ixR p.rules ri = r := ⟨_, rfl⟩
                        rw [hr] at r0 r2 r3 hsl HDQ HDD
                        obtain ⟨x1, y1, rfl, -⟩ := id hsl.head.form
                        obtain ⟨x2, y2, rfl, -⟩ := id hsl.body.form
                        obtain ⟨x3, y3, rfl, -⟩ := id hsl.wts.form
                        have hbl := HE6.out.below
                        have kp6 := HE6.out.pbx.cell
                        have hbRl : bR < wr.heap.size := Nat.lt_of_lt_of_le hbR hbl.size
                        have hpl6 : w.heap.size < wr.heap.size := HE6.out.pbx.lt
                        have s0 : ∀ e : Ext wr, _ := fun e => (bcell e.below bR _ hbRl).trans ((bcell hbl bR _ hbR).trans r0)
                        have s1 : ∀ e : Ext wr, _ := fun e => (bcell e.below bR _ hbRl).trans ((bcell hbl bR _ hbR).trans r1)
                        have s2 : ∀ e : Ext wr, _ := fun e => (bcell e.below bR _ hbRl).trans ((bcell hbl bR _ hbR).trans r2)
                        have s3 : ∀ e : Ext wr, _ := fun e => (bcell e.below bR _ hbRl).trans ((bcell hbl bR _ hbR).trans r3)
                        have s4 : ∀ e : Ext wr, _ := fun e => (bcell e.below bR _ hbRl).trans ((bcell hbl bR _ hbR).trans r4)
                        have s5 : ∀ e : Ext wr, _ := fun e => (bcell e.below bR _ hbRl).trans ((bcell hbl bR _ hbR).trans r5)
                        have sy : ∀ e : Ext wr, ∀ o, e.world.cell? ⟨yb, o, none⟩ = _ := fun e o => (bcell e.below _ o hyl6).trans (HYB6.out.cell o)
                        have sp : ∀ e : Ext wr, ∀ o, e.world.cell? ⟨w.heap.size, o, none⟩ = _ := fun e o => (bcell e.below _ o hpl6).trans (kp6 o)
                        have so : ∀ e : Ext wr, ∀ o, e.world.cell? ⟨w.heap.size + 1, o, none⟩ = _ := fun e o => (bcell e.below _ o HE6.out.obx.lt).trans (HE6.out.obx.cell o)
                        have HRU : Hid (RuleIs wr (.agg #[.bool r.choice, .slice x1 r.head.length y1, .bool r.sum, .int .i64 r.bound, .slice x2 r.body.length y2, .slice x3 r.w.length y3]) r) := Lib.hid ⟨_, _, _, rfl, hsl.below hbl⟩
                        have HMI := Lib.hid HE6.out.set
                        have HB9 := Lib.hid (bon HB5.out hb)
                        clear r0 r1 r2 r3 r4 r5 hcR hsl hbl kp6 hb
                        cases hd : chkD p m x i with
                        | false =>
                          have HZ := Lib.hid (HZF.out (by rw [HC.out, hd]))
                          have HD : Hid (∀ e : Ext wr, Calls Tryz.prog 54 #[.agg #[.bool r.choice, .slice x1 r.head.length y1, .bool r.sum, .int .i64 r.bound, .slice x2 r.body.length y2, .slice x3 r.w.length y3], .slice am m.length cm, .int .i64 y.atom, .slice a8 LS.length c8] e.world fun x w' => x = .returned (.bool false) ∧ Below e.world.heap.size e.world w') := Lib.hid fun e =>
                            derives41_call (HDD.out.symm.trans hd) (let ⟨a, b, c, e1, e2⟩ := HRU.out; ⟨a, b, c, e1, e2.below e.below⟩) (HMI.out.below e.below) (HSI.out.below e.below) HDQ.out
                          clear hd hr
                          go_upto_region 24 with fail
                          refine wp_region_ext (by kernel_rfl) (by kernel_rfl) ?_
                          repeat (go_big_quiet_step ((go_at_call 54; exact Calls.ext_of (HD.out _))))
                          refine wpQuiet_nil ?_
                          intro w9 hw'
                          obtain ⟨e9, he9⟩ := hw'
                          have hb9 := e9.below
                          rw [← he9] at hb9
                          clear he9 e9
                          try dsimp only
                          have HE9 := Lib.hid (HE6.out.on hb9)
                          go_wp2_with fail
                          go_ret
                          exact ⟨ret_bool HZ.out.symm, HE9.out.below⟩
                        | true =>
                          have HD : Hid (∀ e : Ext wr, Calls Tryz.prog 54 #[.agg #[.bool r.choice, .slice x1 r.head.length y1, .bool r.sum, .int .i64 r.bound, .slice x2 r.body.length y2, .slice x3 r.w.length y3], .slice am m.length cm, .int .i64 y.atom, .slice a8 LS.length c8] e.world fun x w' => x = .returned (.bool true) ∧ Below e.world.heap.size e.world w') := Lib.hid fun e =>
                            derives41_call (HDD.out.symm.trans hd) (let ⟨a, b, c, e1, e2⟩ := HRU.out; ⟨a, b, c, e1, e2.below e.below⟩) (HMI.out.below e.below) (HSI.out.below e.below) HDQ.out
                          have HN2 : Hid (∀ j, j < i + 1 → chkAt2 p m x j = true) := Lib.hid fun j hj => by
                            rcases Nat.lt_succ_iff_lt_or_eq.1 hj with h1 | rfl
                            · exact HA.out j h1
                            · rw [HC.out, hd]
                          clear hd hr
                          go_upto_region 24 with fail
                          refine wp_region_ext (by kernel_rfl) (by kernel_rfl) ?_
                          repeat (go_big_quiet_step ((go_at_call 54; exact Calls.ext_of (HD.out _))))
                          refine wpQuiet_nil ?_
                          intro w9 hw'
                          obtain ⟨e9, he9⟩ := hw'
                          have hb9 := e9.below
                          rw [← he9] at hb9
                          clear he9 e9
                          try dsimp only
                          go_wp2_with fail
                          first
                            | (go_roundw
                               case rel => (exact ⟨i + 1, hlt, by go_num, HN2.out, bon HB9.out hb9⟩)
                               case measure => (simp [intOf]; omega))
                            | (refine ⟨?_, ?_⟩
                               · (exact ⟨i + 1, hlt, by go_num, HN2.out, bon HB9.out hb9⟩)
                               · (simp [intOf]; omega))
          · obtain rfl : i = x.whys.length := by omega
            have HZ : Hid (chkR2 p m x = true) := Lib.hid (by rw [HR2.out, allR_true HA.out])
            go_wp2
            go_ret
            exact ⟨ret_bool HZ.out.symm, HE3.out.below⟩
end Go.Proofs.YtgakoainjgjimaaGreatDoor
