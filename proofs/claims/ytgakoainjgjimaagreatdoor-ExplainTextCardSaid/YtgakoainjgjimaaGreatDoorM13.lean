/- My texts Ex13, Ex11, merged. -/
import Derived.Test.YtgakoainjgjimaaGreatDoorM11
import Derived.Test.YtgakoainjgjimaaGreatDoorM10
import Derived.Test.YtgakoainjgjimaaGreatDoorM09
import Derived.Test.YtgakoainjgjimaaGreatDoorM08
import Derived.Test.YtgakoainjgjimaaGreatDoorM07
import Derived.Test.YtgakoainjgjimaaGreatDoorM05
import Derived.Test.YtgakoainjgjimaaGreatDoorM04
import Derived.Test.YtgakoainjgjimaaGreatDoorM03
import Derived.Test.YtgakoainjgjimaaGreatDoorM00
import Derived.Test.YtgakoainjgjimaaGreatDoorProg
import Derived.WalkKit
import Derived.Lib.Hide
import Derived.Deep.QuietTactic
import Derived.BigQuiet
import Derived.WalkSpells
import Derived.Lib.SliceRun
import Derived.MapKept
import Derived.Maps.OwnSet
import Derived.Maps.OwnOps
import Derived.Test.YtgakoainjgjimaaGreatDoorM02
import Derived.Test.YtgakoainjgjimaaGreatDoorM01
import Derived.Deep.AppendLies
import Derived.Lib.Bytealg
import Derived.Deep.DeepCutAuto
import Derived.Laws.EntriesVeiled
import Derived.Deep.RegionWith
import Derived.Deep.OwnRows
import Derived.Test.YtgakoainjgjimaaGreatDoorM06
import Derived.RangeFuncNested
import Derived.RangeFuncBound
import Derived.RangeFuncCalls
import Derived.RangeFuncLeaves
import Derived.OwnWalkIn
import Derived.TacticsInMore
import Derived.LoopNIn
import Derived.LoopIn
import Derived.Stop.RegionWithIn
import Derived.Shelf.Abstract
import Derived.Deep.LoopGhost
import Derived.Deep.DrawnRows
import Derived.Shelf.Sort.Plain
import Derived.Shelf.Slices.CompactI
import Derived.Shelf.Slices.In.SortNone
import Derived.Shelf.Strconv.Itoa3
import Derived.Shelf.Strings.BuilderK
import Derived.Shelf.Slices.SearchI
import Derived.Shelf.Slices.Empties
import Derived.Deep.AppendSrc
import Derived.Lib.SlicesCompact
import Derived.Sort.OwnSortedInts
import Derived.Test.YtgakoainjgjimaaGreatDoorM12
import Derived.Sort.QuietThIn
import Derived.Maps.RangeWalk
import Derived.RangeFuncBox
import Derived.Maps.OwnIn
import Derived.Lib.RowBridge

namespace Go.Proofs.YtgakoainjgjimaaGreatDoor
open Go.RowKit
inductive SupR (p : GP) (x : XP) (a : Int) : Int → Prop
  | base : SupR p x a a
  | step {y z : WY} : y ∈ x.whys → z ∈ x.whys → SupR p x a y.atom → z.atom ∈ (ixR p.rules y.rule.toNat).body → z.level < y.level → SupR p x a z.atom
def whyV (y : WY) : Value := .agg #[.int .i64 y.atom, .int .i64 y.rule, .int .i64 y.level]
def whyG (ws : List WY) : Int → Option Value := fun b => ws.foldl (fun o y => if y.atom = b then some (whyV y) else o) none
theorem whyG_snoc (ws : List WY) (y : WY) : whyG (ws ++ [y]) = upd (whyG ws) y.atom (some (whyV y)) := by
  funext b
  unfold whyG upd
  rw [List.foldl_append]
  simp only [List.foldl_cons, List.foldl_nil]
  by_cases h : b = y.atom
  · rw [if_pos h, if_pos h.symm]
  · rw [if_neg h, if_neg (fun e => h e.symm)]
theorem whyG_fold (b : Int) : ∀ (ws : List WY) (o : Option Value), (b ∉ atomsY ws ∧ ws.foldl (fun o y => if y.atom = b then some (whyV y) else o) o = o) ∨ ∃ y ∈ ws, y.atom = b ∧ ws.foldl (fun o y => if y.atom = b then some (whyV y) else o) o = some (whyV y)
  | [], o => .inl ⟨by simp [atomsY], rfl⟩
  | z :: ws, o => by
    rw [List.foldl_cons]
    rcases whyG_fold b ws (if z.atom = b then some (whyV z) else o) with ⟨h1, h2⟩ | ⟨y, h1, h2, h3⟩
    · by_cases e : z.atom = b
      · exact .inr ⟨z, by simp, e, by rw [h2, if_pos e]⟩
      · refine .inl ⟨?_, by rw [h2, if_neg e]⟩
        unfold atomsY at h1 ⊢
        rw [List.map_cons, List.mem_cons]
        rintro (h | h)
        · exact e h.symm
        · exact h1 h
    · exact .inr ⟨y, by simp [h1], h2, h3⟩
theorem whyG_none {ws : List WY} {b : Int} (h : b ∉ atomsY ws) : whyG ws b = none := by
  rcases whyG_fold b ws none with ⟨-, h2⟩ | ⟨y, h1, h2, -⟩
  · exact h2
  · exact absurd (List.mem_map.2 ⟨y, h1, h2⟩) h
theorem whyG_some {ws : List WY} {b : Int} (h : b ∈ atomsY ws) : ∃ y ∈ ws, y.atom = b ∧ whyG ws b = some (whyV y) := by
  rcases whyG_fold b ws none with ⟨h1, -⟩ | h2
  · exact absurd h h1
  · exact h2
theorem why_same {ws : List WY} (hn : (atomsY ws).Nodup) {y z : WY} (hy : y ∈ ws) (hz : z ∈ ws) (e : y.atom = z.atom) : y = z := by
  obtain ⟨i, hi, rfl⟩ := mem_ixY hy
  obtain ⟨j, hj, rfl⟩ := mem_ixY hz
  have hi2 : i < (atomsY ws).length := by simpa [atomsY] using hi
  have hj2 : j < (atomsY ws).length := by simpa [atomsY] using hj
  have : i = j := (List.getElem_inj (h₀ := hi2) (h₁ := hj2) hn).1 (by simp only [atomsY, List.getElem_map, ← ixY_get hi, ← ixY_get hj]; exact e)
  rw [this]
structure SupL (p : GP) (x : XP) (a : Int) (L : List Int) (n : Nat) : Prop where
  nod : L.Nodup
  reach : ∀ b ∈ L, SupR p x a b
  sub : ∀ b ∈ L, b ∈ atomsY x.whys
  has : a ∈ L
  done : ∀ i, i < n → i < L.length → ∀ y ∈ x.whys, y.atom = ix L i → ∀ z ∈ x.whys, z.atom ∈ (ixR p.rules y.rule.toNat).body → z.level < y.level → z.atom ∈ L
theorem SupL.len {p : GP} {x : XP} {a : Int} {L : List Int} {n : Nat} (h : SupL p x a L n) : L.length ≤ x.whys.length := by
  have := sub_len h.nod h.sub
  unfold atomsY at this
  rwa [List.length_map] at this
theorem SupL.start {p : GP} {x : XP} {a : Int} (h : a ∈ atomsY x.whys) : SupL p x a [a] 0 :=
  ⟨by simp, fun b hb => by rw [List.mem_singleton.1 hb]; exact .base, fun b hb => by rw [List.mem_singleton.1 hb]; exact h, by simp, fun i hi => absurd hi (Nat.not_lt_zero _)⟩
theorem SupL.add {p : GP} {x : XP} {a : Int} {L : List Int} {n : Nat} (h : SupL p x a L n) (hn : n < L.length) {y z : WY} (hy : y ∈ x.whys) (hya : y.atom = ix L n) (hz : z ∈ x.whys) (hb : z.atom ∈ (ixR p.rules y.rule.toNat).body) (hl : z.level < y.level) (hnot : z.atom ∉ L) : SupL p x a (L ++ [z.atom]) n := by
  refine ⟨?_, fun b hb' => ?_, fun b hb' => ?_, by simp [h.has], fun i hi hi2 y' hy' e z' hz' h1 h2 => ?_⟩
  · rw [List.nodup_append]
    exact ⟨h.nod, by simp, fun a ha b hb' e => hnot (by rw [List.mem_singleton.1 hb'] at e; rw [← e]; exact ha)⟩
  · rcases List.mem_append.1 hb' with hb' | hb'
    · exact h.reach b hb'
    · rw [List.mem_singleton.1 hb']
      exact .step hy hz (by rw [hya]; exact h.reach _ (ix_mem hn)) hb hl
  · rcases List.mem_append.1 hb' with hb' | hb'
    · exact h.sub b hb'
    · rw [List.mem_singleton.1 hb']; exact List.mem_map.2 ⟨z, hz, rfl⟩
  · have hi3 : i < L.length := by omega
    have e2 : ix (L ++ [z.atom]) i = ix L i := by rw [ix_app, if_pos hi3]
    rw [e2] at e
    exact List.mem_append.2 (.inl (h.done i hi hi3 y' hy' e z' hz' h1 h2))
theorem SupL.all {p : GP} {x : XP} {a : Int} {L : List Int} (h : SupL p x a L L.length) (b : Int) : b ∈ L ↔ SupR p x a b := by
  refine ⟨h.reach b, fun hs => ?_⟩
  induction hs with
  | base => exact h.has
  | step hy hz hs hb hl ih =>
    obtain ⟨i, hi, e⟩ := mem_ix.1 ih
    exact h.done i hi hi _ hy e.symm _ hz hb hl
def FolB (x : XP) (y : WY) (B : List Int) (j : Nat) (L : List Int) : Prop := ∀ c ∈ B.take j, ∀ z ∈ x.whys, z.atom = c → z.level < y.level → c ∈ L
theorem SupL.turn {p : GP} {x : XP} {a : Int} {L : List Int} {n : Nat} (hn : (atomsY x.whys).Nodup) (h : SupL p x a L n) {y : WY} (hy : y ∈ x.whys) (hya : y.atom = ix L n) (hf : FolB x y (ixR p.rules y.rule.toNat).body (ixR p.rules y.rule.toNat).body.length L) : SupL p x a L (n + 1) := by
  refine ⟨h.nod, h.reach, h.sub, h.has, fun i hi hi2 y' hy' e z hz h1 h2 => ?_⟩
  by_cases hin : i = n
  · subst hin
    have : y' = y := why_same hn hy' hy (e.trans hya.symm)
    subst this
    exact hf z.atom (by rw [List.take_length]; exact h1) z hz rfl h2
  · exact h.done i (by omega) hi2 y' hy' e z hz h1 h2
def SuPost (p : GP) (m : List Int) (x : XP) (a : Int) (B : Nat) (w : World) (e : Ending) (w' : World) : Prop :=
  ∃ vo out E, e = .returned (.tuple #[vo, .int .i64 E]) ∧ QRow B w' vo out ∧ Below w.heap.size w w' ∧
    ((xE p m ≠ 0 ∧ E = xE p m ∧ out = []) ∨ (xE p m = 0 ∧ chkX p m x = false ∧ E = 2 ∧ out = []) ∨ (xE p m = 0 ∧ chkX p m x = true ∧ a ∉ atomsY x.whys ∧ E = 6 ∧ out = []) ∨
     (xE p m = 0 ∧ chkX p m x = true ∧ a ∈ atomsY x.whys ∧ E = 0 ∧ out.Pairwise (· < ·) ∧ ∀ b, b ∈ out ↔ SupR p x a b))
structure SuSt (w : World) (p : GP) (x : XP) (n vn vs vr vm vw vq : Value) (W : World) : Prop where
  pbx : Blk W w.heap.size [n, vn, vs, vr, vm] 27
  xbx : Blk W (w.heap.size + 1) [vw, vq] 30
  rul : RulesIs W vr p.rules
  whs : WhysIs W vw x.whys
  below : Below w.heap.size w W
theorem SuSt.on {w W W' : World} {p : GP} {x : XP} {n vn vs vr vm vw vq : Value} (h : SuSt w p x n vn vs vr vm vw vq W) (hb : Below W.heap.size W W') : SuSt w p x n vn vs vr vm vw vq W' :=
  ⟨h.pbx.below hb, h.xbx.below hb, h.rul.below hb, h.whs.below hb, bon h.below hb⟩
def Su1Rel (x : XP) (W1 : World) (i : Value) (wx : World) : Prop :=
  ∃ j : Nat, j ≤ x.whys.length ∧ i = .int .i64 j ∧ MapIs (Value.int .i64) wx W1.heap.size (whyG (x.whys.take j)) ∧ Below W1.heap.size W1 wx
def Su2Rel (p : GP) (x : XP) (a : Int) (_mb : Nat) (W2 : World) (vo i : Value) (wx : World) : Prop :=
  ∃ (n : Nat) (L : List Int), i = .int .i64 n ∧ n ≤ L.length ∧ SupL p x a L n ∧ OwnL W2.heap.size wx vo L ∧ Below W2.heap.size W2 wx
def Su3Rel (p : GP) (x : XP) (a : Int) (n : Nat) (y : WY) (B : List Int) (wb : Nat) (cs : List Value) (W2 : World) (vo i : Value) (wx : World) : Prop :=
  ∃ (j : Nat) (L : List Int), i = .int .i64 j ∧ j ≤ B.length ∧ n < L.length ∧ y.atom = ix L n ∧ SupL p x a L n ∧ FolB x y B j L ∧ OwnL W2.heap.size wx vo L ∧ Below W2.heap.size W2 wx ∧ Blk wx wb cs 49
theorem OwnL.far {B : Nat} {w : World} {v : Value} {L : List Int} (h : OwnL B w v L) {b : Nat} {c : List Value} {T : TypeId} (hb : Blk w b c T) (hT : T ≠ 3) : v.ownBlock ≠ some b := fun e => by
  rcases h.1.2 with ⟨rfl, _⟩ | ⟨g, cap, cur, rfl, hg, hgg, _⟩
  · cases e
  · have : g = b := by simpa [Value.ownBlock] using e
    subst this
    unfold Blk at hb
    rw [hb] at hgg
    injection hgg with hgg
    injection hgg with _ h2 _
    exact hT h2
theorem belowO {B : Nat} {v : Value} {L : List Int} {W w w' : World} (h : Below B W w) (hm : OwnL B w v L) (hg : w.grownBy w' v.ownBlock) (hB : B ≤ w.heap.size) : Below B W w' :=
  h.trans ⟨hg.os, hg.tape, hg.output, hg.size, fun i hi => hg.block i (by omega) fun e => by have := (hm.lt e.symm).1; omega⟩
theorem OwnL.one (w : World) {z : Int} (hz : InI z) : OwnL w.heap.size (w.alloc (.cells #[.int .i64 z] 3)) (.slice (some ⟨w.heap.size, 0, none⟩) 1 1) [z] := by
  refine ⟨⟨by simp, .inr ⟨w.heap.size, 1, _, rfl, Nat.le_refl _, heap_alloc_new w _, by simp, by unfold maxLen; omega, by simp, by simp⟩⟩, fitI fun y hy => (List.mem_singleton.1 hy) ▸ hz, by simp⟩
theorem OwnL.qrow {B : Nat} {w : World} {v : Value} {L : List Int} (h : OwnL B w v L) (_h8 : L.length ≤ 1000000) : QRow B w v L := by
  refine ⟨h.2.1, ?_⟩
  rcases h.1.2 with ⟨e, h0⟩ | ⟨g, cap, cur, rfl, hb, hg, hn, hm, hs, hx⟩
  · exact .inl ⟨e, List.eq_nil_of_length_eq_zero h0⟩
  · refine .inr ⟨g, 0, cap, cur, rfl, hb, hg, hn, hm, by omega, fun i hi => ?_⟩
    have h4 : (cur.toList.take (L.length * 1))[i]? = some (.int .i64 (ix L i)) := by rw [hx]; exact map_ix L i hi
    rw [List.getElem?_take_of_lt (by omega)] at h4
    rw [Nat.zero_add]
    simpa using h4
theorem FolB.zero (x : XP) (y : WY) (B L : List Int) : FolB x y B 0 L := fun c hc => by simp at hc
theorem FolB.mono {x : XP} {y : WY} {B L L' : List Int} {j : Nat} (h : FolB x y B j L) (hL : ∀ c ∈ L, c ∈ L') : FolB x y B j L' := fun c hc z hz e h1 => hL _ (h c hc z hz e h1)
theorem FolB.next {x : XP} {y : WY} {B L : List Int} {j : Nat} (h : FolB x y B j L) (hj : j < B.length) (hc : ∀ z ∈ x.whys, z.atom = ix B j → z.level < y.level → ix B j ∈ L) : FolB x y B (j + 1) L := fun c hc' z hz e h1 => by
  rw [List.take_succ_eq_append_getElem hj, List.mem_append, ← ix_get hj, List.mem_singleton] at hc'
  rcases hc' with hc' | rfl
  · exact h c hc' z hz e h1
  · exact hc z hz e h1
theorem RulesIs.ruleAt {a : Option Addr} {n c k : Nat} {l : List GR} {w : World} (h : RulesIs w (.slice a n c) l) (hk : k < l.length) : ∃ b off, a = some ⟨b, off, none⟩ ∧ b < w.heap.size ∧ ∃ vh vb vw, RuleCells w b (off + k * 6) (ixR l k) vh vb vw ∧ RuleSl w (ixR l k) vh vb vw := by
  obtain ⟨a1, c1, e, -, -, -, hc⟩ := h.form
  simp only [Value.slice.injEq] at e
  obtain ⟨rfl, -, rfl⟩ := e
  obtain ⟨b, off, e, hb, hcc⟩ := hc (by omega)
  exact ⟨b, off, e, hb, hcc k hk⟩
theorem zeroY (w : World) : (zeroValue 49).run Tryz.prog w = .ok (.agg #[.int .i64 0, .int .i64 0, .int .i64 0]) w := Tryz.zeroValue49 w
set_option maxHeartbeats 8000000 in
set_option maxRecDepth 100000 in
theorem support_any (v vset vx : Value) (p : GP) (m : List Int) (x : XP) (a : Int) (w : World) (h : ProgIs w v p) (hm : Ints w vset m) (hx : ExplIs w vx x) (ha : InI a) (hw : x.whys.length ≤ 500) :
    Calls Tryz.prog 11 #[v, vset, vx, .int .i64 a] w (SuPost p m x a (w.heap.size + 2) w) := by
  have h0 := h
  have hx0 := hx
  obtain ⟨vn, vs, vr, vm, rfl, hps⟩ := h
  obtain ⟨vw, vq, rfl, hwh, hrs⟩ := hx
  obtain ⟨am, cm, rfl, -⟩ := id hm.form
  obtain ⟨a1, c1, rfl, -, hl1, -, -⟩ := hps.rules.form
  obtain ⟨a2, c2, rfl, -, hl2, -, -⟩ := hwh.form
  obtain ⟨a3, c3, rfl, -⟩ := hrs.form
  have hal := bal (bal (Below.refl w.heap.size w) (.cells #[.int .i64 p.n, vn, vs, .slice a1 p.rules.length c1, vm] 27)) (.cells #[.slice a2 x.whys.length c2, .slice a3 x.rest.length c3] 30)
  have hst : SuSt w p x (.int .i64 p.n) vn vs (.slice a1 p.rules.length c1) vm (.slice a2 x.whys.length c2) (.slice a3 x.rest.length c3) ((w.alloc (.cells #[.int .i64 p.n, vn, vs, .slice a1 p.rules.length c1, vm] 27)).alloc (.cells #[.slice a2 x.whys.length c2, .slice a3 x.rest.length c3] 30)) :=
    ⟨(Blk.new w [.int .i64 p.n, vn, vs, .slice a1 p.rules.length c1, vm] 27).alloc _, Blk.new2 w _ [.slice a2 x.whys.length c2, .slice a3 x.rest.length c3] 30, hps.rules.below hal, hwh.below hal, hal⟩
  have HP := Lib.hid (h0.below hal)
  have HM := Lib.hid (hm.below hal)
  have HX := Lib.hid (hx0.below hal)
  have HS0 := Lib.hid hst
  have HWI : Hid (∀ y ∈ x.whys, YI y) := Lib.hid hwh.2
  have hz0 : ((w.alloc (.cells #[.int .i64 p.n, vn, vs, .slice a1 p.rules.length c1, vm] 27)).alloc (.cells #[.slice a2 x.whys.length c2, .slice a3 x.rest.length c3] 30)).heap.size = w.heap.size + 2 := by simp
  have HZ0 := Lib.hid hz0
  have hmm := @run_makeMap Tryz.prog
  have HAI := Lib.hid ha
  clear h0 hx0 hps hwh hrs hm hal hst hz0 ha
  go_enter Tryz.func11, Tryz.ntmps11
  go_upto_region 1 with fail
  have kp0 := HS0.out.pbx.cell
  have kx0 := HS0.out.xbx.cell
  generalize (w.alloc (.cells #[.int .i64 p.n, vn, vs, .slice a1 p.rules.length c1, vm] 27)).alloc (.cells #[.slice a2 x.whys.length c2, .slice a3 x.rest.length c3] 30) = W0 at *
  by_cases he : xE p m = 0
  case neg =>
    have hne : (xE p m != 0) = true := by simp [he]
    have hne2 : (xE p m == 0) = false := by simp [he]
    have HE : Hid (Ending.returned (.tuple #[.bool (decide (xE p m = 0) && chkX p m x), .int .i64 (xE p m)]) = .returned (.tuple #[.bool false, .int .i64 (xE p m)])) := Lib.hid (by rw [decide_eq_false he, Bool.false_and])
    have HE2 := Lib.hid he
    clear he
    go_wp2_with (go_at_call 10; (with_reducible refine (checkX_any _ _ _ p m x _ HP.out HM.out HX.out hw).mono ?_); rintro e w1 ⟨e1, hb1⟩; rw [HE.out] at e1; subst e1; have HS1 := Lib.hid (HS0.out.on hb1); have kx1 := HS1.out.xbx.cell; have hz1 := hb1.size; clear hb1)
    go_ret2
    exact ⟨_, [], _, rfl, QRow.nil _ _, HS1.out.below, .inl ⟨HE2.out, rfl, rfl⟩⟩
  cases hck : chkX p m x with
  | false =>
    have HE : Hid (Ending.returned (.tuple #[.bool (decide (xE p m = 0) && chkX p m x), .int .i64 (xE p m)]) = .returned (.tuple #[.bool false, .int .i64 0])) := Lib.hid (by rw [hck, Bool.and_false, he])
    have HE2 := Lib.hid he
    have HCK := Lib.hid hck
    clear he hck
    go_wp2_with (go_at_call 10; (with_reducible refine (checkX_any _ _ _ p m x _ HP.out HM.out HX.out hw).mono ?_); rintro e w1 ⟨e1, hb1⟩; rw [HE.out] at e1; subst e1; have HS1 := Lib.hid (HS0.out.on hb1); have kx1 := HS1.out.xbx.cell; have hz1 := hb1.size; clear hb1)
    go_ret2
    exact ⟨_, [], _, rfl, QRow.nil _ _, HS1.out.below, .inr (.inl ⟨HE2.out, HCK.out, rfl, rfl⟩)⟩
  | true =>
    have HE : Hid (Ending.returned (.tuple #[.bool (decide (xE p m = 0) && chkX p m x), .int .i64 (xE p m)]) = .returned (.tuple #[.bool true, .int .i64 0])) := Lib.hid (by rw [hck, he]; rfl)
    obtain ⟨hv, hset, -⟩ := xE_ok he
    have hval := chk_val hv hset hck
    have hrng : ∀ y ∈ x.whys, 1 ≤ y.atom ∧ 0 ≤ y.rule ∧ y.rule < p.rules.length := fun y hy => by
      have h2 := setQ_rng hset ((hval.part y.atom).2 (.inr (List.mem_map.2 ⟨y, hy, rfl⟩)))
      obtain ⟨i, e, hi, -⟩ := hval.der y hy
      omega
    have HE2 := Lib.hid he
    have HCK := Lib.hid hck
    have HV := Lib.hid hv
    have HVAL := Lib.hid hval
    have HRNG := Lib.hid hrng
    clear he hck hv hset hval hrng
    go_upto_region 7 with (go_at_call 10; (with_reducible refine (checkX_any _ _ _ p m x _ HP.out HM.out HX.out hw).mono ?_); rintro e w1 ⟨e1, hb1⟩; rw [HE.out] at e1; subst e1; have HS1 := Lib.hid (HS0.out.on hb1); have kx1 := HS1.out.xbx.cell; have hz1 := hb1.size; clear hb1)
    have hlx := HS1.out.xbx.lt
    have hlp := HS1.out.pbx.lt
    go_wp2
    go_loopw [39] (fun i wx => Su1Rel x w1 i wx) (fun i _ => x.whys.length - (intOf i).toNat)
    case atStart => exact ⟨0, Nat.zero_le _, rfl, MapIs.made w1, bal (Below.refl _ _) _⟩
    case round =>
      obtain ⟨j, hj, rfl, hmp, hbl⟩ := hrel
      have HMP := Lib.hid hmp
      have HBL := Lib.hid hbl
      have HSR := Lib.hid (HS1.out.on hbl)
      have hmlt := hmp.lt
      clear hmp hbl
      by_cases hlt : j < x.whys.length
      · obtain ⟨b, off, rfl, hb, hc0, hc1, hc2⟩ := HSR.out.whs.at hlt
        obtain ⟨y, hy⟩ : ∃ y, ixY x.whys j = y := ⟨_, rfl⟩
        have htk : x.whys.take (j + 1) = x.whys.take j ++ [y] := by
          rw [List.take_succ_eq_append_getElem hlt, ← hy]
          simp only [ixY, List.getD_eq_getElem?_getD, List.getElem?_eq_getElem hlt, Option.getD_some]
        have hgs := whyG_snoc (x.whys.take j) y
        rw [← htk] at hgs
        have HGS := Lib.hid hgs
        rw [hy] at hc0 hc1 hc2
        clear hy htk hgs
        go_upto_region 10 with fail
        have hal3 := bal (Below.refl wr.heap.size wr) (.cells #[.int .i64 y.atom, .int .i64 y.rule, .int .i64 y.level] 49)
        have HW3 := Lib.hid (Blk.new wr [.int .i64 y.atom, .int .i64 y.rule, .int .i64 y.level] 49)
        have HM3 := Lib.hid (HMP.out.below hal3)
        have HB3 := Lib.hid (bon HBL.out hal3)
        have kw3 := HW3.out.cell
        clear hal3 hc0 hc1 hc2 hb
        generalize wr.alloc (.cells #[.int .i64 y.atom, .int .i64 y.rule, .int .i64 y.level] 49) = W3 at *
        go_wp2_with (at_mapUpdate; refine wpList_mput _ _ y.atom (whyV y) kvInt 83 3 49 Tryz.underlying83 Tryz.underlying3 rfl _ _ _ rfl rfl rfl rfl HM3.out ?_; intro w7 hm7 hg7 hs7; rw [← HGS.out] at hm7; have HM7 := Lib.hid hm7; have HB7 : Hid (Below w1.heap.size w1 w7) := Lib.hid (HB3.out.trans ⟨hg7.os, hg7.tape, hg7.output, hg7.size, fun i hi => hg7.block i (by have := HB3.out.size; omega) (fun e => by have := Option.some.inj e; omega)⟩); clear hm7 hg7 hs7)
        first
          | (go_roundw
             case rel => (exact ⟨j + 1, hlt, by go_num, HM7.out, HB7.out⟩)
             case measure => (simp [intOf]; omega))
          | (refine ⟨?_, ?_⟩
             · (exact ⟨j + 1, hlt, by go_num, HM7.out, HB7.out⟩)
             · (simp [intOf]; omega))
      · obtain rfl : j = x.whys.length := by omega
        rw [List.take_length] at HMP
        have hlk := fun b => HMP.out.lookup kvInt Tryz.underlying83 Tryz.underlying3 (zeroY wr) b
        by_cases hin : a ∈ atomsY x.whys
        case neg =>
          have hlk0 := hlk a
          rw [whyG_none hin] at hlk0
          simp only [Option.getD_none] at hlk0
          have HIN := Lib.hid hin
          clear hlk hin
          go_wp2
          go_ret2
          exact ⟨_, [], _, rfl, QRow.nil _ _, HSR.out.below, .inr (.inr (.inl ⟨HE2.out, HCK.out, HIN.out, rfl, rfl⟩))⟩
        obtain ⟨y0, hy0, hya0, hg0⟩ := whyG_some hin
        have hlk0 := hlk a
        rw [hg0] at hlk0
        simp only [Option.getD_some, whyV] at hlk0
        have hy01 := (HRNG.out y0 hy0).1
        have hyn : (y0.atom == 0) = false := by simp; omega
        have HIN := Lib.hid hin
        clear hlk hin hg0 hy0 hya0
        go_upto_region 15 with fail
        obtain ⟨w2r, rfl⟩ : ∃ x : World, x = wr := ⟨_, rfl⟩
        have hone := OwnL.one w2r HAI.out
        have hal2 := bal (Below.refl w2r.heap.size w2r) (.cells #[.int .i64 a] 3)
        have HONE := Lib.hid hone
        have HAL2 := Lib.hid hal2
        clear hone hal2 hlk0 hyn hy01 kx1
        generalize hW2 : w2r.alloc (.cells #[.int .i64 a] 3) = W2 at *
        clear hW2
        go_wp2
        go_loopw [15, 16] (fun vo i wx => Su2Rel p x a w1.heap.size w2r vo i wx) (fun _ i _ => x.whys.length - (intOf i).toNat)
        case atStart => exact ⟨0, [a], rfl, Nat.zero_le _, SupL.start HIN.out, HONE.out, HAL2.out⟩
        case round =>
          obtain ⟨n, L, rfl, hn, hsl, hown, hbl⟩ := hrel
          obtain ⟨ao, co, rfl⟩ := hown.slen
          have hLl := hsl.len
          have HSL := Lib.hid hsl
          have HOW := Lib.hid hown
          have HBR := Lib.hid hbl
          have HS2 := Lib.hid (HSR.out.on hbl)
          have HMR := Lib.hid (HMP.out.below hbl)
          have hz2 := hbl.size
          have kp2 := HS2.out.pbx.cell
          clear hsl hown hbl
          by_cases hlt : n < L.length
          · obtain ⟨b, off, rfl, hb, hc⟩ := (HOW.out.ownI (by omega)).ints.at hlt
            obtain ⟨y, hy, hya, hgy⟩ := whyG_some (HSL.out.sub _ (ix_mem hlt))
            have hlkb := HMR.out.lookup kvInt Tryz.underlying83 Tryz.underlying3 (zeroY wr) (ix L n)
            rw [hgy] at hlkb
            simp only [Option.getD_some, whyV] at hlkb
            obtain ⟨hr1, hr2, hr3⟩ := HRNG.out y hy
            obtain ⟨ri, hri⟩ : ∃ ri : Nat, y.rule = ri := ⟨y.rule.toNat, by omega⟩
            have hril : ri < p.rules.length := by omega
            have hrt : y.rule.toNat = ri := by omega
            rw [hri] at hlkb
            obtain ⟨br, orr, rfl, hbr, vh, vb, vw', ⟨q0, q1, q2, q3, q4, q5⟩, hrsl⟩ := HSR.out.rul.ruleAt hril
            have HYM := Lib.hid hy
            have HYA := Lib.hid hya
            have HRT := Lib.hid hrt
            have HBI := Lib.hid hrsl.body
            obtain ⟨ab, cb, rfl, -, hlb, -, -⟩ := hrsl.body.form
            clear hy hgy hri hrt hr1 hr2 hr3 hrsl q0 q1 q2 q3 q5 hya
            go_upto_region 19 with fail
            have hal3 := bal (Below.refl wr.heap.size wr) (.cells #[.int .i64 y.atom, .int .i64 (ri : Int), .int .i64 y.level] 49)
            have HW3 := Lib.hid (Blk.new wr [.int .i64 y.atom, .int .i64 (ri : Int), .int .i64 y.level] 49)
            have HS3 := Lib.hid (HS2.out.on hal3)
            have HOW3 := Lib.hid (HOW.out.below hal3)
            have HB3 := Lib.hid (bon HBR.out hal3)
            have kw3 := HW3.out.cell
            have kp3 := HS3.out.pbx.cell
            have kq3 := (bcell (bon HBR.out hal3) br (orr + ri * 6 + 4) hbr).trans q4
            have hzw3 := HW3.out.lt
            clear hal3 hc hb hlkb q4 hbr kp2
            generalize wr.alloc (.cells #[.int .i64 y.atom, .int .i64 (ri : Int), .int .i64 y.level] 49) = W3 at *
            generalize wr.heap.size = wb at *
            go_wp2
            obtain ⟨B, hBb⟩ : ∃ B, (ixR p.rules ri).body = B := ⟨_, rfl⟩
            rw [hBb] at HBI
            have HBB := Lib.hid hBb
            rw [hBb] at hlb
            rw [hBb]
            obtain ⟨wq, rfl⟩ : ∃ wq : World, wq = wr := ⟨_, rfl⟩
            clear hBb
            go_loopw [15, 75] (fun vo i wx => Su3Rel p x a n y B wb [.int .i64 y.atom, .int .i64 (ri : Int), .int .i64 y.level] w2r vo i wx) (fun _ i _ => B.length - (intOf i).toNat)
            case atStart => exact ⟨0, L, rfl, Nat.zero_le _, hlt, HYA.out, HSL.out, FolB.zero _ _ _ _, HOW3.out, HB3.out, HW3.out⟩
            case round =>
              obtain ⟨j, L2, rfl, hj, hnl, hya2, hsl2, hfol, hown2, hbl2, hwb⟩ := hrel
              obtain ⟨ao2, co2, rfl⟩ := hown2.slen
              have hLl2 := hsl2.len
              have HSL2 := Lib.hid hsl2
              have HYA2 := Lib.hid hya2
              have HFO := Lib.hid hfol
              have HOW4 := Lib.hid hown2
              have HB4 := Lib.hid hbl2
              have HWB := Lib.hid hwb
              have HMR4 := Lib.hid (HMP.out.below hbl2)
              have kwb := hwb.cell
              have hwlt := hwb.lt
              have hz4 := hbl2.size
              clear hsl2 hya2 hfol hown2 hbl2 hwb
              by_cases hlt2 : j < B.length
              · obtain ⟨b5, o5, rfl, hb5, hc5⟩ := (HBI.out.below HB4.out).at hlt2
                obtain ⟨c, hcc⟩ : ∃ c, ix B j = c := ⟨_, rfl⟩
                have hci : InI c := by rw [← hcc]; exact HBI.out.2 j
                rw [hcc] at hc5
                have HCC := Lib.hid hcc
                have HCI := Lib.hid hci
                have hlkc := HMR4.out.lookup kvInt Tryz.underlying83 Tryz.underlying3 (zeroY wr) c
                clear hcc hci
                by_cases hin : c ∈ atomsY x.whys
                case neg =>
                  rw [whyG_none hin] at hlkc
                  simp only [Option.getD_none] at hlkc
                  have HFN : Hid (FolB x y B (j + 1) L2) := Lib.hid (HFO.out.next hlt2 fun z hz e _ => absurd (List.mem_map.2 ⟨z, hz, e.trans HCC.out⟩) hin)
                  clear hin
                  go_wp2
                  first
                    | (go_roundw
                       case rel => (exact ⟨j + 1, L2, by go_num, hlt2, hnl, HYA2.out, HSL2.out, HFN.out, HOW4.out.below (bal (Below.refl _ _) _), bal HB4.out _, HWB.out.alloc _⟩)
                       case measure => (simp [intOf]; omega))
                    | (refine ⟨?_, ?_⟩
                       · (exact ⟨j + 1, L2, by go_num, hlt2, hnl, HYA2.out, HSL2.out, HFN.out, HOW4.out.below (bal (Below.refl _ _) _), bal HB4.out _, HWB.out.alloc _⟩)
                       · (simp [intOf]; omega))
                obtain ⟨z, hz, hza, hgz⟩ := whyG_some hin
                rw [hgz] at hlkc
                simp only [Option.getD_some, whyV] at hlkc
                have hzp := (HRNG.out z hz).1
                have hzn : (z.atom == 0) = false := by simp; omega
                have HZ := Lib.hid hz
                have HZA := Lib.hid hza
                clear hin hgz hz hza
                by_cases hlv : z.level < y.level
                · have hlvd := decide_eq_true hlv
                  by_cases hct : c ∈ L2
                  · have HCT : Hid (decide (c ∈ L2) = true) := Lib.hid (decide_eq_true hct)
                    have HFN : Hid (FolB x y B (j + 1) L2) := Lib.hid (HFO.out.next hlt2 fun z' _ _ _ => by rw [HCC.out]; exact hct)
                    clear hct
                    go_wp2_with (go_at_call 45; (with_reducible refine (contains_any _ L2 _ _ ((HOW4.out.below (bal (Below.refl _ _) _)).ownI (by omega)).ints).mono ?_); rintro e w6 ⟨e6, rfl⟩; rw [HCT.out] at e6; subst e6)
                    first
                      | (go_roundw
                         case rel => (exact ⟨j + 1, L2, by go_num, hlt2, hnl, HYA2.out, HSL2.out, HFN.out, HOW4.out.below (bal (Below.refl _ _) _), bal HB4.out _, HWB.out.alloc _⟩)
                         case measure => (simp [intOf]; omega))
                      | (refine ⟨?_, ?_⟩
                         · (exact ⟨j + 1, L2, by go_num, hlt2, hnl, HYA2.out, HSL2.out, HFN.out, HOW4.out.below (bal (Below.refl _ _) _), bal HB4.out _, HWB.out.alloc _⟩)
                         · (simp [intOf]; omega))
                  · have HCT : Hid (decide (c ∈ L2) = false) := Lib.hid (decide_eq_false hct)
                    have hbm : z.atom ∈ (ixR p.rules y.rule.toNat).body := by rw [HZA.out, HRT.out, HBB.out, ← HCC.out]; exact ix_mem hlt2
                    have hadd := HSL2.out.add hnl HYM.out HYA2.out HZ.out hbm hlv (by rw [HZA.out]; exact hct)
                    rw [HZA.out] at hadd
                    have HADD := Lib.hid hadd
                    have HFN : Hid (FolB x y B (j + 1) (L2 ++ [c])) := Lib.hid ((HFO.out.mono (fun c hc => List.mem_append.2 (.inl hc))).next hlt2 fun z' _ _ _ => by rw [HCC.out]; simp)
                    have HYA5 : Hid (y.atom = ix (L2 ++ [c]) n) := Lib.hid (by rw [ix_app, if_pos hnl]; exact HYA2.out)
                    have hb6 : Below w2r.heap.size w2r (wr.alloc (.cells #[.int .i64 z.atom, .int .i64 z.rule, .int .i64 z.level] 49)) := bal HB4.out _
                    have HO6 : Hid (OwnL w2r.heap.size (wr.alloc (.cells #[.int .i64 z.atom, .int .i64 z.rule, .int .i64 z.level] 49)) (.slice ao2 L2.length co2) L2) := Lib.hid (HOW4.out.below (bal (Below.refl _ _) _))
                    have HW6 := Lib.hid (HWB.out.alloc (.cells #[.int .i64 z.atom, .int .i64 z.rule, .int .i64 z.level] 49))
                    have HB6 := Lib.hid hb6
                    have hl6 : (L2 ++ [c]).length = L2.length + 1 := by simp
                    have HL6 := Lib.hid hl6
                    clear hct hbm hadd hb6 hl6
                    go_upto_region 24 with (go_at_call 45; (with_reducible refine (contains_any _ L2 _ _ (HO6.out.ownI (by omega)).ints).mono ?_); rintro e w6 ⟨e6, rfl⟩; rw [HCT.out] at e6; subst e6)
                    generalize wr.alloc (.cells #[.int .i64 z.atom, .int .i64 z.rule, .int .i64 z.level] 49) = W6 at *
                    have hz6 := HB6.out.size
                    go_wp2_with (at_builtin; refine wpList_appendO rfl _ _ rfl w2r.heap.size W6.heap.size _ L2 c rfl rfl (HO6.out.below (bal (Below.refl _ _) _)) (Blk.new W6 [.int .i64 c] _) HCI.out (by omega) (by simp; omega) ?_; intro g cap w7 hm7 hg7; have HM7 := Lib.hid hm7; have HB7 : Hid (Below w2r.heap.size w2r w7) := Lib.hid (belowO (bal HB6.out _) (HO6.out.below (bal (Below.refl _ _) _)) hg7 (by simp; omega)); have HW7 := Lib.hid ((HW6.out.alloc (.cells #[.int .i64 c] 3)).same (hg7.block _ (HW6.out.alloc (.cells #[.int .i64 c] 3)).lt fun e => (HO6.out.below (bal (Below.refl _ _) (.cells #[.int .i64 c] 3))).far (HW6.out.alloc (.cells #[.int .i64 c] 3)) (by decide) e.symm)); clear hm7 hg7)
                    first
                      | (go_roundw
                         case rel => (exact ⟨j + 1, L2 ++ [c], by go_num, hlt2, by have := HL6.out; omega, HYA5.out, HADD.out, HFN.out, HM7.out, HB7.out, HW7.out⟩)
                         case measure => (simp [intOf]; omega))
                      | (refine ⟨?_, ?_⟩
                         · (exact ⟨j + 1, L2 ++ [c], by go_num, hlt2, by have := HL6.out; omega, HYA5.out, HADD.out, HFN.out, HM7.out, HB7.out, HW7.out⟩)
                         · (simp [intOf]; omega))
                · have hlvd := decide_eq_false hlv
                  have HFN : Hid (FolB x y B (j + 1) L2) := Lib.hid (HFO.out.next hlt2 fun z' hz' e h1 => by
                    have : z' = z := why_same HVAL.out.nod hz' HZ.out ((e.trans HCC.out).trans HZA.out.symm)
                    rw [this] at h1
                    exact absurd h1 hlv)
                  go_wp2
                  first
                    | (go_roundw
                       case rel => (exact ⟨j + 1, L2, by go_num, hlt2, hnl, HYA2.out, HSL2.out, HFN.out, HOW4.out.below (bal (Below.refl _ _) _), bal HB4.out _, HWB.out.alloc _⟩)
                       case measure => (simp [intOf]; omega))
                    | (refine ⟨?_, ?_⟩
                       · (exact ⟨j + 1, L2, by go_num, hlt2, hnl, HYA2.out, HSL2.out, HFN.out, HOW4.out.below (bal (Below.refl _ _) _), bal HB4.out _, HWB.out.alloc _⟩)
                       · (simp [intOf]; omega))
              · obtain rfl : j = B.length := by omega
                have HTN := Lib.hid (HSL2.out.turn HVAL.out.nod HYM.out HYA2.out (by rw [HRT.out, HBB.out]; exact HFO.out))
                go_wp2
                first
                  | (go_roundw
                     case rel => (exact ⟨n + 1, L2, by go_num, hnl, HTN.out, HOW4.out, HB4.out⟩)
                     case measure => (simp [intOf]; omega))
                  | (refine ⟨?_, ?_⟩
                     · (exact ⟨n + 1, L2, by go_num, hnl, HTN.out, HOW4.out, HB4.out⟩)
                     · (simp [intOf]; omega))
          · obtain rfl : n = L.length := by omega
            have HALL := Lib.hid HSL.out.all
            have HNOD := Lib.hid HSL.out.nod
            have hsl := sortI_len L
            have HSLN := Lib.hid hsl
            have HRES : Hid ((srt L).Pairwise (· < ·) ∧ ∀ b, b ∈ srt L ↔ SupR p x a b) := Lib.hid ⟨by
              have h1 := (sortI_pairwise L).and ((List.mergeSort_perm L (fun x y => decide (x ≤ y))).nodup_iff.2 HNOD.out)
              exact h1.imp fun ⟨a, b⟩ => Int.lt_iff_le_and_ne.2 ⟨a, b⟩, fun b => (sortI_mem L b).trans (HALL.out b)⟩
            have HZW : Hid (w.heap.size + 2 ≤ w2r.heap.size) := Lib.hid (by have := HZ0.out; have := HBL.out.size; omega)
            have HLQ : Hid ((srt L).length ≤ 1000000) := Lib.hid (Nat.le_trans (Nat.le_of_eq HSLN.out) (by have := HSL.out.len; omega))
            clear hsl
            go_wp2_with (go_at_call 46; (with_reducible refine (sortL_own HOW.out).mono ?_); rintro e w8 ⟨rfl, ho8, hg8⟩; have HO8 := Lib.hid ho8; have HB8 : Hid (Below w2r.heap.size w2r w8) := Lib.hid (belowO HBR.out HOW.out hg8 HBR.out.size); clear ho8 hg8)
            go_ret2
            exact ⟨_, srt L, _, rfl, (HO8.out.qrow HLQ.out).mono HZW.out, (HSR.out.on HB8.out).below, .inr (.inr (.inr ⟨HE2.out, HCK.out, HIN.out, rfl, HRES.out.1, HRES.out.2⟩))⟩
def bkVal (b : BK) : Value := .agg #[.int .i64 b.rule, .int .u8 b.kind, .int .i64 b.lit]
def cellsK (b : BK) : List Value := [.int .i64 b.rule, .int .u8 b.kind, .int .i64 b.lit]
def BI (b : BK) : Prop := InI b.rule ∧ (0 ≤ b.kind ∧ b.kind ≤ 255) ∧ InI b.lit
theorem bc1_any (x : Int) (m : List Int) (mb : Nat) (w : World) (h : ∃ v, Blk w mb [v] 23 ∧ Ints w v m) (hx : -9223372036854775808 < x ∧ x ≤ 9223372036854775807) :
    Calls Tryz.prog 99 #[.int .i64 x, .pointer (some ⟨mb, 0, none⟩)] w fun e w' => e = .returned (.bool (!litT m x)) ∧ Below w.heap.size w w' := by
  obtain ⟨v, h1, h2⟩ := h
  obtain ⟨a1, c1, rfl, -⟩ := h2.form
  have kb := h1.cell 0
  have HM := Lib.hid h2
  clear h1 h2
  by_cases hp : 0 < x
  · have hmax : max x (-x) = x := by omega
    have HF : Hid ((!litT m x) = (decide (x ∈ m) != true)) := Lib.hid (by unfold litT; rw [if_pos hp]; cases decide (x ∈ m) <;> rfl)
    cases hin : decide (x ∈ m) with
    | true =>
      have HIN := Lib.hid hin
      rw [hin] at HF
      clear hin
      go_enter Tryz.func99, Tryz.ntmps99
      go_wp2_with (go_at_call 45; (with_reducible refine (contains_any _ m _ _ HM.out).mono ?_); rintro e w1 ⟨e1, rfl⟩; rw [HIN.out] at e1; subst e1)
      go_ret
      exact ⟨ret_bool HF.out.symm, Below.refl _ _⟩
    | false =>
      have HIN := Lib.hid hin
      rw [hin] at HF
      clear hin
      go_enter Tryz.func99, Tryz.ntmps99
      go_wp2_with (go_at_call 45; (with_reducible refine (contains_any _ m _ _ HM.out).mono ?_); rintro e w1 ⟨e1, rfl⟩; rw [HIN.out] at e1; subst e1)
      go_ret
      exact ⟨ret_bool HF.out.symm, Below.refl _ _⟩
  · have hmax : max x (-x) = -x := by omega
    have HF : Hid ((!litT m x) = decide (-x ∈ m)) := Lib.hid (by unfold litT; rw [if_neg hp, Bool.not_not])
    cases hin : decide (-x ∈ m) with
    | true =>
      have HIN := Lib.hid hin
      rw [hin] at HF
      clear hin
      go_enter Tryz.func99, Tryz.ntmps99
      go_wp2_with (go_at_call 45; (with_reducible refine (contains_any _ m _ _ HM.out).mono ?_); rintro e w1 ⟨e1, rfl⟩; rw [HIN.out] at e1; subst e1)
      go_ret
      exact ⟨ret_bool (by rw [HF.out]; simp [hp]), Below.refl _ _⟩
    | false =>
      have HIN := Lib.hid hin
      rw [hin] at HF
      clear hin
      go_enter Tryz.func99, Tryz.ntmps99
      go_wp2_with (go_at_call 45; (with_reducible refine (contains_any _ m _ _ HM.out).mono ?_); rintro e w1 ⟨e1, rfl⟩; rw [HIN.out] at e1; subst e1)
      go_ret
      exact ⟨ret_bool (by rw [HF.out]; simp [hp]), Below.refl _ _⟩
theorem bc2_any (x : Int) (m : List Int) (mb : Nat) (w : World) (h : ∃ v, Blk w mb [v] 23 ∧ Ints w v m) :
    Calls Tryz.prog 100 #[.int .i64 x, .pointer (some ⟨mb, 0, none⟩)] w fun e w' => e = .returned (.bool (decide (x ∈ m))) ∧ Below w.heap.size w w' := by
  obtain ⟨v, h1, h2⟩ := h
  obtain ⟨a1, c1, rfl, -⟩ := h2.form
  have kb := h1.cell 0
  have HM := Lib.hid h2
  clear h1 h2
  go_enter Tryz.func100, Tryz.ntmps100
  go_wp2_with (go_at_call 45; (with_reducible refine (contains_any _ m _ _ HM.out).mono ?_); rintro e w1 ⟨rfl, rfl⟩)
  go_ret
  exact ⟨rfl, Below.refl _ _⟩
set_option maxHeartbeats 1000000 in
theorem idx_bc1 (v : Value) (l : List Int) (w : World) (h : Ints w v l) (g : Nat → Bool) (cap : Value)
    (hg : ∀ w', Below w.heap.size w w' → ∀ j, j < l.length → Calls Tryz.prog 99 #[.int .i64 (ix l j), cap] w' fun e w'' => e = .returned (.bool (g j)) ∧ Below w'.heap.size w' w'') :
    Calls Tryz.prog 90 #[v, .func (.func 99) #[] #[cap]] w fun e w' => ∃ r, e = .returned (.int .i64 r) ∧ IxP l.length g r ∧ Below w.heap.size w w' := by
  obtain ⟨a1, c1, rfl, -, hl1, -, hcell⟩ := h.form
  have HG := Lib.hid hg
  clear h hg
  go_enter Tryz.func90, Tryz.ntmps90
  go_wp2
  go_loopw [8] (fun i wx => IxR l.length g w i wx) (fun i _ => l.length - (intOf i).toNat)
  case atStart => exact ⟨0, by omega, rfl, fun j hj => absurd hj (Nat.not_lt_zero _), Below.refl _ _⟩
  case round =>
    obtain ⟨k, hk, rfl, hall, hb⟩ := hrel
    have HA := Lib.hid hall
    clear hall
    by_cases hlt : k < l.length
    · obtain ⟨b, off, rfl, hbl, hc⟩ := hcell (by omega)
      have hk1 := (bcell hb _ _ hbl).trans (hc k hlt)
      clear hc hcell
      cases g1 : g k with
      | true =>
        have HK : Hid (_ = true) := Lib.hid g1
        have HC := Lib.hid (HG.out _ hb k hlt)
        rw [g1] at HC
        clear g1
        go_wp2_with (go_at_call 99; refine (HC.out).mono ?_; rintro e w1 ⟨rfl, hb1⟩)
        go_ret
        exact ⟨_, rfl, .inr ⟨k, hlt, rfl, HK.out, HA.out⟩, bon hb hb1⟩
      | false =>
        have HN := Lib.hid (lt_succ_all HA.out g1)
        have HC := Lib.hid (HG.out _ hb k hlt)
        rw [g1] at HC
        clear g1
        go_wp2_with (go_at_call 99; refine (HC.out).mono ?_; rintro e w1 ⟨rfl, hb1⟩)
        first
          | (go_roundw
             case rel => (exact ⟨k + 1, by omega, by go_num, HN.out, bon hb hb1⟩)
             case measure => (simp [intOf]; omega))
          | (refine ⟨?_, ?_⟩
             · (exact ⟨k + 1, by omega, by go_num, HN.out, bon hb hb1⟩)
             · (simp [intOf]; omega))
    · have HN : Hid (∀ j, j < l.length → g j = false) := Lib.hid (fun j hj => HA.out j (by omega))
      go_wp2
      go_ret
      exact ⟨_, rfl, .inl ⟨rfl, HN.out⟩, hb⟩
set_option maxHeartbeats 1000000 in
theorem idx_bc2 (v : Value) (l : List Int) (w : World) (h : Ints w v l) (g : Nat → Bool) (cap : Value)
    (hg : ∀ w', Below w.heap.size w w' → ∀ j, j < l.length → Calls Tryz.prog 100 #[.int .i64 (ix l j), cap] w' fun e w'' => e = .returned (.bool (g j)) ∧ Below w'.heap.size w' w'') :
    Calls Tryz.prog 90 #[v, .func (.func 100) #[] #[cap]] w fun e w' => ∃ r, e = .returned (.int .i64 r) ∧ IxP l.length g r ∧ Below w.heap.size w w' := by
  obtain ⟨a1, c1, rfl, -, hl1, -, hcell⟩ := h.form
  have HG := Lib.hid hg
  clear h hg
  go_enter Tryz.func90, Tryz.ntmps90
  go_wp2
  go_loopw [8] (fun i wx => IxR l.length g w i wx) (fun i _ => l.length - (intOf i).toNat)
  case atStart => exact ⟨0, by omega, rfl, fun j hj => absurd hj (Nat.not_lt_zero _), Below.refl _ _⟩
  case round =>
    obtain ⟨k, hk, rfl, hall, hb⟩ := hrel
    have HA := Lib.hid hall
    clear hall
    by_cases hlt : k < l.length
    · obtain ⟨b, off, rfl, hbl, hc⟩ := hcell (by omega)
      have hk1 := (bcell hb _ _ hbl).trans (hc k hlt)
      clear hc hcell
      cases g1 : g k with
      | true =>
        have HK : Hid (_ = true) := Lib.hid g1
        have HC := Lib.hid (HG.out _ hb k hlt)
        rw [g1] at HC
        clear g1
        go_wp2_with (go_at_call 100; refine (HC.out).mono ?_; rintro e w1 ⟨rfl, hb1⟩)
        go_ret
        exact ⟨_, rfl, .inr ⟨k, hlt, rfl, HK.out, HA.out⟩, bon hb hb1⟩
      | false =>
        have HN := Lib.hid (lt_succ_all HA.out g1)
        have HC := Lib.hid (HG.out _ hb k hlt)
        rw [g1] at HC
        clear g1
        go_wp2_with (go_at_call 100; refine (HC.out).mono ?_; rintro e w1 ⟨rfl, hb1⟩)
        first
          | (go_roundw
             case rel => (exact ⟨k + 1, by omega, by go_num, HN.out, bon hb hb1⟩)
             case measure => (simp [intOf]; omega))
          | (refine ⟨?_, ?_⟩
             · (exact ⟨k + 1, by omega, by go_num, HN.out, bon hb hb1⟩)
             · (simp [intOf]; omega))
    · have HN : Hid (∀ j, j < l.length → g j = false) := Lib.hid (fun j hj => HA.out j (by omega))
      go_wp2
      go_ret
      exact ⟨_, rfl, .inl ⟨rfl, HN.out⟩, hb⟩
theorem firI_ix {n : Nat} {g : Nat → Bool} {r : Int} (h : IxP n g r) (hany : ∃ j, j < n ∧ g j = true) : r = (firI g n : Nat) ∧ firI g n < n ∧ g (firI g n) = true := by
  rcases h with ⟨-, h⟩ | ⟨i, hi, rfl, h1, h2⟩
  · obtain ⟨j, hj, hg⟩ := hany
    rw [h j hj] at hg; cases hg
  · have e : firI g n = i := by
      unfold firI
      have : (List.range n).find? g = some i := List.find?_eq_some_iff_getElem.2 ⟨h1, i, by simpa using hi, by simp, fun j hj => by simp [h2 j hj]⟩
      rw [this]; rfl
    rw [e]
    exact ⟨rfl, hi, h1⟩
theorem body_lit {r : GR} {m : List Int} (hs : r.sum = false) (hb : bodyT r m = false) : ∃ j, j < r.body.length ∧ (!litT m (ix r.body j)) = true := by
  unfold bodyT at hb
  rw [hs, if_neg Bool.false_ne_true] at hb
  refine Classical.byContradiction fun hno => ?_
  rw [allR_true fun j hj => ?_] at hb
  · cases hb
  · cases h : litT m (ix r.body j) with
    | true => rfl
    | false => exact absurd ⟨j, hj, by rw [h]; rfl⟩ hno
theorem RuleIs.bodyOf {W : World} {a c d f vh vb : Value} {r : GR} (h : RuleIs W (.agg #[a, vh, c, d, vb, f]) r) : Ints W vb r.body := by
  obtain ⟨_, _, _, e, h⟩ := h
  injection e with e
  have e := congrArg Array.toList e
  simp only [List.cons.injEq, and_true] at e
  obtain ⟨-, -, -, -, e1, -⟩ := e
  rw [e1]; exact h.body
theorem RuleIs.headOf {W : World} {a c d f vh vb : Value} {r : GR} (h : RuleIs W (.agg #[a, vh, c, d, vb, f]) r) : Ints W vh r.head := by
  obtain ⟨_, _, _, e, h⟩ := h
  injection e with e
  have e := congrArg Array.toList e
  simp only [List.cons.injEq, and_true] at e
  obtain ⟨-, e1, -⟩ := e
  rw [e1]; exact h.head
set_option maxHeartbeats 4000000 in
set_option maxRecDepth 100000 in
theorem block_any (vr vset : Value) (r : GR) (m : List Int) (n : Int) (w : World) (hr : RuleIs w vr r) (hm : Ints w vset m) (hml : m.length ≤ 1000000000) (hV : BodyV r n) (hmod : satT r m = true) :
    Calls Tryz.prog 47 #[vr, vset] w fun e w' => e = .returned (bkVal (blkB r m 0)) ∧ Below w.heap.size w w' := by
  have hr0 := hr
  obtain ⟨vh, vb, vw, rfl, hsl⟩ := hr
  obtain ⟨am, cm, rfl, -⟩ := id hm.form
  obtain ⟨a1, c1, rfl, -, hl1, -, -⟩ := hsl.head.form
  obtain ⟨a2, c2, rfl, -, hl2, -, -⟩ := hsl.body.form
  have hal := bal (bal (bal (Below.refl w.heap.size w) (.cells #[.bool r.choice, .slice a1 r.head.length c1, .bool r.sum, .int .i64 r.bound, .slice a2 r.body.length c2, vw] 64)) (.cells #[.slice am m.length cm] 23)) (.cells #[.int .i64 0, .int .u8 0, .int .i64 0] 71)
  have HX0 : Hid (Blk (((w.alloc (.cells #[.bool r.choice, .slice a1 r.head.length c1, .bool r.sum, .int .i64 r.bound, .slice a2 r.body.length c2, vw] 64)).alloc (.cells #[.slice am m.length cm] 23)).alloc (.cells #[.int .i64 0, .int .u8 0, .int .i64 0] 71)) w.heap.size [.bool r.choice, .slice a1 r.head.length c1, .bool r.sum, .int .i64 r.bound, .slice a2 r.body.length c2, vw] 64) := Lib.hid (((Blk.new w [.bool r.choice, .slice a1 r.head.length c1, .bool r.sum, .int .i64 r.bound, .slice a2 r.body.length c2, vw] _).alloc _).alloc _)
  have HY0 : Hid (Blk (((w.alloc (.cells #[.bool r.choice, .slice a1 r.head.length c1, .bool r.sum, .int .i64 r.bound, .slice a2 r.body.length c2, vw] 64)).alloc (.cells #[.slice am m.length cm] 23)).alloc (.cells #[.int .i64 0, .int .u8 0, .int .i64 0] 71)) (w.heap.size + 1) [.slice am m.length cm] 23) := Lib.hid ((Blk.new2 w _ [.slice am m.length cm] _).alloc _)
  have HZ0 : Hid (Blk (((w.alloc (.cells #[.bool r.choice, .slice a1 r.head.length c1, .bool r.sum, .int .i64 r.bound, .slice a2 r.body.length c2, vw] 64)).alloc (.cells #[.slice am m.length cm] 23)).alloc (.cells #[.int .i64 0, .int .u8 0, .int .i64 0] 71)) (w.heap.size + 1 + 1) [.int .i64 0, .int .u8 0, .int .i64 0] 71) := Lib.hid (Blk.newAt _ _ _ (by simp))
  have HR0 := Lib.hid (hr0.below hal)
  have HM0 := Lib.hid (hm.below hal)
  have HB0 := Lib.hid hal
  have HV := Lib.hid hV
  have HLT : Hid (∀ j, j < r.body.length → -9223372036854775808 < ix r.body j ∧ ix r.body j ≤ 9223372036854775807) := Lib.hid (fun j hj => ⟨hV.ok.lit j hj, (hsl.body.2 j).2⟩)
  clear hr0 hsl hm hal hV
  go_enter Tryz.func47, Tryz.ntmps47
  go_upto_region 1 with fail
  have kr0 := HX0.out.cell
  have km0 := HY0.out.cell 0
  have kz0 := HZ0.out.cell
  generalize ((w.alloc (.cells #[.bool r.choice, .slice a1 r.head.length c1, .bool r.sum, .int .i64 r.bound, .slice a2 r.body.length c2, vw] 64)).alloc (.cells #[.slice am m.length cm] 23)).alloc (.cells #[.int .i64 0, .int .u8 0, .int .i64 0] 71) = W0 at *
  cases hb : bodyT r m with
  | false =>
    have HBT := Lib.hid hb
    cases hs : r.sum with
    | true =>
      have HF : Hid (blkB r m 0 = ⟨0, 2, 0⟩) := Lib.hid (by unfold blkB; rw [if_pos hb, if_pos hs])
      have HSU := Lib.hid hs
      clear hb hs
      go_wp2_with ((go_at_call 31; (with_reducible refine (rBody_any _ _ r m _ HR0.out HM0.out hml HV.out).mono ?_); rintro e w1 ⟨e1, hb1⟩; rw [HBT.out] at e1; subst e1; have HR1 := Lib.hid (HR0.out.below hb1); have HM1 := Lib.hid (HM0.out.below hb1); have HX1 := Lib.hid (HX0.out.below hb1); have HY1 := Lib.hid (HY0.out.below hb1); have HZ1 := Lib.hid (HZ0.out.below hb1); have kr1 := HX1.out.cell; have km1 := HY1.out.cell 0; have kz1 := HZ1.out.cell; have fz1 := HZ1.out.free; have HB1 := Lib.hid (bon HB0.out hb1); clear hb1); rw [HSU.out] at kr1)
      have hz9 := ((HZ1.out.set 0 (.int .i64 0)).set 1 (.int .u8 2)).set 2 (.int .i64 0)
      simp only [List.set_cons_zero, List.set_cons_succ] at hz9
      have kz9 := hz9.cell
      have hb9 := ((HB1.out.setCell (p := ⟨w.heap.size + 1 + 1, 0, none⟩) (by show w.heap.size ≤ w.heap.size + 1 + 1; omega) (.int .i64 0)).setCell (p := ⟨w.heap.size + 1 + 1, 1, none⟩) (by show w.heap.size ≤ w.heap.size + 1 + 1; omega) (.int .u8 2)).setCell (p := ⟨w.heap.size + 1 + 1, 2, none⟩) (by show w.heap.size ≤ w.heap.size + 1 + 1; omega) (.int .i64 0)
      generalize ((w1.setCell ⟨w.heap.size + 1 + 1, 0, none⟩ (.int .i64 0)).setCell ⟨w.heap.size + 1 + 1, 1, none⟩ (.int .u8 2)).setCell ⟨w.heap.size + 1 + 1, 2, none⟩ (.int .i64 0) = W9 at *
      refine bodyPost_ret (v := .agg #[.int .i64 0, .int .u8 2, .int .i64 0]) ?_ rfl ⟨by rw [HF.out]; rfl, hb9⟩
      simp [results, Tryz.f47, go_sem, kz9]
    | false =>
      have HSU := Lib.hid hs
      have HAN := Lib.hid (body_lit hs hb)
      have hF : blkB r m 0 = ⟨0, 1, ix r.body (firI (fun j => !litT m (ix r.body j)) r.body.length)⟩ := by unfold blkB; rw [if_pos hb, if_neg (by rw [hs]; exact Bool.false_ne_true)]
      clear hb hs
      go_upto_region 4 with (first | ((go_at_call 31; (with_reducible refine (rBody_any _ _ r m _ HR1.out HM1.out hml HV.out).mono ?_); rintro e w2 ⟨e2, hb2⟩; rw [HBT.out] at e2; subst e2; have HR2 := Lib.hid (HR1.out.below hb2); have HM2 := Lib.hid (HM1.out.below hb2); have HX2 := Lib.hid (HX1.out.below hb2); have HY2 := Lib.hid (HY1.out.below hb2); have HZ2 := Lib.hid (HZ1.out.below hb2); have kr2 := HX2.out.cell; have km2 := HY2.out.cell 0; have kz2 := HZ2.out.cell; have fz2 := HZ2.out.free; have HB2 := Lib.hid (bon HB1.out hb2); clear hb2); rw [HSU.out] at kr2) | ((go_at_call 31; (with_reducible refine (rBody_any _ _ r m _ HR0.out HM0.out hml HV.out).mono ?_); rintro e w1 ⟨e1, hb1⟩; rw [HBT.out] at e1; subst e1; have HR1 := Lib.hid (HR0.out.below hb1); have HM1 := Lib.hid (HM0.out.below hb1); have HX1 := Lib.hid (HX0.out.below hb1); have HY1 := Lib.hid (HY0.out.below hb1); have HZ1 := Lib.hid (HZ0.out.below hb1); have kr1 := HX1.out.cell; have km1 := HY1.out.cell 0; have kz1 := HZ1.out.cell; have fz1 := HZ1.out.free; have HB1 := Lib.hid (bon HB0.out hb1); clear hb1); rw [HSU.out] at kr1 HR1))
      have HCB : Hid (∀ w', Below w2.heap.size w2 w' → ∀ j, j < r.body.length → Calls Tryz.prog 99 #[.int .i64 (ix r.body j), .pointer (some ⟨w.heap.size + 1, 0, none⟩)] w' fun e w'' => e = .returned (.bool (!litT m (ix r.body j))) ∧ Below w'.heap.size w' w'') := Lib.hid fun w' hb j hj => bc1_any _ m _ w' ⟨_, HY2.out.below hb, HM2.out.below hb⟩ (HLT.out j hj)
      have HBI := Lib.hid (RuleIs.bodyOf HR2.out)
      go_upto_region 5 with (go_at_call 90; (with_reducible refine (idx_bc1 _ r.body w2 HBI.out (fun j => !litT m (ix r.body j)) _ HCB.out).mono ?_); rintro e w3 ⟨ri, rfl, hri, hb3⟩; have HBI3 := Lib.hid (HBI.out.below hb3); obtain ⟨hr1, hr2, -⟩ := firI_ix hri HAN.out; have HR3 := Lib.hid (HR2.out.below hb3); have HM3 := Lib.hid (HM2.out.below hb3); have HX3 := Lib.hid (HX2.out.below hb3); have HY3 := Lib.hid (HY2.out.below hb3); have HZ3 := Lib.hid (HZ2.out.below hb3); have kr3 := HX3.out.cell; have km3 := HY3.out.cell 0; have kz3 := HZ3.out.cell; have fz3 := HZ3.out.free; have HB3 := Lib.hid (bon HB2.out hb3); clear hb3; rw [HSU.out] at kr3; subst hr1; clear hri)
      obtain ⟨bb, ob, rfl, hbb, hcb⟩ := HBI3.out.at hr2
      have HF := Lib.hid hF
      clear hF
      generalize firI (fun j => !litT m (ix r.body j)) r.body.length = fi at *
      generalize ix r.body fi = xl at *
      go_wp2_with fail
      have hz9 := ((HZ3.out.set 0 (.int .i64 0)).set 1 (.int .u8 1)).set 2 (.int .i64 xl)
      simp only [List.set_cons_zero, List.set_cons_succ] at hz9
      have kz9 := hz9.cell
      have hb9 := ((HB3.out.setCell (p := ⟨w.heap.size + 1 + 1, 0, none⟩) (by show w.heap.size ≤ w.heap.size + 1 + 1; omega) (.int .i64 0)).setCell (p := ⟨w.heap.size + 1 + 1, 1, none⟩) (by show w.heap.size ≤ w.heap.size + 1 + 1; omega) (.int .u8 1)).setCell (p := ⟨w.heap.size + 1 + 1, 2, none⟩) (by show w.heap.size ≤ w.heap.size + 1 + 1; omega) (.int .i64 xl)
      generalize ((w3.setCell ⟨w.heap.size + 1 + 1, 0, none⟩ (.int .i64 0)).setCell ⟨w.heap.size + 1 + 1, 1, none⟩ (.int .u8 1)).setCell ⟨w.heap.size + 1 + 1, 2, none⟩ (.int .i64 xl) = W9 at *
      refine bodyPost_ret (v := .agg #[.int .i64 0, .int .u8 1, .int .i64 xl]) ?_ rfl ⟨by rw [HF.out]; rfl, hb9⟩
      simp [results, Tryz.f47, go_sem, kz9]
  | true =>
    have HBT := Lib.hid hb
    cases hc : r.choice with
    | true =>
      have hF : blkB r m 0 = ⟨0, 4, 0⟩ := by unfold blkB; rw [if_neg (by rw [hb]; exact Bool.noConfusion), if_pos hc]
      have HF := Lib.hid hF
      have HCH := Lib.hid hc
      clear hb hc hF
      go_wp2_with (first | ((go_at_call 31; (with_reducible refine (rBody_any _ _ r m _ HR1.out HM1.out hml HV.out).mono ?_); rintro e w2 ⟨e2, hb2⟩; rw [HBT.out] at e2; subst e2; have HR2 := Lib.hid (HR1.out.below hb2); have HM2 := Lib.hid (HM1.out.below hb2); have HX2 := Lib.hid (HX1.out.below hb2); have HY2 := Lib.hid (HY1.out.below hb2); have HZ2 := Lib.hid (HZ1.out.below hb2); have kr2 := HX2.out.cell; have km2 := HY2.out.cell 0; have kz2 := HZ2.out.cell; have fz2 := HZ2.out.free; have HB2 := Lib.hid (bon HB1.out hb2); clear hb2); rw [HCH.out] at kr2) | ((go_at_call 31; (with_reducible refine (rBody_any _ _ r m _ HR0.out HM0.out hml HV.out).mono ?_); rintro e w1 ⟨e1, hb1⟩; rw [HBT.out] at e1; subst e1; have HR1 := Lib.hid (HR0.out.below hb1); have HM1 := Lib.hid (HM0.out.below hb1); have HX1 := Lib.hid (HX0.out.below hb1); have HY1 := Lib.hid (HY0.out.below hb1); have HZ1 := Lib.hid (HZ0.out.below hb1); have kr1 := HX1.out.cell; have km1 := HY1.out.cell 0; have kz1 := HZ1.out.cell; have fz1 := HZ1.out.free; have HB1 := Lib.hid (bon HB0.out hb1); clear hb1); rw [HCH.out] at kr1 HR1))
      have hz9 := ((HZ2.out.set 0 (.int .i64 0)).set 1 (.int .u8 4)).set 2 (.int .i64 0)
      simp only [List.set_cons_zero, List.set_cons_succ] at hz9
      have kz9 := hz9.cell
      have hb9 := ((HB2.out.setCell (p := ⟨w.heap.size + 1 + 1, 0, none⟩) (by show w.heap.size ≤ w.heap.size + 1 + 1; omega) (.int .i64 0)).setCell (p := ⟨w.heap.size + 1 + 1, 1, none⟩) (by show w.heap.size ≤ w.heap.size + 1 + 1; omega) (.int .u8 4)).setCell (p := ⟨w.heap.size + 1 + 1, 2, none⟩) (by show w.heap.size ≤ w.heap.size + 1 + 1; omega) (.int .i64 0)
      generalize ((w2.setCell ⟨w.heap.size + 1 + 1, 0, none⟩ (.int .i64 0)).setCell ⟨w.heap.size + 1 + 1, 1, none⟩ (.int .u8 4)).setCell ⟨w.heap.size + 1 + 1, 2, none⟩ (.int .i64 0) = W9 at *
      refine bodyPost_ret (v := .agg #[.int .i64 0, .int .u8 4, .int .i64 0]) ?_ rfl ⟨by rw [HF.out]; rfl, hb9⟩
      simp [results, Tryz.f47, go_sem, kz9]
    | false =>
      have HAN : Hid (∃ j, j < r.head.length ∧ decide (ix r.head j ∈ m) = true) := Lib.hid (by
        unfold satT at hmod
        rw [hc, hb] at hmod
        exact anyR_some (by simpa using hmod))
      have hF : blkB r m 0 = ⟨0, 3, ix r.head (firI (fun j => decide (ix r.head j ∈ m)) r.head.length)⟩ := by unfold blkB; rw [if_neg (by rw [hb]; exact Bool.noConfusion), if_neg (by rw [hc]; exact Bool.false_ne_true)]
      have HF := Lib.hid hF
      have HCH := Lib.hid hc
      clear hb hc hF
      go_upto_region 8 with (first | ((go_at_call 31; (with_reducible refine (rBody_any _ _ r m _ HR1.out HM1.out hml HV.out).mono ?_); rintro e w2 ⟨e2, hb2⟩; rw [HBT.out] at e2; subst e2; have HR2 := Lib.hid (HR1.out.below hb2); have HM2 := Lib.hid (HM1.out.below hb2); have HX2 := Lib.hid (HX1.out.below hb2); have HY2 := Lib.hid (HY1.out.below hb2); have HZ2 := Lib.hid (HZ1.out.below hb2); have kr2 := HX2.out.cell; have km2 := HY2.out.cell 0; have kz2 := HZ2.out.cell; have fz2 := HZ2.out.free; have HB2 := Lib.hid (bon HB1.out hb2); clear hb2); rw [HCH.out] at kr2) | ((go_at_call 31; (with_reducible refine (rBody_any _ _ r m _ HR0.out HM0.out hml HV.out).mono ?_); rintro e w1 ⟨e1, hb1⟩; rw [HBT.out] at e1; subst e1; have HR1 := Lib.hid (HR0.out.below hb1); have HM1 := Lib.hid (HM0.out.below hb1); have HX1 := Lib.hid (HX0.out.below hb1); have HY1 := Lib.hid (HY0.out.below hb1); have HZ1 := Lib.hid (HZ0.out.below hb1); have kr1 := HX1.out.cell; have km1 := HY1.out.cell 0; have kz1 := HZ1.out.cell; have fz1 := HZ1.out.free; have HB1 := Lib.hid (bon HB0.out hb1); clear hb1); rw [HCH.out] at kr1 HR1))
      have HCB : Hid (∀ w', Below w2.heap.size w2 w' → ∀ j, j < r.head.length → Calls Tryz.prog 100 #[.int .i64 (ix r.head j), .pointer (some ⟨w.heap.size + 1, 0, none⟩)] w' fun e w'' => e = .returned (.bool (decide (ix r.head j ∈ m))) ∧ Below w'.heap.size w' w'') := Lib.hid fun w' hb j hj => bc2_any _ m _ w' ⟨_, HY2.out.below hb, HM2.out.below hb⟩
      have HBI := Lib.hid (RuleIs.headOf HR2.out)
      go_upto_region 9 with (go_at_call 90; (with_reducible refine (idx_bc2 _ r.head w2 HBI.out (fun j => decide (ix r.head j ∈ m)) _ HCB.out).mono ?_); rintro e w3 ⟨ri, rfl, hri, hb3⟩; have HBI3 := Lib.hid (HBI.out.below hb3); obtain ⟨hr1, hr2, -⟩ := firI_ix hri HAN.out; have HR3 := Lib.hid (HR2.out.below hb3); have HM3 := Lib.hid (HM2.out.below hb3); have HX3 := Lib.hid (HX2.out.below hb3); have HY3 := Lib.hid (HY2.out.below hb3); have HZ3 := Lib.hid (HZ2.out.below hb3); have kr3 := HX3.out.cell; have km3 := HY3.out.cell 0; have kz3 := HZ3.out.cell; have fz3 := HZ3.out.free; have HB3 := Lib.hid (bon HB2.out hb3); clear hb3; rw [HCH.out] at kr3; subst hr1; clear hri)
      obtain ⟨bb, ob, rfl, hbb, hcb⟩ := HBI3.out.at hr2
      generalize firI (fun j => decide (ix r.head j ∈ m)) r.head.length = fi at *
      generalize ix r.head fi = xl at *
      go_wp2_with fail
      have hz9 := ((HZ3.out.set 0 (.int .i64 0)).set 1 (.int .u8 3)).set 2 (.int .i64 xl)
      simp only [List.set_cons_zero, List.set_cons_succ] at hz9
      have kz9 := hz9.cell
      have hb9 := ((HB3.out.setCell (p := ⟨w.heap.size + 1 + 1, 0, none⟩) (by show w.heap.size ≤ w.heap.size + 1 + 1; omega) (.int .i64 0)).setCell (p := ⟨w.heap.size + 1 + 1, 1, none⟩) (by show w.heap.size ≤ w.heap.size + 1 + 1; omega) (.int .u8 3)).setCell (p := ⟨w.heap.size + 1 + 1, 2, none⟩) (by show w.heap.size ≤ w.heap.size + 1 + 1; omega) (.int .i64 xl)
      generalize ((w3.setCell ⟨w.heap.size + 1 + 1, 0, none⟩ (.int .i64 0)).setCell ⟨w.heap.size + 1 + 1, 1, none⟩ (.int .u8 3)).setCell ⟨w.heap.size + 1 + 1, 2, none⟩ (.int .i64 xl) = W9 at *
      refine bodyPost_ret (v := .agg #[.int .i64 0, .int .u8 3, .int .i64 xl]) ?_ rfl ⟨by rw [HF.out]; rfl, hb9⟩
      simp [results, Tryz.f47, go_sem, kz9]
end Go.Proofs.YtgakoainjgjimaaGreatDoor
