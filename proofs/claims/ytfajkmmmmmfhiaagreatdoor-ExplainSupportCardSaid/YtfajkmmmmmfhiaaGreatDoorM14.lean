/- My texts CpA, CpB, Perm5, PermK, Aw2, Open, Subs, merged. -/
import Derived.Test.YtfajkmmmmmfhiaaGreatDoorM12
import Derived.Test.YtfajkmmmmmfhiaaGreatDoorM09
import Derived.Test.YtfajkmmmmmfhiaaGreatDoorM00
import Derived.Test.YtfajkmmmmmfhiaaGreatDoorProg
import Derived.WalkKit
import Derived.Lib.Hide
import Derived.Deep.QuietTactic
import Derived.BigQuiet
import Derived.Test.YtfajkmmmmmfhiaaGreatDoorM04
import Derived.Test.YtfajkmmmmmfhiaaGreatDoorM03
import Derived.WalkSpells
import Derived.Lib.SliceRun
import Derived.MapKept
import Derived.Maps.OwnSet
import Derived.Maps.OwnOps
import Derived.Test.YtfajkmmmmmfhiaaGreatDoorM02
import Derived.Test.YtfajkmmmmmfhiaaGreatDoorM01
import Derived.Deep.AppendLies
import Derived.Lib.Bytealg
import Derived.Deep.DeepCutAuto
import Derived.RangeFuncNested
import Derived.RangeFuncBound
import Derived.RangeFuncCalls
import Derived.RangeFuncLeaves
import Derived.OwnWalkIn
import Derived.TacticsInMore
import Derived.LoopNIn
import Derived.LoopIn
import Derived.Stop.RegionWithIn
import Derived.Shelf.Abstract
import Derived.Maps.RangeWalk
import Derived.Lib.SlicesCompact
import Derived.Test.YtfajkmmmmmfhiaaGreatDoorM07
import Derived.Shelf.Sort.Plain
import Derived.Shelf.Slices.CompactI
import Derived.Shelf.Slices.In.SortNone
import Derived.Shelf.Strconv.Itoa3
import Derived.Shelf.Strings.BuilderK
import Derived.Shelf.Slices.SearchI
import Derived.Shelf.Slices.Empties
import Derived.Sort.OwnSortedInts
import Derived.Sort.QuietThIn
import Derived.RangeFuncBox
import Derived.Maps.OwnIn
import Derived.Lib.RowBridge
import Derived.Deep.OwnRows
import Derived.Test.YtfajkmmmmmfhiaaGreatDoorM13
import Derived.Test.YtfajkmmmmmfhiaaGreatDoorM06
import Derived.Test.YtfajkmmmmmfhiaaGreatDoorM05
import Derived.Laws.EntriesVeiled
import Derived.Deep.RegionWith
import Derived.Deep.AppendSrc
import Derived.Deep.DeepMust
import Derived.ProofKit
import Derived.OpenShut
import Derived.ChangeArms
import Derived.SizedLaws

namespace Go.Proofs.YtfajkmmmmmfhiaaGreatDoor
open Go.RowKit
structure RA (w : World) (fv : Value) (rb : Nat) (v1 v2 : Value) (la lb : List Int) (b bd rest x y : Int) (vals : Nat → Value) (L : Nat → Bool) (wx : World) : Prop where
  below : Below w.heap.size w wx
  t0 : L 0 = true → vals 0 = fv
  t1 : L 1 = true → vals 1 = .pointer (some ⟨rb, 4, none⟩)
  t2 : L 2 = true → vals 2 = v1
  t4 : L 4 = true → vals 4 = .int .i64 b
  t5 : L 5 = true → vals 5 = .int .i64 x
  t8 : L 8 = true → vals 8 = .pointer (some ⟨rb, 5, none⟩)
  t9 : L 9 = true → vals 9 = v2
  t11 : L 11 = true → vals 11 = .pointer (some ⟨rb, 3, none⟩)
  t12 : L 12 = true → vals 12 = .int .i64 bd
  t15 : L 15 = true → vals 15 = .pointer (some ⟨rb, 3, none⟩)
  t16 : L 16 = true → vals 16 = .int .i64 bd
  ra : L 3 = true → QRow w.heap.size wx (if L 7 then vals 7 else vals 3) (if L 7 then la ++ [x] else la)
  rb : L 10 = true → QRow w.heap.size wx (if L 14 then vals 14 else vals 10) (if L 14 then lb ++ [y] else lb)
  far : L 3 = true → L 10 = true → Far (if L 7 then vals 7 else vals 3) (if L 14 then vals 14 else vals 10)
  sa : L 6 = true → L 7 = false → ∃ g, vals 6 = .slice (some ⟨g, 0, none⟩) 1 1 ∧ Blk wx g [.int .i64 x] 3
  sb : L 13 = true → L 14 = false → ∃ g, vals 13 = .slice (some ⟨g, 0, none⟩) 1 1 ∧ Blk wx g [.int .i64 y] 3 ∧ (L 3 = true → (if L 7 then vals 7 else vals 3).ownBlock ≠ some g)
section
variable {w : World} {fv : Value} {rb : Nat} {v1 v2 : Value} {la lb : List Int} {b bd rest x y : Int} {vals : Nat → Value} {L : Nat → Bool} {wx w' : World} {v : Value}
theorem RA.start : RA w fv rb v1 v2 la lb b bd rest x y (fun _ => undef) (fun _ => false) w.drew := by
  constructor <;> first | exact (Below.refl _ _).drew | (intro h; cases h)
def RA.val (fv : Value) (rb : Nat) (v1 v2 : Value) (b bd _rest x _y : Int) : Nat → Value
  | 0 => fv
  | 1 => .pointer (some ⟨rb, 4, none⟩)
  | 2 => v1
  | 4 => .int .i64 b
  | 5 => .int .i64 x
  | 8 => .pointer (some ⟨rb, 5, none⟩)
  | 9 => v2
  | 11 => .pointer (some ⟨rb, 3, none⟩)
  | 12 => .int .i64 bd
  | 15 => .pointer (some ⟨rb, 3, none⟩)
  | 16 => .int .i64 bd
  | _ => undef
theorem RA.quiet (h : RA w fv rb v1 v2 la lb b bd rest x y vals L wx) (i : Nat) (hi : i = 0 ∨ i = 1 ∨ i = 2 ∨ i = 4 ∨ i = 5 ∨ i = 8 ∨ i = 9 ∨ i = 11 ∨ i = 12 ∨ i = 15 ∨ i = 16) : RA w fv rb v1 v2 la lb b bd rest x y (updN vals i (RA.val fv rb v1 v2 b bd rest x y i)) (updN L i true) wx := by
  obtain ⟨h0, t0, t1, t2, t4, t5, t8, t9, t11, t12, t15, t16, ra, rbb, far, sa, sb⟩ := h
  rcases hi with rfl | rfl | rfl | rfl | rfl | rfl | rfl | rfl | rfl | rfl | rfl <;> constructor <;> first | (simp [updN, RA.val]; done) | simpa [updN] using h0 | simpa [updN] using t0 | simpa [updN] using t1 | simpa [updN] using t2 | simpa [updN] using t4 | simpa [updN] using t5 | simpa [updN] using t8 | simpa [updN] using t9 | simpa [updN] using t11 | simpa [updN] using t12 | simpa [updN] using t15 | simpa [updN] using t16 | simpa [updN] using ra | simpa [updN] using rbb | simpa [updN] using far | simpa [updN] using sa | simpa [updN] using sb
def RA.J (w : World) (fv : Value) (rb : Nat) (v1 v2 : Value) (la lb : List Int) (b bd rest x y : Int) (Fin : World → Prop) (vals : Nat → Value) (L : Nat → Bool) (wx : World) : Prop := if L 17 then Fin wx else RA w fv rb v1 v2 la lb b bd rest x y vals L wx
variable {Fin : World → Prop} {i : Nat}
theorem RA.J.out (hz : L 17 = false) (h : RA.J w fv rb v1 v2 la lb b bd rest x y Fin vals L wx) : RA w fv rb v1 v2 la lb b bd rest x y vals L wx := by unfold RA.J at h; rw [hz] at h; exact h
theorem RA.J.on (hz : L 17 = false) (hi : i ≠ 17) (h : RA w fv rb v1 v2 la lb b bd rest x y (updN vals i v) (updN L i true) wx) : RA.J w fv rb v1 v2 la lb b bd rest x y Fin (updN vals i v) (updN L i true) wx := by
  have e : updN L i true 17 = false := by simp only [updN]; rw [if_neg (Ne.symm hi)]; exact hz
  unfold RA.J; rw [e]; exact h
theorem RA.J.end (h : Fin wx) : RA.J w fv rb v1 v2 la lb b bd rest x y Fin (updN vals 17 v) (updN L 17 true) wx := by
  have e : updN L 17 true 17 = true := by simp [updN]
  unfold RA.J; rw [e]; exact h
end
structure RB (w : World) (fv : Value) (rb : Nat) (v1 v2 : Value) (la lb : List Int) (b bd rest x y : Int) (vals : Nat → Value) (L : Nat → Bool) (wx : World) : Prop where
  below : Below w.heap.size w wx
  t0 : L 0 = true → vals 0 = fv
  t1 : L 1 = true → vals 1 = .pointer (some ⟨rb, 4, none⟩)
  t2 : L 2 = true → vals 2 = v1
  t4 : L 4 = true → vals 4 = .int .i64 b
  t7 : L 7 = true → vals 7 = .pointer (some ⟨rb, 5, none⟩)
  t8 : L 8 = true → vals 8 = v2
  t10 : L 10 = true → vals 10 = .int .i64 rest
  t11 : L 11 = true → vals 11 = .int .i64 y
  t14 : L 14 = true → vals 14 = .int .i64 rest
  ra : L 3 = true → QRow w.heap.size wx (if L 6 then vals 6 else vals 3) (if L 6 then la ++ [x] else la)
  rb : L 9 = true → QRow w.heap.size wx (if L 13 then vals 13 else vals 9) (if L 13 then lb ++ [y] else lb)
  far : L 3 = true → L 9 = true → Far (if L 6 then vals 6 else vals 3) (if L 13 then vals 13 else vals 9)
  sa : L 5 = true → L 6 = false → ∃ g, vals 5 = .slice (some ⟨g, 0, none⟩) 1 1 ∧ Blk wx g [.int .i64 x] 3
  sb : L 12 = true → L 13 = false → ∃ g, vals 12 = .slice (some ⟨g, 0, none⟩) 1 1 ∧ Blk wx g [.int .i64 y] 3 ∧ (L 3 = true → (if L 6 then vals 6 else vals 3).ownBlock ≠ some g)
section
variable {w : World} {fv : Value} {rb : Nat} {v1 v2 : Value} {la lb : List Int} {b bd rest x y : Int} {vals : Nat → Value} {L : Nat → Bool} {wx w' : World} {v : Value}
theorem RB.start : RB w fv rb v1 v2 la lb b bd rest x y (fun _ => undef) (fun _ => false) w.drew := by
  constructor <;> first | exact (Below.refl _ _).drew | (intro h; cases h)
def RB.val (fv : Value) (rb : Nat) (v1 v2 : Value) (b _bd rest _x y : Int) : Nat → Value
  | 0 => fv
  | 1 => .pointer (some ⟨rb, 4, none⟩)
  | 2 => v1
  | 4 => .int .i64 b
  | 7 => .pointer (some ⟨rb, 5, none⟩)
  | 8 => v2
  | 10 => .int .i64 rest
  | 11 => .int .i64 y
  | 14 => .int .i64 rest
  | _ => undef
theorem RB.quiet (h : RB w fv rb v1 v2 la lb b bd rest x y vals L wx) (i : Nat) (hi : i = 0 ∨ i = 1 ∨ i = 2 ∨ i = 4 ∨ i = 7 ∨ i = 8 ∨ i = 10 ∨ i = 11 ∨ i = 14) : RB w fv rb v1 v2 la lb b bd rest x y (updN vals i (RB.val fv rb v1 v2 b bd rest x y i)) (updN L i true) wx := by
  obtain ⟨h0, t0, t1, t2, t4, t7, t8, t10, t11, t14, ra, rbb, far, sa, sb⟩ := h
  rcases hi with rfl | rfl | rfl | rfl | rfl | rfl | rfl | rfl | rfl <;> constructor <;> first | (simp [updN, RB.val]; done) | simpa [updN] using h0 | simpa [updN] using t0 | simpa [updN] using t1 | simpa [updN] using t2 | simpa [updN] using t4 | simpa [updN] using t7 | simpa [updN] using t8 | simpa [updN] using t10 | simpa [updN] using t11 | simpa [updN] using t14 | simpa [updN] using ra | simpa [updN] using rbb | simpa [updN] using far | simpa [updN] using sa | simpa [updN] using sb
def RB.J (w : World) (fv : Value) (rb : Nat) (v1 v2 : Value) (la lb : List Int) (b bd rest x y : Int) (Fin : World → Prop) (vals : Nat → Value) (L : Nat → Bool) (wx : World) : Prop := if L 15 then Fin wx else RB w fv rb v1 v2 la lb b bd rest x y vals L wx
variable {Fin : World → Prop} {i : Nat}
theorem RB.J.out (hz : L 15 = false) (h : RB.J w fv rb v1 v2 la lb b bd rest x y Fin vals L wx) : RB w fv rb v1 v2 la lb b bd rest x y vals L wx := by unfold RB.J at h; rw [hz] at h; exact h
theorem RB.J.on (hz : L 15 = false) (hi : i ≠ 15) (h : RB w fv rb v1 v2 la lb b bd rest x y (updN vals i v) (updN L i true) wx) : RB.J w fv rb v1 v2 la lb b bd rest x y Fin (updN vals i v) (updN L i true) wx := by
  have e : updN L i true 15 = false := by simp only [updN]; rw [if_neg (Ne.symm hi)]; exact hz
  unfold RB.J; rw [e]; exact h
theorem RB.J.end (h : Fin wx) : RB.J w fv rb v1 v2 la lb b bd rest x y Fin (updN vals 15 v) (updN L 15 true) wx := by
  have e : updN L 15 true 15 = true := by simp [updN]
  unfold RB.J; rw [e]; exact h
end
def Enters (P : Program) (o : Oper) (a : Act) (w : World) : Prop := ∃ f args w', (execOp a.eval o).run P w = .ok (.enter f args) w'
def tailC (P : Program) (ops : Array Oper) (C' : World → Prop) (Q : Exit → Act → World → Prop) : List Oper → Act → World → Prop
  | [], a, w => Q .normal a w
  | o :: rest, a, w => Region.wanted o (yielded ops a.tmps) = true ∧ (tame o = true ∨ Enters P o a w) ∧ o.wp P a w (fun a' w' => C' w' ∧ tailC P ops C' Q rest a' w') (fun _ _ _ => False)
theorem wp_agreeC {P : Program} {ops : Array Oper} {o : Oper} (hs : ∀ cs b, o.op ≠ .select cs b) {a b : Act} (h : Agree ops o a b) {w : World} (ht : tame o = true ∨ Enters P o a w) {K : Act → World → Prop} {Q : Exit → Act → World → Prop} (hw : o.wp P a w K (fun _ _ _ => False)) :
    o.wp P b w (fun b' w' => ∃ v, b' = b.put o.dst v ∧ K (a.put o.dst v) w') Q := by
  rcases ht with ht | ⟨f, args, w', hr⟩
  · exact wp_agree hs ht h hw
  · unfold Oper.wp at *
    rw [← execOp_congr o hs h.eval]
    rw [hr] at hw ⊢
    rw [Oper.upon_enter] at hw ⊢
    refine Calls.mono hw fun e w2 he => ?_
    cases e with
    | returned v => exact ⟨v, rfl, he⟩
    | panicked c => exact he.elim
    | outgrown => obtain ⟨_, _, h⟩ := he; exact h.elim
section
variable {P : Program} {l : List Oper} {w0 : World} {Φ : Nat → List Value → Value → Nat → Nat → World → Prop} {ism : Nat → Bool} {D : Nat → Nat → Bool} {Q : Exit → Act → World → Prop} {E : Act → World → Prop} {Cl : Nat → World → Prop} {n : Nat} {a0 : Act}
theorem any_of_tailC (c : Chk l.toArray D) {C' : World → Prop} (hchain : ∀ j, n ≤ j → j + 1 < l.length → D (j + 1) j = true) :
    ∀ (fuel : Nat) (listed : Array Bool) (w : World) (vals v1 : Nat → Value) (j : Nat), listed.size = l.length → unl listed l.length ≤ fuel → n ≤ j → j ≤ l.length →
      (∀ k, k < l.length → listed.getD k false = true → ∀ i, i < l.length → D k i = true → listed.getD i false = true) →
      (∀ k, n ≤ k → k < l.length → (listed.getD k false = true ↔ k < j)) →
      (∀ k, k < n → listed.getD k false = false → ∀ w', C' w' → DetStep P l.toArray (opAt l k) (Afr l a0 v1 k) w' (v1 k)) →
      (∀ k, k < l.length → listed.getD k false = true → v1 k = vals k) → C' w → tailC P l.toArray C' Q (l.drop j) (Afr l a0 v1 j) w →
      wpAny P .any l.toArray Q fuel listed (fr l.toArray vals (fun j => listed.getD j false) a0 l.length) w := by
  intro fuel
  have hend : ∀ (listed : Array Bool) (w : World) (vals v1 : Nat → Value) (j : Nat), listed.size = l.length → n ≤ j → j ≤ l.length → (∀ k, n ≤ k → k < l.length → (listed.getD k false = true ↔ k < j)) →
      (∀ k, k < l.length → listed.getD k false = true → v1 k = vals k) → tailC P l.toArray C' Q (l.drop j) (Afr l a0 v1 j) w → Region.ready .any l.toArray listed = [] → Q .normal (fr l.toArray vals (fun j => listed.getD j false) a0 l.length) w := by
    intro listed w vals v1 j hsz hnj hjl hj hv ht hr
    have hall := all_listed c hsz hr
    have hjn : j = l.length := by
      rcases Nat.lt_or_ge j l.length with h | h
      · exact absurd ((hj j hnj h).1 (hall j h)) (by omega)
      · omega
    subst hjn
    rw [List.drop_length] at ht
    have e : fr l.toArray vals (fun j => listed.getD j false) a0 l.length = Afr l a0 v1 l.length := fr_congr _ (fun k hk => ⟨hall k hk, fun _ => (hv k hk (hall k hk)).symm⟩)
    rw [e]
    exact ht
  induction fuel with
  | zero =>
    intro listed w vals v1 j hsz hfuel hnj hjl hcl hj hlate hv hw ht
    have hr := ready_nil (l := l) hsz (unl_zero (listed := listed) l.length (by omega))
    exact ⟨hr, hend listed w vals v1 j hsz hnj hjl hj hv ht hr⟩
  | succ fuel ih =>
    intro listed w vals v1 j hsz hfuel hnj hjl hcl hj hlate hv hw ht
    refine ⟨hend listed w vals v1 j hsz hnj hjl hj hv ht, fun i hir => ?_⟩
    obtain ⟨h0, o, ho, hdep⟩ := mem_ready.1 hir
    have hil : i < l.length := by have := (Array.getElem?_eq_some_iff.1 ho).1; simpa using this
    have hlt : i < listed.size := by omega
    obtain rfl : o = opAt l i := by rw [opAt_eq hil] at ho; exact (Option.some.inj ho).symm
    have hiun : listed.getD i false = false := by simp [hlt] at h0 ⊢; exact h0
    have hdeps := deps_listed c hcl hil hdep
    have hno : ∀ k, k < l.length → listed.getD k false = true → D k i = false := fun k hk hlk => by
      cases hd : D k i with
      | false => rfl
      | true => rw [hcl k hk hlk i hil hd] at hiun; cases hiun
    have hfuel' : unl (listed.setIfInBounds i true) l.length ≤ fuel := by have := (unl_set hlt hiun l.length).2 hil; omega
    have hsel : ∀ cs b, (opAt l i).op ≠ .select cs b := fun cs b => c.sel i _ cs b (opAt_eq hil)
    have hag := agree_real (a0 := a0) (v1 := v1) (vals := vals) c hil hiun hdeps hno (fun k hk hlk => hv k (by omega) hlk)
    rcases Nat.lt_or_ge i n with hin | hin
    · -- late
      refine wpOp_of_det (opAt_eq hil) (((hlate i hin hiun) w hw).agree hsel hag) ?_
      rw [fr_step c hil hlt hiun hno]
      refine ih _ w _ v1 j (by simpa using hsz) hfuel' hnj hjl (closed_set hlt hcl hdeps) (fun k h1 h2 => ?_) (fun k h1 h2 => ?_) (fun k h1 h2 => ?_) hw ht
      · rw [getD_set hlt, if_neg (by omega)]; exact hj k h1 h2
      · rw [getD_set hlt] at h2
        split at h2
        · cases h2
        · exact hlate k h1 h2
      · rw [getD_set hlt] at h2
        by_cases hki : k = i
        · subst hki; rw [updN_same]
        · rw [if_neg hki] at h2; rw [updN_other _ _ hki]; exact hv k h1 h2
    · -- the next of the tail
      have hij : i = j := by
        have h1 : ¬ i < j := fun h => by rw [(hj i hin hil).2 h] at hiun; cases hiun
        rcases Nat.lt_or_ge j i with h2 | h2
        · exfalso
          have hji : ∀ d, j + 1 + d < l.length → D (j + 1 + d) j = true := fun d => by
            induction d with
            | zero => exact fun h => hchain j hnj h
            | succ d ihd => exact fun h => c.trans _ (j + 1 + d) _ (by simpa using h) (by simp; omega) (by simp; omega) (hchain (j + 1 + d) (by omega) (by omega)) (ihd (by omega))
          have hd := hji (i - (j + 1)) (by omega)
          rw [show j + 1 + (i - (j + 1)) = i by omega] at hd
          have := (hj j hnj (by omega)).1 (hdeps j (by omega) hd)
          omega
        · omega
      subst hij
      have hdrop : l.drop i = opAt l i :: l.drop (i + 1) := by
        rw [List.drop_eq_getElem_cons hil]
        simp [opAt, List.getD, hil]
      rw [hdrop] at ht
      obtain ⟨hwant, htame, hwp⟩ := ht
      have := wp_agreeC (Q := Q) hsel hag htame hwp
      unfold wpOp
      simp only [opAt_eq hil]
      rw [← hag.wanted, hwant, if_pos rfl]
      refine .inl (Oper.wp_mono (fun b' w' ⟨v, hb', hw', ht'⟩ => ?_) this)
      rw [hb', fr_step c hil hlt hiun hno]
      refine ih _ w' _ (updN v1 i v) (i + 1) (by simpa using hsz) hfuel' (by omega) (by omega) (closed_set hlt hcl hdeps) (fun k h1 h2 => ?_) (fun k h1 h2 => ?_) (fun k h1 h2 => ?_) hw' ?_
      · rw [getD_set hlt]
        by_cases hki : k = i
        · subst hki; simp
        · rw [if_neg hki, hj k h1 h2]; omega
      · rw [getD_set hlt, if_neg (by omega)] at h2
        have e : Afr l a0 (updN v1 i v) k = Afr l a0 v1 k := fr_congr k (fun m hm => ⟨rfl, fun _ => updN_other _ _ (by omega)⟩)
        rw [e, updN_other _ _ (by omega)]
        exact hlate k h1 h2
      · rw [getD_set hlt] at h2
        by_cases hki : k = i
        · subst hki; rw [updN_same, updN_same]
        · rw [if_neg hki] at h2; rw [updN_other _ _ hki, updN_other _ _ hki]; exact hv k h1 h2
      · rw [Afr_succ l a0 _ hil, updN_same]
        have e : Afr l a0 (updN v1 i v) i = Afr l a0 v1 i := fr_congr i (fun m hm => ⟨rfl, fun _ => updN_other _ _ (by omega)⟩)
        rw [e]
        exact ht'
theorem any_of_headC (c : Chk l.toArray D) (hn : n ≤ l.length) {C' : World → Prop} (hC : ∀ w, Below w0.heap.size w0 w → C' w) (hchain : ∀ j, n ≤ j → j + 1 < l.length → D (j + 1) j = true)
    (hlate : ∀ i, i < n → lateB l D n i = true → ism i = false)
    (hΦ : ∀ i args v lo hi w w', Φ i args v lo hi w → Below w.heap.size w w' → Φ i args v lo hi w')
    (hw : walkP P l.toArray w0 (fun i w => if lateB l D n i then C' w else Below w0.heap.size w0 w) Φ ism D (tailC P l.toArray C' Q (l.drop n)) (l.take n) 0 a0 [] []) :
    ∀ (fuel : Nat) (listed : Array Bool) (w : World) (vals : Nat → Value) (lo hi : Nat → Nat), listed.size = l.length → unl listed l.length ≤ fuel → Below w0.heap.size w0 w →
      (∀ k, k < l.length → listed.getD k false = true → ∀ i, i < l.length → D k i = true → listed.getD i false = true) →
      (∀ k, n ≤ k → k < l.length → listed.getD k false = false) →
      (∀ i, i < n → listed.getD i false = true → Good P l w0 (fun i w => if lateB l D n i then C' w else Below w0.heap.size w0 w) Φ ism a0 vals lo hi w i) →
      (∀ i j, i < n → j < n → listed.getD i false = true → listed.getD j false = true → ism i = true → ism j = true → i ≠ j → hi i ≤ lo j ∨ hi j ≤ lo i) →
      wpAny P .any l.toArray Q fuel listed (fr l.toArray vals (fun j => listed.getD j false) a0 l.length) w := by
  have hCl : ∀ i w, Below w0.heap.size w0 w → (fun i w => if lateB l D n i then C' w else Below w0.heap.size w0 w) i w := fun i w hb => by
    show (if lateB l D n i then C' w else _)
    split
    · exact hC w hb
    · exact hb
  intro fuel
  induction fuel with
  | zero =>
    intro listed w vals lo hi hsz hfuel hb hcl hnt hg hdj
    have hall := unl_zero (listed := listed) l.length (by omega)
    have hnl : n = l.length := by
      rcases Nat.lt_or_ge n l.length with h | h
      · exact absurd (hall n h) (by rw [hnt n (Nat.le_refl _) h]; exact Bool.false_ne_true)
      · omega
    obtain ⟨v1, lo1, hi1, w1, e1, b1, c1, g1, d1, walk⟩ := complete hn hCl c hΦ hw hb (fun i h1 h2 j h3 h4 => hcl i (by omega) h2 j (by omega) h4) hg hdj n (Nat.le_refl _)
    have ee : ∀ j, j < n → v1 j = vals j ∧ lo1 j = lo j ∧ hi1 j = hi j := fun j hj => e1 j (hall j (by omega))
    rw [show (l.take n).drop n = [] by simp, facts_congr n ee, ints_congr n (fun j hj => (ee j hj).2)] at walk
    have ht := walk w hb (fun p hp => by
      obtain ⟨j, h1, h2, rfl⟩ := mem_facts _ p hp
      have := hg j h1 (hall j (by omega))
      unfold Good at this
      rw [if_pos h2] at this
      exact this.1) (fun q hq => by
      obtain ⟨j, h1, h2, rfl⟩ := mem_ints _ q hq
      have := hg j h1 (hall j (by omega))
      unfold Good at this
      rw [if_pos h2] at this
      exact this.2.2.2) (ints_pair _ (fun i j h1 h2 => hdj i j h1 h2 (hall i (by omega)) (hall j (by omega))))
    exact any_of_tailC c hchain 0 listed w vals v1 n hsz hfuel (Nat.le_refl _) hn hcl (fun k h1 h2 => by omega) (fun k h1 h2 => by rw [hall k (by omega)] at h2; cases h2) (fun k h1 _ => (ee k (by omega)).1) (hC w hb) ht
  | succ fuel ih =>
    intro listed w vals lo hi hsz hfuel hb hcl hnt hg hdj
    by_cases hfull : ∀ k, k < n → lateB l D n k = false → listed.getD k false = true
    · obtain ⟨v1, lo1, hi1, w1, e1, b1, c1, g1, d1, walk⟩ := complete hn hCl c hΦ hw hb (fun i h1 h2 j h3 h4 => hcl i (by omega) h2 j (by omega) h4) hg hdj n (Nat.le_refl _)
      have hmem : ∀ j, j < n → ism j = true → listed.getD j false = true := fun j hj hm => hfull j hj (by
        cases h : lateB l D n j with
        | false => rfl
        | true => rw [hlate j hj h] at hm; cases hm)
      have good : ∀ j, j < n → ism j = true → Φ j (argsOf (opAt l j) (Afr l a0 v1 j)) (v1 j) (lo1 j) (hi1 j) w ∧ hi1 j ≤ w.heap.size := fun j hj hm => by
        have hlj := hmem j hj hm
        have := Good.congr (vals' := v1) (lo' := lo1) (hi1' := hi1) c (by omega) (fun k hkl hk => (e1 k (hcl j (by omega) hlj k hkl hk)).1.symm) (e1 j hlj).1.symm (e1 j hlj).2.1.symm (e1 j hlj).2.2.symm (hg j hj hlj)
        unfold Good at this
        rw [if_pos hm] at this
        exact ⟨this.1, this.2.2.2⟩
      rw [show (l.take n).drop n = [] by simp] at walk
      have ht := walk w hb (fun p hp => by
        obtain ⟨j, h1, h2, rfl⟩ := mem_facts _ p hp
        exact (good j h1 h2).1) (fun q hq => by
        obtain ⟨j, h1, h2, rfl⟩ := mem_ints _ q hq
        exact (good j h1 h2).2) (ints_pair _ (fun i j h1 h2 m1 m2 hne => d1 i j h1 h2 (.inl (hmem i h1 m1)) (.inl (hmem j h2 m2)) m1 m2 hne))
      refine any_of_tailC c hchain (fuel + 1) listed w vals v1 n hsz hfuel (Nat.le_refl _) hn hcl (fun k h1 h2 => ?_) (fun k h1 h2 => ?_) (fun k h1 h2 => (e1 k h2).1) (hC w hb) ht
      · rw [hnt k h1 h2]; simp; omega
      · have hl : lateB l D n k = true := by
          cases h : lateB l D n k with
          | true => rfl
          | false => rw [hfull k h1 h] at h2; cases h2
        have := g1 k h1 (.inr h1)
        unfold Good at this
        rw [if_neg (by rw [hlate k h1 hl]; exact Bool.false_ne_true)] at this
        intro w' hw'
        exact this w' (by show (if lateB l D n k then _ else _); rw [if_pos hl]; exact hw')
    · refine ⟨fun hr => absurd (fun k hk _ => all_listed c hsz hr k (by omega)) hfull, fun i hir => ?_⟩
      obtain ⟨h0, o, ho, hdep⟩ := mem_ready.1 hir
      have hil : i < l.length := by have := (Array.getElem?_eq_some_iff.1 ho).1; simpa using this
      have hlt : i < listed.size := by omega
      obtain rfl : o = opAt l i := by rw [opAt_eq hil] at ho; exact (Option.some.inj ho).symm
      have hiun : listed.getD i false = false := by simp [hlt] at h0 ⊢; exact h0
      have hdeps := deps_listed c hcl hil hdep
      have hin : i < n := by
        rcases Nat.lt_or_ge i n with h | h
        · exact h
        · exfalso
          have hni : i = n := by
            rcases Nat.lt_or_ge n i with h2 | h2
            · exfalso
              have hji : ∀ d, n + 1 + d < l.length → D (n + 1 + d) n = true := fun d => by
                induction d with
                | zero => exact fun h => hchain n (Nat.le_refl _) h
                | succ d ihd => exact fun h => c.trans _ (n + 1 + d) _ (by simpa using h) (by simp; omega) (by simp; omega) (hchain (n + 1 + d) (by omega) (by omega)) (ihd (by omega))
              have hd := hji (i - (n + 1)) (by omega)
              rw [show n + 1 + (i - (n + 1)) = i by omega] at hd
              have := hdeps n (by omega) hd
              rw [hnt n (Nat.le_refl _) (by omega)] at this
              cases this
            · omega
          subst hni
          refine hfull fun k hk hl => hdeps k (by omega) ?_
          unfold lateB at hl
          simp only [Bool.and_eq_false_iff, decide_eq_false_iff_not, Bool.not_eq_false'] at hl
          exact hl.resolve_left (by omega)
      have hno : ∀ k, k < l.length → listed.getD k false = true → D k i = false := fun k hk hlk => by
        cases hd : D k i with
        | false => rfl
        | true => rw [hcl k hk hlk i hil hd] at hiun; cases hiun
      obtain ⟨v1, lo1, hi1, w1, e1, b1, c1, g1, d1, walk⟩ := complete hn hCl c hΦ hw hb (fun i h1 h2 j h3 h4 => hcl i (by omega) h2 j (by omega) h4) hg hdj i (by omega)
      have hdrop : (l.take n).drop i = opAt l i :: (l.take n).drop (i + 1) := by
        rw [List.drop_eq_getElem_cons (by simp; omega)]
        simp [opAt, List.getD, hil]
      rw [hdrop] at walk
      unfold walkP at walk
      have hag := agree_real (a0 := a0) (v1 := v1) (vals := vals) c hil hiun hdeps hno (fun k hk hlk => (e1 k hlk).1)
      have hsel : ∀ cs b, (opAt l i).op ≠ .select cs b := fun cs b => c.sel i _ cs b (opAt_eq hil)
      have hcl' := closed_set hlt hcl hdeps
      have hfuel' : unl (listed.setIfInBounds i true) l.length ≤ fuel := by have := (unl_set hlt hiun l.length).2 hil; omega
      have hnt' : ∀ k, n ≤ k → k < l.length → (listed.setIfInBounds i true).getD k false = false := fun k h1 h2 => by
        rw [getD_set hlt, if_neg (by omega)]; exact hnt k h1 h2
      by_cases hm : ism i = true
      · rw [if_pos hm] at walk
        obtain ⟨hstep, _⟩ := walk
        have hst := hstep w hb (fun p hp hd => by
          obtain ⟨j, h1, h2, rfl⟩ := mem_facts i p hp
          have hlj := hdeps j (by omega) hd
          have := Good.congr (vals' := v1) (lo' := lo1) (hi1' := hi1) c (by omega) (fun k hkl hk => (e1 k (hcl j (by omega) hlj k hkl hk)).1.symm) (e1 j hlj).1.symm (e1 j hlj).2.1.symm (e1 j hlj).2.2.symm (hg j (by omega) hlj)
          unfold Good at this
          rw [if_pos h2] at this
          exact this.1)
        refine wpOp_of_mem (opAt_eq hil) (hst.agree hsel hag) fun v w' ⟨hb', hφ⟩ => ?_
        rw [fr_step c hil hlt hiun hno]
        refine ih _ w' (updN vals i v) (updN lo i w.heap.size) (updN hi i w'.heap.size) (by simpa using hsz) hfuel' (hb.trans (hb'.mono hb.size)) hcl' hnt' (fun j hj hlj => ?_) (fun j k hj hk hlj hlk mj mk hne => ?_)
        · rw [getD_set hlt] at hlj
          by_cases hji : j = i
          · subst hji
            unfold Good
            rw [if_pos hm, updN_same, updN_same, updN_same]
            refine ⟨?_, hb.size, hb'.size, Nat.le_refl _⟩
            have : Agree l.toArray (opAt l j) (Afr l a0 v1 j) (Afr l a0 (updN vals j v) j) := agree_vals c hil (fun k hk hd => by
              rw [updN_other _ _ (by have := c.lt j k (by simpa using hil) (by simpa using hk) hd; omega)]
              exact (e1 k (hdeps k hk hd)).1)
            rw [← this.args]
            exact hφ
          · rw [if_neg hji] at hlj
            exact Good.congr c (by omega) (fun k hk hd => (updN_other _ _ (by rintro rfl; rw [hno j (by omega) hlj] at hd; cases hd)).symm) (updN_other _ _ hji).symm (updN_other _ _ hji).symm (updN_other _ _ hji).symm ((hg j hj hlj).later hΦ hb')
        · rw [getD_set hlt] at hlj hlk
          have hle : ∀ j, j < n → listed.getD j false = true → ism j = true → hi j ≤ w.heap.size := fun j h1 h2 h3 => by
            have := hg j h1 h2
            unfold Good at this
            rw [if_pos h3] at this
            exact this.2.2.2
          by_cases hji : j = i
          · subst hji
            have hkj : k ≠ j := fun e => hne e.symm
            rw [if_neg hkj] at hlk
            rw [updN_same, updN_same, updN_other _ _ hkj, updN_other _ _ hkj]
            exact .inr (hle k hk hlk mk)
          · rw [if_neg hji] at hlj
            by_cases hki : k = i
            · subst hki
              rw [updN_same, updN_same, updN_other _ _ hji, updN_other _ _ hji]
              exact .inl (hle j hj hlj mj)
            · rw [if_neg hki] at hlk
              rw [updN_other _ _ hji, updN_other _ _ hji, updN_other _ _ hki, updN_other _ _ hki]
              exact hdj j k hj hk hlj hlk mj mk hne
      · rw [if_neg hm] at walk
        obtain ⟨v, hdet, _⟩ := walk
        refine wpOp_of_det (opAt_eq hil) ((hdet w (hCl i w hb)).agree hsel hag) ?_
        rw [fr_step c hil hlt hiun hno]
        refine ih _ w (updN vals i v) lo hi (by simpa using hsz) hfuel' hb hcl' hnt' (fun j hj hlj => ?_) (fun j k hj hk hlj hlk mj mk hne => ?_)
        · rw [getD_set hlt] at hlj
          by_cases hji : j = i
          · subst hji
            unfold Good
            rw [if_neg hm, updN_same]
            have : Agree l.toArray (opAt l j) (Afr l a0 v1 j) (Afr l a0 (updN vals j v) j) := agree_vals c hil (fun k hk hd => by
              rw [updN_other _ _ (by have := c.lt j k (by simpa using hil) (by simpa using hk) hd; omega)]
              exact (e1 k (hdeps k hk hd)).1)
            exact fun w' hw' => (hdet w' hw').agree hsel this
          · rw [if_neg hji] at hlj
            exact Good.congr c (by omega) (fun k hk hd => (updN_other _ _ (by rintro rfl; rw [hno j (by omega) hlj] at hd; cases hd)).symm) (updN_other _ _ hji).symm rfl rfl (hg j hj hlj)
        · rw [getD_set hlt] at hlj hlk
          have hji : j ≠ i := by rintro rfl; exact hm mj
          have hki : k ≠ i := by rintro rfl; exact hm mk
          rw [if_neg hji] at hlj
          rw [if_neg hki] at hlk
          exact hdj j k hj hk hlj hlk mj mk hne
theorem any_tailC {a : Act} {w : World} (m : List Nat) (n : Nat) (C' : World → Prop) (Φ : Nat → List Value → Value → Nat → Nat → World → Prop) (ism : Nat → Bool) (hB : chk l.toArray m = true) (hT : chkTail l m n ism = true)
    (hC : ∀ w', Below w.heap.size w w' → C' w')
    (hΦ : ∀ i args v lo hi w w', Φ i args v lo hi w → Below w.heap.size w w' → Φ i args v lo hi w')
    (h : walkP P l.toArray w (fun i w' => if lateB l (dm m) n i then C' w' else Below w.heap.size w w') Φ ism (dm m) (tailC P l.toArray C' Q (l.drop n)) (l.take n) 0 a [] []) : wpAny P .any l.toArray Q l.toArray.size (Array.replicate l.toArray.size false) a { w with drawn := w.drawn + 1 } := by
  unfold chkTail at hT
  simp only [Bool.and_eq_true, decide_eq_true_eq, List.all_eq_true, List.mem_range, Bool.or_eq_true, Bool.not_eq_true'] at hT
  obtain ⟨⟨hn, h1⟩, h2⟩ := hT
  have hun : ∀ k, unl (Array.replicate l.toArray.size false) k ≤ k := fun k => by
    induction k with
    | zero => exact Nat.le_refl _
    | succ k ih => unfold unl; split <;> omega
  have hf : ∀ j, (Array.replicate l.toArray.size false).getD j false = false := fun j => by
    simp only [Array.getD_eq_getD_getElem?, Array.getElem?_replicate]
    split <;> simp
  have := any_of_headC (Q := Q) (a0 := a) (w0 := w) (ism := ism) (chk_spec hB) hn hC (fun j hj hj2 => by
    rcases h1 j (by omega) with (h3 | h3) | h3
    · omega
    · omega
    · exact h3) (fun i hi hl => by
    rcases h2 i hi with h3 | h3
    · rw [hl] at h3; cases h3
    · exact h3) hΦ h l.toArray.size (Array.replicate l.toArray.size false) { w with drawn := w.drawn + 1 } (fun _ => undef) (fun _ => 0) (fun _ => 0) (by simp) (by simpa using hun l.length) (Below.refl _ w).drew
    (fun k _ h => by rw [hf] at h; cases h) (fun k _ _ => hf k) (fun i _ h => by rw [hf] at h; cases h) (fun i j _ _ h => by rw [hf] at h; cases h)
  have e : ∀ k, fr l.toArray (fun _ => undef) (fun j => (Array.replicate l.toArray.size false).getD j false) a k = a := fun k => by
    induction k with
    | zero => rfl
    | succ k ih => rw [fr, if_neg (by rw [hf]; exact Bool.false_ne_true), ih]
  rw [e] at this
  exact this
end
section
variable {P : Program} {l : List Oper} {s : List Nat} {Q : Exit → Act → World → Prop}
theorem wp_region_tailC {id : Nat} {a : Act} {w : World} (s : List Nat) (n : Nat) (C' : World → Prop) (Φ : Nat → List Value → Value → Nat → Nat → World → Prop) (ism : Nat → Bool) (hm : P.follows .mixedOrders = true) (hS : permB l s = true) (hB : chk (reorder l s).toArray (masks (reorder l s)) = true)
    (hT : chkTail (reorder l s) (masks (reorder l s)) n ism = true)
    (hC : ∀ w', Below w.heap.size w w' → C' w')
    (hΦ : ∀ i args v lo hi w w', Φ i args v lo hi w → Below w.heap.size w w' → Φ i args v lo hi w')
    (h : walkP P (reorder l s).toArray w (fun i w' => if lateB (reorder l s) (dm (masks (reorder l s))) n i then C' w' else ∃ e : Ext w, w' = e.world) Φ ism (dm (masks (reorder l s))) (tailC P (reorder l s).toArray C' Q ((reorder l s).drop n)) ((reorder l s).take n) 0 a [] []) : (Code.region id l.toArray true).wp P Q a w := by
  have c := permB_spec hS
  refine wp_region_any hm (any_perm c _ _ (Array.replicate (reorder l s).toArray.size false) _ _ ⟨by simp, by simp [reorder_len, c.len], fun i hi => ?_⟩ ?_)
  · simp only [Array.getD_eq_getD_getElem?, Array.getElem?_replicate]
    split <;> split <;> simp
  · have e : l.toArray.size = (reorder l s).toArray.size := by simp [reorder_len, c.len]
    rw [e]
    refine any_tailC _ n C' Φ ism hB hT hC hΦ ?_
    refine walkP_cl (fun i w' hw' => ?_) _ 0 a [] [] h
    split at hw'
    · rename_i hl; rw [if_pos hl]; exact hw'
    · rename_i hl; rw [if_neg hl]; exact ⟨⟨w', hw'⟩, rfl⟩
end
theorem tailC_call {P : Program} {ops : Array Oper} {C' : World → Prop} {Q : Exit → Act → World → Prop} {o : Oper} {rest : List Oper} {a : Act} {w : World} {f : FuncId} {args : Array Value} (hw : Region.wanted o (yielded ops a.tmps) = true) (hr : (execOp a.eval o).run P w = .ok (.enter f args) w)
    (h : Calls P f args w fun e w' => ∃ v, e = .returned v ∧ C' w' ∧ tailC P ops C' Q rest (a.put o.dst v) w') : tailC P ops C' Q (o :: rest) a w :=
  ⟨hw, .inr ⟨f, args, w, hr⟩, by
    unfold Oper.wp
    rw [hr, Oper.upon_enter]
    exact h.mono fun e w' ⟨v, he, h1⟩ => by subst he; exact h1⟩
section
variable {P : Program} {l : List Oper} {D : Nat → Nat → Bool} {Q : Exit → Act → World → Prop} {a0 : Act}
def StepK (P : Program) (l : List Oper) (a0 : Act) (W : (Nat → Value) → (Nat → Bool) → World → Prop) (i : Nat) (vals : Nat → Value) (L : Nat → Bool) (w : World) : Prop :=
  StepJ P l a0 W i vals L w ∧ (tame (opAt l i) = true ∨ Enters P (opAt l i) (Afr l a0 vals i) w)
theorem StepK.of {W : (Nat → Value) → (Nat → Bool) → World → Prop} {i : Nat} {vals : Nat → Value} {L : Nat → Bool} {w : World} (hw : Region.wanted (opAt l i) (yielded l.toArray (Afr l a0 vals i).tmps) = true) (ht : tame (opAt l i) = true)
    (h : ∀ K : Act → World → Prop, (∀ v w', W (updN vals i v) (updN L i true) w' → K ((Afr l a0 vals i).put (opAt l i).dst v) w') → (opAt l i).wp P (Afr l a0 vals i) w K (fun _ _ _ => False)) : StepK P l a0 W i vals L w := ⟨.of hw h, .inl ht⟩
theorem StepK.call {W : (Nat → Value) → (Nat → Bool) → World → Prop} {i : Nat} {vals : Nat → Value} {L : Nat → Bool} {w : World} (hw : Region.wanted (opAt l i) (yielded l.toArray (Afr l a0 vals i).tmps) = true) (ht : Enters P (opAt l i) (Afr l a0 vals i) w)
    (h : ∀ K : Act → World → Prop, (∀ v w', W (updN vals i v) (updN L i true) w' → K ((Afr l a0 vals i).put (opAt l i).dst v) w') → (opAt l i).wp P (Afr l a0 vals i) w K (fun _ _ _ => False)) : StepK P l a0 W i vals L w := ⟨.of hw h, .inr ht⟩
end
structure BoxP (b : Nat) (n : Int) (vn vr : Value) (p : GP) (W : World) : Prop where
  prog : ProgIs W (.agg #[.int .i64 n, vn, .slice none 0 0, vr, .slice none 0 0]) p
  box : Blk W b [.int .i64 n, vn, .slice none 0 0, vr, .slice none 0 0] 27
theorem BoxP.on {b : Nat} {n : Int} {vn vr : Value} {p : GP} {W W' : World} (h : BoxP b n vn vr p W) (hb : Below W.heap.size W W') : BoxP b n vn vr p W' := ⟨h.prog.below hb, h.box.below hb⟩
structure Sum3 (a : Option Addr) (b o : Nat) (v0 u0 v1 u1 v2 u2 : Value) (W : World) : Prop where
  lt : b < W.heap.size
  at0 : PBCells W b o ct1 v0 u0
  at1 : PBCells W b (o + 3) ct2 v1 u1
  at2 : PBCells W b (o + 6) ct3 v2 u2
  is0 : PBIs W (.agg #[v0, u0, .int .i64 2]) ct1
  is1 : PBIs W (.agg #[v1, u1, .int .i64 2]) ct2
  is2 : PBIs W (.agg #[v2, u2, .int .i64 1]) ct3
theorem Sum3.on {a : Option Addr} {b o : Nat} {v0 u0 v1 u1 v2 u2 : Value} {W W' : World} (h : Sum3 a b o v0 u0 v1 u1 v2 u2 W) (hb : Below W.heap.size W W') : Sum3 a b o v0 u0 v1 u1 v2 u2 W' :=
  ⟨Nat.lt_of_lt_of_le h.lt hb.size, h.at0.below hb h.lt, h.at1.below hb h.lt, h.at2.below hb h.lt, h.is0.below hb, h.is1.below hb, h.is2.below hb⟩
structure A4 (w : World) (bp : Nat) (an : Option Addr) (nn cn : Nat) (ar : Option Addr) (nr cr : Nat) (ao : Option Addr) (co bs os : Nat) (v0 u0 v1 u1 v2 u2 : Value) (W : World) : Prop where
  p : BoxP bp 2 (.slice an nn cn) (.slice ar nr cr) twoP W
  l : PBsIs W (.slice ao 8 co) (compL twoP)
  s : Sum3 (some ⟨bs, os, none⟩) bs os v0 u0 v1 u1 v2 u2 W
  b : Below w.heap.size w W
theorem A4.on {w : World} {bp : Nat} {an : Option Addr} {nn cn : Nat} {ar : Option Addr} {nr cr : Nat} {ao : Option Addr} {co bs os : Nat} {v0 u0 v1 u1 v2 u2 : Value} {W W' : World} (h : A4 w bp an nn cn ar nr cr ao co bs os v0 u0 v1 u1 v2 u2 W) (hb : Below W.heap.size W W') : A4 w bp an nn cn ar nr cr ao co bs os v0 u0 v1 u1 v2 u2 W' :=
  ⟨h.p.on hb, h.l.below hb, h.s.on hb, bon h.b hb⟩
theorem A4.alloc {w : World} {bp : Nat} {an : Option Addr} {nn cn : Nat} {ar : Option Addr} {nr cr : Nat} {ao : Option Addr} {co bs os : Nat} {v0 u0 v1 u1 v2 u2 : Value} {W : World} (h : A4 w bp an nn cn ar nr cr ao co bs os v0 u0 v1 u1 v2 u2 W) (o : Obj) : A4 w bp an nn cn ar nr cr ao co bs os v0 u0 v1 u1 v2 u2 (W.alloc o) :=
  h.on (bal (Below.refl _ _) _)
theorem list_of {α : Type} (d : α) {Q : Nat → α → Prop} : ∀ (n : Nat), (∀ i, i < n → ∃ x, Q i x) → ∃ l : List α, l.length = n ∧ ∀ i, i < n → Q i (l.getD i d)
  | 0, _ => ⟨[], rfl, fun i hi => absurd hi (Nat.not_lt_zero _)⟩
  | n + 1, h => by
    obtain ⟨l, hl, hq⟩ := list_of d n (fun i hi => h i (by omega))
    obtain ⟨x, hx⟩ := h n (by omega)
    refine ⟨l ++ [x], by simp [hl], fun i hi => ?_⟩
    by_cases e : i < n
    · have := hq i e
      rw [List.getD_eq_getElem?_getD, List.getElem?_append_left (by omega), ← List.getD_eq_getElem?_getD]
      exact this
    · obtain rfl : i = n := by omega
      rw [List.getD_eq_getElem?_getD, List.getElem?_append_right (by omega)]
      simp [hl, hx]
section
variable {H : Type} {enc : TypeId × Value → H} {P : Program} {w : World}
def Reads (enc : TypeId × Value → H) (P : Program) (w : World) (t : TypeId) (cs : List Value) : Prop :=
  ∃ fuel y, DataW.trod enc P w 0 (fun _ => true) true fuel t cs = some y ∧ ∀ m ∈ y.1.weights P t, m ≤ reachBytes
theorem cells_at {a : Addr} {n : Nat} {cs : List Value} (h : w.cells? 0 a n = some cs) : cs.length = n ∧ ∀ j, j < n → w.cell? (a.add j) = cs[j]? := by
  unfold World.cells? at h
  rw [if_pos (Nat.zero_le _)] at h
  refine ⟨by simpa using mapM_some_length h, fun j hj => ?_⟩
  exact mapM_some_get h j j (by simp [hj])
theorem weightsAll_mem {e : TypeId} : ∀ {l : List (DataW H)} {i : Nat} {d : DataW H}, l[i]? = some d → ∀ m ∈ d.weights P e, m ∈ DataW.weightsAll P e l
  | [], i, d, h, m, hm => by simp at h
  | x :: l, 0, d, h, m, hm => by
    simp only [List.getElem?_cons_zero, Option.some.injEq] at h
    subst h
    unfold DataW.weightsAll
    exact List.mem_append.2 (.inl hm)
  | x :: l, i + 1, d, h, m, hm => by
    simp only [List.getElem?_cons_succ] at h
    unfold DataW.weightsAll
    exact List.mem_append.2 (.inr (weightsAll_mem h m hm))
theorem open_slc {t e : TypeId} {sz byt : Nat} {cs : List Value} (ht : P.underlying t = some (.slice e)) (hc : P.cellsOf e = sz) (hs : 1 ≤ sz) (hb : P.bytesOf e = byt) (h : Reads enc P w t cs) :
    ∃ a n cap, cs = [.slice a n cap] ∧ n ≤ cap ∧ cap ≤ maxLen ∧ n * byt ≤ 140737488351232 ∧
      (0 < n → ∃ b off, a = some ⟨b, off, none⟩ ∧ b < w.heap.size ∧ ∀ i, i < n → ∃ cs', cs'.length = sz ∧ (∀ j, j < sz → w.cell? ⟨b, off + i * sz + j, none⟩ = cs'[j]?) ∧ Reads enc P w e cs') := by
  obtain ⟨fuel, y, hy, hw⟩ := h
  rcases DataW.trod_slice ht hy with ⟨rfl, rfl⟩ | ⟨a, len, cap, elems, rest, n, rfl, rfl, rfl, -, hl, hm, hlen, hel, -, -⟩
  · exact ⟨none, 0, 0, rfl, Nat.le_refl _, by unfold maxLen; omega, by omega, fun h => absurd h (Nat.lt_irrefl _)⟩
  · have hws : ∀ m, m ∈ DataW.weights P t (.slice (elems.map (·.1)) (rest.map (·.1))) ↔ m = ((elems.map (·.1)).length + (rest.map (·.1)).length) * P.bytesOf e ∨ m ∈ DataW.weightsAll P e (elems.map (·.1)) ∨ m ∈ DataW.weightsAll P e (rest.map (·.1)) := by
      intro m; simp only [DataW.weights, ht, List.mem_cons, List.mem_append]
    have hbig := hw _ ((hws _).2 (.inl rfl))
    simp only [List.length_map, hlen, hb] at hbig
    have hreach : reachBytes = 140737488351232 := by decide
    refine ⟨some a, len, cap, rfl, hl, hm, ?_, fun hp => ?_⟩
    · have : len * byt ≤ (len + rest.length) * byt := Nat.mul_le_mul_right _ (by omega)
      omega
    · obtain ⟨b, off, spot⟩ := a
      have each : ∀ i, i < len → ∃ cs' y, w.cells? 0 ((⟨b, off, spot⟩ : Addr).add (i * P.cellsOf e)) (P.cellsOf e) = some cs' ∧ DataW.trod enc P w 0 (fun _ => true) true n e cs' = some y ∧ elems[i]? = some y := fun i hi => by
        have h1 := hel i hi
        rw [List.getElem?_eq_getElem (by omega)] at h1
        obtain ⟨cs', h2, h3⟩ := Option.bind_eq_some_iff.1 h1
        exact ⟨cs', _, h2, h3, List.getElem?_eq_getElem (by omega)⟩
      have hspot : spot = none := by
        obtain ⟨cs', y, h1, -, -⟩ := each 0 hp
        rw [Nat.zero_mul, hc] at h1
        obtain ⟨h2, h3⟩ := cells_at h1
        have h4 := h3 0 (by omega)
        rw [List.getElem?_eq_getElem (by omega)] at h4
        simpa [Addr.add] using World.cell?_spot h4
      subst hspot
      have add : ∀ (x : Nat) (o : Nat), ((⟨b, x, none⟩ : Addr).add o) = ⟨b, x + o, none⟩ := fun x o => by unfold Addr.add; split <;> simp_all
      refine ⟨b, off, rfl, ?_, fun i hi => ?_⟩
      · obtain ⟨cs', y, h1, -, -⟩ := each 0 hp
        rw [Nat.zero_mul, hc] at h1
        obtain ⟨h2, h3⟩ := cells_at h1
        have h4 := h3 0 (by omega)
        rw [List.getElem?_eq_getElem (by omega)] at h4
        refine Classical.byContradiction fun hn => ?_
        have : w.heap[b]? = none := Array.getElem?_eq_none (by omega)
        simp [World.cell?, Addr.add, this] at h4
      · obtain ⟨cs', y, h1, h2, h3⟩ := each i hi
        rw [hc] at h1
        obtain ⟨h4, h5⟩ := cells_at h1
        refine ⟨cs', h4, fun j hj => ?_, n, y, h2, fun m hm => hw m ((hws m).2 (.inr (.inl ?_)))⟩
        · have := h5 j hj
          rw [add, add] at this
          exact this
        · exact weightsAll_mem (i := i) (by simp [h3]) m hm
theorem open_int1 {t : TypeId} {k : IntKind} {cs : List Value} (ht : P.underlying t = some (.int k)) (h : Reads enc P w t cs) : ∃ n, cs = [.int k n] ∧ (Lit.int k n).wf = true := by
  obtain ⟨fuel, y, hy, -⟩ := h
  obtain ⟨n, h1, -, h2⟩ := DataW.trod_int ht hy
  exact ⟨n, h1, h2⟩
theorem open_bool1 {t : TypeId} {cs : List Value} (ht : P.underlying t = some .bool) (h : Reads enc P w t cs) : ∃ b, cs = [.bool b] := by
  obtain ⟨fuel, y, hy, -⟩ := h
  obtain ⟨n, h1, -⟩ := DataW.trod_bool ht hy
  exact ⟨n, h1⟩
theorem open_str1 {t : TypeId} {cs : List Value} (ht : P.underlying t = some .string) (h : Reads enc P w t cs) : ∃ s, cs = [.string s] ∧ s.size ≤ 140737488351232 := by
  obtain ⟨fuel, y, hy, hw⟩ := h
  obtain ⟨s, h1, h2, -⟩ := DataW.trod_string ht hy
  subst h2
  refine ⟨s, h1, ?_⟩
  have := hw s.data.toList.length (by simp [DataW.weights])
  have hreach : reachBytes = 140737488351232 := by decide
  rw [hreach] at this
  simpa using this
theorem open_fld {t : TypeId} {fs : Array Field} {cs : List Value} (ht : P.underlying t = some (.struct fs)) (h : Reads enc P w t cs) {i : Nat} {f : Field} (hf : fs[i]? = some f) : cs.length = P.cellsOf t ∧ Reads enc P w f.type ((cs.drop f.offset).take (P.cellsOf f.type)) := by
  obtain ⟨fuel, y, hy, hw⟩ := h
  obtain ⟨xs, n, rfl, rfl, hl, hx, hel⟩ := DataW.trod_struct ht hy
  refine ⟨hl, n, ?_⟩
  have h1 := hel i f hf
  have hi : i < fs.size := (Array.getElem?_eq_some_iff.1 hf).1
  rw [List.getElem?_eq_getElem (by omega)] at h1
  refine ⟨_, h1, fun m hm => hw m ?_⟩
  simp only [DataW.weights, ht]
  exact DataW.weights_mem_each (j := i) (t := f.type) (d := (xs[i]'(by omega)).1) (by simp [hf]) (by simp [List.getElem?_eq_getElem (show i < xs.length by omega)]) m hm
end
theorem open_at {H : Type} {enc : TypeId × Value → H} {P : Program} {w : World} {t : TypeId} {fs : Array Field} {cs : List Value} (ht : P.underlying t = some (.struct fs)) (h : Reads enc P w t cs) (i ty off n : Nat)
    (hf : (fs[i]?).map (fun f => (f.type, f.offset)) = some (ty, off)) (hn : P.cellsOf ty = n) : Reads enc P w ty ((cs.drop off).take n) := by
  obtain ⟨f, h1, h2⟩ := Option.map_eq_some_iff.1 hf
  simp only [Prod.mk.injEq] at h2
  obtain ⟨rfl, rfl⟩ := h2
  subst hn
  exact (open_fld ht h h1).2
theorem open_len {H : Type} {enc : TypeId × Value → H} {P : Program} {w : World} {t : TypeId} {fs : Array Field} {cs : List Value} (ht : P.underlying t = some (.struct fs)) (h : Reads enc P w t cs) : cs.length = P.cellsOf t := by
  obtain ⟨fuel, y, hy, hw⟩ := h
  obtain ⟨xs, n, rfl, rfl, hl, hx, hel⟩ := DataW.trod_struct ht hy
  exact hl
section
variable {H : Type} {enc : TypeId × Value → H} {w : World}
theorem wf_i64 {n : Int} (h : (Lit.int .i64 n).wf = true) : -9223372036854775808 ≤ n ∧ n ≤ 9223372036854775807 := by
  have := bounds_i64 h; omega
theorem open_Ints {cs : List Value} (h : Reads enc Tryz.prog w 23 cs) : ∃ v l, cs = [v] ∧ Ints w v l := by
  obtain ⟨a, n, cap, rfl, h1, h2, h3, h4⟩ := open_slc (sz := 1) (byt := 8) Tryz.underlying23 (by kernel_rfl) (Nat.le_refl _) (by kernel_rfl) h
  by_cases hp : 0 < n
  · obtain ⟨b, off, rfl, hb, hel⟩ := h4 hp
    obtain ⟨l, hl, hq⟩ := list_of (0 : Int) (Q := fun i z => w.cell? ⟨b, off + i, none⟩ = some (.int .i64 z) ∧ InI z) n (fun i hi => by
      obtain ⟨cs', h5, h6, h7⟩ := hel i hi
      obtain ⟨z, rfl, hz⟩ := open_int1 Tryz.underlying3 h7
      have := h6 0 (by omega)
      simp only [Nat.mul_one, Nat.add_zero, List.getElem?_cons_zero] at this
      exact ⟨z, this, wf_i64 hz⟩)
    refine ⟨_, l, rfl, ⟨_, cap, by rw [hl], by omega, h2, by omega, fun _ => ⟨b, off, rfl, hb, fun i hi => (hq i (by omega)).1⟩⟩, fun i => ?_⟩
    by_cases hi : i < n
    · exact (hq i hi).2
    · have : ix l i = 0 := by unfold ix; rw [List.getD_eq_getElem?_getD, List.getElem?_eq_none (by omega)]; rfl
      rw [this]; omega
  · obtain rfl : n = 0 := by omega
    exact ⟨_, [], rfl, ⟨a, cap, rfl, h1, h2, by simp, fun h => absurd h (by simp)⟩, fun i => by simp [ix]⟩
theorem open_Strs {cs : List Value} (h : Reads enc Tryz.prog w 22 cs) : ∃ v l, cs = [v] ∧ Strs w v l := by
  obtain ⟨a, n, cap, rfl, h1, h2, h3, h4⟩ := open_slc (sz := 1) (byt := 16) Tryz.underlying22 (by kernel_rfl) (Nat.le_refl _) (by kernel_rfl) h
  have hempty : (ixS [] 0).size ≤ 140737488351232 := by decide
  by_cases hp : 0 < n
  · obtain ⟨b, off, rfl, hb, hel⟩ := h4 hp
    obtain ⟨l, hl, hq⟩ := list_of (⟨#[]⟩ : ByteArray) (Q := fun i z => w.cell? ⟨b, off + i, none⟩ = some (.string z) ∧ z.size ≤ 140737488351232) n (fun i hi => by
      obtain ⟨cs', h5, h6, h7⟩ := hel i hi
      obtain ⟨z, rfl, hz⟩ := open_str1 Tryz.underlying9 h7
      have := h6 0 (by omega)
      simp only [Nat.mul_one, Nat.add_zero, List.getElem?_cons_zero] at this
      exact ⟨z, this, hz⟩)
    refine ⟨_, l, rfl, ⟨_, cap, by rw [hl], by omega, h2, by omega, fun _ => ⟨b, off, rfl, hb, fun i hi => (hq i (by omega)).1⟩⟩, fun i => ?_⟩
    by_cases hi : i < n
    · exact (hq i hi).2
    · have : ixS l i = ⟨#[]⟩ := by unfold ixS; rw [List.getD_eq_getElem?_getD, List.getElem?_eq_none (by omega)]; rfl
      rw [this]; exact hempty
  · obtain rfl : n = 0 := by omega
    exact ⟨_, [], rfl, ⟨a, cap, rfl, h1, h2, by simp, fun h => absurd h (by simp)⟩, fun i => by simpa [ixS] using hempty⟩
theorem six {cs : List Value} (h : cs.length = 6) : ∃ a b c d e f, cs = [a, b, c, d, e, f] := by
  match cs, h with
  | [a, b, c, d, e, f], _ => exact ⟨a, b, c, d, e, f, rfl⟩
theorem five {cs : List Value} (h : cs.length = 5) : ∃ a b c d e, cs = [a, b, c, d, e] := by
  match cs, h with
  | [a, b, c, d, e], _ => exact ⟨a, b, c, d, e, rfl⟩
theorem three {cs : List Value} (h : cs.length = 3) : ∃ a b c, cs = [a, b, c] := by
  match cs, h with
  | [a, b, c], _ => exact ⟨a, b, c, rfl⟩
theorem cellsRule : Tryz.prog.cellsOf 60 = 6 := by kernel_rfl
theorem cellsMin : Tryz.prog.cellsOf 80 = 3 := by kernel_rfl
theorem cellsProg : Tryz.prog.cellsOf 27 = 5 := by kernel_rfl
theorem cellsI : Tryz.prog.cellsOf 3 = 1 := by kernel_rfl
theorem cellsB : Tryz.prog.cellsOf 4 = 1 := by kernel_rfl
theorem cellsIs : Tryz.prog.cellsOf 23 = 1 := by kernel_rfl
theorem cellsSs : Tryz.prog.cellsOf 22 = 1 := by kernel_rfl
theorem cellsRs : Tryz.prog.cellsOf 24 = 1 := by kernel_rfl
theorem cellsMs : Tryz.prog.cellsOf 25 = 1 := by kernel_rfl
theorem open_Rule {cs : List Value} (h : Reads enc Tryz.prog w 60 cs) : ∃ (r : GR) (vh vb vw : Value), cs = [.bool r.choice, vh, .bool r.sum, .int .i64 r.bound, vb, vw] ∧ RuleSl w r vh vb vw := by
  have hl := open_len Tryz.underlying60 h
  have f0 := open_at Tryz.underlying60 h 0 4 0 1 rfl cellsB
  have f1 := open_at Tryz.underlying60 h 1 23 1 1 rfl cellsIs
  have f2 := open_at Tryz.underlying60 h 2 4 2 1 rfl cellsB
  have f3 := open_at Tryz.underlying60 h 3 3 3 1 rfl cellsI
  have f4 := open_at Tryz.underlying60 h 4 23 4 1 rfl cellsIs
  have f5 := open_at Tryz.underlying60 h 5 23 5 1 rfl cellsIs
  rw [cellsRule] at hl
  obtain ⟨c0, c1, c2, c3, c4, c5, rfl⟩ := six hl
  simp only [List.drop_succ_cons, List.drop_zero, List.take_succ_cons, List.take_zero] at f0 f1 f2 f3 f4 f5
  obtain ⟨b0, h0⟩ := open_bool1 Tryz.underlying4 f0
  obtain ⟨v1, l1, h1, g1⟩ := open_Ints f1
  obtain ⟨b2, h2⟩ := open_bool1 Tryz.underlying4 f2
  obtain ⟨n3, h3, g3⟩ := open_int1 Tryz.underlying3 f3
  obtain ⟨v4, l4, h4, g4⟩ := open_Ints f4
  obtain ⟨v5, l5, h5, g5⟩ := open_Ints f5
  simp only [List.cons.injEq, and_true] at h0 h1 h2 h3 h4 h5
  subst h0 h1 h2 h3 h4 h5
  exact ⟨⟨b0, l1, b2, n3, l4, l5⟩, _, _, _, rfl, g1, g4, g5, wf_i64 g3⟩
theorem open_Min {cs : List Value} (h : Reads enc Tryz.prog w 80 cs) : ∃ (m : GM) (vl vw : Value), cs = [.int .i64 m.level, vl, vw] ∧ MinSl w m vl vw := by
  have hl := open_len Tryz.underlying80 h
  have f0 := open_at Tryz.underlying80 h 0 3 0 1 rfl cellsI
  have f1 := open_at Tryz.underlying80 h 1 23 1 1 rfl cellsIs
  have f2 := open_at Tryz.underlying80 h 2 23 2 1 rfl cellsIs
  rw [cellsMin] at hl
  obtain ⟨c0, c1, c2, rfl⟩ := three hl
  simp only [List.drop_succ_cons, List.drop_zero, List.take_succ_cons, List.take_zero] at f0 f1 f2
  obtain ⟨n0, h0, g0⟩ := open_int1 Tryz.underlying3 f0
  obtain ⟨v1, l1, h1, g1⟩ := open_Ints f1
  obtain ⟨v2, l2, h2, g2⟩ := open_Ints f2
  simp only [List.cons.injEq, and_true] at h0 h1 h2
  subst h0 h1 h2
  exact ⟨⟨n0, l1, l2⟩, _, _, rfl, g1, g2, wf_i64 g0⟩
theorem open_Rules {cs : List Value} (h : Reads enc Tryz.prog w 24 cs) : ∃ v l, cs = [v] ∧ RulesIs w v l := by
  obtain ⟨a, n, cap, rfl, h1, h2, h3, h4⟩ := open_slc (sz := 6) (byt := 96) Tryz.underlying24 cellsRule (by omega) (by kernel_rfl) h
  by_cases hp : 0 < n
  · obtain ⟨b, off, rfl, hb, hel⟩ := h4 hp
    obtain ⟨l, hl, hq⟩ := list_of ((default : GR), nilS, nilS, nilS) (Q := fun i (q : GR × Value × Value × Value) => (∀ j, j < 6 → w.cell? ⟨b, off + i * 6 + j, none⟩ = some (ruleCell q.1 q.2.1 q.2.2.1 q.2.2.2 j)) ∧ RuleSl w q.1 q.2.1 q.2.2.1 q.2.2.2) n (fun i hi => by
      obtain ⟨cs', h5, h6, h7⟩ := hel i hi
      obtain ⟨r, vh, vb, vw, rfl, hr⟩ := open_Rule h7
      refine ⟨(r, vh, vb, vw), fun j hj => ?_, hr⟩
      rw [h6 j hj]
      rcases (show j = 0 ∨ j = 1 ∨ j = 2 ∨ j = 3 ∨ j = 4 ∨ j = 5 by omega) with rfl | rfl | rfl | rfl | rfl | rfl <;> rfl)
    have hix : ∀ i, i < n → ixR (l.map (·.1)) i = (l.getD i (default, nilS, nilS, nilS)).1 := fun i hi => by
      simp [ixR, List.getD_eq_getElem?_getD, List.getElem?_eq_getElem (show i < l.length by omega)]
    refine ⟨_, l.map (·.1), rfl, fun i => (l.getD i (default, nilS, nilS, nilS)).2.1, fun i => (l.getD i (default, nilS, nilS, nilS)).2.2.1, fun i => (l.getD i (default, nilS, nilS, nilS)).2.2.2,
      ⟨_, cap, by rw [List.length_map, hl], by simp [hl]; omega, h2, by simp [hl]; omega, fun _ => ⟨b, off, rfl, hb, fun i hi j hj => ?_⟩⟩, fun i hi => ?_⟩
    · simp only [List.length_map, hl] at hi
      dsimp only
      rw [hix i hi]
      exact (hq i hi).1 j hj
    · simp only [List.length_map, hl] at hi
      rw [hix i hi]
      exact (hq i hi).2
  · obtain rfl : n = 0 := by omega
    exact ⟨_, [], rfl, fun _ => nilS, fun _ => nilS, fun _ => nilS, ⟨a, cap, rfl, h1, h2, by simp, fun h => absurd h (by simp)⟩, fun i hi => absurd hi (by simp)⟩
theorem open_Mins {cs : List Value} (h : Reads enc Tryz.prog w 25 cs) : ∃ v l, cs = [v] ∧ MinsIs w v l := by
  obtain ⟨a, n, cap, rfl, h1, h2, h3, h4⟩ := open_slc (sz := 3) (byt := 56) Tryz.underlying25 cellsMin (by omega) (by kernel_rfl) h
  by_cases hp : 0 < n
  · obtain ⟨b, off, rfl, hb, hel⟩ := h4 hp
    obtain ⟨l, hl, hq⟩ := list_of ((default : GM), nilS, nilS) (Q := fun i (q : GM × Value × Value) => (∀ j, j < 3 → w.cell? ⟨b, off + i * 3 + j, none⟩ = some (minCell q.1 q.2.1 q.2.2 j)) ∧ MinSl w q.1 q.2.1 q.2.2) n (fun i hi => by
      obtain ⟨cs', h5, h6, h7⟩ := hel i hi
      obtain ⟨r, vl, vw, rfl, hr⟩ := open_Min h7
      refine ⟨(r, vl, vw), fun j hj => ?_, hr⟩
      rw [h6 j hj]
      rcases (show j = 0 ∨ j = 1 ∨ j = 2 by omega) with rfl | rfl | rfl <;> rfl)
    have hix : ∀ i, i < n → ixM (l.map (·.1)) i = (l.getD i (default, nilS, nilS)).1 := fun i hi => by
      simp [ixM, List.getD_eq_getElem?_getD, List.getElem?_eq_getElem (show i < l.length by omega)]
    refine ⟨_, l.map (·.1), rfl, fun i => (l.getD i (default, nilS, nilS)).2.1, fun i => (l.getD i (default, nilS, nilS)).2.2,
      ⟨_, cap, by rw [List.length_map, hl], by simp [hl]; omega, h2, by simp [hl]; omega, fun _ => ⟨b, off, rfl, hb, fun i hi j hj => ?_⟩⟩, fun i hi => ?_⟩
    · simp only [List.length_map, hl] at hi
      dsimp only
      rw [hix i hi]
      exact (hq i hi).1 j hj
    · simp only [List.length_map, hl] at hi
      rw [hix i hi]
      exact (hq i hi).2
  · obtain rfl : n = 0 := by omega
    exact ⟨_, [], rfl, fun _ => nilS, fun _ => nilS, ⟨a, cap, rfl, h1, h2, by simp, fun h => absurd h (by simp)⟩, fun i hi => absurd hi (by simp)⟩
theorem open_Prog {cs : List Value} (h : Reads enc Tryz.prog w 27 cs) : ∃ (p : GP) (vn vs vr vm : Value), cs = [.int .i64 p.n, vn, vs, vr, vm] ∧ ProgSl w p vn vs vr vm := by
  have hl := open_len Tryz.underlying27 h
  have f0 := open_at Tryz.underlying27 h 0 3 0 1 rfl cellsI
  have f1 := open_at Tryz.underlying27 h 1 22 1 1 rfl cellsSs
  have f2 := open_at Tryz.underlying27 h 2 23 2 1 rfl cellsIs
  have f3 := open_at Tryz.underlying27 h 3 24 3 1 rfl cellsRs
  have f4 := open_at Tryz.underlying27 h 4 25 4 1 rfl cellsMs
  rw [cellsProg] at hl
  obtain ⟨c0, c1, c2, c3, c4, rfl⟩ := five hl
  simp only [List.drop_succ_cons, List.drop_zero, List.take_succ_cons, List.take_zero] at f0 f1 f2 f3 f4
  obtain ⟨n0, h0, g0⟩ := open_int1 Tryz.underlying3 f0
  obtain ⟨v1, l1, h1, g1⟩ := open_Strs f1
  obtain ⟨v2, l2, h2, g2⟩ := open_Ints f2
  obtain ⟨v3, l3, h3, g3⟩ := open_Rules f3
  obtain ⟨v4, l4, h4, g4⟩ := open_Mins f4
  simp only [List.cons.injEq, and_true] at h0 h1 h2 h3 h4
  subst h0 h1 h2 h3 h4
  exact ⟨⟨n0, l1, l2, l3, l4⟩, _, _, _, _, rfl, wf_i64 g0, g1, g2, g3, g4⟩
end
def bitAt (bits : Int) (k : Nat) : Bool := decide (bits / 2 ^ k % 2 = 1)
def subL (bits : Int) : Nat → List Int
  | 0 => []
  | k + 1 => if bitAt bits k then subL bits k ++ [(k : Int) + 1] else subL bits k
theorem subL_len (bits : Int) : ∀ k, (subL bits k).length ≤ k
  | 0 => by simp [subL]
  | k + 1 => by
    have := subL_len bits k
    unfold subL
    split
    · rw [List.length_append, List.length_singleton]; omega
    · omega
theorem subL_range (bits : Int) : ∀ k, ∀ x ∈ subL bits k, 1 ≤ x ∧ x ≤ k
  | 0, x, h => by simp [subL] at h
  | k + 1, x, h => by
    unfold subL at h
    split at h
    · rcases List.mem_append.1 h with h | h
      · have := subL_range bits k x h; omega
      · obtain rfl : x = (k : Int) + 1 := by simpa using h
        omega
    · have := subL_range bits k x h; omega
theorem subL_sorted (bits : Int) : ∀ k, (subL bits k).Pairwise (· < ·)
  | 0 => by simp [subL]
  | k + 1 => by
    unfold subL
    split
    · refine List.pairwise_append.2 ⟨subL_sorted bits k, by simp, fun x hx y hy => ?_⟩
      obtain rfl : y = (k : Int) + 1 := by simpa using hy
      have := subL_range bits k x hx
      omega
    · exact subL_sorted bits k
end Go.Proofs.YtfajkmmmmmfhiaaGreatDoor
