/- My texts Red2, Ex2, RowK, Ls41, RowR, Mo0, Lv41, merged. -/
import Derived.Test.YtfajkmmmmmfhiaaGreatDoorM05
import Derived.Test.YtfajkmmmmmfhiaaGreatDoorM04
import Derived.Test.YtfajkmmmmmfhiaaGreatDoorM21
import Derived.Test.YtfajkmmmmmfhiaaGreatDoorM22
import Derived.Test.YtfajkmmmmmfhiaaGreatDoorM03
import Derived.Test.YtfajkmmmmmfhiaaGreatDoorM00
import Derived.Test.YtfajkmmmmmfhiaaGreatDoorProg
import Derived.WalkKit
import Derived.Lib.Hide
import Derived.Deep.QuietTactic
import Derived.BigQuiet
import Derived.WalkSpells
import Derived.Lib.SliceRun
import Derived.MapKept
import Derived.Maps.OwnSet
import Derived.Maps.OwnOps
import Derived.Test.YtfajkmmmmmfhiaaGreatDoorM02
import Derived.Test.YtfajkmmmmmfhiaaGreatDoorM20
import Derived.Test.YtfajkmmmmmfhiaaGreatDoorM01
import Derived.Deep.AppendLies
import Derived.Lib.Bytealg
import Derived.Deep.DeepCutAuto
import Derived.Laws.EntriesVeiled
import Derived.Test.YtfajkmmmmmfhiaaGreatDoorM15
import Derived.Test.YtfajkmmmmmfhiaaGreatDoorM07
import Derived.Test.YtfajkmmmmmfhiaaGreatDoorM24
import Derived.Test.YtfajkmmmmmfhiaaGreatDoorM06
import Derived.Deep.RegionWith
import Derived.Deep.OwnRows
import Derived.RangeFuncNested
import Derived.RangeFuncBound
import Derived.RangeFuncCalls
import Derived.RangeFuncLeaves
import Derived.OwnWalkIn
import Derived.TacticsInMore
import Derived.LoopNIn
import Derived.LoopIn
import Derived.Stop.RegionWithIn
import Derived.Shelf.Abstract
import Derived.Test.YtfajkmmmmmfhiaaGreatDoorM23
import Derived.Deep.LoopGhost
import Derived.Deep.DrawnRows
import Derived.Test.YtfajkmmmmmfhiaaGreatDoorM09
import Derived.Test.YtfajkmmmmmfhiaaGreatDoorM12
import Derived.Deep.AppendSrc
import Derived.Test.YtfajkmmmmmfhiaaGreatDoorM14
import Derived.Sort.QuietThIn
import Derived.Maps.RangeWalk
import Derived.Lib.SlicesCompact
import Derived.Shelf.Sort.Plain
import Derived.Shelf.Slices.CompactI
import Derived.Shelf.Slices.In.SortNone
import Derived.Shelf.Strconv.Itoa3
import Derived.Shelf.Strings.BuilderK
import Derived.Shelf.Slices.SearchI
import Derived.Shelf.Slices.Empties
import Derived.Sort.OwnSortedInts
import Derived.RangeFuncBox
import Derived.Maps.OwnIn
import Derived.Lib.RowBridge
import Derived.Deep.DeepMust
import Derived.Test.YtfajkmmmmmfhiaaGreatDoorM13
import Derived.Test.YtfajkmmmmmfhiaaGreatDoorM26
import Derived.Test.YtfajkmmmmmfhiaaGreatDoorM25
import Derived.Test.YtfajkmmmmmfhiaaGreatDoorM17
import Derived.ProofKit
import Derived.OpenShut
import Derived.ChangeArms
import Derived.SizedLaws
import Derived.Test.YtfajkmmmmmfhiaaGreatDoorM11
import Derived.Test.YtfajkmmmmmfhiaaGreatDoorM16
import Derived.Test.YtfajkmmmmmfhiaaGreatDoorM08
import Derived.Test.YtfajkmmmmmfhiaaGreatDoorM19
import Derived.Test.YtfajkmmmmmfhiaaGreatDoorM10
import Derived.Lib.ItoaNum
import Derived.Test.YtfajkmmmmmfhiaaGreatDoorM27
import Derived.Deep.RegionHeld3
import Derived.Laws.ResultCell
import Derived.Laws.Rows
import Derived.Deep.RegionLaw
import Derived.Sort.CutIn

namespace Go.Proofs.YtfajkmmmmmfhiaaGreatDoor
open Go.RowKit
theorem ixR_exR {l : List GR} {r : GR} (h : r ∈ l) : ∃ k, k < l.length ∧ ixR l k = r := by
  obtain ⟨j, hj, rfl⟩ := List.mem_iff_getElem.1 h
  exact ⟨j, hj, by simp [ixR, List.getD_eq_getElem?_getD, List.getElem?_eq_getElem hj]⟩
theorem firR_none {p : GP} {m T : List Int} {a : Int} (h : firR p m T a = none) {i : Nat} (hi : i < p.rules.length) : derT T m (ixR p.rules i) a = false := by
  unfold firR at h
  have := List.find?_eq_none.1 h i (List.mem_range.2 hi)
  simpa using this
theorem exrTo_end (p : GP) {m : List Int} (hm : m.Nodup) : ∀ d, exrTo p m (m.length + d) = exrTo p m m.length := by
  have : ∃ k, k ≤ m.length ∧ nowX p m (atomsY (exrTo p m k)) (k + 1) (leftX m (exrTo p m k)) = [] := by
    refine Classical.byContradiction fun hno => ?_
    have key : ∀ k, k ≤ m.length + 1 → k ≤ (exrTo p m k).length := by
      intro k
      induction k with
      | zero => intro _; omega
      | succ k ih =>
        intro hk
        have h1 := ih (by omega)
        have h2 : nowX p m (atomsY (exrTo p m k)) (k + 1) (leftX m (exrTo p m k)) ≠ [] := fun e => hno ⟨k, by omega, e⟩
        unfold exrTo
        rw [List.length_append]
        have := List.length_pos_iff.2 h2
        omega
    have h1 := key (m.length + 1) (Nat.le_refl _)
    have h2 : (atomsY (exrTo p m (m.length + 1))).length ≤ m.length := sub_len (exrTo_nod p hm _) fun x hx => by
      obtain ⟨y, hy, rfl⟩ := List.mem_map.1 hx
      exact exrTo_sub p m _ y hy
    unfold atomsY at h2
    rw [List.length_map] at h2
    omega
  obtain ⟨k, hk, he⟩ := this
  intro d
  obtain ⟨c, hc⟩ : ∃ c, m.length = k + c := ⟨m.length - k, by omega⟩
  rw [hc, Nat.add_assoc, exrTo_stay he, exrTo_stay he]
theorem val_least {p : GP} {m : List Int} {x : XP} (hv : validE p = 0) (_hm : m.Nodup) (h : ValX p m x) : ∀ n : Nat, ∀ y ∈ x.whys, y.level.toNat ≤ n → y.atom ∈ atomsY (exrTo p m y.level.toNat) := by
  intro n
  induction n with
  | zero => intro y hy hl; have := h.lev y hy; omega
  | succ n ih =>
    intro y hy hl
    have hl1 := h.lev y hy
    obtain ⟨i, -, hi, hd⟩ := h.der y hy
    obtain ⟨k, hk⟩ : ∃ k, y.level.toNat = k + 1 := ⟨y.level.toNat - 1, by omega⟩
    have hd2 := derT_mono (T' := atomsY (exrTo p m k)) hv (fun z hz => by
      unfold lowY at hz
      obtain ⟨z2, hz2, rfl⟩ := List.mem_map.1 hz
      obtain ⟨hz3, hz4⟩ := List.mem_filter.1 hz2
      have h5 := of_decide_eq_true hz4
      have := h.lev z2 hz3
      obtain ⟨y2, hy2, e2⟩ := List.mem_map.1 (ih z2 hz3 (by omega))
      obtain ⟨d, hd⟩ : ∃ d, k = z2.level.toNat + d := ⟨k - z2.level.toNat, by omega⟩
      rw [hd]
      exact List.mem_map.2 ⟨y2, exrTo_mono p m d y2 hy2, e2⟩) hi hd
    rw [hk]
    by_cases hin : y.atom ∈ atomsY (exrTo p m k)
    · obtain ⟨y2, hy2, e2⟩ := List.mem_map.1 hin
      exact List.mem_map.2 ⟨y2, exrTo_mono p m 1 y2 hy2, e2⟩
    · unfold exrTo
      rw [atoms_app]
      refine List.mem_append.2 (.inr ?_)
      cases hf : firR p m (atomsY (exrTo p m k)) y.atom with
      | none => rw [firR_none hf hi] at hd2; cases hd2
      | some q =>
        refine List.mem_map.2 ⟨⟨y.atom, q, k + 1⟩, ?_, rfl⟩
        unfold nowX
        refine List.mem_filterMap.2 ⟨y.atom, List.mem_filter.2 ⟨(h.part _).2 (.inr (List.mem_map.2 ⟨y, hy, rfl⟩)), decide_eq_true hin⟩, ?_⟩
        rw [hf]; rfl
theorem expl_least {p : GP} {m : List Int} {x : XP} (hv : validE p = 0) (hm : m.Nodup) (h : ValX p m x) {y : WY} (hy : y ∈ x.whys) : ∃ z ∈ (explX p m).whys, z.atom = y.atom ∧ z.level ≤ y.level := by
  have hl := h.lev y hy
  have h1 := val_least hv hm h _ y hy (Nat.le_refl _)
  rw [explX_ref]
  obtain ⟨z, hz, e⟩ := List.mem_map.1 h1
  have := exrTo_lev p m _ z hz
  refine ⟨z, ?_, e, by omega⟩
  by_cases hle : y.level.toNat ≤ m.length
  · obtain ⟨d, hd⟩ : ∃ d, m.length = y.level.toNat + d := ⟨m.length - y.level.toNat, by omega⟩
    dsimp only
    rw [hd]
    exact exrTo_mono p m d z hz
  · obtain ⟨d, hd⟩ : ∃ d, y.level.toNat = m.length + d := ⟨y.level.toNat - m.length, by omega⟩
    rw [hd, exrTo_end p hm] at hz
    exact hz
section
variable {B k x : Nat} {live live' : Nat → Option (List Int)} {vals : Nat → Value} {wx wy : World} {v : Value} {l lx : List Int}
theorem RowsK.old (h : RowsK B live vals wx) (hl : ∀ i m, live' i = some m → live i = some m ∧ i ≠ k) : RowsK B live' (updN vals k v) wx := by
  have e : ∀ i m, live' i = some m → updN vals k v i = vals i := fun i m hi => by simp only [updN]; rw [if_neg (hl i m hi).2]
  refine ⟨fun i m hi => ?_, fun i j m n hi hj hij => ?_⟩
  · rw [e i m hi]; exact h.row i m (hl i m hi).1
  · rw [e i m hi, e j n hj]; exact h.far i j m n (hl i m hi).1 (hl j n hj).1 hij
end
def headsM (m : List Int) (r : GR) : List Int := r.head.filter fun a => decide (a ∈ m)
def cutM (m : List Int) (r : GR) : GR := withHead r (headsM m r)
def singM (m : List Int) (R : List GR) : List GR := R.map (cutM m)
def oneM (m : List Int) (R : List GR) : Prop := ∀ r ∈ R, (headsM m r).length ≤ 1
theorem closedD_iff {R : List GR} {T : List Int} : ClosedD R T ↔ ∀ r ∈ R, need0 r ≤ lhs T r → ∀ x ∈ r.head, x ∈ T :=
  ⟨fun h r hr hn => by
    obtain ⟨k, hk, rfl⟩ := ixR_exR hr
    exact h k hk hn, fun h i hi hn => h _ (ixR_mem hi) hn⟩
theorem expl_end {p : GP} {m : List Int} (hm : m.Nodup) : nowX p m (atomsY (explX p m).whys) (m.length + 1) (leftX m (explX p m).whys) = [] := by
  have : exrTo p m m.length ++ nowX p m (atomsY (exrTo p m m.length)) (m.length + 1) (leftX m (exrTo p m m.length)) = exrTo p m m.length := exrTo_end p hm 1
  have h2 : ∀ {a b : List WY}, a ++ b = a → b = [] := fun {a b} h => by simpa using h
  rw [explX_ref]
  exact h2 this
theorem expl_closed {p : GP} {m : List Int} (hm : m.Nodup) {i : Nat} (hi : i < p.rules.length) {a : Int} (ha : a ∈ m) (hd : derT (atomsY (explX p m).whys) m (ixR p.rules i) a = true) : a ∈ atomsY (explX p m).whys := by
  refine Classical.byContradiction fun hn => ?_
  have he := expl_end (p := p) hm
  cases hf : firR p m (atomsY (explX p m).whys) a with
  | none => rw [firR_none hf hi] at hd; cases hd
  | some q =>
    have : (⟨a, q, m.length + 1⟩ : WY) ∈ nowX p m (atomsY (explX p m).whys) (m.length + 1) (leftX m (explX p m).whys) := by
      unfold nowX
      refine List.mem_filterMap.2 ⟨a, List.mem_filter.2 ⟨ha, decide_eq_true hn⟩, ?_⟩
      rw [hf]; rfl
    rw [he] at this; cases this
theorem least_cut {p : GP} {m M : List Int} (hv : validE p = 0) (hm : setQ p.n m = true) (h1 : oneM m (redL p m)) (hM : IsLeast (singM m (redL p m)) M) (a : Int) : a ∈ M ↔ a ∈ atomsY (explX p m).whys := by
  have hmn : m.Nodup := (setQ_sorted hm).imp fun h => Int.ne_of_lt h
  have hval := chk_val hv hm (expl_valid hv hm)
  have hmem : ∀ y, y ∈ redL p m ↔ ∃ i, i < p.rules.length ∧ y ∈ redR m (ixR p.rules i) := fun y => redTo_mem _
  constructor
  · intro ha
    refine hM.least a ha _ (closedD_iff.2 fun r hr hn x hx => ?_)
    obtain ⟨r0, hr0, rfl⟩ := List.mem_map.1 hr
    obtain ⟨i, hi, hri⟩ := (hmem r0).1 hr0
    obtain ⟨x0, hd, hx0, rfl, hcase⟩ := redR_mem.1 hri
    have hlen := h1 _ hr0
    unfold cutM at hn hx
    rw [(withHead_need _ _ (atomsY (explX p m).whys)).1, (withHead_need _ _ (atomsY (explX p m).whys)).2, (withHead_need _ _ (atomsY (explX p m).whys)).1, (withHead_need _ _ (atomsY (explX p m).whys)).2] at hn
    have hav := (red_some _ (bodyW_valid hv i hi) hx0).1 hn
    have hx2 : x ∈ headsM m (withHead x0 hd) := hx
    unfold headsM at hx2 hlen
    obtain ⟨hx3, hx4⟩ := List.mem_filter.1 hx2
    have hxm := of_decide_eq_true hx4
    refine expl_closed hmn hi hxm ?_
    have hx5 : x ∈ hd := hx3
    unfold derT soleB
    rcases hcase with ⟨hc, a', ha', -, rfl⟩ | ⟨hc, rfl⟩
    · rw [List.mem_singleton.1 hx5]
      rw [decide_eq_true ha', hc, hav]; rfl
    · rw [decide_eq_true hx5, hav, hc]
      simp only [Bool.true_and, Bool.false_or, Bool.and_true, Bool.not_eq_true']
      refine anyR_false fun j hj => ?_
      by_cases hjx : ix (ixR p.rules i).head j = x
      · simp [hjx]
      · rw [decide_eq_true hjx, Bool.true_and]
        refine decide_eq_false fun hjm => ?_
        have hj1 : ix (ixR p.rules i).head j ∈ (withHead x0 (ixR p.rules i).head).head.filter fun a => decide (a ∈ m) := List.mem_filter.2 ⟨ix_mem hj, decide_eq_true hjm⟩
        generalize (withHead x0 (ixR p.rules i).head).head.filter (fun a => decide (a ∈ m)) = F at *
        match F, hlen, hj1, hx2 with
        | [z], _, h1, h2 => exact hjx (by rw [List.mem_singleton.1 h1, List.mem_singleton.1 h2])
  · intro ha
    have key : ∀ n : Nat, ∀ y ∈ (explX p m).whys, y.level.toNat ≤ n → y.atom ∈ M := by
      intro n
      induction n with
      | zero => intro y hy hl; have := hval.lev y hy; omega
      | succ n ih =>
        intro y hy hl
        obtain ⟨i, -, hi, hd⟩ := hval.der y hy
        have hd2 := derT_mono (T' := M) hv (fun z hz => by
          unfold lowY at hz
          obtain ⟨z2, hz2, rfl⟩ := List.mem_map.1 hz
          obtain ⟨hz3, hz4⟩ := List.mem_filter.1 hz2
          have := of_decide_eq_true hz4
          have := hval.lev z2 hz3
          exact ih z2 hz3 (by omega)) hi hd
        unfold derT at hd2
        simp only [Bool.and_eq_true, decide_eq_true_eq] at hd2
        obtain ⟨hh, -, hav⟩ := hd2
        have hym : y.atom ∈ m := (hval.part _).2 (.inr (List.mem_map.2 ⟨y, hy, rfl⟩))
        cases hx0 : redB m (ixR p.rules i) with
        | none => rw [red_none M hx0] at hav; cases hav
        | some x0 =>
          have hneed := (red_some M (bodyW_valid hv i hi) hx0).2 hav
          have put : ∀ hd : List Int, withHead x0 hd ∈ redL p m → y.atom ∈ hd → y.atom ∈ M := fun hd h1 h2 => by
            refine closedD_iff.1 hM.closed _ (List.mem_map.2 ⟨_, h1, rfl⟩) ?_ _ (List.mem_filter.2 ⟨h2, decide_eq_true hym⟩)
            unfold cutM
            rw [(withHead_need _ _ M).1, (withHead_need _ _ M).2, (withHead_need _ _ M).1, (withHead_need _ _ M).2]
            exact hneed
          cases hc : (ixR p.rules i).choice with
          | true => exact put [y.atom] ((hmem _).2 ⟨i, hi, redR_mem.2 ⟨x0, _, hx0, rfl, .inl ⟨hc, y.atom, hh, hym, rfl⟩⟩⟩) (by simp)
          | false => exact put (ixR p.rules i).head ((hmem _).2 ⟨i, hi, redR_mem.2 ⟨x0, _, hx0, rfl, .inr ⟨hc, rfl⟩⟩⟩) hh
    obtain ⟨y, hy, rfl⟩ := List.mem_map.1 ha
    exact key _ y hy (Nat.le_refl _)
theorem sing_def {p : GP} {m : List Int} (hv : validE p = 0) (h1 : oneM m (redL p m)) (hl : (redL p m).length ≤ 40000) : definiteB p.n (singM m (redL p m)) = true := by
  have hn := (validP hv).n
  have hlen : (singM m (redL p m)).length = (redL p m).length := List.length_map _
  unfold definiteB
  rw [decide_eq_true (show 0 ≤ p.n ∧ p.n ≤ 4000 ∧ (singM m (redL p m)).length ≤ 40000 from ⟨hn.1, hn.2, by omega⟩), Bool.true_and]
  refine allR_true fun q hq => ?_
  obtain ⟨r0, hr0, e⟩ := List.mem_map.1 (ixR_mem hq : ixR (singM m (redL p m)) q ∈ singM m (redL p m))
  obtain ⟨i, hi, h2⟩ := (redTo_mem _).1 hr0
  obtain ⟨y, hd, hr, rfl, h3⟩ := redR_mem.1 h2
  have hp := rule_parts (ruleE_at hv hi)
  have hlen := h1 _ hr0
  rw [← e]
  have e2 : cutM m (withHead y hd) = withHead y (headsM m (withHead y hd)) := rfl
  rw [e2]
  have hsub : ∀ x ∈ headsM m (withHead y hd), 1 ≤ x ∧ x ≤ p.n := fun x hx => by
    have hx2 : x ∈ hd := (List.mem_filter.1 hx).1
    rcases h3 with ⟨-, a, h4, -, rfl⟩ | ⟨-, rfl⟩
    · obtain ⟨j, hj, e3⟩ := mem_ix.1 h4
      have := inc_pos hp.1 hj
      rw [List.mem_singleton.1 hx2, ← e3]; omega
    · obtain ⟨j, hj, e3⟩ := mem_ix.1 hx2
      have := inc_pos hp.1 hj
      rw [← e3]; omega
  refine red_def (bodyW_valid hv i hi) hp.2 hr ?_ hlen
  generalize headsM m (withHead y hd) = F at *
  match F, hlen, hsub with
  | [], _, _ => rfl
  | [z], _, h => exact inc_one (h z (by simp))
def IntsX (w0 W : World) (v : Value) (l : List Int) : Prop := Ints w0 v l ∨ (QRow w0.heap.size W v l ∧ l.length ≤ 1000000000)
theorem IntsX.old {w0 W : World} {v : Value} {l : List Int} (h : Ints w0 v l) : IntsX w0 W v l := .inl h
theorem IntsX.own {w0 W : World} {v : Value} {l : List Int} (h : QRow w0.heap.size W v l) (hl : l.length ≤ 1000000000) : IntsX w0 W v l := .inr ⟨h, hl⟩
theorem IntsX.below {w0 W W' : World} {v : Value} {l : List Int} (h : IntsX w0 W v l) (hb : Below W.heap.size W W') : IntsX w0 W' v l := h.imp id fun h => ⟨h.1.below hb, h.2⟩
theorem IntsX.ints {w0 W : World} {v : Value} {l : List Int} (h : IntsX w0 W v l) (hb : Below w0.heap.size w0 W) : Ints W v l := h.elim (·.below hb) fun h => h.1.ints (by have := h.2; omega)
theorem IntsX.sl {w0 W : World} {v : Value} {l : List Int} (h : IntsX w0 W v l) : ∃ a c, v = .slice a l.length c := by
  rcases h with h | h
  · obtain ⟨a, c, rfl, -⟩ := h.form; exact ⟨a, c, rfl⟩
  · exact h.1.slen
def RuleX (w0 W : World) (q : RQ) : Prop := IntsX w0 W q.2.1 q.1.head ∧ IntsX w0 W q.2.2.1 q.1.body ∧ IntsX w0 W q.2.2.2 q.1.w ∧ InI q.1.bound
theorem RuleX.below {w0 W W' : World} {q : RQ} (h : RuleX w0 W q) (hb : Below W.heap.size W W') : RuleX w0 W' q := ⟨h.1.below hb, h.2.1.below hb, h.2.2.1.below hb, h.2.2.2⟩
structure RowR (w0 : World) (v : Value) (L : List RQ) (W : World) : Prop where
  row : W.ownsRow w0.heap.size 60 6 v L.length (L.flatMap cells6)
  each : ∀ q ∈ L, RuleX w0 W q
theorem RowR.nil (w0 W : World) : RowR w0 (.slice none 0 0) [] W := ⟨⟨by simp, .inl ⟨rfl, rfl⟩⟩, fun q hq => by simp at hq⟩
section
variable {w0 W W' : World} {v : Value} {L : List RQ}
theorem RowR.below (h : RowR w0 v L W) (hb : Below W.heap.size W W') : RowR w0 v L W' := ⟨rowBelow h.row hb, fun q hq => (h.each q hq).below hb⟩
theorem RowR.slen (h : RowR w0 v L W) : ∃ a c, v = .slice a L.length c := by
  rcases h.row.2 with ⟨rfl, h0⟩ | ⟨g, cap, cur, rfl, _⟩
  · rw [h0]; exact ⟨_, _, rfl⟩
  · exact ⟨_, _, rfl⟩
theorem IntsX.rowKept {u : Value} {l : List Int} (h : IntsX w0 W u l) (hr : RowR w0 v L W) (hg : W.grownBy W' v.ownBlock) : IntsX w0 W' u l := h.imp id fun h => ⟨h.1.rowKept hr.row hg, h.2⟩
theorem RuleX.rowKept {q : RQ} (h : RuleX w0 W q) (hr : RowR w0 v L W) (hg : W.grownBy W' v.ownBlock) : RuleX w0 W' q := ⟨h.1.rowKept hr hg, h.2.1.rowKept hr hg, h.2.2.1.rowKept hr hg, h.2.2.2⟩
theorem RowR.far (h : RowR w0 v L W) {b : Nat} {c : List Value} {T : TypeId} (hb : Blk W b c T) (hT : T ≠ 60) : v.ownBlock ≠ some b := fun e => by
  rcases h.row.2 with ⟨rfl, _⟩ | ⟨g, cap, cur, rfl, hg, hgg, _⟩
  · cases e
  · have : g = b := by simpa [Value.ownBlock] using e
    subst this
    unfold Blk at hb
    rw [hb] at hgg
    injection hgg with hgg
    injection hgg with _ h2 _
    exact hT h2
theorem RowR.lo (h : RowR w0 v L W) {g : Nat} (e : v.ownBlock = some g) : w0.heap.size ≤ g := by
  rcases h.row.2 with ⟨rfl, _⟩ | ⟨g', cap, cur, rfl, hb, _⟩
  · cases e
  · have : g' = g := by simpa [Value.ownBlock] using e
    omega
theorem RowR.same (h : RowR w0 v L W) (hr : ∀ i, w0.heap.size ≤ i → i < W.heap.size → v.ownBlock = some i → W'.heap[i]? = W.heap[i]?) (hq : ∀ q ∈ L, RuleX w0 W' q) : RowR w0 v L W' := by
  refine ⟨⟨h.row.1, ?_⟩, hq⟩
  rcases h.row.2 with hn | ⟨g, cap, cur, rfl, hb, hg, rest⟩
  · exact .inl hn
  · exact .inr ⟨g, cap, cur, rfl, hb, (hr g hb (Array.getElem?_eq_some_iff.1 hg).1 rfl).trans hg, rest⟩
theorem RowR.rules (h : RowR w0 v L W) (hb : Below w0.heap.size w0 W) (hfit : L.length ≤ 1000000) : RulesIs W v (L.map (·.1)) := by
  have hlen : (L.map (·.1)).length = L.length := by simp
  have hq : ∀ i, i < L.length → L.getD i default ∈ L ∧ (L.getD i default).1 = ixR (L.map (·.1)) i := fun i hi => by
    have e : L.getD i default = L[i] := by simp [List.getD_eq_getElem?_getD, List.getElem?_eq_getElem hi]
    rw [e]
    exact ⟨List.getElem_mem hi, by simp [ixR, List.getD_eq_getElem?_getD, List.getElem?_eq_getElem hi]⟩
  refine ⟨fun i => (L.getD i default).2.1, fun i => (L.getD i default).2.2.1, fun i => (L.getD i default).2.2.2, ?_, fun i hi => ?_⟩
  · rw [hlen]
    rcases h.row.2 with ⟨rfl, h0⟩ | ⟨g, cap, cur, rfl, hb, hg, hn, hm, hs, hx⟩
    · exact ⟨none, 0, by rw [h0], by omega, by unfold maxLen; omega, by omega, fun hp => by omega⟩
    · refine ⟨_, cap, rfl, hn, hm, by omega, fun _ => ⟨g, 0, rfl, (Array.getElem?_eq_some_iff.1 hg).1, fun i hi j hj => ?_⟩⟩
      have h6 := flat6 L i j hi hj
      rw [← hx, List.getElem?_take_of_lt (by omega)] at h6
      rw [cell_of_row W g (0 + i * 6 + j) cur _ (0, 0) hg, Nat.zero_add]
      have e2 := (hq i (by omega)).2
      dsimp only
      rw [← e2]
      have : cur[i * 6 + j]? = cur.toList[i * 6 + j]? := by simp
      rw [this, h6]
      rcases (show j = 0 ∨ j = 1 ∨ j = 2 ∨ j = 3 ∨ j = 4 ∨ j = 5 by omega) with rfl | rfl | rfl | rfl | rfl | rfl <;> rfl
  · rw [hlen] at hi
    obtain ⟨hm, e⟩ := hq i hi
    obtain ⟨h1, h2, h3, h4⟩ := h.each _ hm
    rw [← e]
    exact ⟨h1.ints hb, h2.ints hb, h3.ints hb, h4⟩
end
theorem wpList_appendRR {ops : Array Oper} {rest : List Oper} {o : Oper} {a : Act} {W : World} {Q : Exit → Act → World → Prop} (hgd : o.guard = none) (s x : Operand)
    (ho : o.op = .call { callee := .builtin .append, args := #[s, x], argTypes := #[24, 24] }) (w0 : World) (v : Value) (L : List RQ) (q : RQ) (hs : a.eval s = v) (h : RowR w0 v L W) (g0 c : Nat) (hx : a.eval x = .slice (some ⟨g0, 0, none⟩) 1 c)
    (hb : Blk W g0 (cells6 q) 60) (hq : RuleX w0 W q) (hlen : L.length + 1 ≤ 1000000) (hbase : Below w0.heap.size w0 W)
    (hK : ∀ g cap w', RowR w0 (.slice (some ⟨g, 0, none⟩) (L.length + 1) cap) (L ++ [q]) w' → W.grownBy w' v.ownBlock → Below w0.heap.size w0 w' → wpList Tryz.prog ops Q rest (a.put o.dst (.slice (some ⟨g, 0, none⟩) (L.length + 1) cap)) w') : wpList Tryz.prog ops Q (o :: rest) a W := by
  obtain ⟨i0, hi, hz0, hz1, hz2⟩ := info_parts infoR
  refine wpList_append_own W hgd s x _ ho w0.heap.size 60 i0 _ 6 96 Tryz.underlying24 hi hz0 hz1 hz2 rfl (by decide) _ L.length (L.flatMap cells6) hs h.row ⟨g0, 0, none⟩ 1 c (cells6 q) hx rfl (fun j u hu => ?_) (fun u hu => ?_) (by unfold maxLen; omega) (by omega) hbase.size (fun v' w' h1 h2 _ => ?_)
  · rw [Addr.add_lit, Nat.zero_add, hb.cell]; exact hu
  · obtain ⟨a1, c1, e1⟩ := hq.1.sl
    obtain ⟨a2, c2, e2⟩ := hq.2.1.sl
    obtain ⟨a3, c3, e3⟩ := hq.2.2.1.sl
    simp only [cells6, e1, e2, e3, List.mem_cons, List.not_mem_nil, or_false] at hu
    rcases hu with rfl | rfl | rfl | rfl | rfl | rfl <;> rfl
  · have hne : ∃ g2 cap2, v' = .slice (some ⟨g2, 0, none⟩) (L.length + 1) cap2 := by
      rcases h1.2 with ⟨-, h0⟩ | ⟨g2, cap2, cur2, rfl, _⟩
      · omega
      · exact ⟨g2, cap2, rfl⟩
    obtain ⟨g2, cap2, rfl⟩ := hne
    refine hK g2 cap2 w' ⟨by simpa using h1, fun q' hq' => ?_⟩ h2 ?_
    · simp only [List.mem_append, List.mem_singleton] at hq'
      rcases hq' with hq' | rfl
      · exact (h.each q' hq').rowKept h h2
      · exact hq.rowKept h h2
    · refine hbase.grown h2 hbase.size fun g e => h.lo e
end Go.Proofs.YtfajkmmmmmfhiaaGreatDoor
namespace Go.Proofs.YtfajkmmmmmfhiaaGreatDoor
theorem anyR_succ (n : Nat) (f : Nat → Bool) : anyR (n + 1) f = (anyR n f || f n) := by
  simp [anyR, List.range_succ, List.any_append]
end Go.Proofs.YtfajkmmmmmfhiaaGreatDoor
namespace Go.Proofs.YtfajkmmmmmfhiaaGreatDoor
open Go.RowKit
structure El41 (w : World) (p : GP) (vn vs vr vm vS : Value) (m : List Int) (u1 u2 : Value) (x : XP) (xb : Nat) (v1 v2 : Value) (L : List WY) (R : List Int) (W : World) : Prop where
  st : E41 w p vn vs vr vm W
  bx : Blk W (w.heap.size + 1) [u1, u2] 30
  xis : ExplIs W (.agg #[u1, u2]) x
  set : Ints W vS m
  xbx : Blk W xb [v1, v2] 30
  whs : WhysIs W v1 L
  rst : Ints W v2 R
theorem El41.on {w W W' : World} {p : GP} {vn vs vr vm vS : Value} {m : List Int} {u1 u2 : Value} {x : XP} {xb : Nat} {v1 v2 : Value} {L : List WY} {R : List Int} (h : El41 w p vn vs vr vm vS m u1 u2 x xb v1 v2 L R W) (hb : Below W.heap.size W W') : El41 w p vn vs vr vm vS m u1 u2 x xb v1 v2 L R W' :=
  ⟨h.st.on hb, h.bx.below hb, h.xis.below hb, h.set.below hb, h.xbx.below hb, h.whs.below hb, h.rst.below hb⟩
theorem El41.xw {w W : World} {p : GP} {vn vs vr vm vS : Value} {m : List Int} {u1 u2 : Value} {x : XP} {xb : Nat} {v1 v2 : Value} {L : List WY} {R : List Int} (h : El41 w p vn vs vr vm vS m u1 u2 x xb v1 v2 L R W) : WhysIs W u1 x.whys := by
  obtain ⟨_, _, e, h1, _⟩ := h.xis
  simp only [Value.agg.injEq, Array.mk.injEq, List.cons.injEq, and_true] at e
  obtain ⟨rfl, rfl⟩ := e
  exact h1
theorem OwnL.nil (B : Nat) (w : World) : OwnL B w (.slice none 0 0) [] := ⟨⟨by simp, .inl ⟨rfl, rfl⟩⟩, fun i => by simp [ix], by simp⟩
theorem OwnL.mono {B B' : Nat} {w : World} {v : Value} {l : List Int} (h : OwnL B w v l) (hb : B' ≤ B) : OwnL B' w v l := by
  refine ⟨⟨h.1.1, ?_⟩, h.2⟩
  rcases h.1.2 with hn | ⟨g, cap, cur, rfl, hg, rest⟩
  · exact .inl hn
  · exact .inr ⟨g, cap, cur, rfl, Nat.le_trans hb hg, rest⟩
def El1Rel (L : List WY) (W0 : World) (d i : Value) (wx : World) : Prop := ∃ j : Nat, j ≤ L.length ∧ i = .int .i64 j ∧ OwnL W0.heap.size wx d ((atomsY L).take j) ∧ Below W0.heap.size W0 wx
theorem atoms_take {L : List WY} {j : Nat} (hj : j < L.length) : (atomsY L).take (j + 1) = (atomsY L).take j ++ [(ixY L j).atom] := by
  have hl : j < (atomsY L).length := by simpa [atomsY] using hj
  rw [List.take_succ_eq_append_getElem hl]
  simp only [atomsY, List.getElem_map, ixY_get hj]
def fdY (L : List WY) (b : WY) (i : Nat) : Bool := decide ((ixY L i).atom = b.atom) && decide ((ixY L i).level ≤ b.level)
def El2Rel (n : Nat) (W0 : World) (i : Value) (wx : World) : Prop := ∃ j : Nat, j ≤ n ∧ i = .int .i64 j ∧ Below W0.heap.size W0 wx
def El3Rel (L : List WY) (b : WY) (W0 : World) (f i : Value) (wx : World) : Prop := ∃ j : Nat, j ≤ L.length ∧ i = .int .i64 j ∧ f = .bool (anyR j (fdY L b)) ∧ Below W0.heap.size W0 wx
theorem fdY_all {p : GP} {m : List Int} {x : XP} {L : List WY} {R : List Int} (hv : validE p = 0) (hm : setQ p.n m = true) (hc : chkX p m x = true) (hX : explX p m = ⟨L, R⟩) {b : WY} (hb : b ∈ x.whys) : anyR L.length (fdY L b) = true := by
  obtain ⟨z, hz, h1, h2⟩ := expl_least hv ((setQ_sorted hm).imp fun h => Int.ne_of_lt h) (chk_val hv hm hc) hb
  rw [hX] at hz
  obtain ⟨i, hi, rfl⟩ := mem_ixY hz
  refine anyR_true i hi ?_
  unfold fdY
  rw [decide_eq_true h1, decide_eq_true h2]; rfl
def El4Rel (m : List Int) (RR : List GR) (wR : World) (s i : Value) (wx : World) : Prop := ∃ (j : Nat) (Lq : List RQ), j ≤ RR.length ∧ i = .int .i64 j ∧ RowR wR s Lq wx ∧ Lq.map (·.1) = singM m (RR.take j) ∧ oneM m (RR.take j) ∧ Below wR.heap.size wR wx
def El5Rel (m h : List Int) (W1 : World) (s i : Value) (wx : World) : Prop := ∃ t : Nat, t ≤ h.length ∧ i = .int .i64 t ∧ OwnL W1.heap.size wx s ((h.take t).filter fun a => decide (a ∈ m)) ∧ Below W1.heap.size W1 wx
theorem heads_take {m h : List Int} {t : Nat} (ht : t < h.length) : (h.take (t + 1)).filter (fun a => decide (a ∈ m)) = (h.take t).filter (fun a => decide (a ∈ m)) ++ if ix h t ∈ m then [ix h t] else [] := by
  rw [List.take_succ_eq_append_getElem ht, List.filter_append]
  have e : h[t] = ix h t := by simp [ix, List.getD, ht]
  rw [e]
  by_cases hin : ix h t ∈ m
  · simp [hin]
  · simp [hin]
theorem sing_take {m : List Int} {RR : List GR} {j : Nat} (hj : j < RR.length) : singM m (RR.take (j + 1)) = singM m (RR.take j) ++ [cutM m (ixR RR j)] := by
  unfold singM
  rw [List.take_succ_eq_append_getElem hj, List.map_append]
  have e : RR[j] = ixR RR j := by simp [ixR, List.getD_eq_getElem?_getD, List.getElem?_eq_getElem hj]
  rw [e]; rfl
theorem one_take {m : List Int} {RR : List GR} {j : Nat} (hj : j < RR.length) (h : oneM m (RR.take j)) (h1 : (headsM m (ixR RR j)).length ≤ 1) : oneM m (RR.take (j + 1)) := by
  rw [List.take_succ_eq_append_getElem hj]
  have e : RR[j] = ixR RR j := by simp [ixR, List.getD_eq_getElem?_getD, List.getElem?_eq_getElem hj]
  rw [e]
  intro r hr
  rcases List.mem_append.1 hr with hr | hr
  · exact h r hr
  · rw [List.mem_singleton.1 hr]; exact h1
theorem reduct_sl {v vS : Value} {p : GP} {m : List Int} {RR : List GR} {w : World} (hR : redL p m = RR) (h : ProgIs w v p) (hm : Ints w vS m) (hv : validE p = 0) (hs : setQ p.n m = true) (hml : m.length ≤ 1000000000) :
    Calls Tryz.prog 33 #[v, vS] w fun e w' => ∃ a c, e = .returned (.tuple #[.slice a RR.length c, .int .i64 0]) ∧ RulesIs w' (.slice a RR.length c) RR ∧ Below w.heap.size w w' := by
  subst hR
  refine (reduct_any v vS p m w h hm hv hs hml).mono ?_
  rintro e w' ⟨vr, rfl, hr, hb⟩
  obtain ⟨a, c, rfl, -⟩ := id hr.form
  exact ⟨a, c, rfl, hr, hb⟩
theorem in2_call {va vb : Value} {a b : List Int} {w : World} (h : inSub a b = true) (ha : Ints w va a) (hb : Ints w vb b) :
    Calls Tryz.prog 29 #[va, vb] w fun e w' => e = .returned (.bool true) ∧ w = w' := by
  have := in19_any va vb a b w ha hb
  rwa [h] at this
end Go.Proofs.YtfajkmmmmmfhiaaGreatDoor
