/- My texts Lw26, Sq41, Sn41, Ex11, BkR, Ex12, merged. -/
import Derived.Test.YtfajkmmmmmfhiaaGreatDoorM14
import Derived.Test.YtfajkmmmmmfhiaaGreatDoorM13
import Derived.Test.YtfajkmmmmmfhiaaGreatDoorM04
import Derived.Test.YtfajkmmmmmfhiaaGreatDoorM03
import Derived.Test.YtfajkmmmmmfhiaaGreatDoorM00
import Derived.Test.YtfajkmmmmmfhiaaGreatDoorProg
import Derived.WalkKit
import Derived.Lib.Hide
import Derived.Deep.QuietTactic
import Derived.BigQuiet
import Derived.WalkSpells
import Derived.Lib.SliceRun
import Derived.MapKept
import Derived.Maps.OwnSet
import Derived.Maps.OwnOps
import Derived.Test.YtfajkmmmmmfhiaaGreatDoorM02
import Derived.Test.YtfajkmmmmmfhiaaGreatDoorM01
import Derived.Deep.AppendLies
import Derived.Lib.Bytealg
import Derived.Test.YtfajkmmmmmfhiaaGreatDoorM12
import Derived.Test.YtfajkmmmmmfhiaaGreatDoorM09
import Derived.Deep.DeepCutAuto
import Derived.Test.YtfajkmmmmmfhiaaGreatDoorM06
import Derived.Test.YtfajkmmmmmfhiaaGreatDoorM05
import Derived.Laws.EntriesVeiled
import Derived.Deep.RegionWith
import Derived.RangeFuncNested
import Derived.RangeFuncBound
import Derived.RangeFuncCalls
import Derived.RangeFuncLeaves
import Derived.OwnWalkIn
import Derived.TacticsInMore
import Derived.LoopNIn
import Derived.LoopIn
import Derived.Stop.RegionWithIn
import Derived.Shelf.Abstract
import Derived.Deep.OwnRows
import Derived.Test.YtfajkmmmmmfhiaaGreatDoorM07
import Derived.Shelf.Sort.Plain
import Derived.Shelf.Slices.CompactI
import Derived.Shelf.Slices.In.SortNone
import Derived.Shelf.Strconv.Itoa3
import Derived.Shelf.Strings.BuilderK
import Derived.Shelf.Slices.SearchI
import Derived.Shelf.Slices.Empties
import Derived.Sort.QuietThIn
import Derived.Maps.RangeWalk
import Derived.Lib.SlicesCompact
import Derived.Sort.OwnSortedInts
import Derived.RangeFuncBox
import Derived.Maps.OwnIn
import Derived.Lib.RowBridge
import Derived.Deep.AppendSrc
import Derived.Deep.DeepMust
import Derived.ProofKit
import Derived.OpenShut
import Derived.ChangeArms
import Derived.SizedLaws
import Derived.Test.YtfajkmmmmmfhiaaGreatDoorM11
import Derived.Test.YtfajkmmmmmfhiaaGreatDoorM10
import Derived.Test.YtfajkmmmmmfhiaaGreatDoorM08
import Derived.Deep.LoopGhost
import Derived.Deep.DrawnRows

namespace Go.Proofs.YtfajkmmmmmfhiaaGreatDoor
open Go.RowKit
structure LwSt (w : World) (p : GP) (vn vs vr vm : Value) (W : World) : Prop where
  box : Blk W w.heap.size [.int .i64 p.n, vn, vs, vr, vm] 27
  prog : ProgIs W (.agg #[.int .i64 p.n, vn, vs, vr, vm]) p
  below : Below w.heap.size w W
theorem LwSt.on {w W W' : World} {p : GP} {vn vs vr vm : Value} (h : LwSt w p vn vs vr vm W) (hb : Below W.heap.size W W') : LwSt w p vn vs vr vm W' := ⟨h.box.below hb, h.prog.below hb, bon h.below hb⟩
theorem LwSt.alloc {w W : World} {p : GP} {vn vs vr vm : Value} (h : LwSt w p vn vs vr vm W) (o : Obj) : LwSt w p vn vs vr vm (W.alloc o) := h.on (bal (Below.refl _ _) _)
theorem LwSt.start {w : World} {p : GP} {vn vs vr vm : Value} (h : ProgIs w (.agg #[.int .i64 p.n, vn, vs, vr, vm]) p) : LwSt w p vn vs vr vm (w.alloc (.cells #[.int .i64 p.n, vn, vs, vr, vm] 27)) := by
  have hal : Below w.heap.size w (w.alloc (.cells #[.int .i64 p.n, vn, vs, vr, vm] 27)) := bal (Below.refl _ _) _
  exact ⟨Blk.new w _ _, h.below hal, hal⟩
def chR (r : GR) : GR := ⟨true, r.head, r.sum, r.bound, r.body, r.w⟩
def supF (S : List Int) (ws : List WY) : List WY := ws.filter fun y => decide (y.atom ∈ S)
def supRs (p : GP) (S : List Int) (ws : List WY) : List GR := (supF S ws).map fun y => chR (ixR p.rules y.rule.toNat)
def supG (p : GP) (S : List Int) (ws : List WY) : GP := ⟨p.n, p.names, p.shown, supRs p S ws, p.min⟩
def supX (m S : List Int) (ws : List WY) : XP := ⟨(supF S ws).zipIdx.map fun (z : WY × Nat) => ⟨z.1.atom, z.2, z.1.level⟩, m.filter fun a => decide (a ∉ atomsY (supF S ws))⟩
theorem SupR.trans {p : GP} {x : XP} {a b c : Int} (h1 : SupR p x a b) (h2 : SupR p x b c) : SupR p x a c := by
  induction h2 with
  | base => exact h1
  | step hy hz _ hb hl ih => exact .step hy hz ih hb hl
theorem SupR.low {p : GP} {x : XP} {a b : Int} (hn : (atomsY x.whys).Nodup) (h : SupR p x a b) {w v : WY} (hw : w ∈ x.whys) (hwa : w.atom = a) (hv : v ∈ x.whys) (hva : v.atom = b) : b = a ∨ v.level < w.level := by
  induction h generalizing v with
  | base => exact .inl rfl
  | step hy hz hr hb hl ih =>
    refine .inr ?_
    have := why_same hn hv hz hva
    subst this
    rcases ih hy rfl with e | h
    · have := why_same hn hy hw (e.trans hwa.symm)
      subst this; exact hl
    · omega
theorem chR_rule {r : GR} {n : Int} (h : ruleE r n = 0) (hh : r.head ≠ []) : ruleE (chR r) n = 0 := by
  have hl : 0 < r.head.length := List.length_pos_iff.2 hh
  unfold ruleE at h ⊢
  unfold chR
  grind
theorem supG_valid {p : GP} {m S : List Int} {x : XP} (hv : validE p = 0) (h : ValX p m x) (hl : x.whys.length ≤ 40000) : validE (supG p S x.whys) = 0 := by
  have hfl : (supF S x.whys).length ≤ x.whys.length := List.length_filter_le _ _
  have hrl : (supRs p S x.whys).length = (supF S x.whys).length := List.length_map _
  have h0 : rulesE (supRs p S x.whys) p.n = 0 := by
    have hall : ∀ j, j < (supRs p S x.whys).length → ruleE (ixR (supRs p S x.whys) j) p.n = 0 := fun j hj => by
      obtain ⟨y, hy, e⟩ := List.mem_map.1 (ixR_mem hj : ixR (supRs p S x.whys) j ∈ supRs p S x.whys)
      obtain ⟨i, hi, hip, hd⟩ := h.der y (List.mem_filter.1 hy).1
      rw [← e, hi, Int.toNat_natCast]
      refine chR_rule (ruleE_at hv hip) fun e2 => ?_
      unfold derT at hd
      rw [e2] at hd
      simp at hd
    rw [rulesFrom_split _ _ _ (Nat.le_refl _) hall, Nat.sub_self]; rfl
  have hv2 := hv
  unfold validE at hv2 ⊢
  have e1 : namedB (supG p S x.whys) = namedB p := rfl
  have e2 : (supG p S x.whys).min = p.min := rfl
  have e3 : (supG p S x.whys).rules = supRs p S x.whys := rfl
  have e4 : (supG p S x.whys).n = p.n := rfl
  split at hv2
  · cases hv2
  split at hv2
  · cases hv2
  split at hv2
  · rename_i h3; exact absurd hv2 h3
  rename_i h1 _ _
  rw [e1, e2, e3, e4, if_neg h1, if_neg (show ¬ 40000 < (supRs p S x.whys).length by omega), h0, if_neg (by simp)]
  exact hv2
theorem supG_models (p : GP) (m S : List Int) (ws : List WY) : modelsB (supG p S ws) m = true := allR_true fun i hi => by
  obtain ⟨y, hy, e⟩ := List.mem_map.1 (ixR_mem hi : ixR (supRs p S ws) i ∈ supRs p S ws)
  show satT (ixR (supRs p S ws) i) m = true
  rw [← e]; rfl
theorem supX_atoms (m S : List Int) (ws : List WY) : atomsY (supX m S ws).whys = atomsY (supF S ws) := by
  unfold atomsY supX
  simp only [List.map_map]
  have : ((fun y : WY => y.atom) ∘ fun z : WY × Nat => (⟨z.1.atom, z.2, z.1.level⟩ : WY)) = (fun y : WY => y.atom) ∘ Prod.fst := rfl
  rw [this, ← List.map_map, List.zipIdx_map_fst]
theorem supX_mem {m S : List Int} {ws : List WY} {y : WY} (h : y ∈ (supX m S ws).whys) : ∃ v k, k < (supF S ws).length ∧ ixY (supF S ws) k = v ∧ y = ⟨v.atom, k, v.level⟩ := by
  unfold supX at h
  obtain ⟨⟨v, k⟩, hz, rfl⟩ := List.mem_map.1 h
  obtain ⟨h1, h2⟩ := List.mem_zipIdx' hz
  exact ⟨v, k, h1, by rw [ixY_get h1]; exact h2.symm, rfl⟩
theorem supX_low {m S : List Int} {ws : List WY} {lv : Int} {z : WY} (hz : z ∈ ws) (hs : z.atom ∈ S) (hl : z.level < lv) : z.atom ∈ lowY (supX m S ws).whys lv := by
  have hf : z ∈ supF S ws := List.mem_filter.2 ⟨hz, decide_eq_true hs⟩
  obtain ⟨k, hk, e⟩ := mem_ixY hf
  refine List.mem_map.2 ⟨⟨z.atom, k, z.level⟩, List.mem_filter.2 ⟨List.mem_map.2 ⟨(z, k), ?_, rfl⟩, decide_eq_true hl⟩, rfl⟩
  rw [List.mem_zipIdx_iff_getElem?]
  rw [ixY_get hk] at e
  simp [List.getElem?_eq_getElem hk, e]
theorem supX_val {p : GP} {m S : List Int} {x : XP} (h : ValX p m x) (hns : ∀ i, i < p.rules.length → (ixR p.rules i).sum = false)
    (hS : ∀ y ∈ x.whys, y.atom ∈ S → ∀ z ∈ x.whys, z.atom ∈ (ixR p.rules y.rule.toNat).body → z.level < y.level → z.atom ∈ S) : ValX (supG p S x.whys) m (supX m S x.whys) where
  nod := by
    rw [supX_atoms]
    exact h.nod.sublist (List.filter_sublist.map _)
  part := fun a => by
    rw [supX_atoms]
    unfold supX
    simp only [List.mem_filter, decide_eq_true_eq]
    constructor
    · intro ha
      by_cases hin : a ∈ atomsY (supF S x.whys)
      · exact .inr hin
      · exact .inl ⟨ha, hin⟩
    · rintro (⟨ha, -⟩ | ha)
      · exact ha
      · obtain ⟨y, hy, rfl⟩ := List.mem_map.1 ha
        exact (h.part _).2 (.inr (List.mem_map.2 ⟨y, (List.mem_filter.1 hy).1, rfl⟩))
  lev := fun y hy => by
    obtain ⟨v, k, hk, e, rfl⟩ := supX_mem hy
    have : v ∈ supF S x.whys := by rw [← e]; exact ixY_mem hk
    exact h.lev v (List.mem_filter.1 this).1
  der := fun y hy => by
    obtain ⟨v, k, hk, e, rfl⟩ := supX_mem hy
    have hvf : v ∈ supF S x.whys := by rw [← e]; exact ixY_mem hk
    obtain ⟨hvw, hvS⟩ := List.mem_filter.1 hvf
    have hvS := of_decide_eq_true hvS
    obtain ⟨i, hi, hip, hd⟩ := h.der v hvw
    have hrl : (supRs p S x.whys).length = (supF S x.whys).length := List.length_map _
    refine ⟨k, rfl, by show k < (supRs p S x.whys).length; omega, ?_⟩
    have er : ixR (supRs p S x.whys) k = chR (ixR p.rules i) := by
      unfold supRs
      show (List.getD _ _ _) = _
      rw [List.getD_eq_getElem?_getD, List.getElem?_map, List.getElem?_eq_getElem hk, ← ixY_get hk, e]
      show chR (ixR p.rules v.rule.toNat) = _
      rw [hi, Int.toNat_natCast]
    show derT (lowY (supX m S x.whys).whys v.level) m (ixR (supRs p S x.whys) k) v.atom = true
    rw [er]
    unfold derT at hd ⊢
    simp only [Bool.and_eq_true, decide_eq_true_eq] at hd ⊢
    refine ⟨hd.1, rfl, ?_⟩
    have hav := hd.2.2
    have hsum := hns i hip
    unfold avT at hav ⊢
    have e1 : (chR (ixR p.rules i)).sum = (ixR p.rules i).sum := rfl
    have e2 : (chR (ixR p.rules i)).body = (ixR p.rules i).body := rfl
    rw [e1, e2]
    rw [hsum] at hav ⊢
    simp only [Bool.false_eq_true, if_false] at hav ⊢
    refine allR_true fun j hj => ?_
    have hlj := allR_get hav j hj
    unfold hlT at hlj ⊢
    split
    · rename_i hpos
      rw [if_pos hpos, decide_eq_true_eq] at hlj
      obtain ⟨z, hz, hza⟩ := List.mem_map.1 hlj
      obtain ⟨hz1, hz2⟩ := List.mem_filter.1 hz
      have hz2 := of_decide_eq_true hz2
      rw [decide_eq_true_eq, ← hza]
      refine supX_low hz1 (hS v hvw hvS z hz1 ?_ hz2) hz2
      rw [hi, Int.toNat_natCast, hza]; exact ix_mem hj
    · rename_i hpos
      rw [if_neg hpos] at hlj
      exact hlj
theorem sup_least {p : GP} {m S : List Int} {x : XP} (hv : validE p = 0) (hm : setQ p.n m = true) (h : ValX p m x) (hns : ∀ i, i < p.rules.length → (ixR p.rules i).sum = false) (hl : x.whys.length ≤ 40000)
    (hS : ∀ y ∈ x.whys, y.atom ∈ S → ∀ z ∈ x.whys, z.atom ∈ (ixR p.rules y.rule.toNat).body → z.level < y.level → z.atom ∈ S) {w : WY} (hw : w ∈ x.whys) (hwS : w.atom ∈ S) :
    ∃ z ∈ (explX (supG p S x.whys) m).whys, z.atom = w.atom ∧ z.level ≤ w.level := by
  have hf : w ∈ supF S x.whys := List.mem_filter.2 ⟨hw, decide_eq_true hwS⟩
  obtain ⟨k, hk, e⟩ := mem_ixY hf
  have hin : (⟨w.atom, k, w.level⟩ : WY) ∈ (supX m S x.whys).whys := List.mem_map.2 ⟨(w, k), by
    rw [List.mem_zipIdx_iff_getElem?]
    rw [ixY_get hk] at e
    simp [List.getElem?_eq_getElem hk, e], rfl⟩
  obtain ⟨z, z1, z2, z3⟩ := expl_least (y := ⟨w.atom, k, w.level⟩) (supG_valid hv h hl) ((setQ_sorted hm).imp fun h => Int.ne_of_lt h) (supX_val h hns hS) hin
  exact ⟨z, z1, z2, z3⟩
theorem xE_no {p : GP} {m : List Int} (hv : validE p = 0) (hm : setQ p.n m = true) (hmod : modelsB p m = false) : xE p m = 410 := by
  unfold xE; rw [if_neg (by simp [hv]), if_pos hm, if_neg (by rw [hmod]; exact Bool.false_ne_true)]
def bkVal (b : BK) : Value := .agg #[.int .i64 b.rule, .int .u8 b.kind, .int .i64 b.lit]
def cellsK (b : BK) : List Value := [.int .i64 b.rule, .int .u8 b.kind, .int .i64 b.lit]
def BI (b : BK) : Prop := InI b.rule ∧ (0 ≤ b.kind ∧ b.kind ≤ 255) ∧ InI b.lit
theorem bc1_any (x : Int) (m : List Int) (mb : Nat) (w : World) (h : ∃ v, Blk w mb [v] 23 ∧ Ints w v m) (hx : -9223372036854775808 < x ∧ x ≤ 9223372036854775807) :
    Calls Tryz.prog 117 #[.int .i64 x, .pointer (some ⟨mb, 0, none⟩)] w fun e w' => e = .returned (.bool (!litT m x)) ∧ Below w.heap.size w w' := by
  obtain ⟨v, h1, h2⟩ := h
  obtain ⟨a1, c1, rfl, -⟩ := h2.form
  have kb := h1.cell 0
  have HM := Lib.hid h2
  clear h1 h2
  by_cases hp : 0 < x
  · have hmax : max x (-x) = x := by omega
    have HF : Hid ((!litT m x) = (decide (x ∈ m) != true)) := Lib.hid (by unfold litT; rw [if_pos hp]; cases decide (x ∈ m) <;> rfl)
    cases hin : decide (x ∈ m) with
    | true =>
      have HIN := Lib.hid hin
      rw [hin] at HF
      clear hin
      go_enter Tryz.func117, Tryz.ntmps117
      go_wp2_with (go_at_call 57; (with_reducible refine (contains_any _ m _ _ HM.out).mono ?_); rintro e w1 ⟨e1, rfl⟩; rw [HIN.out] at e1; subst e1)
      go_ret
      exact ⟨ret_bool HF.out.symm, Below.refl _ _⟩
    | false =>
      have HIN := Lib.hid hin
      rw [hin] at HF
      clear hin
      go_enter Tryz.func117, Tryz.ntmps117
      go_wp2_with (go_at_call 57; (with_reducible refine (contains_any _ m _ _ HM.out).mono ?_); rintro e w1 ⟨e1, rfl⟩; rw [HIN.out] at e1; subst e1)
      go_ret
      exact ⟨ret_bool HF.out.symm, Below.refl _ _⟩
  · have hmax : max x (-x) = -x := by omega
    have HF : Hid ((!litT m x) = decide (-x ∈ m)) := Lib.hid (by unfold litT; rw [if_neg hp, Bool.not_not])
    cases hin : decide (-x ∈ m) with
    | true =>
      have HIN := Lib.hid hin
      rw [hin] at HF
      clear hin
      go_enter Tryz.func117, Tryz.ntmps117
      go_wp2_with (go_at_call 57; (with_reducible refine (contains_any _ m _ _ HM.out).mono ?_); rintro e w1 ⟨e1, rfl⟩; rw [HIN.out] at e1; subst e1)
      go_ret
      exact ⟨ret_bool (by rw [HF.out]; simp [hp]), Below.refl _ _⟩
    | false =>
      have HIN := Lib.hid hin
      rw [hin] at HF
      clear hin
      go_enter Tryz.func117, Tryz.ntmps117
      go_wp2_with (go_at_call 57; (with_reducible refine (contains_any _ m _ _ HM.out).mono ?_); rintro e w1 ⟨e1, rfl⟩; rw [HIN.out] at e1; subst e1)
      go_ret
      exact ⟨ret_bool (by rw [HF.out]; simp [hp]), Below.refl _ _⟩
theorem bc2_any (x : Int) (m : List Int) (mb : Nat) (w : World) (h : ∃ v, Blk w mb [v] 23 ∧ Ints w v m) :
    Calls Tryz.prog 118 #[.int .i64 x, .pointer (some ⟨mb, 0, none⟩)] w fun e w' => e = .returned (.bool (decide (x ∈ m))) ∧ Below w.heap.size w w' := by
  obtain ⟨v, h1, h2⟩ := h
  obtain ⟨a1, c1, rfl, -⟩ := h2.form
  have kb := h1.cell 0
  have HM := Lib.hid h2
  clear h1 h2
  go_enter Tryz.func118, Tryz.ntmps118
  go_wp2_with (go_at_call 57; (with_reducible refine (contains_any _ m _ _ HM.out).mono ?_); rintro e w1 ⟨rfl, rfl⟩)
  go_ret
  exact ⟨rfl, Below.refl _ _⟩
set_option maxHeartbeats 1000000 in
theorem idx_bc1 (v : Value) (l : List Int) (w : World) (h : Ints w v l) (g : Nat → Bool) (cap : Value)
    (hg : ∀ w', Below w.heap.size w w' → ∀ j, j < l.length → Calls Tryz.prog 117 #[.int .i64 (ix l j), cap] w' fun e w'' => e = .returned (.bool (g j)) ∧ Below w'.heap.size w' w'') :
    Calls Tryz.prog 108 #[v, .func (.func 117) #[] #[cap]] w fun e w' => ∃ r, e = .returned (.int .i64 r) ∧ IxP l.length g r ∧ Below w.heap.size w w' := by
  obtain ⟨a1, c1, rfl, -, hl1, -, hcell⟩ := h.form
  have HG := Lib.hid hg
  clear h hg
  go_enter Tryz.func108, Tryz.ntmps108
  go_wp2
  go_loopw [8] (fun i wx => IxR l.length g w i wx) (fun i _ => l.length - (intOf i).toNat)
  case atStart => exact ⟨0, by omega, rfl, fun j hj => absurd hj (Nat.not_lt_zero _), Below.refl _ _⟩
  case round =>
    obtain ⟨k, hk, rfl, hall, hb⟩ := hrel
    have HA := Lib.hid hall
    clear hall
    by_cases hlt : k < l.length
    · obtain ⟨b, off, rfl, hbl, hc⟩ := hcell (by omega)
      have hk1 := (bcell hb _ _ hbl).trans (hc k hlt)
      clear hc hcell
      cases g1 : g k with
      | true =>
        have HK : Hid (_ = true) := Lib.hid g1
        have HC := Lib.hid (HG.out _ hb k hlt)
        rw [g1] at HC
        clear g1
        go_wp2_with (go_at_call 117; refine (HC.out).mono ?_; rintro e w1 ⟨rfl, hb1⟩)
        go_ret
        exact ⟨_, rfl, .inr ⟨k, hlt, rfl, HK.out, HA.out⟩, bon hb hb1⟩
      | false =>
        have HN := Lib.hid (lt_succ_all HA.out g1)
        have HC := Lib.hid (HG.out _ hb k hlt)
        rw [g1] at HC
        clear g1
        go_wp2_with (go_at_call 117; refine (HC.out).mono ?_; rintro e w1 ⟨rfl, hb1⟩)
        first
          | (go_roundw
             case rel => (exact ⟨k + 1, by omega, by go_num, HN.out, bon hb hb1⟩)
             case measure => (simp [intOf]; omega))
          | (refine ⟨?_, ?_⟩
             · (exact ⟨k + 1, by omega, by go_num, HN.out, bon hb hb1⟩)
             · (simp [intOf]; omega))
    · have HN : Hid (∀ j, j < l.length → g j = false) := Lib.hid (fun j hj => HA.out j (by omega))
      go_wp2
      go_ret
      exact ⟨_, rfl, .inl ⟨rfl, HN.out⟩, hb⟩
set_option maxHeartbeats 1000000 in
theorem idx_bc2 (v : Value) (l : List Int) (w : World) (h : Ints w v l) (g : Nat → Bool) (cap : Value)
    (hg : ∀ w', Below w.heap.size w w' → ∀ j, j < l.length → Calls Tryz.prog 118 #[.int .i64 (ix l j), cap] w' fun e w'' => e = .returned (.bool (g j)) ∧ Below w'.heap.size w' w'') :
    Calls Tryz.prog 108 #[v, .func (.func 118) #[] #[cap]] w fun e w' => ∃ r, e = .returned (.int .i64 r) ∧ IxP l.length g r ∧ Below w.heap.size w w' := by
  obtain ⟨a1, c1, rfl, -, hl1, -, hcell⟩ := h.form
  have HG := Lib.hid hg
  clear h hg
  go_enter Tryz.func108, Tryz.ntmps108
  go_wp2
  go_loopw [8] (fun i wx => IxR l.length g w i wx) (fun i _ => l.length - (intOf i).toNat)
  case atStart => exact ⟨0, by omega, rfl, fun j hj => absurd hj (Nat.not_lt_zero _), Below.refl _ _⟩
  case round =>
    obtain ⟨k, hk, rfl, hall, hb⟩ := hrel
    have HA := Lib.hid hall
    clear hall
    by_cases hlt : k < l.length
    · obtain ⟨b, off, rfl, hbl, hc⟩ := hcell (by omega)
      have hk1 := (bcell hb _ _ hbl).trans (hc k hlt)
      clear hc hcell
      cases g1 : g k with
      | true =>
        have HK : Hid (_ = true) := Lib.hid g1
        have HC := Lib.hid (HG.out _ hb k hlt)
        rw [g1] at HC
        clear g1
        go_wp2_with (go_at_call 118; refine (HC.out).mono ?_; rintro e w1 ⟨rfl, hb1⟩)
        go_ret
        exact ⟨_, rfl, .inr ⟨k, hlt, rfl, HK.out, HA.out⟩, bon hb hb1⟩
      | false =>
        have HN := Lib.hid (lt_succ_all HA.out g1)
        have HC := Lib.hid (HG.out _ hb k hlt)
        rw [g1] at HC
        clear g1
        go_wp2_with (go_at_call 118; refine (HC.out).mono ?_; rintro e w1 ⟨rfl, hb1⟩)
        first
          | (go_roundw
             case rel => (exact ⟨k + 1, by omega, by go_num, HN.out, bon hb hb1⟩)
             case measure => (simp [intOf]; omega))
          | (refine ⟨?_, ?_⟩
             · (exact ⟨k + 1, by omega, by go_num, HN.out, bon hb hb1⟩)
             · (simp [intOf]; omega))
    · have HN : Hid (∀ j, j < l.length → g j = false) := Lib.hid (fun j hj => HA.out j (by omega))
      go_wp2
      go_ret
      exact ⟨_, rfl, .inl ⟨rfl, HN.out⟩, hb⟩
theorem firI_ix {n : Nat} {g : Nat → Bool} {r : Int} (h : IxP n g r) (hany : ∃ j, j < n ∧ g j = true) : r = (firI g n : Nat) ∧ firI g n < n ∧ g (firI g n) = true := by
  rcases h with ⟨-, h⟩ | ⟨i, hi, rfl, h1, h2⟩
  · obtain ⟨j, hj, hg⟩ := hany
    rw [h j hj] at hg; cases hg
  · have e : firI g n = i := by
      unfold firI
      have : (List.range n).find? g = some i := List.find?_eq_some_iff_getElem.2 ⟨h1, i, by simpa using hi, by simp, fun j hj => by simp [h2 j hj]⟩
      rw [this]; rfl
    rw [e]
    exact ⟨rfl, hi, h1⟩
theorem body_lit {r : GR} {m : List Int} (hs : r.sum = false) (hb : bodyT r m = false) : ∃ j, j < r.body.length ∧ (!litT m (ix r.body j)) = true := by
  unfold bodyT at hb
  rw [hs, if_neg Bool.false_ne_true] at hb
  refine Classical.byContradiction fun hno => ?_
  rw [allR_true fun j hj => ?_] at hb
  · cases hb
  · cases h : litT m (ix r.body j) with
    | true => rfl
    | false => exact absurd ⟨j, hj, by rw [h]; rfl⟩ hno
theorem RuleIs.bodyOf {W : World} {a c d f vh vb : Value} {r : GR} (h : RuleIs W (.agg #[a, vh, c, d, vb, f]) r) : Ints W vb r.body := by
  obtain ⟨_, _, _, e, h⟩ := h
  injection e with e
  have e := congrArg Array.toList e
  simp only [List.cons.injEq, and_true] at e
  obtain ⟨-, -, -, -, e1, -⟩ := e
  rw [e1]; exact h.body
theorem RuleIs.headOf {W : World} {a c d f vh vb : Value} {r : GR} (h : RuleIs W (.agg #[a, vh, c, d, vb, f]) r) : Ints W vh r.head := by
  obtain ⟨_, _, _, e, h⟩ := h
  injection e with e
  have e := congrArg Array.toList e
  simp only [List.cons.injEq, and_true] at e
  obtain ⟨-, e1, -⟩ := e
  rw [e1]; exact h.head
set_option maxHeartbeats 4000000 in
set_option maxRecDepth 100000 in
theorem block_any (vr vset : Value) (r : GR) (m : List Int) (n : Int) (w : World) (hr : RuleIs w vr r) (hm : Ints w vset m) (hml : m.length ≤ 1000000000) (hV : BodyV r n) (hmod : satT r m = true) :
    Calls Tryz.prog 59 #[vr, vset] w fun e w' => e = .returned (bkVal (blkB r m 0)) ∧ Below w.heap.size w w' := by
  have hr0 := hr
  obtain ⟨vh, vb, vw, rfl, hsl⟩ := hr
  obtain ⟨am, cm, rfl, -⟩ := id hm.form
  obtain ⟨a1, c1, rfl, -, hl1, -, -⟩ := hsl.head.form
  obtain ⟨a2, c2, rfl, -, hl2, -, -⟩ := hsl.body.form
  have hal := bal (bal (bal (Below.refl w.heap.size w) (.cells #[.bool r.choice, .slice a1 r.head.length c1, .bool r.sum, .int .i64 r.bound, .slice a2 r.body.length c2, vw] 60)) (.cells #[.slice am m.length cm] 23)) (.cells #[.int .i64 0, .int .u8 0, .int .i64 0] 65)
  have HX0 : Hid (Blk (((w.alloc (.cells #[.bool r.choice, .slice a1 r.head.length c1, .bool r.sum, .int .i64 r.bound, .slice a2 r.body.length c2, vw] 60)).alloc (.cells #[.slice am m.length cm] 23)).alloc (.cells #[.int .i64 0, .int .u8 0, .int .i64 0] 65)) w.heap.size [.bool r.choice, .slice a1 r.head.length c1, .bool r.sum, .int .i64 r.bound, .slice a2 r.body.length c2, vw] 60) := Lib.hid (((Blk.new w [.bool r.choice, .slice a1 r.head.length c1, .bool r.sum, .int .i64 r.bound, .slice a2 r.body.length c2, vw] _).alloc _).alloc _)
  have HY0 : Hid (Blk (((w.alloc (.cells #[.bool r.choice, .slice a1 r.head.length c1, .bool r.sum, .int .i64 r.bound, .slice a2 r.body.length c2, vw] 60)).alloc (.cells #[.slice am m.length cm] 23)).alloc (.cells #[.int .i64 0, .int .u8 0, .int .i64 0] 65)) (w.heap.size + 1) [.slice am m.length cm] 23) := Lib.hid ((Blk.new2 w _ [.slice am m.length cm] _).alloc _)
  have HZ0 : Hid (Blk (((w.alloc (.cells #[.bool r.choice, .slice a1 r.head.length c1, .bool r.sum, .int .i64 r.bound, .slice a2 r.body.length c2, vw] 60)).alloc (.cells #[.slice am m.length cm] 23)).alloc (.cells #[.int .i64 0, .int .u8 0, .int .i64 0] 65)) (w.heap.size + 1 + 1) [.int .i64 0, .int .u8 0, .int .i64 0] 65) := Lib.hid (Blk.newAt _ _ _ (by simp))
  have HR0 := Lib.hid (hr0.below hal)
  have HM0 := Lib.hid (hm.below hal)
  have HB0 := Lib.hid hal
  have HV := Lib.hid hV
  have HLT : Hid (∀ j, j < r.body.length → -9223372036854775808 < ix r.body j ∧ ix r.body j ≤ 9223372036854775807) := Lib.hid (fun j hj => ⟨hV.ok.lit j hj, (hsl.body.2 j).2⟩)
  clear hr0 hsl hm hal hV
  go_enter Tryz.func59, Tryz.ntmps59
  go_upto_region 1 with fail
  have kr0 := HX0.out.cell
  have km0 := HY0.out.cell 0
  have kz0 := HZ0.out.cell
  generalize ((w.alloc (.cells #[.bool r.choice, .slice a1 r.head.length c1, .bool r.sum, .int .i64 r.bound, .slice a2 r.body.length c2, vw] 60)).alloc (.cells #[.slice am m.length cm] 23)).alloc (.cells #[.int .i64 0, .int .u8 0, .int .i64 0] 65) = W0 at *
  cases hb : bodyT r m with
  | false =>
    have HBT := Lib.hid hb
    cases hs : r.sum with
    | true =>
      have HF : Hid (blkB r m 0 = ⟨0, 2, 0⟩) := Lib.hid (by unfold blkB; rw [if_pos hb, if_pos hs])
      have HSU := Lib.hid hs
      clear hb hs
      go_wp2_with ((go_at_call 32; (with_reducible refine (rBody_any _ _ r m _ HR0.out HM0.out hml HV.out).mono ?_); rintro e w1 ⟨e1, hb1⟩; rw [HBT.out] at e1; subst e1; have HR1 := Lib.hid (HR0.out.below hb1); have HM1 := Lib.hid (HM0.out.below hb1); have HX1 := Lib.hid (HX0.out.below hb1); have HY1 := Lib.hid (HY0.out.below hb1); have HZ1 := Lib.hid (HZ0.out.below hb1); have kr1 := HX1.out.cell; have km1 := HY1.out.cell 0; have kz1 := HZ1.out.cell; have fz1 := HZ1.out.free; have HB1 := Lib.hid (bon HB0.out hb1); clear hb1); rw [HSU.out] at kr1)
      have hz9 := ((HZ1.out.set 0 (.int .i64 0)).set 1 (.int .u8 2)).set 2 (.int .i64 0)
      simp only [List.set_cons_zero, List.set_cons_succ] at hz9
      have kz9 := hz9.cell
      have hb9 := ((HB1.out.setCell (p := ⟨w.heap.size + 1 + 1, 0, none⟩) (by show w.heap.size ≤ w.heap.size + 1 + 1; omega) (.int .i64 0)).setCell (p := ⟨w.heap.size + 1 + 1, 1, none⟩) (by show w.heap.size ≤ w.heap.size + 1 + 1; omega) (.int .u8 2)).setCell (p := ⟨w.heap.size + 1 + 1, 2, none⟩) (by show w.heap.size ≤ w.heap.size + 1 + 1; omega) (.int .i64 0)
      generalize ((w1.setCell ⟨w.heap.size + 1 + 1, 0, none⟩ (.int .i64 0)).setCell ⟨w.heap.size + 1 + 1, 1, none⟩ (.int .u8 2)).setCell ⟨w.heap.size + 1 + 1, 2, none⟩ (.int .i64 0) = W9 at *
      refine bodyPost_ret (v := .agg #[.int .i64 0, .int .u8 2, .int .i64 0]) ?_ rfl ⟨by rw [HF.out]; rfl, hb9⟩
      simp [results, Tryz.f59, go_sem, kz9]
    | false =>
      have HSU := Lib.hid hs
      have HAN := Lib.hid (body_lit hs hb)
      have hF : blkB r m 0 = ⟨0, 1, ix r.body (firI (fun j => !litT m (ix r.body j)) r.body.length)⟩ := by unfold blkB; rw [if_pos hb, if_neg (by rw [hs]; exact Bool.false_ne_true)]
      clear hb hs
      go_upto_region 4 with (first | ((go_at_call 32; (with_reducible refine (rBody_any _ _ r m _ HR1.out HM1.out hml HV.out).mono ?_); rintro e w2 ⟨e2, hb2⟩; rw [HBT.out] at e2; subst e2; have HR2 := Lib.hid (HR1.out.below hb2); have HM2 := Lib.hid (HM1.out.below hb2); have HX2 := Lib.hid (HX1.out.below hb2); have HY2 := Lib.hid (HY1.out.below hb2); have HZ2 := Lib.hid (HZ1.out.below hb2); have kr2 := HX2.out.cell; have km2 := HY2.out.cell 0; have kz2 := HZ2.out.cell; have fz2 := HZ2.out.free; have HB2 := Lib.hid (bon HB1.out hb2); clear hb2); rw [HSU.out] at kr2) | ((go_at_call 32; (with_reducible refine (rBody_any _ _ r m _ HR0.out HM0.out hml HV.out).mono ?_); rintro e w1 ⟨e1, hb1⟩; rw [HBT.out] at e1; subst e1; have HR1 := Lib.hid (HR0.out.below hb1); have HM1 := Lib.hid (HM0.out.below hb1); have HX1 := Lib.hid (HX0.out.below hb1); have HY1 := Lib.hid (HY0.out.below hb1); have HZ1 := Lib.hid (HZ0.out.below hb1); have kr1 := HX1.out.cell; have km1 := HY1.out.cell 0; have kz1 := HZ1.out.cell; have fz1 := HZ1.out.free; have HB1 := Lib.hid (bon HB0.out hb1); clear hb1); rw [HSU.out] at kr1 HR1))
      have HCB : Hid (∀ w', Below w2.heap.size w2 w' → ∀ j, j < r.body.length → Calls Tryz.prog 117 #[.int .i64 (ix r.body j), .pointer (some ⟨w.heap.size + 1, 0, none⟩)] w' fun e w'' => e = .returned (.bool (!litT m (ix r.body j))) ∧ Below w'.heap.size w' w'') := Lib.hid fun w' hb j hj => bc1_any _ m _ w' ⟨_, HY2.out.below hb, HM2.out.below hb⟩ (HLT.out j hj)
      have HBI := Lib.hid (RuleIs.bodyOf HR2.out)
      go_upto_region 5 with (go_at_call 108; (with_reducible refine (idx_bc1 _ r.body w2 HBI.out (fun j => !litT m (ix r.body j)) _ HCB.out).mono ?_); rintro e w3 ⟨ri, rfl, hri, hb3⟩; have HBI3 := Lib.hid (HBI.out.below hb3); obtain ⟨hr1, hr2, -⟩ := firI_ix hri HAN.out; have HR3 := Lib.hid (HR2.out.below hb3); have HM3 := Lib.hid (HM2.out.below hb3); have HX3 := Lib.hid (HX2.out.below hb3); have HY3 := Lib.hid (HY2.out.below hb3); have HZ3 := Lib.hid (HZ2.out.below hb3); have kr3 := HX3.out.cell; have km3 := HY3.out.cell 0; have kz3 := HZ3.out.cell; have fz3 := HZ3.out.free; have HB3 := Lib.hid (bon HB2.out hb3); clear hb3; rw [HSU.out] at kr3; subst hr1; clear hri)
      obtain ⟨bb, ob, rfl, hbb, hcb⟩ := HBI3.out.at hr2
      have HF := Lib.hid hF
      clear hF
      generalize firI (fun j => !litT m (ix r.body j)) r.body.length = fi at *
      generalize ix r.body fi = xl at *
      go_wp2_with fail
      have hz9 := ((HZ3.out.set 0 (.int .i64 0)).set 1 (.int .u8 1)).set 2 (.int .i64 xl)
      simp only [List.set_cons_zero, List.set_cons_succ] at hz9
      have kz9 := hz9.cell
      have hb9 := ((HB3.out.setCell (p := ⟨w.heap.size + 1 + 1, 0, none⟩) (by show w.heap.size ≤ w.heap.size + 1 + 1; omega) (.int .i64 0)).setCell (p := ⟨w.heap.size + 1 + 1, 1, none⟩) (by show w.heap.size ≤ w.heap.size + 1 + 1; omega) (.int .u8 1)).setCell (p := ⟨w.heap.size + 1 + 1, 2, none⟩) (by show w.heap.size ≤ w.heap.size + 1 + 1; omega) (.int .i64 xl)
      generalize ((w3.setCell ⟨w.heap.size + 1 + 1, 0, none⟩ (.int .i64 0)).setCell ⟨w.heap.size + 1 + 1, 1, none⟩ (.int .u8 1)).setCell ⟨w.heap.size + 1 + 1, 2, none⟩ (.int .i64 xl) = W9 at *
      refine bodyPost_ret (v := .agg #[.int .i64 0, .int .u8 1, .int .i64 xl]) ?_ rfl ⟨by rw [HF.out]; rfl, hb9⟩
      simp [results, Tryz.f59, go_sem, kz9]
  | true =>
    have HBT := Lib.hid hb
    cases hc : r.choice with
    | true =>
      have hF : blkB r m 0 = ⟨0, 4, 0⟩ := by unfold blkB; rw [if_neg (by rw [hb]; exact Bool.noConfusion), if_pos hc]
      have HF := Lib.hid hF
      have HCH := Lib.hid hc
      clear hb hc hF
      go_wp2_with (first | ((go_at_call 32; (with_reducible refine (rBody_any _ _ r m _ HR1.out HM1.out hml HV.out).mono ?_); rintro e w2 ⟨e2, hb2⟩; rw [HBT.out] at e2; subst e2; have HR2 := Lib.hid (HR1.out.below hb2); have HM2 := Lib.hid (HM1.out.below hb2); have HX2 := Lib.hid (HX1.out.below hb2); have HY2 := Lib.hid (HY1.out.below hb2); have HZ2 := Lib.hid (HZ1.out.below hb2); have kr2 := HX2.out.cell; have km2 := HY2.out.cell 0; have kz2 := HZ2.out.cell; have fz2 := HZ2.out.free; have HB2 := Lib.hid (bon HB1.out hb2); clear hb2); rw [HCH.out] at kr2) | ((go_at_call 32; (with_reducible refine (rBody_any _ _ r m _ HR0.out HM0.out hml HV.out).mono ?_); rintro e w1 ⟨e1, hb1⟩; rw [HBT.out] at e1; subst e1; have HR1 := Lib.hid (HR0.out.below hb1); have HM1 := Lib.hid (HM0.out.below hb1); have HX1 := Lib.hid (HX0.out.below hb1); have HY1 := Lib.hid (HY0.out.below hb1); have HZ1 := Lib.hid (HZ0.out.below hb1); have kr1 := HX1.out.cell; have km1 := HY1.out.cell 0; have kz1 := HZ1.out.cell; have fz1 := HZ1.out.free; have HB1 := Lib.hid (bon HB0.out hb1); clear hb1); rw [HCH.out] at kr1 HR1))
      have hz9 := ((HZ2.out.set 0 (.int .i64 0)).set 1 (.int .u8 4)).set 2 (.int .i64 0)
      simp only [List.set_cons_zero, List.set_cons_succ] at hz9
      have kz9 := hz9.cell
      have hb9 := ((HB2.out.setCell (p := ⟨w.heap.size + 1 + 1, 0, none⟩) (by show w.heap.size ≤ w.heap.size + 1 + 1; omega) (.int .i64 0)).setCell (p := ⟨w.heap.size + 1 + 1, 1, none⟩) (by show w.heap.size ≤ w.heap.size + 1 + 1; omega) (.int .u8 4)).setCell (p := ⟨w.heap.size + 1 + 1, 2, none⟩) (by show w.heap.size ≤ w.heap.size + 1 + 1; omega) (.int .i64 0)
      generalize ((w2.setCell ⟨w.heap.size + 1 + 1, 0, none⟩ (.int .i64 0)).setCell ⟨w.heap.size + 1 + 1, 1, none⟩ (.int .u8 4)).setCell ⟨w.heap.size + 1 + 1, 2, none⟩ (.int .i64 0) = W9 at *
      refine bodyPost_ret (v := .agg #[.int .i64 0, .int .u8 4, .int .i64 0]) ?_ rfl ⟨by rw [HF.out]; rfl, hb9⟩
      simp [results, Tryz.f59, go_sem, kz9]
    | false =>
      have HAN : Hid (∃ j, j < r.head.length ∧ decide (ix r.head j ∈ m) = true) := Lib.hid (by
        unfold satT at hmod
        rw [hc, hb] at hmod
        exact anyR_some (by simpa using hmod))
      have hF : blkB r m 0 = ⟨0, 3, ix r.head (firI (fun j => decide (ix r.head j ∈ m)) r.head.length)⟩ := by unfold blkB; rw [if_neg (by rw [hb]; exact Bool.noConfusion), if_neg (by rw [hc]; exact Bool.false_ne_true)]
      have HF := Lib.hid hF
      have HCH := Lib.hid hc
      clear hb hc hF
      go_upto_region 8 with (first | ((go_at_call 32; (with_reducible refine (rBody_any _ _ r m _ HR1.out HM1.out hml HV.out).mono ?_); rintro e w2 ⟨e2, hb2⟩; rw [HBT.out] at e2; subst e2; have HR2 := Lib.hid (HR1.out.below hb2); have HM2 := Lib.hid (HM1.out.below hb2); have HX2 := Lib.hid (HX1.out.below hb2); have HY2 := Lib.hid (HY1.out.below hb2); have HZ2 := Lib.hid (HZ1.out.below hb2); have kr2 := HX2.out.cell; have km2 := HY2.out.cell 0; have kz2 := HZ2.out.cell; have fz2 := HZ2.out.free; have HB2 := Lib.hid (bon HB1.out hb2); clear hb2); rw [HCH.out] at kr2) | ((go_at_call 32; (with_reducible refine (rBody_any _ _ r m _ HR0.out HM0.out hml HV.out).mono ?_); rintro e w1 ⟨e1, hb1⟩; rw [HBT.out] at e1; subst e1; have HR1 := Lib.hid (HR0.out.below hb1); have HM1 := Lib.hid (HM0.out.below hb1); have HX1 := Lib.hid (HX0.out.below hb1); have HY1 := Lib.hid (HY0.out.below hb1); have HZ1 := Lib.hid (HZ0.out.below hb1); have kr1 := HX1.out.cell; have km1 := HY1.out.cell 0; have kz1 := HZ1.out.cell; have fz1 := HZ1.out.free; have HB1 := Lib.hid (bon HB0.out hb1); clear hb1); rw [HCH.out] at kr1 HR1))
      have HCB : Hid (∀ w', Below w2.heap.size w2 w' → ∀ j, j < r.head.length → Calls Tryz.prog 118 #[.int .i64 (ix r.head j), .pointer (some ⟨w.heap.size + 1, 0, none⟩)] w' fun e w'' => e = .returned (.bool (decide (ix r.head j ∈ m))) ∧ Below w'.heap.size w' w'') := Lib.hid fun w' hb j hj => bc2_any _ m _ w' ⟨_, HY2.out.below hb, HM2.out.below hb⟩
      have HBI := Lib.hid (RuleIs.headOf HR2.out)
      go_upto_region 9 with (go_at_call 108; (with_reducible refine (idx_bc2 _ r.head w2 HBI.out (fun j => decide (ix r.head j ∈ m)) _ HCB.out).mono ?_); rintro e w3 ⟨ri, rfl, hri, hb3⟩; have HBI3 := Lib.hid (HBI.out.below hb3); obtain ⟨hr1, hr2, -⟩ := firI_ix hri HAN.out; have HR3 := Lib.hid (HR2.out.below hb3); have HM3 := Lib.hid (HM2.out.below hb3); have HX3 := Lib.hid (HX2.out.below hb3); have HY3 := Lib.hid (HY2.out.below hb3); have HZ3 := Lib.hid (HZ2.out.below hb3); have kr3 := HX3.out.cell; have km3 := HY3.out.cell 0; have kz3 := HZ3.out.cell; have fz3 := HZ3.out.free; have HB3 := Lib.hid (bon HB2.out hb3); clear hb3; rw [HCH.out] at kr3; subst hr1; clear hri)
      obtain ⟨bb, ob, rfl, hbb, hcb⟩ := HBI3.out.at hr2
      generalize firI (fun j => decide (ix r.head j ∈ m)) r.head.length = fi at *
      generalize ix r.head fi = xl at *
      go_wp2_with fail
      have hz9 := ((HZ3.out.set 0 (.int .i64 0)).set 1 (.int .u8 3)).set 2 (.int .i64 xl)
      simp only [List.set_cons_zero, List.set_cons_succ] at hz9
      have kz9 := hz9.cell
      have hb9 := ((HB3.out.setCell (p := ⟨w.heap.size + 1 + 1, 0, none⟩) (by show w.heap.size ≤ w.heap.size + 1 + 1; omega) (.int .i64 0)).setCell (p := ⟨w.heap.size + 1 + 1, 1, none⟩) (by show w.heap.size ≤ w.heap.size + 1 + 1; omega) (.int .u8 3)).setCell (p := ⟨w.heap.size + 1 + 1, 2, none⟩) (by show w.heap.size ≤ w.heap.size + 1 + 1; omega) (.int .i64 xl)
      generalize ((w3.setCell ⟨w.heap.size + 1 + 1, 0, none⟩ (.int .i64 0)).setCell ⟨w.heap.size + 1 + 1, 1, none⟩ (.int .u8 3)).setCell ⟨w.heap.size + 1 + 1, 2, none⟩ (.int .i64 xl) = W9 at *
      refine bodyPost_ret (v := .agg #[.int .i64 0, .int .u8 3, .int .i64 xl]) ?_ rfl ⟨by rw [HF.out]; rfl, hb9⟩
      simp [results, Tryz.f59, go_sem, kz9]
def bkCell (b : BK) : Nat → Value
  | 0 => .int .i64 b.rule
  | 1 => .int .u8 b.kind
  | _ => .int .i64 b.lit
def BlksIs (w : World) (v : Value) (l : List BK) : Prop := Rows w v 3 24 l.length (fun i => bkCell (ixK l i)) ∧ ∀ y ∈ l, BI y
theorem BlksIs.below {w w' : World} {v : Value} {l : List BK} (h : BlksIs w v l) (hb : Below w.heap.size w w') : BlksIs w' v l := ⟨h.1.below hb, h.2⟩
def BlkCells (w : World) (b o : Nat) (y : BK) : Prop := w.cell? ⟨b, o, none⟩ = some (.int .i64 y.rule) ∧ w.cell? ⟨b, o + 1, none⟩ = some (.int .u8 y.kind) ∧ w.cell? ⟨b, o + 2, none⟩ = some (.int .i64 y.lit)
theorem BlkCells.below {w w' : World} {b o : Nat} {y : BK} (h : BlkCells w b o y) (hb : Below w.heap.size w w') (hl : b < w.heap.size) : BlkCells w' b o y :=
  ⟨(bcell hb _ _ hl).trans h.1, (bcell hb _ _ hl).trans h.2.1, (bcell hb _ _ hl).trans h.2.2⟩
theorem ixK_mem0 {l : List BK} {i : Nat} (hi : i < l.length) : ixK l i ∈ l := by
  simp only [ixK, List.getD_eq_getElem?_getD, List.getElem?_eq_getElem hi, Option.getD_some]
  exact List.getElem_mem hi
theorem BlksIs.form {w : World} {v : Value} {l : List BK} (h : BlksIs w v l) : ∃ a cap, v = .slice a l.length cap ∧ l.length ≤ cap ∧ l.length ≤ 1000000000000000 ∧ cap ≤ maxLen ∧
    (0 < l.length → ∃ b off, a = some ⟨b, off, none⟩ ∧ b < w.heap.size ∧ ∀ i, i < l.length → BlkCells w b (off + i * 3) (ixK l i)) := by
  obtain ⟨⟨a, cap, rfl, h1, hm, h2, h3⟩, h4⟩ := h
  refine ⟨a, cap, rfl, h1, by omega, hm, fun hp => ?_⟩
  obtain ⟨b, off, e, hl, hc⟩ := h3 hp
  exact ⟨b, off, e, hl, fun i hi => ⟨hc i hi 0 (by omega), hc i hi 1 (by omega), hc i hi 2 (by omega)⟩⟩
def MineK (B : Nat) (v : Value) (l : List BK) (w : World) : Prop := w.ownsRow B 65 3 v l.length (l.flatMap cellsK) ∧ ∀ y ∈ l, BI y
theorem MineK.row {B : Nat} {v : Value} {l : List BK} {w : World} (h : MineK B v l w) : w.ownsRow B 65 3 v l.length (l.flatMap cellsK) := h.1
theorem MineK.nil (B : Nat) (w : World) : MineK B (.slice none 0 0) [] w := ⟨⟨by simp, .inl ⟨rfl, rfl⟩⟩, fun y hy => by cases hy⟩
theorem infoK : (Tryz.prog.info? 65).map (fun i => (i.zero, i.size, i.bytes)) = some (some (.agg #[.int .i64 0, .int .u8 0, .int .i64 0]), 3, 24) := by kernel_rfl
section
variable {B : Nat} {v : Value} {l : List BK} {w w' : World}
theorem MineK.slen (h : MineK B v l w) : ∃ a c, v = .slice a l.length c := by
  rcases h.1.2 with ⟨rfl, h0⟩ | ⟨g, cap, cur, rfl, _⟩
  · rw [h0]; exact ⟨_, _, rfl⟩
  · exact ⟨_, _, rfl⟩
theorem MineK.same (h : MineK B v l w) (hs : ∀ i, B ≤ i → i < w.heap.size → v.ownBlock = some i → w'.heap[i]? = w.heap[i]?) : MineK B v l w' := by
  refine ⟨⟨h.1.1, ?_⟩, h.2⟩
  rcases h.1.2 with hn | ⟨g, cap, cur, rfl, hb, hg, rest⟩
  · exact .inl hn
  · exact .inr ⟨g, cap, cur, rfl, hb, (hs g hb (Array.getElem?_eq_some_iff.1 hg).1 rfl).trans hg, rest⟩
theorem MineK.below (h : MineK B v l w) (hb : Below w.heap.size w w') : MineK B v l w' := h.same fun i _ hi _ => hb.block i hi
theorem MineK.mono {B' : Nat} (h : MineK B v l w) (hb : B' ≤ B) : MineK B' v l w := by
  refine ⟨⟨h.1.1, ?_⟩, h.2⟩
  rcases h.1.2 with hn | ⟨g, cap, cur, rfl, hg, rest⟩
  · exact .inl hn
  · exact .inr ⟨g, cap, cur, rfl, Nat.le_trans hb hg, rest⟩
theorem MineK.far (h : MineK B v l w) {b : Nat} {c : List Value} {T : TypeId} (hb : Blk w b c T) (hT : T ≠ 65) : v.ownBlock ≠ some b := fun e => by
  rcases h.1.2 with ⟨rfl, _⟩ | ⟨g, cap, cur, rfl, hg, hgg, _⟩
  · cases e
  · have : g = b := by simpa [Value.ownBlock] using e
    subst this
    unfold Blk at hb
    rw [hb] at hgg
    injection hgg with hgg
    injection hgg with _ h2 _
    exact hT h2
theorem MineK.lt (h : MineK B v l w) {g : Nat} (e : v.ownBlock = some g) : B ≤ g ∧ g < w.heap.size := by
  rcases h.1.2 with ⟨rfl, _⟩ | ⟨g', cap, cur, rfl, hb, hg, _⟩
  · cases e
  · have : g' = g := by simpa [Value.ownBlock] using e
    subst this
    exact ⟨hb, (Array.getElem?_eq_some_iff.1 hg).1⟩
theorem flatK : ∀ (L : List BK) (i j : Nat), i < L.length → j < 3 → (L.flatMap cellsK)[i * 3 + j]? = (cellsK (ixK L i))[j]?
  | [], i, j, h, _ => absurd h (by simp)
  | q :: L, 0, j, _, hj => by
    rw [List.flatMap_cons, List.getElem?_append_left (by simp [cellsK]; omega)]
    simp [ixK]
  | q :: L, i + 1, j, h, hj => by
    rw [List.flatMap_cons, List.getElem?_append_right (by simp [cellsK]; omega)]
    have := flatK L i j (by simpa using h) hj
    rw [show (i + 1) * 3 + j - (cellsK q).length = i * 3 + j by simp [cellsK]; omega, this]
    simp [ixK]
theorem MineK.blks (h : MineK B v l w) (hfit : l.length * 24 ≤ 140737488351232) : BlksIs w v l := by
  refine ⟨?_, h.2⟩
  rcases h.1.2 with ⟨rfl, h0⟩ | ⟨g, cap, cur, rfl, hb, hg, hn, hm, hs, hx⟩
  · exact ⟨none, 0, by rw [h0], by omega, by unfold maxLen; omega, by omega, fun hp => by omega⟩
  · refine ⟨_, cap, rfl, hn, hm, hfit, fun _ => ⟨g, 0, rfl, (Array.getElem?_eq_some_iff.1 hg).1, fun i hi j hj => ?_⟩⟩
    have h6 := flatK l i j hi hj
    rw [← hx, List.getElem?_take_of_lt (by omega)] at h6
    rw [cell_of_row w g (0 + i * 3 + j) cur _ (0, 0) hg, Nat.zero_add]
    have : cur[i * 3 + j]? = cur.toList[i * 3 + j]? := by simp
    rw [this, h6]
    rcases (show j = 0 ∨ j = 1 ∨ j = 2 by omega) with rfl | rfl | rfl <;> rfl
theorem MineK.at {a : Option Addr} {n c k : Nat} (h : MineK B (.slice a n c) l w) (hfit : l.length * 24 ≤ 140737488351232) (hk : k < l.length) : ∃ b off, a = some ⟨b, off, none⟩ ∧ b < w.heap.size ∧ BlkCells w b (off + k * 3) (ixK l k) := by
  obtain ⟨a1, c1, e, -, -, -, hc⟩ := (h.blks hfit).form
  simp only [Value.slice.injEq] at e
  obtain ⟨rfl, -, rfl⟩ := e
  obtain ⟨b, off, e, hb, hcc⟩ := hc (by omega)
  exact ⟨b, off, e, hb, hcc k hk⟩
theorem MineK.one (w : World) {y : BK} (hy : BI y) : MineK w.heap.size (.slice (some ⟨w.heap.size, 0, none⟩) 1 1) [y] (w.alloc (.cells #[.int .i64 y.rule, .int .u8 y.kind, .int .i64 y.lit] 65)) := by
  refine ⟨⟨by simp [cellsK], .inr ⟨w.heap.size, 1, _, rfl, Nat.le_refl _, heap_alloc_new w _, by simp, by unfold maxLen; omega, by simp, by simp [cellsK]⟩⟩, fun z hz => ?_⟩
  obtain rfl : z = y := by simpa using hz
  exact hy
end
theorem wpList_appendK {ops : Array Oper} {rest : List Oper} {o : Oper} {a : Act} {w : World} {Q : Exit → Act → World → Prop} (hgd : o.guard = none) (s x : Operand)
    (ho : o.op = .call { callee := .builtin .append, args := #[s, x], argTypes := #[41, 41] }) (B b0 : Nat) (v y : Value) (L M : List BK) (hs : a.eval s = v) (hx : a.eval x = y) (h : MineK B v L w) (hy : MineK b0 y M w) (hM : 0 < M.length)
    (hlen : L.length + M.length ≤ 1000000000) (hbase : B ≤ w.heap.size)
    (hK : ∀ g cap w', MineK B (.slice (some ⟨g, 0, none⟩) (L.length + M.length) cap) (L ++ M) w' → w.grownBy w' v.ownBlock → wpList Tryz.prog ops Q rest (a.put o.dst (.slice (some ⟨g, 0, none⟩) (L.length + M.length) cap)) w') : wpList Tryz.prog ops Q (o :: rest) a w := by
  obtain ⟨i0, hi, hz0, hz1, hz2⟩ := info_parts infoK
  rcases hy.1.2 with ⟨-, h0⟩ | ⟨g, cap, cur, rfl, hb, hg, hn, hm, hsz, hcl⟩
  · omega
  refine wpList_append_own w hgd s x _ ho B 65 i0 _ 3 24 Tryz.underlying41 hi hz0 hz1 hz2 rfl (by decide) _ L.length (L.flatMap cellsK) hs h.1 ⟨g, 0, none⟩ M.length cap (M.flatMap cellsK) hx (by rw [hy.1.1]) (fun j u hu => ?_) (fun u hu => ?_) (by unfold maxLen; omega) (by omega) hbase (fun v' w' h1 h2 _ => ?_)
  · have hj : j < M.length * 3 := by have := (List.getElem?_eq_some_iff.1 hu).1; rw [hy.1.1] at this; exact this
    rw [Addr.add_lit, Nat.zero_add, cell_of_row w g j cur _ (0, 0) hg]
    rw [← hcl, List.getElem?_take_of_lt hj] at hu
    rw [← hu]; simp
  · obtain ⟨q, hqm, hq⟩ := List.mem_flatMap.1 hu
    simp only [cellsK, List.mem_cons, List.not_mem_nil, or_false] at hq
    rcases hq with rfl | rfl | rfl <;> rfl
  · have hne : ∃ g2 cap2, v' = .slice (some ⟨g2, 0, none⟩) (L.length + M.length) cap2 := by
      rcases h1.2 with ⟨-, h0⟩ | ⟨g2, cap2, cur2, rfl, _⟩
      · omega
      · exact ⟨g2, cap2, rfl⟩
    obtain ⟨g2, cap2, rfl⟩ := hne
    refine hK g2 cap2 w' ⟨by simpa using h1, fun q hq => ?_⟩ h2
    rcases List.mem_append.1 hq with hq | hq
    · exact h.2 q hq
    · exact hy.2 q hq
theorem blkB_rule (r : GR) (m : List Int) (i : Int) : blkB r m i = ⟨i, (blkB r m 0).kind, (blkB r m 0).lit⟩ := by
  unfold blkB
  split
  · split <;> rfl
  · split <;> rfl
theorem blkB_fit {r : GR} {m : List Int} {i : Int} (hh : Fits r.head) (hb : Fits r.body) (hi : InI i) : BI (blkB r m i) := by
  have h0 : InI 0 := by unfold InI; omega
  unfold blkB
  split
  · split
    · exact ⟨hi, by dsimp only; omega, h0⟩
    · exact ⟨hi, by dsimp only; omega, hb _⟩
  · split
    · exact ⟨hi, by dsimp only; omega, h0⟩
    · exact ⟨hi, by dsimp only; omega, hh _⟩
theorem blksTo_len (p : GP) (m : List Int) (a : Int) : ∀ k, (blksTo p m a k).length ≤ k
  | 0 => by simp [blksTo]
  | k + 1 => by
    have := blksTo_len p m a k
    unfold blksTo
    split
    · rw [List.length_append, List.length_singleton]; omega
    · omega
structure BlSt (w : World) (vset : Value) (p : GP) (m : List Int) (n vn vs vr vm : Value) (W : World) : Prop where
  pbx : Blk W w.heap.size [n, vn, vs, vr, vm] 27
  rul : RulesIs W vr p.rules
  set : Ints W vset m
  below : Below w.heap.size w W
theorem BlSt.on {w W W' : World} {vset : Value} {p : GP} {m : List Int} {n vn vs vr vm : Value} (h : BlSt w vset p m n vn vs vr vm W) (hb : Below W.heap.size W W') : BlSt w vset p m n vn vs vr vm W' :=
  ⟨h.pbx.below hb, h.rul.below hb, h.set.below hb, bon h.below hb⟩
def BlRel (p : GP) (m : List Int) (a : Int) (W1 : World) (vo i : Value) (wx : World) : Prop :=
  ∃ k : Nat, k ≤ p.rules.length ∧ i = .int .i64 k ∧ MineK W1.heap.size vo (blksTo p m a k) wx ∧ Below W1.heap.size W1 wx
theorem belowK2 {B : Nat} {v : Value} {L : List BK} {W w w' : World} (h : Below B W w) (hm : MineK B v L w) (hg : w.grownBy w' v.ownBlock) (hB : B ≤ w.heap.size) : Below B W w' :=
  h.trans ⟨hg.os, hg.tape, hg.output, hg.size, fun i hi => hg.block i (by omega) fun e => by have := (hm.lt e.symm).1; omega⟩
set_option maxHeartbeats 4000000 in
set_option maxRecDepth 100000 in
theorem blocks_any (v vset : Value) (p : GP) (m : List Int) (a : Int) (w : World) (h : ProgIs w v p) (hm : Ints w vset m) :
    Calls Tryz.prog 17 #[v, vset, .int .i64 a] w fun e w' => ∃ vo, e = .returned (.tuple #[vo, .int .i64 (blksX p m a).2]) ∧ MineK (w.heap.size + 1) vo (blksX p m a).1 w' ∧ Below w.heap.size w w' := by
  have hP0 := h
  obtain ⟨vn, vs, vr, vm, rfl, hps⟩ := h
  obtain ⟨am, cm, rfl, -⟩ := id hm.form
  obtain ⟨a1, c1, rfl, -, hl1, -, -⟩ := hps.rules.form
  have hpn := hps.n
  unfold InI at hpn
  have hal := bal (Below.refl w.heap.size w) (.cells #[.int .i64 p.n, vn, vs, .slice a1 p.rules.length c1, vm] 27)
  have hst : BlSt w (.slice am m.length cm) p m (.int .i64 p.n) vn vs (.slice a1 p.rules.length c1) vm (w.alloc (.cells #[.int .i64 p.n, vn, vs, .slice a1 p.rules.length c1, vm] 27)) := ⟨Blk.new w [.int .i64 p.n, vn, vs, .slice a1 p.rules.length c1, vm] _, hps.rules.below hal, hm.below hal, hal⟩
  have HS0 := Lib.hid hst
  have HP := Lib.hid (hP0.below hal)
  have hz0 : (w.alloc (.cells #[.int .i64 p.n, vn, vs, .slice a1 p.rules.length c1, vm] 27)).heap.size = w.heap.size + 1 := by simp
  have HZ0 := Lib.hid hz0
  clear hP0 hps hm hal hst hz0
  go_enter Tryz.func17, Tryz.ntmps17
  go_upto_region 1 with fail
  have kp0 := HS0.out.pbx.cell
  generalize w.alloc (.cells #[.int .i64 p.n, vn, vs, .slice a1 p.rules.length c1, vm] 27) = W0 at *
  by_cases he : xE p m = 0
  case neg =>
    have hne : (xE p m != 0) = true := by simp [he]
    have hne2 : (xE p m == 0) = false := by simp [he]
    have HF : Hid (blksX p m a = ([], xE p m)) := Lib.hid (by unfold blksX; rw [if_pos he])
    clear he
    go_wp2_with (go_at_call 49; (with_reducible refine (xcheck_any _ _ p m _ HP.out HS0.out.set).mono ?_); rintro e w1 ⟨rfl, hb1⟩)
    go_ret2
    rw [HF.out]
    exact ⟨_, rfl, MineK.nil _ _, bon HS0.out.below hb1⟩
  obtain ⟨hv, hset, hmod⟩ := xE_ok he
  have hn0 := (validP hv).n
  have hrl := (validP hv).rules
  have hml : m.length ≤ 4000 := by have := inc_le hset hn0.1; omega
  have HE := Lib.hid he
  have HV := Lib.hid hv
  have HMOD := Lib.hid hmod
  clear hv hset hmod
  by_cases hbad : a < 1 ∨ p.n < a ∨ a ∈ m
  case pos =>
    have HF : Hid (blksX p m a = ([], 2)) := Lib.hid (by unfold blksX; rw [if_neg (by simp [he]), if_pos hbad])
    clear he
    by_cases g1 : a < 1
    · clear hbad
      go_wp2_with (go_at_call 49; (with_reducible refine (xcheck_any _ _ p m _ HP.out HS0.out.set).mono ?_); rintro e w1 ⟨e1, hb1⟩; rw [HE.out] at e1; subst e1; have HS1 := Lib.hid (HS0.out.on hb1); have kp1 := HS1.out.pbx.cell; have HZ1 : Hid (w.heap.size + 1 ≤ w1.heap.size) := Lib.hid (by have := HZ0.out; have := hb1.size; omega); clear hb1)
      go_ret2
      rw [HF.out]
      exact ⟨_, rfl, MineK.nil _ _, HS1.out.below⟩
    · by_cases g2 : p.n < a
      · clear hbad
        go_wp2_with (go_at_call 49; (with_reducible refine (xcheck_any _ _ p m _ HP.out HS0.out.set).mono ?_); rintro e w1 ⟨e1, hb1⟩; rw [HE.out] at e1; subst e1; have HS1 := Lib.hid (HS0.out.on hb1); have kp1 := HS1.out.pbx.cell; have HZ1 : Hid (w.heap.size + 1 ≤ w1.heap.size) := Lib.hid (by have := HZ0.out; have := hb1.size; omega); clear hb1)
        go_ret2
        rw [HF.out]
        exact ⟨_, rfl, MineK.nil _ _, HS1.out.below⟩
      · have HIN : Hid (decide (a ∈ m) = true) := Lib.hid (decide_eq_true ((hbad.resolve_left g1).resolve_left g2))
        clear hbad
        go_wp2_with (first | (go_at_call 49; (with_reducible refine (xcheck_any _ _ p m _ HP.out HS0.out.set).mono ?_); rintro e w1 ⟨e1, hb1⟩; rw [HE.out] at e1; subst e1; have HS1 := Lib.hid (HS0.out.on hb1); have kp1 := HS1.out.pbx.cell; have HZ1 : Hid (w.heap.size + 1 ≤ w1.heap.size) := Lib.hid (by have := HZ0.out; have := hb1.size; omega); clear hb1) | (go_at_call 57; (with_reducible refine (contains_any _ m _ _ HS1.out.set).mono ?_); rintro e w2 ⟨e2, rfl⟩; rw [HIN.out] at e2; subst e2))
        go_ret2
        rw [HF.out]
        exact ⟨_, rfl, MineK.nil _ _, HS1.out.below⟩
  have hF : blksX p m a = (blksTo p m a p.rules.length, 0) := by unfold blksX; rw [if_neg (by simp [he]), if_neg hbad]
  have g1 : ¬ a < 1 := fun h => hbad (.inl h)
  have g2 : ¬ p.n < a := fun h => hbad (.inr (.inl h))
  have HIN : Hid (decide (a ∈ m) = false) := Lib.hid (decide_eq_false fun h => hbad (.inr (.inr h)))
  have HF := Lib.hid hF
  clear he hbad hF
  go_upto_region 7 with (first | (go_at_call 49; (with_reducible refine (xcheck_any _ _ p m _ HP.out HS0.out.set).mono ?_); rintro e w1 ⟨e1, hb1⟩; rw [HE.out] at e1; subst e1; have HS1 := Lib.hid (HS0.out.on hb1); have kp1 := HS1.out.pbx.cell; have HZ1 : Hid (w.heap.size + 1 ≤ w1.heap.size) := Lib.hid (by have := HZ0.out; have := hb1.size; omega); clear hb1) | (go_at_call 57; (with_reducible refine (contains_any _ m _ _ HS1.out.set).mono ?_); rintro e w2 ⟨e2, rfl⟩; rw [HIN.out] at e2; subst e2))
  clear kp0
  go_wp2
  go_loopw [9, 37] (fun vo i wx => BlRel p m a w1 vo i wx) (fun _ i _ => p.rules.length - (intOf i).toNat)
  case atStart => exact ⟨0, Nat.zero_le _, rfl, MineK.nil _ _, Below.refl _ _⟩
  case round =>
    obtain ⟨k, hk, rfl, hmo, hbl⟩ := hrel
    have hlb := blksTo_len p m a k
    obtain ⟨ao, co, rfl⟩ := hmo.slen
    have HMO := Lib.hid hmo
    have HBL := Lib.hid hbl
    have HSR := Lib.hid (HS1.out.on hbl)
    have hszr := hbl.size
    clear hmo hbl
    by_cases hlt : k < p.rules.length
    · obtain ⟨_, _, e, -, -, -, hcell⟩ := HSR.out.rul.form
      simp only [Value.slice.injEq, true_and] at e
      obtain ⟨rfl, rfl⟩ := e
      obtain ⟨b, off, rfl, hbl2, hc⟩ := hcell (by omega)
      obtain ⟨vh, vb, vw, ⟨k0, k1, k2, k3, k4, k5⟩, hsl⟩ := hc k hlt
      obtain ⟨r, hr⟩ : ∃ r, ixR p.rules k = r := ⟨_, rfl⟩
      have hbv := bodyV_valid HV.out hlt
      have hsat := allR_get HMOD.out k hlt
      have hnx : blksTo p m a (k + 1) = if a ∈ r.head then blksTo p m a k ++ [blkB r m k] else blksTo p m a k := by rw [← hr]; rfl
      rw [hr] at k0 k2 k3 hsl hbv hsat
      obtain ⟨ah, ch, rfl, -, hlh, -, -⟩ := hsl.head.form
      obtain ⟨ab, cb, rfl, -⟩ := hsl.body.form
      obtain ⟨aw, cw, rfl, -⟩ := hsl.wts.form
      have HBV := Lib.hid hbv
      have HSAT := Lib.hid hsat
      have HFT : Hid (BI (blkB r m k)) := Lib.hid (blkB_fit hsl.head.2 hsl.body.2 (by unfold InI; omega))
      have HNX := Lib.hid hnx
      have HSL := Lib.hid hsl
      clear hc hcell hr hbv hsat hnx hsl
      go_upto_region 10 with fail
      have hal3 := bal (Below.refl wr.heap.size wr) (.cells #[.bool r.choice, .slice ah r.head.length ch, .bool r.sum, .int .i64 r.bound, .slice ab r.body.length cb, .slice aw r.w.length cw] 60)
      have HS3 := Lib.hid (HSR.out.on hal3)
      have HK3 := Lib.hid (Blk.new wr [.bool r.choice, .slice ah r.head.length ch, .bool r.sum, .int .i64 r.bound, .slice ab r.body.length cb, .slice aw r.w.length cw] 60)
      have HR3 : Hid (RuleSl (wr.alloc (.cells #[.bool r.choice, .slice ah r.head.length ch, .bool r.sum, .int .i64 r.bound, .slice ab r.body.length cb, .slice aw r.w.length cw] 60)) r (.slice ah r.head.length ch) (.slice ab r.body.length cb) (.slice aw r.w.length cw)) := Lib.hid (HSL.out.below hal3)
      have HO3 := Lib.hid (HMO.out.below hal3)
      have HB3 := Lib.hid (bon HBL.out hal3)
      have kk3 := HK3.out.cell
      have hz3 : w1.heap.size ≤ (wr.alloc (.cells #[.bool r.choice, .slice ah r.head.length ch, .bool r.sum, .int .i64 r.bound, .slice ab r.body.length cb, .slice aw r.w.length cw] 60)).heap.size := by simp; omega
      clear hal3 k0 k1 k2 k3 k4 k5 hbl2
      generalize wr.alloc (.cells #[.bool r.choice, .slice ah r.head.length ch, .bool r.sum, .int .i64 r.bound, .slice ab r.body.length cb, .slice aw r.w.length cw] 60) = W3 at *
      generalize wr.heap.size = rb at *
      have HRI3 : Hid (RuleIs W3 (.agg #[.bool r.choice, .slice ah r.head.length ch, .bool r.sum, .int .i64 r.bound, .slice ab r.body.length cb, .slice aw r.w.length cw]) r) := Lib.hid ⟨_, _, _, rfl, HR3.out⟩
      by_cases hin : a ∈ r.head
      · have HH : Hid (decide (a ∈ r.head) = true) := Lib.hid (decide_eq_true hin)
        have HN2 : Hid (blksTo p m a (k + 1) = blksTo p m a k ++ [⟨k, (blkB r m 0).kind, (blkB r m 0).lit⟩]) := Lib.hid (by rw [HNX.out, if_pos hin, blkB_rule])
        have HFT2 : Hid (BI ⟨k, (blkB r m 0).kind, (blkB r m 0).lit⟩) := Lib.hid (by rw [← blkB_rule]; exact HFT.out)
        have HLN : Hid ((blksTo p m a k).length + 1 = (blksTo p m a (k + 1)).length) := Lib.hid (by rw [HN2.out]; simp)
        obtain ⟨bk0, hbk⟩ : ∃ b, blkB r m 0 = b := ⟨_, rfl⟩
        rw [hbk] at HN2 HFT2
        have HBK := Lib.hid hbk
        clear hin hbk
        go_upto_region 13 with (first
          | (go_at_call 57; (with_reducible refine (contains_any _ r.head _ _ HR3.out.head).mono ?_); rintro e w4 ⟨e4, rfl⟩; rw [HH.out] at e4; subst e4)
          | (go_at_call 59; (with_reducible refine (block_any _ _ r m p.n W3 HRI3.out HS3.out.set (by omega) HBV.out HSAT.out).mono ?_); rintro e w5 ⟨e5, hb5⟩; rw [HBK.out] at e5; have e6 : e = .returned (.agg #[.int .i64 bk0.rule, .int .u8 bk0.kind, .int .i64 bk0.lit]) := e5; subst e6; have HB5 := Lib.hid hb5; clear hb5 e5))
        have hal6 := bal HB5.out (.cells #[.int .i64 (k : Int), .int .u8 bk0.kind, .int .i64 bk0.lit] 65)
        have HS6 := Lib.hid (HS3.out.on hal6)
        have HO6 := Lib.hid (HO3.out.below hal6)
        have HB6 := Lib.hid (bon HB3.out hal6)
        have kz6 := (Blk.new w5 [.int .i64 (k : Int), .int .u8 bk0.kind, .int .i64 bk0.lit] 65).cell
        have hz6 := hal6.size
        clear hal6
        generalize w5.alloc (.cells #[.int .i64 (k : Int), .int .u8 bk0.kind, .int .i64 bk0.lit] 65) = W6 at *
        go_wp2_with (at_builtin; refine wpList_appendK rfl _ _ rfl w1.heap.size W6.heap.size _ _ (blksTo p m a k) [⟨k, bk0.kind, bk0.lit⟩] rfl rfl (HO6.out.below (bal (Below.refl _ _) _)) (MineK.one W6 HFT2.out) (by simp) (by simp; omega) (by simp; omega) ?_; intro g cap w7 hm7 hg7; have HB7 : Hid (Below w1.heap.size w1 w7) := Lib.hid (belowK2 (bal HB6.out _) (HO6.out.below (bal (Below.refl _ _) _)) hg7 (by simp; omega)); have HM7 := Lib.hid hm7; clear hm7 hg7)
        first
          | (go_roundw
             case rel => (exact ⟨k + 1, hlt, by go_num, by rw [HN2.out]; exact HM7.out, HB7.out⟩)
             case measure => (simp [intOf]; omega))
          | (refine ⟨?_, ?_⟩
             · (exact ⟨k + 1, hlt, by go_num, by rw [HN2.out]; exact HM7.out, HB7.out⟩)
             · (simp [intOf]; omega))
      · have HH : Hid (decide (a ∈ r.head) = false) := Lib.hid (decide_eq_false hin)
        have HN2 : Hid (blksTo p m a (k + 1) = blksTo p m a k) := Lib.hid (by rw [HNX.out, if_neg hin])
        clear hin
        go_wp2_with (go_at_call 57; (with_reducible refine (contains_any _ r.head _ _ HR3.out.head).mono ?_); rintro e w4 ⟨e4, rfl⟩; rw [HH.out] at e4; subst e4)
        first
          | (go_roundw
             case rel => (exact ⟨k + 1, hlt, by go_num, by rw [HN2.out]; exact HO3.out, HB3.out⟩)
             case measure => (simp [intOf]; omega))
          | (refine ⟨?_, ?_⟩
             · (exact ⟨k + 1, hlt, by go_num, by rw [HN2.out]; exact HO3.out, HB3.out⟩)
             · (simp [intOf]; omega))
    · obtain rfl : k = p.rules.length := by omega
      have hz1 : w.heap.size + 1 ≤ w1.heap.size := HZ1.out
      have HMO2 := Lib.hid (HMO.out.mono hz1)
      clear hz1
      go_wp2
      go_ret2
      rw [HF.out]
      exact ⟨_, rfl, HMO2.out, HSR.out.below⟩
end Go.Proofs.YtfajkmmmmmfhiaaGreatDoor
