/- My texts Gp4, Gp5, Plain1, Body, Off, QRow, Pb0, merged. -/
import Derived.Test.YteblddnoegbalaaGreatM03
import Derived.Test.YteblddnoegbalaaGreatM00
import Derived.Test.YteblddnoegbalaaGreatProg
import Derived.WalkKit
import Derived.Lib.Hide
import Derived.Deep.QuietTactic
import Derived.BigQuiet
import Derived.Lib.Bytealg
import Derived.MapKept
import Derived.Maps.OwnSet
import Derived.Maps.OwnOps
import Derived.WalkSpells
import Derived.Lib.SliceRun
import Derived.Test.YteblddnoegbalaaGreatM02
import Derived.Test.YteblddnoegbalaaGreatM01
import Derived.Deep.AppendLies

namespace Go.Proofs.YteblddnoegbalaaGreat
open Go.RowKit
def emptyS (s : ByteArray) : Bool := s.toList.isEmpty
def nameAt (l : List ByteArray) (i : Nat) : Bool := decide ((ixS l i).size ≤ 200) && !nlB (ixS l i) && (emptyS (ixS l i) || allR i (fun j => decide (ixS l j ≠ ixS l i)))
def namesB (l : List ByteArray) : Bool := allR l.length (nameAt l)
def metTo (l : List ByteArray) (k : Nat) : ByteArray → Option Value := fun s => if emptyS s = false ∧ anyR k (fun j => decide (ixS l j = s)) = true then some (.int .i64 1) else none
def NamedRel (l : List ByteArray) (w : World) (b : Nat) (i : Value) (wr : World) : Prop :=
  ∃ k : Nat, k ≤ l.length ∧ i = .int .i64 k ∧ (∀ j, j < k → nameAt l j = true) ∧ Below w.heap.size w wr ∧ w.heap.size ≤ b ∧ MapIs Value.string wr b (metTo l k)
theorem metTo_zero (l : List ByteArray) : metTo l 0 = fun _ => none := by funext s; simp [metTo, anyR]
theorem named_loop_ok (l : List ByteArray) (k : Nat) (hn : nameAt l k = true) (he : emptyS (ixS l k) = false) : metTo l k (ixS l k) = none ∧ metTo l (k + 1) = upd (metTo l k) (ixS l k) (some (.int .i64 1)) := by
  simp only [nameAt, he, Bool.false_or, Bool.and_eq_true] at hn
  constructor
  · rw [metTo, if_neg]
    rintro ⟨_, h⟩
    simp only [anyR, List.any_eq_true, List.mem_range, decide_eq_true_eq] at h
    obtain ⟨j, hj, e⟩ := h
    have := allR_get hn.2 j hj
    simp [e] at this
  · funext s
    simp only [upd, metTo]
    by_cases hs : s = ixS l k
    · subst hs
      rw [if_pos rfl, if_pos ⟨he, anyR_true k (by omega) (by simp)⟩]
    · rw [if_neg hs]
      congr 1
      simp only [anyR, List.any_eq_true, List.mem_range, decide_eq_true_eq, eq_iff_iff, and_congr_right_iff]
      intro _
      constructor
      · rintro ⟨j, hj, e⟩
        refine ⟨j, ?_, e⟩
        rcases Nat.lt_or_ge j k with h | h
        · exact h
        · obtain rfl : j = k := by omega
          exact absurd e.symm hs
      · rintro ⟨j, hj, e⟩; exact ⟨j, by omega, e⟩
theorem named_loop_empty (l : List ByteArray) (k : Nat) (he : emptyS (ixS l k) = true) : metTo l (k + 1) = metTo l k := by
  funext s
  simp only [metTo]
  congr 1
  simp only [anyR, List.any_eq_true, List.mem_range, decide_eq_true_eq, eq_iff_iff, and_congr_right_iff]
  intro hs
  constructor
  · rintro ⟨j, hj, e⟩
    refine ⟨j, ?_, e⟩
    rcases Nat.lt_or_ge j k with h | h
    · exact h
    · obtain rfl : j = k := by omega
      rw [e] at he; rw [he] at hs; cases hs
  · rintro ⟨j, hj, e⟩; exact ⟨j, by omega, e⟩
def namedB (p : GP) : Bool := decide (0 ≤ p.n ∧ p.n ≤ 4000 ∧ (p.names.length : Int) = p.n) && increasingB p.shown p.n && namesB p.names
def NamedPost (p : GP) (w : World) (e : Ending) (w' : World) : Prop := e = .returned (.bool (namedB p)) ∧ Below w.heap.size w w'
set_option maxHeartbeats 1000000 in
set_option maxRecDepth 100000 in
theorem named_any (v : Value) (p : GP) (w : World) (h : ProgIs w v p) :
    Calls Tryz.prog 69 #[v] w (NamedPost p w) := by
  obtain ⟨vn, vs, vr, vm, rfl, hn, hnames, hshown, hrules, hmin⟩ := h
  have hal := bal (Below.refl w.heap.size w) (.cells #[.int .i64 p.n, vn, vs, vr, vm] 33)
  have HS := Lib.hid (hshown.below hal)
  have HN := Lib.hid (hnames.below hal)
  clear hrules hmin
  obtain ⟨a1, c1, rfl, -, hl1, -, hsz, hcell⟩ := hnames.form
  obtain ⟨a2, c2, rfl, -, hl2, -, -⟩ := hshown.form
  clear hshown hnames
  by_cases h1 : p.n < 0
  · have HF : Hid (namedB p = false) := Lib.hid (by simp [namedB]; omega)
    go_enter Tryz.func69, Tryz.ntmps69
    go_wp2
    go_ret
    exact ⟨ret_bool HF.out.symm, hal⟩
  by_cases h2 : 4000 < p.n
  · have HF : Hid (namedB p = false) := Lib.hid (by simp [namedB]; omega)
    go_enter Tryz.func69, Tryz.ntmps69
    go_wp2
    go_ret
    exact ⟨ret_bool HF.out.symm, hal⟩
  by_cases h3 : (p.names.length : Int) = p.n
  case neg =>
    have HF : Hid (namedB p = false) := Lib.hid (by simp [namedB]; omega)
    have h4 : ((p.names.length : Int) != p.n) = true := by simp [h3]
    have h5 : ((p.names.length : Int) == p.n) = false := by simp [h3]
    go_enter Tryz.func69, Tryz.ntmps69
    go_wp2
    go_ret
    exact ⟨ret_bool HF.out.symm, hal⟩
  have h4 : ((p.names.length : Int) != p.n) = false := by simp [h3]
  have h5 : ((p.names.length : Int) == p.n) = true := by simp [h3]
  have H3 := Lib.hid h3
  clear h3
  cases h6 : increasingB p.shown p.n with
  | false =>
    have HF : Hid (namedB p = false) := Lib.hid (by simp [namedB, h6])
    go_enter Tryz.func69, Tryz.ntmps69
    go_wp2_with (go_at_call 108; refine (increasing_any _ _ _ _ HS.out (by omega)).mono ?_; rintro e w1 ⟨rfl, hb1⟩; have hc1 := bcell hb1; have hz1 : w.heap.size < w1.heap.size := (by have := hb1.size; simp at this; omega))
    go_ret
    exact ⟨ret_bool HF.out.symm, bon hal hb1⟩
  | true =>
    have HF : Hid (namedB p = namesB p.names) := Lib.hid (by have := H3.out; simp [namedB, h6, this]; omega)
    have hmm := @run_makeMap Tryz.prog
    go_enter Tryz.func69, Tryz.ntmps69
    go_wp2_with (go_at_call 108; refine (increasing_any _ _ _ _ HS.out (by omega)).mono ?_; rintro e w1 ⟨rfl, hb1⟩; have hc1 := bcell hb1; have hz1 : w.heap.size < w1.heap.size := (by have := hb1.size; simp at this; omega))
    have hmade := MapIs.made (kv := Value.string) w1
    have hb2 := bal (bon hal hb1) (.map #[] 0)
    go_loopw [34] (NamedRel p.names w w1.heap.size) (fun i _ => p.names.length - (intOf i).toNat)
    case atStart => exact ⟨0, by omega, rfl, fun j hj => absurd hj (Nat.not_lt_zero _), hb2, (by have := hb1.size; simp at this; omega), by rw [metTo_zero]; exact hmade⟩
    case round =>
      clear hmm hb2 hmade
      obtain ⟨k, hk, rfl, hok, hb, hbl, hm⟩ := hrel
      have HOK := Lib.hid hok
      clear hok
      by_cases hlt : k < p.names.length
      · obtain ⟨b, off, rfl, hbl1, hc⟩ := hcell (by omega)
        have hk1 : wr.cell? ⟨b, off + k, none⟩ = some (.string (ixS p.names k)) := (bcell hb _ _ hbl1).trans (hc k hlt)
        have hsz1 := hsz k
        clear hc hcell hsz hc1
        have hlk := hm.lookup kvStr Tryz.underlying155 Tryz.underlying9 (Tryz.zeroValue3 wr) (ixS p.names k)
        have hlen : ∀ x, ixS p.names k = x → nameAt p.names k = (decide (x.size ≤ 200) && !nlB x && (emptyS x || allR k (fun j => decide (ixS p.names j ≠ x)))) := fun x e => by subst e; rfl
        have hput : nameAt p.names k = true → ∀ x, ixS p.names k = x → emptyS x = false → metTo p.names k x = none ∧ metTo p.names (k + 1) = upd (metTo p.names k) x (some (.int .i64 1)) := fun h x e he => by subst e; exact named_loop_ok _ _ h he
        have hemp : ∀ x, ixS p.names k = x → emptyS x = true → metTo p.names (k + 1) = metTo p.names k := fun x e he => by subst e; exact named_loop_empty _ _ he
        have hbad : nameAt p.names k = false → Hid (namedB p = false) := fun h => Lib.hid (by rw [HF.out]; exact allR_false k hlt h)
        generalize ixS p.names k = s at hk1 hsz1 hlk hlen hput hemp
        replace hlen := hlen s rfl
        replace hput := fun h => hput h s rfl
        replace hemp := hemp s rfl
        by_cases g1 : 200 < s.size
        · have HB := hbad (by rw [hlen]; simp; omega)
          clear hlen hput hemp hbad hlk
          go_wp2
          go_ret
          exact ⟨ret_bool HB.out.symm, hb⟩
        cases g2 : nlB s with
        | true =>
          have HB := hbad (by rw [hlen, g2]; simp)
          clear hlen hput hemp hbad hlk
          go_wp2_with (first
            | (go_at_call 109; refine (containsNl_any _ _).mono ?_; rintro e w2 ⟨rfl, rfl⟩))
          go_ret
          exact ⟨ret_bool HB.out.symm, hb⟩
        | false =>
          cases g3 : emptyS s with
          | true =>
            have hbs : metTo p.names k s = none := by simp [metTo, g3]
            rw [hbs] at hlk
            have HK : Hid (nameAt p.names k = true) := Lib.hid (by rw [hlen, g2, g3]; simp; omega)
            have HM : Hid (MapIs Value.string wr w1.heap.size (metTo p.names (k + 1))) := Lib.hid (by rw [hemp g3]; exact hm)
            have g4 : s.toList.isEmpty = true := g3
            have g5 : s.toList = [] := by simpa using g4
            clear hlen hput hemp hbad hbs
            simp only [Option.getD_none] at hlk
            go_wp2_with (first
              | (go_at_call 109; refine (containsNl_any _ _).mono ?_; rintro e w2 ⟨rfl, rfl⟩))
            first
              | (go_roundw
                 case rel => (exact ⟨k + 1, by omega, by go_num, lt_succ_all HOK.out HK.out, hb, hbl, HM.out⟩)
                 case measure => (simp [intOf]; omega))
              | (refine ⟨?_, ?_⟩
                 · (exact ⟨k + 1, by omega, by go_num, lt_succ_all HOK.out HK.out, hb, hbl, HM.out⟩)
                 · (simp [intOf]; omega))
          | false =>
            have g4 : s.toList.isEmpty = false := g3
            have g5 : ¬ s.toList = [] := by simpa using g4
            cases g6 : nameAt p.names k with
            | false =>
              have HB := hbad g6
              have hany : anyR k (fun j => decide (ixS p.names j = s)) = true := by
                rw [hlen, g2, g3] at g6
                simp only [Bool.not_false, Bool.and_true, Bool.false_or, Bool.and_eq_false_iff, decide_eq_false_iff_not] at g6
                rcases g6 with g6 | g6
                · exact absurd (by omega) g6
                · simp [allR] at g6
                  obtain ⟨j, hj, e⟩ := g6
                  exact anyR_true j hj (by simpa using e)
              have hbs : metTo p.names k s = some (.int .i64 1) := by rw [metTo, if_pos ⟨g3, hany⟩]
              rw [hbs] at hlk
              clear hlen hput hemp hbad hbs
              simp only [Option.getD_some] at hlk
              go_wp2_with (first
                | (go_at_call 109; refine (containsNl_any _ _).mono ?_; rintro e w2 ⟨rfl, rfl⟩))
              go_ret
              exact ⟨ret_bool HB.out.symm, hb⟩
            | true =>
              obtain ⟨hbs, hup⟩ := hput g6 g3
              rw [hbs] at hlk
              have HK := Lib.hid g6
              have HUP := Lib.hid hup
              have HMM := Lib.hid hm
              clear hlen hput hemp hbad hbs hup g6 hm
              simp only [Option.getD_none] at hlk
              go_wp2_with (first
                | (go_at_call 109; refine (containsNl_any _ _).mono ?_; rintro e w2 ⟨rfl, rfl⟩)
                | (at_mapUpdate; refine wpList_mput _ _ s (.int .i64 1) kvStr 155 9 3 Tryz.underlying155 Tryz.underlying9 rfl _ _ _ rfl rfl rfl rfl HMM.out ?_; intro w2 hm2 hg2 hs2))
              have HM : Hid (MapIs Value.string w2 w1.heap.size (metTo p.names (k + 1))) := Lib.hid (by rw [HUP.out]; exact hm2)
              have hb2 := hb.grown hg2 hb.size (fun j e => by cases e; exact hbl)
              first
                | (go_roundw
                   case rel => (exact ⟨k + 1, by omega, by go_num, lt_succ_all HOK.out HK.out, hb2, hbl, HM.out⟩)
                   case measure => (simp [intOf]; omega))
                | (refine ⟨?_, ?_⟩
                   · (exact ⟨k + 1, by omega, by go_num, lt_succ_all HOK.out HK.out, hb2, hbl, HM.out⟩)
                   · (simp [intOf]; omega))
      · have HL : Hid (k = p.names.length) := Lib.hid (by omega)
        go_wp2
        go_ret
        exact ⟨ret_bool (by rw [HF.out]; exact (allR_true (by rw [← HL.out]; exact HOK.out)).symm), hb⟩
def rulesFrom (l : List GR) (n : Int) : Nat → Nat → Int
  | _, 0 => 0
  | k, m + 1 => if ruleE (ixR l k) n ≠ 0 then ruleE (ixR l k) n else rulesFrom l n (k + 1) m
def rulesE (l : List GR) (n : Int) : Int := rulesFrom l n 0 l.length
def minAt (l : List GM) (n : Int) (i : Nat) : Bool :=
  orderedB (ixM l i).lits n && weightsB (ixM l i).w (ixM l i).lits.length && decide (-2147483647 ≤ (ixM l i).level ∧ (ixM l i).level ≤ 2147483647) && (i == 0 || decide ((ixM l i).level < (ixM l (i - 1)).level))
def minsB (l : List GM) (n : Int) : Bool := allR l.length (minAt l n)
def validE (p : GP) : Int :=
  if namedB p = false then 170 else if 40000 < p.rules.length then 171 else if rulesE p.rules p.n ≠ 0 then rulesE p.rules p.n else if 8 < p.min.length then 175 else if minsB p.min p.n = false then 175 else 0
def ValidPost (p : GP) (w : World) (e : Ending) (w' : World) : Prop := e = .returned (.int .i64 (validE p)) ∧ Below w.heap.size w w'
theorem rulesFrom_split (l : List GR) (n : Int) : ∀ (k : Nat), k ≤ l.length → (∀ j, j < k → ruleE (ixR l j) n = 0) → rulesE l n = rulesFrom l n k (l.length - k)
  | 0, _, _ => rfl
  | k + 1, hk, h => by
    rw [rulesFrom_split l n k (by omega) (fun j hj => h j (by omega))]
    have e : l.length - k = (l.length - (k + 1)) + 1 := by omega
    rw [e, rulesFrom, if_neg (by simpa using h k (by omega))]
def VRel1 (l : List GR) (n : Int) (w : World) (i : Value) (wr : World) : Prop :=
  ∃ k : Nat, k ≤ l.length ∧ i = .int .i64 k ∧ (∀ j, j < k → ruleE (ixR l j) n = 0) ∧ Below w.heap.size w wr
def VRel2 (l : List GM) (n : Int) (w : World) (i : Value) (wr : World) : Prop :=
  ∃ k : Nat, k ≤ l.length ∧ i = .int .i64 k ∧ (∀ j, j < k → minAt l n j = true) ∧ Below w.heap.size w wr
set_option maxHeartbeats 1000000 in
set_option maxRecDepth 100000 in
theorem valid_any (v : Value) (p : GP) (w : World) (h : ProgIs w v p) :
    Calls Tryz.prog 39 #[v] w (ValidPost p w) := by
  have h0 := h
  obtain ⟨vn, vs, vr, vm, rfl, hn, hnames, hshown, hrules, hmin⟩ := h
  have hal := bal (Below.refl w.heap.size w) (.cells #[.int .i64 p.n, vn, vs, vr, vm] 33)
  have HP := Lib.hid (h0.below hal)
  clear h0 hnames hshown
  obtain ⟨a1, c1, rfl, -, hl1, -, hcell⟩ := hrules.form
  obtain ⟨a2, c2, rfl, -, hl2, -, hmcell⟩ := hmin.form
  clear hrules hmin
  cases h1 : namedB p with
  | false =>
    have HF : Hid (validE p = 170) := Lib.hid (by simp [validE, h1])
    go_enter Tryz.func39, Tryz.ntmps39
    go_wp2_with (go_at_call 69; refine (named_any _ p _ HP.out).mono ?_; rintro e w1 ⟨rfl, hb1⟩; have hc1 := bcell hb1; have hz1 : w.heap.size < w1.heap.size := (by have := hb1.size; simp at this; omega))
    go_ret
    exact ⟨ret_int HF.out.symm, bon hal hb1⟩
  | true =>
  by_cases h2 : 40000 < p.rules.length
  · have HF : Hid (validE p = 171) := Lib.hid (by simp [validE, h1, h2])
    go_enter Tryz.func39, Tryz.ntmps39
    go_wp2_with (go_at_call 69; refine (named_any _ p _ HP.out).mono ?_; rintro e w1 ⟨rfl, hb1⟩; have hc1 := bcell hb1; have hz1 : w.heap.size < w1.heap.size := (by have := hb1.size; simp at this; omega))
    go_ret
    exact ⟨ret_int HF.out.symm, bon hal hb1⟩
  have HF : Hid (validE p = if rulesE p.rules p.n ≠ 0 then rulesE p.rules p.n else if 8 < p.min.length then 175 else if minsB p.min p.n = false then 175 else 0) := Lib.hid (by simp [validE, h1, h2])
  have hn4 : 0 ≤ p.n ∧ p.n ≤ 4000 := by simp only [namedB, Bool.and_eq_true, decide_eq_true_eq] at h1; omega
  go_enter Tryz.func39, Tryz.ntmps39
  go_wp2_with (go_at_call 69; refine (named_any _ p _ HP.out).mono ?_; rintro e w1 ⟨rfl, hb1⟩; have hc1 := bcell hb1; have hz1 : w.heap.size < w1.heap.size := (by have := hb1.size; simp at this; omega))
  obtain ⟨W, hW⟩ : ∃ W, W = (w.alloc (.cells #[.int .i64 p.n, vn, vs, .slice a1 p.rules.length c1, .slice a2 p.min.length c2] 33)) := ⟨_, rfl⟩
  go_loopw [20] (VRel1 p.rules p.n W) (fun i _ => p.rules.length - (intOf i).toNat)
  case atStart => exact ⟨0, by omega, rfl, fun j hj => absurd hj (Nat.not_lt_zero _), by rw [hW]; exact hb1⟩
  case round =>
    obtain ⟨k, hk, rfl, hok, hb⟩ := hrel
    have HOK := Lib.hid hok
    clear hok
    have hsW : w.heap.size < W.heap.size := by rw [hW]; simp
    have hsr : w.heap.size < wr.heap.size := Nat.lt_of_lt_of_le hsW hb.size
    have q0 : wr.cell? ⟨w.heap.size, 0, none⟩ = some (.int .i64 p.n) := by rw [bcell hb _ _ hsW, hW]; go_simp
    have q3 : wr.cell? ⟨w.heap.size, 4, none⟩ = some (.slice a2 p.min.length c2) := by rw [bcell hb _ _ hsW, hW]; go_simp
    clear hc1
    rw [← hW] at hal
    have hbw := bon hal hb
    clear hW
    by_cases hlt : k < p.rules.length
    · obtain ⟨b, off, rfl, hbl, hc⟩ := hcell (by omega)
      obtain ⟨vh, vb, vw, hcc, hsl⟩ := hc k hlt
      obtain ⟨r0, r1, r2, r3, r4, r5⟩ := hcc.below hbw hbl
      have HS := Lib.hid (hsl.below hbw)
      obtain ⟨a3, c3, rfl, -, hl3, -, -⟩ := hsl.head.form
      obtain ⟨a4, c4, rfl, -, hl4, -, -⟩ := hsl.body.form
      obtain ⟨a5, c5, rfl, -, hl5, -, -⟩ := hsl.wts.form
      have hbx : ∀ r, Below wr.heap.size wr (wr.alloc r) := fun r => bal (Below.refl _ _) r
      have HR : Hid (∀ w', Below wr.heap.size wr w' → RuleIs w' (.agg #[.bool (ixR p.rules k).choice, .slice a3 (ixR p.rules k).head.length c3, .bool (ixR p.rules k).sum, .int .i64 (ixR p.rules k).bound, .slice a4 (ixR p.rules k).body.length c4, .slice a5 (ixR p.rules k).w.length c5]) (ixR p.rules k)) := Lib.hid (fun w' hw => ⟨_, _, _, rfl, HS.out.below hw⟩)
      clear hc hcell hcc hsl
      by_cases hz : ruleE (ixR p.rules k) p.n = 0
      · have hz1 : (ruleE (ixR p.rules k) p.n == 0) = true := by simp [hz]
        have hz2 : (ruleE (ixR p.rules k) p.n != 0) = false := by simp [hz]
        have HZ := Lib.hid hz
        clear hz
        go_wp2_with (go_at_call 70; refine (rule_any _ _ _ _ (HR.out _ (hbx _))).mono ?_; rintro e w2 ⟨rfl, hb2⟩)
        first
          | (go_roundw
             case rel => (exact ⟨k + 1, by omega, by go_num, lt_succ_all HOK.out HZ.out, bon (bal hb _) hb2⟩)
             case measure => (simp [intOf]; omega))
          | (refine ⟨?_, ?_⟩
             · (exact ⟨k + 1, by omega, by go_num, lt_succ_all HOK.out HZ.out, bon (bal hb _) hb2⟩)
             · (simp [intOf]; omega))
      · have hz1 : (ruleE (ixR p.rules k) p.n == 0) = false := by simp [hz]
        have hz2 : (ruleE (ixR p.rules k) p.n != 0) = true := by simp [hz]
        have HZ := Lib.hid hz
        clear hz
        go_wp2_with (go_at_call 70; refine (rule_any _ _ _ _ (HR.out _ (hbx _))).mono ?_; rintro e w2 ⟨rfl, hb2⟩)
        go_ret
        refine ⟨ret_int ?_, bon (bal hbw _) hb2⟩
        have e1 : rulesE p.rules p.n = ruleE (ixR p.rules k) p.n := by
          rw [rulesFrom_split p.rules p.n k hk HOK.out, show p.rules.length - k = (p.rules.length - k - 1) + 1 by omega, rulesFrom, if_pos HZ.out]
        rw [HF.out, e1, if_pos HZ.out]
    · have e1 : rulesE p.rules p.n = 0 := by
        rw [rulesFrom_split p.rules p.n k hk HOK.out, show p.rules.length - k = 0 by omega]; rfl
      rw [e1] at HF
      by_cases h3 : 8 < p.min.length
      · go_wp2
        go_ret
        exact ⟨ret_int (by rw [HF.out]; simp [h3]), hbw⟩
      go_wp2
      clear HOK hlt hk e1
      have HBW := Lib.hid hbw
      clear hbw hb hal
      obtain ⟨wo, hwo⟩ : ∃ wo : World, wo = wr := ⟨_, rfl⟩
      rw [← hwo] at q0 q3 hsr HBW ⊢
      clear hwo
      go_loopw [39] (VRel2 p.min p.n wo) (fun i _ => p.min.length - (intOf i).toNat)
      case atStart => exact ⟨0, by omega, rfl, fun j hj => absurd hj (Nat.not_lt_zero _), Below.refl _ _⟩
      case round =>
        obtain ⟨k, hk, rfl, hok, hb⟩ := hrel
        have HOK := Lib.hid hok
        clear hok
        have hbw := bon HBW.out hb
        replace q0 := (bcell hb _ _ hsr).trans q0
        replace q3 := (bcell hb _ _ hsr).trans q3
        have hsr2 := Nat.lt_of_lt_of_le hsr hb.size
        by_cases hlt : k < p.min.length
        · obtain ⟨b, off, rfl, hbl, hc⟩ := hmcell (by omega)
          obtain ⟨vl, vw, hcc, hsl⟩ := hc k hlt
          obtain ⟨vl', vw', hcc', hsl'⟩ := hc (k - 1) (by omega)
          obtain ⟨m0, m1, m2⟩ := hcc.below hbw hbl
          obtain ⟨m0', -, -⟩ := hcc'.below hbw hbl
          have HS := Lib.hid (hsl.below hbw)
          obtain ⟨a3, c3, rfl, -, hl3, -, -⟩ := hsl.lits.form
          obtain ⟨a4, c4, rfl, -, hl4, -, -⟩ := hsl.wts.form
          have hlv := hsl.level
          have hlv' := hsl'.level
          unfold InI at hlv hlv'
          have hbr := Nat.lt_of_lt_of_le hbl hbw.size
          obtain ⟨W2, hW2⟩ : ∃ W2, W2 = wr.alloc (.cells #[.int .i64 (ixM p.min k).level, .slice a3 (ixM p.min k).lits.length c3, .slice a4 (ixM p.min k).w.length c4] 119) := ⟨_, rfl⟩
          have hbx : Below wr.heap.size wr W2 := by rw [hW2]; exact bal (Below.refl _ _) _
          have hz2 : wr.heap.size < W2.heap.size := by rw [hW2]; simp
          have HL : Hid (∀ e : Ext W2, Ints e.world (.slice a3 (ixM p.min k).lits.length c3) (ixM p.min k).lits) := Lib.hid (fun e => HS.out.lits.below (bon hbx e.below))
          have HW2 : Hid (∀ e : Ext W2, Ints e.world (.slice a4 (ixM p.min k).w.length c4) (ixM p.min k).w) := Lib.hid (fun e => HS.out.wts.below (bon hbx e.below))
          have x0 : ∀ e : Ext W2, e.world.cell? ⟨w.heap.size, 0, none⟩ = some (.int .i64 p.n) := fun e => (bcell (bon hbx e.below) _ _ hsr2).trans q0
          have x1 : ∀ e : Ext W2, e.world.cell? ⟨w.heap.size, 4, none⟩ = some (.slice (some ⟨b, off, none⟩) p.min.length c2) := fun e => (bcell (bon hbx e.below) _ _ hsr2).trans q3
          have x2 : ∀ e : Ext W2, e.world.cell? ⟨wr.heap.size, 0, none⟩ = some (.int .i64 (ixM p.min k).level) := fun e => (bcell e.below _ _ hz2).trans (by rw [hW2]; go_simp)
          have x3 : ∀ e : Ext W2, e.world.cell? ⟨wr.heap.size, 1, none⟩ = some (.slice a3 (ixM p.min k).lits.length c3) := fun e => (bcell e.below _ _ hz2).trans (by rw [hW2]; go_simp)
          have x4 : ∀ e : Ext W2, e.world.cell? ⟨wr.heap.size, 2, none⟩ = some (.slice a4 (ixM p.min k).w.length c4) := fun e => (bcell e.below _ _ hz2).trans (by rw [hW2]; go_simp)
          have x5 : ∀ e : Ext W2, e.world.cell? ⟨b, off + (k - 1) * 3, none⟩ = some (.int .i64 (ixM p.min (k - 1)).level) := fun e => (bcell (bon hbx e.below) _ _ hbr).trans m0'
          clear hc hmcell hcell hcc hcc' hsl hsl' m0'
          have hW2' := hW2.symm
          clear hW2
          have hbad : minAt p.min p.n k = false → Hid (validE p = 175) := fun h => Lib.hid (by rw [HF.out, minsB, allR_false k hlt h]; simp)
          have hmk : minAt p.min p.n k = (orderedB (ixM p.min k).lits p.n && weightsB (ixM p.min k).w (ixM p.min k).lits.length && decide (-2147483647 ≤ (ixM p.min k).level ∧ (ixM p.min k).level ≤ 2147483647) && (k == 0 || decide ((ixM p.min k).level < (ixM p.min (k - 1)).level))) := rfl
          have HMK := Lib.hid hmk
          have HBAD := Lib.hid hbad
          clear hmk hbad
          have hbw2 := fun (w9 : World) (hb9 : Below W2.heap.size W2 w9) => bon hbw (bon hbx hb9)
          have HFIN := Lib.hid hbw2
          have HFIN2 : Hid (∀ w9 : World, Below W2.heap.size W2 w9 → Below wo.heap.size wo w9) := Lib.hid (fun w9 hb9 => bon hb (bon hbx hb9))
          clear hbw2
          cases g1 : orderedB (ixM p.min k).lits p.n with
          | false =>
            have HB := HBAD.out (by rw [HMK.out, g1]; rfl)
            go_wp2
            refine wp_region_ext (by kernel_rfl) (by kernel_rfl) ?_
            repeat (go_big_quiet_step ((first | (go_at_call 71; exact Calls.ext_of (ordered_any _ _ _ _ (HL.out _) (by omega))) | (go_at_call 72; exact Calls.ext_of_same (weights_any _ _ _ _ (HW2.out _))))))
            refine wpQuiet_nil ?_
            intro _ hw'
            obtain ⟨⟨w9, hb9⟩, rfl⟩ := hw'
            try dsimp only
            go_wp2
            go_ret
            exact ⟨ret_int HB.out.symm, HFIN.out _ hb9⟩
          | true =>
          cases g2 : weightsB (ixM p.min k).w (ixM p.min k).lits.length with
          | false =>
            have HB := HBAD.out (by rw [HMK.out, g1, g2]; rfl)
            go_wp2
            refine wp_region_ext (by kernel_rfl) (by kernel_rfl) ?_
            repeat (go_big_quiet_step ((first | (go_at_call 71; exact Calls.ext_of (ordered_any _ _ _ _ (HL.out _) (by omega))) | (go_at_call 72; exact Calls.ext_of_same (weights_any _ _ _ _ (HW2.out _))))))
            refine wpQuiet_nil ?_
            intro _ hw'
            obtain ⟨⟨w9, hb9⟩, rfl⟩ := hw'
            try dsimp only
            go_wp2
            go_ret
            exact ⟨ret_int HB.out.symm, HFIN.out _ hb9⟩
          | true =>
          by_cases g3 : (ixM p.min k).level < -2147483647
          · have HB := HBAD.out (by rw [HMK.out, g1, g2]; simp; omega)
            go_wp2
            refine wp_region_ext (by kernel_rfl) (by kernel_rfl) ?_
            repeat (go_big_quiet_step ((first | (go_at_call 71; exact Calls.ext_of (ordered_any _ _ _ _ (HL.out _) (by omega))) | (go_at_call 72; exact Calls.ext_of_same (weights_any _ _ _ _ (HW2.out _))))))
            refine wpQuiet_nil ?_
            intro _ hw'
            obtain ⟨⟨w9, hb9⟩, rfl⟩ := hw'
            try dsimp only
            go_wp2
            go_ret
            exact ⟨ret_int HB.out.symm, HFIN.out _ hb9⟩
          have g3' : decide ((ixM p.min k).level < -2147483647) = false := by simp; omega
          by_cases g4 : 2147483647 < (ixM p.min k).level
          · have HB := HBAD.out (by rw [HMK.out, g1, g2]; simp; omega)
            go_wp2
            refine wp_region_ext (by kernel_rfl) (by kernel_rfl) ?_
            repeat (go_big_quiet_step ((first | (go_at_call 71; exact Calls.ext_of (ordered_any _ _ _ _ (HL.out _) (by omega))) | (go_at_call 72; exact Calls.ext_of_same (weights_any _ _ _ _ (HW2.out _))))))
            refine wpQuiet_nil ?_
            intro _ hw'
            obtain ⟨⟨w9, hb9⟩, rfl⟩ := hw'
            try dsimp only
            go_wp2
            go_ret
            exact ⟨ret_int HB.out.symm, HFIN.out _ hb9⟩
          have g4' : decide (2147483647 < (ixM p.min k).level) = false := by simp; omega
          have g34 : decide (-2147483647 ≤ (ixM p.min k).level ∧ (ixM p.min k).level ≤ 2147483647) = true := by simp; omega
          by_cases hk0 : k = 0
          · have hkp : decide (0 < k) = false := by simp; omega
            have HZ : Hid (minAt p.min p.n k = true) := Lib.hid (by rw [HMK.out, g1, g2, g34, hk0]; rfl)
            clear hk0 g34
            go_wp2
            refine wp_region_ext (by kernel_rfl) (by kernel_rfl) ?_
            repeat (go_big_quiet_step ((first | (go_at_call 71; exact Calls.ext_of (ordered_any _ _ _ _ (HL.out _) (by omega))) | (go_at_call 72; exact Calls.ext_of_same (weights_any _ _ _ _ (HW2.out _))))))
            refine wpQuiet_nil ?_
            intro _ hw'
            obtain ⟨⟨w9, hb9⟩, rfl⟩ := hw'
            try dsimp only
            go_wp2
            first
              | (go_roundw
                 case rel => (exact ⟨k + 1, by omega, by go_num, lt_succ_all HOK.out HZ.out, HFIN2.out _ hb9⟩)
                 case measure => (simp [intOf]; omega))
              | (refine ⟨?_, ?_⟩
                 · (exact ⟨k + 1, by omega, by go_num, lt_succ_all HOK.out HZ.out, HFIN2.out _ hb9⟩)
                 · (simp [intOf]; omega))
          have hkp : decide (0 < k) = true := by simp; omega
          have hkq : (0 : Int) < (k : Int) := by omega
          have hkn : (0 : Int) ≤ (k : Int) - 1 := by omega
          have hkm : ((k : Int) - 1).toNat = k - 1 := by omega
          have hkb : (k == 0) = false := by simp [hk0]
          by_cases g5 : (ixM p.min (k - 1)).level ≤ (ixM p.min k).level
          · have HB := HBAD.out (by rw [HMK.out, g1, g2, g34, hkb]; simp; omega)
            clear g34 hkb
            go_wp2
            refine wp_region_ext (by kernel_rfl) (by kernel_rfl) ?_
            repeat (go_big_quiet_step ((first | (go_at_call 71; exact Calls.ext_of (ordered_any _ _ _ _ (HL.out _) (by omega))) | (go_at_call 72; exact Calls.ext_of_same (weights_any _ _ _ _ (HW2.out _))))))
            refine wpQuiet_nil ?_
            intro _ hw'
            obtain ⟨⟨w9, hb9⟩, rfl⟩ := hw'
            try dsimp only
            go_wp2
            go_ret
            exact ⟨ret_int HB.out.symm, HFIN.out _ hb9⟩
          · have g5' : decide ((ixM p.min (k - 1)).level ≤ (ixM p.min k).level) = false := by simp; omega
            have HZ : Hid (minAt p.min p.n k = true) := Lib.hid (by rw [HMK.out, g1, g2, g34, hkb]; simp; omega)
            clear g34 hkb
            go_wp2
            refine wp_region_ext (by kernel_rfl) (by kernel_rfl) ?_
            repeat (go_big_quiet_step ((first | (go_at_call 71; exact Calls.ext_of (ordered_any _ _ _ _ (HL.out _) (by omega))) | (go_at_call 72; exact Calls.ext_of_same (weights_any _ _ _ _ (HW2.out _))))))
            refine wpQuiet_nil ?_
            intro _ hw'
            obtain ⟨⟨w9, hb9⟩, rfl⟩ := hw'
            try dsimp only
            go_wp2
            first
              | (go_roundw
                 case rel => (exact ⟨k + 1, by omega, by go_num, lt_succ_all HOK.out HZ.out, HFIN2.out _ hb9⟩)
                 case measure => (simp [intOf]; omega))
              | (refine ⟨?_, ?_⟩
                 · (exact ⟨k + 1, by omega, by go_num, lt_succ_all HOK.out HZ.out, HFIN2.out _ hb9⟩)
                 · (simp [intOf]; omega))
        · have HL2 : Hid (k = p.min.length) := Lib.hid (by omega)
          have HE : Hid (validE p = 0) := Lib.hid (by rw [HF.out, minsB, allR_true (by rw [← HL2.out]; exact HOK.out)]; simp [h3])
          go_wp2
          go_ret
          exact ⟨ret_int HE.out.symm, hbw⟩
def litKey (x : Int) : Int := if 0 ≤ x then 2 * x else -(2 * x) + 1
theorem ordI_key {x y : Int} (h : ordI x y < 0) : litKey x < litKey y := by
  unfold ordI orI cmpI at h
  unfold litKey
  grind
theorem ordered_lt {l : List Int} {n : Int} (h : orderedB l n = true) : ∀ j, j < l.length → ∀ i, i < j → litKey (ix l i) < litKey (ix l j) := by
  intro j
  induction j with
  | zero => intro _ i hi; omega
  | succ j ih =>
    intro hj i hi
    have h1 := allR_get h (j + 1) hj
    simp only [okAt, Bool.and_eq_true, Bool.or_eq_true, beq_iff_eq, decide_eq_true_eq, Nat.add_sub_cancel] at h1
    have h2 := ordI_key (h1.2.resolve_left (by omega))
    rcases Nat.lt_or_ge i j with h3 | h3
    · have := ih (by omega) i h3; omega
    · obtain rfl : i = j := by omega
      exact h2
theorem ordered_lit {l : List Int} {n : Int} (h : orderedB l n = true) {x : Int} (hx : x ∈ l) : x ≠ 0 ∧ -n ≤ x ∧ x ≤ n := by
  obtain ⟨i, hi, rfl⟩ := List.mem_iff_getElem.1 hx
  have h1 := allR_get h i hi
  simp only [okAt, litB, Bool.and_eq_true, decide_eq_true_eq] at h1
  have : ix l i = l[i] := by simp [ix, List.getD_eq_getElem?_getD, List.getElem?_eq_getElem hi]
  rw [this] at h1
  exact h1.1
theorem increasing_ordered {l : List Int} {n : Int} (h : increasingB l n = true) : orderedB l n = true := by
  unfold increasingB at h; simp only [Bool.and_eq_true] at h; exact h.1
theorem rulesFrom_zero {l : List GR} {n : Int} : ∀ m k, rulesFrom l n k m = 0 → ∀ i, k ≤ i → i < k + m → ruleE (ixR l i) n = 0
  | 0, k, _, i, h1, h2 => by omega
  | m + 1, k, h, i, h1, h2 => by
    unfold rulesFrom at h
    split at h
    · rename_i hne; exact absurd h hne
    · rename_i he
      by_cases hik : i = k
      · subst hik; exact Decidable.not_not.1 he
      · exact rulesFrom_zero m (k + 1) h i (by omega) (by omega)
structure ValidP (p : GP) : Prop where
  n : 0 ≤ p.n ∧ p.n ≤ 4000
  rules : p.rules.length ≤ 40000
  head : ∀ i, i < p.rules.length → increasingB (ixR p.rules i).head p.n = true
  body : ∀ i, i < p.rules.length → orderedB (ixR p.rules i).body p.n = true
  sum : ∀ i, i < p.rules.length → (ixR p.rules i).sum = true → weightsB (ixR p.rules i).w (ixR p.rules i).body.length = true
  bound : ∀ i, i < p.rules.length → 0 ≤ (ixR p.rules i).bound
theorem validP {p : GP} (h : validE p = 0) : ValidP p := by
  unfold validE at h
  split at h
  · omega
  rename_i h1
  split at h
  · omega
  rename_i h2
  split at h
  · rename_i h3; exact absurd h h3
  rename_i h3
  have h3 := Decidable.not_not.1 h3
  have hr := fun i (hi : i < p.rules.length) => rulesFrom_zero p.rules.length 0 h3 i (by omega) (by omega)
  simp only [namedB, Bool.not_eq_false, Bool.and_eq_true, decide_eq_true_eq] at h1
  refine ⟨by omega, by omega, fun i hi => ?_, fun i hi => ?_, fun i hi hs => ?_, fun i hi => ?_⟩ <;> have h4 := hr i hi <;> unfold ruleE at h4 <;> grind
def RowsAt (q : Int → Bool) (f : Nat → List Int) (k j : Nat) (R : Int → List Int) : Prop :=
  ∀ x, (R x).Pairwise (· < ·) ∧ ∀ i, i ∈ R x ↔ q x = true ∧ ((0 ≤ i ∧ i < k ∧ x ∈ f i.toNat) ∨ (i = k ∧ x ∈ (f k).take j))
section
variable {q : Int → Bool} {f : Nat → List Int} {k j : Nat} {R : Int → List Int}
theorem RowsAt.start : RowsAt q f 0 0 (fun _ => []) := fun x => ⟨List.Pairwise.nil, fun i => by simp; intros; omega⟩
theorem take_ix (l : List Int) (j : Nat) (hj : j < l.length) : l.take (j + 1) = l.take j ++ [ix l j] := by
  rw [List.take_add_one]; simp [ix, List.getElem?_eq_getElem hj]
theorem RowsAt.push (h : RowsAt q f k j R) (hj : j < (f k).length) (hq : q (ix (f k) j) = true) (hn : ix (f k) j ∉ (f k).take j) : RowsAt q f k (j + 1) (pushR R (ix (f k) j) k) := by
  intro y
  obtain ⟨h1, h2⟩ := h y
  unfold pushR
  rw [take_ix _ _ hj]
  split
  · rename_i e
    subst e
    refine ⟨List.pairwise_append.2 ⟨h1, by simp, fun a ha b hb => ?_⟩, fun i => ?_⟩
    · simp only [List.mem_singleton] at hb
      subst hb
      have := ((h2 a).1 ha).2
      rcases this with h3 | h3
      · exact h3.2.1
      · exact absurd h3.2 hn
    · simp only [List.mem_append, List.mem_singleton, h2]
      grind
  · rename_i e
    refine ⟨h1, fun i => ?_⟩
    simp only [List.mem_append, List.mem_singleton, h2, e, or_false]
theorem RowsAt.skip (h : RowsAt q f k j R) (hj : j < (f k).length) (hq : q (ix (f k) j) = false) : RowsAt q f k (j + 1) R := by
  intro y
  obtain ⟨h1, h2⟩ := h y
  rw [take_ix _ _ hj]
  refine ⟨h1, fun i => ?_⟩
  simp only [List.mem_append, List.mem_singleton, h2]
  constructor
  · grind
  · rintro ⟨h3, h4 | ⟨h4, h5 | rfl⟩⟩
    · exact ⟨h3, .inl h4⟩
    · exact ⟨h3, .inr ⟨h4, h5⟩⟩
    · rw [hq] at h3; cases h3
theorem RowsAt.next (h : RowsAt q f k (f k).length R) : RowsAt q f (k + 1) 0 R := by
  intro y
  obtain ⟨h1, h2⟩ := h y
  refine ⟨h1, fun i => ?_⟩
  rw [h2]
  simp only [List.take_length, List.take_zero, List.not_mem_nil, and_false, or_false]
  constructor
  · rintro ⟨h3, h4 | ⟨rfl, h4⟩⟩
    · exact ⟨h3, by omega, by push_cast; omega, h4.2.2⟩
    · exact ⟨h3, by omega, by push_cast; omega, by simpa using h4⟩
  · rintro ⟨h3, h4, h5, h6⟩
    refine ⟨h3, ?_⟩
    by_cases e : i = k
    · subst e; exact .inr ⟨rfl, by simpa using h6⟩
    · exact .inl ⟨h4, by push_cast at h5; omega, h6⟩
theorem lt_length : ∀ (l : List Int) (a b : Int), l.Pairwise (· < ·) → (∀ x ∈ l, a ≤ x ∧ x < b) → a ≤ b → (l.length : Int) ≤ b - a
  | [], a, b, _, _, h => by simp; omega
  | x :: l, a, b, h1, h2, h => by
    obtain ⟨h3, h4⟩ := List.pairwise_cons.1 h1
    have hx := h2 x (.head _)
    have := lt_length l (x + 1) b h4 (fun y hy => ⟨by have := h3 y hy; omega, (h2 y (.tail _ hy)).2⟩) (by omega)
    simp only [List.length_cons]
    push_cast
    omega
theorem RowsAt.len (h : RowsAt q f k j R) (x : Int) : (R x).length ≤ k + 1 := by
  have := lt_length (R x) 0 (k + 1) (h x).1 (fun i hi => by have := ((h x).2 i).1 hi; omega) (by omega)
  omega
end
def bodyI (p : GP) (i : Int) : Int := if i < 0 ∨ p.rules.length ≤ i ∨ validE p ≠ 0 then 0 else p.n + 1 + i
set_option maxHeartbeats 1000000 in
theorem body_any (v : Value) (p : GP) (w : World) (h : ProgIs w v p) (i : Int) (hi : InI i) :
    Calls Tryz.prog 238 #[v, .int .i64 i] w fun e w' => e = .returned (.int .i64 (bodyI p i)) ∧ Below w.heap.size w w' := by
  have h0 := h
  obtain ⟨vn, vs, vr, vm, rfl, hn, hnames, hshown, hrules, hmin⟩ := h
  have hal := bal (Below.refl w.heap.size w) (.cells #[.int .i64 p.n, vn, vs, vr, vm] 33)
  have HP := Lib.hid (h0.below hal)
  clear h0 hnames hshown hmin
  obtain ⟨a1, c1, rfl, -, hl1, -, hcell⟩ := hrules.form
  clear hrules hcell
  unfold InI at hi hn
  by_cases h1 : i < 0
  · have HF : Hid (bodyI p i = 0) := Lib.hid (by simp [bodyI, h1])
    go_enter Tryz.func238, Tryz.ntmps238
    go_wp2
    go_ret
    exact ⟨ret_int HF.out.symm, hal⟩
  by_cases h2 : p.rules.length ≤ i
  · have HF : Hid (bodyI p i = 0) := Lib.hid (by simp [bodyI, h2])
    go_enter Tryz.func238, Tryz.ntmps238
    go_wp2
    go_ret
    exact ⟨ret_int HF.out.symm, hal⟩
  by_cases h3 : validE p = 0
  · have HF : Hid (bodyI p i = p.n + 1 + i) := Lib.hid (by simp [bodyI, h1, h2, h3])
    have g1 : (validE p == 0) = true := by simp [h3]
    have g2 : (validE p != 0) = false := by simp [h3]
    have hv := validP h3
    have hvn := hv.n
    have hvr := hv.rules
    clear h3 hv
    go_enter Tryz.func238, Tryz.ntmps238
    go_wp2_with (go_at_call 39; refine (valid_any _ p _ HP.out).mono ?_; rintro e w1 ⟨rfl, hb1⟩; have hc1 := bcell hb1; have hz1 : w.heap.size < w1.heap.size := (by have := hb1.size; simp at this; omega))
    go_ret
    exact ⟨ret_int HF.out.symm, bon hal hb1⟩
  · have HF : Hid (bodyI p i = 0) := Lib.hid (by simp [bodyI, h3])
    have g1 : (validE p == 0) = false := by simp [h3]
    have g2 : (validE p != 0) = true := by simp [h3]
    clear h3
    go_enter Tryz.func238, Tryz.ntmps238
    go_wp2_with (go_at_call 39; refine (valid_any _ p _ HP.out).mono ?_; rintro e w1 ⟨rfl, hb1⟩; have hc1 := bcell hb1; have hz1 : w.heap.size < w1.heap.size := (by have := hb1.size; simp at this; omega))
    go_ret
    exact ⟨ret_int HF.out.symm, bon hal hb1⟩
def offB (a : List Int) (l : Int) : Bool := decide (l.natAbs ≤ a.length) && decide (ix a (l.natAbs - 1) ≠ 0) && (decide (0 < ix a (l.natAbs - 1)) != decide (0 < l))
theorem offB_pos (a : List Int) (n : Nat) (hn : 1 ≤ n) : offB a n = (decide (n ≤ a.length) && decide (ix a (n - 1) ≠ 0) && decide (¬ 0 < ix a (n - 1))) := by
  unfold offB
  rw [Int.natAbs_natCast]
  have : decide ((0 : Int) < n) = true := decide_eq_true (by omega)
  rw [this]
  by_cases h : 0 < ix a (n - 1) <;> simp [h]
theorem offB_neg (a : List Int) (n : Nat) : offB a (-(n : Int)) = (decide (n ≤ a.length) && decide (ix a (n - 1) ≠ 0) && decide (0 < ix a (n - 1))) := by
  unfold offB
  rw [Int.natAbs_neg, Int.natAbs_natCast]
  have : decide ((0 : Int) < -(n : Int)) = false := decide_eq_false (by omega)
  rw [this]
  by_cases h : 0 < ix a (n - 1) <;> simp [h]
def holdsB (a : List Int) (F K : Int → Int) (before l : Int) : Bool := !offB a l && (decide (l < 0) || (decide (0 < F l) && decide (K l < before)))
def avSum (r : GR) (a : List Int) (F K : Int → Int) (before : Int) : Nat → Int
  | 0 => 0
  | k + 1 => avSum r a F K before k + if holdsB a F K before (ix r.body k) then ix r.w k else 0
def availB (p : GP) (a : List Int) (F K : Int → Int) (i : Nat) (before : Int) : Bool :=
  !offB a (p.n + 1 + i) && (if (ixR p.rules i).sum then decide ((ixR p.rules i).bound ≤ avSum (ixR p.rules i) a F K before (ixR p.rules i).body.length) else allR (ixR p.rules i).body.length (fun k => holdsB a F K before (ix (ixR p.rules i).body k)))
theorem weights_sum {l : List Int} {n : Int} (h : weightsB l n = true) : (l.length : Int) = n ∧ (∀ k, k < l.length → 1 ≤ ix l k) ∧ ∀ k, k ≤ l.length → 0 ≤ sumTo l k ∧ sumTo l k ≤ 1048576 := by
  unfold weightsB at h
  simp only [Bool.and_eq_true, decide_eq_true_eq] at h
  refine ⟨h.2, fun k hk => by have := allR_get h.1 k hk; simp at this; omega, fun k => ?_⟩
  induction k with
  | zero => intro _; simp [sumTo]
  | succ k ih =>
    intro hk
    have h1 := allR_get h.1 k (by omega)
    simp only [decide_eq_true_eq] at h1
    have := ih (by omega)
    unfold sumTo; omega
theorem QRow.far {base : Nat} {l : List Int} {w : World} {v : Value} {b : Nat} {c : List Value} {T : TypeId} (h : QRow base w v l) (hb : Blk w b c T) (hT : T ≠ 3) : v.ownBlock ≠ some b := by
  intro e
  rcases h.2 with ⟨rfl, _⟩ | ⟨g, off, cap, cur, rfl, _, hg, _⟩
  · cases e
  · have : g = b := by simpa [Value.ownBlock] using e
    subst this
    unfold Blk at hb
    rw [hg] at hb
    have := Option.some.inj hb
    injection this with _ h2 _
    exact hT h2.symm
theorem QRow.form {base : Nat} {l : List Int} {w : World} {v : Value} (h : QRow base w v l) : ∃ a n c, v = .slice a n c := by
  rcases h.2 with ⟨rfl, _⟩ | ⟨g, off, cap, cur, rfl, _⟩
  · exact ⟨_, _, _, rfl⟩
  · exact ⟨_, _, _, rfl⟩
theorem QRow.ints {base : Nat} {w : World} {v : Value} {l : List Int} (h : QRow base w v l) (hl : l.length * 8 ≤ 140737488351232) : Ints w v l := by
  refine ⟨?_, h.1⟩
  rcases h.2 with ⟨rfl, rfl⟩ | ⟨g, off, cap, cur, rfl, hb, hg, h1, h2, h3, h4⟩
  · exact ⟨none, 0, rfl, Nat.le_refl _, by unfold maxLen; omega, by simp, fun h0 => absurd h0 (by simp)⟩
  · refine ⟨_, cap, rfl, h1, h2, hl, fun _ => ⟨g, off, rfl, (Array.getElem?_eq_some_iff.1 hg).1, fun i hi => ?_⟩⟩
    rw [cell_of_row w g (off + i) cur 3 (0, 0) hg]; exact h4 i hi
theorem QRow.below {base : Nat} {w w' : World} {v : Value} {l : List Int} (h : QRow base w v l) (hb : Below w.heap.size w w') : QRow base w' v l := h.kept fun i _ hi _ => hb.block i hi
theorem QRow.mono {base base' : Nat} {w : World} {v : Value} {l : List Int} (h : QRow base w v l) (hb : base' ≤ base) : QRow base' w v l :=
  ⟨h.1, h.2.imp id fun ⟨g, off, cap, cur, e, h1, r⟩ => ⟨g, off, cap, cur, e, by omega, r⟩⟩
theorem Ints.at {w : World} {ad : Option Addr} {n c : Nat} {l : List Int} (h : Ints w (.slice ad n c) l) {k : Nat} (hk : k < l.length) :
    ∃ b off, ad = some ⟨b, off, none⟩ ∧ b < w.heap.size ∧ w.cell? ⟨b, off + k, none⟩ = some (.int .i64 (ix l k)) := by
  obtain ⟨a2, c2, e, -, -, -, hc⟩ := h.form
  obtain ⟨b, off, e2, hl, hcc⟩ := hc (by omega)
  simp only [Value.slice.injEq] at e
  exact ⟨b, off, e.1.trans e2, hl, hcc k hk⟩
def IntsRel (l1 l2 : List Int) (w : World) (i : Value) (wx : World) : Prop := ∃ k : Nat, k ≤ l1.length ∧ i = .int .i64 k ∧ (∀ j, j < k → ix l1 j = ix l2 j) ∧ Below w.heap.size w wx
theorem eq_of_ix {l1 l2 : List Int} (hl : l1.length = l2.length) (h : ∀ j, j < l1.length → ix l1 j = ix l2 j) : l1 = l2 := by
  apply List.ext_getElem hl
  intro i h1 h2
  have := h i h1
  simpa [ix, List.getD_eq_getElem?_getD, List.getElem?_eq_getElem h1, List.getElem?_eq_getElem h2] using this
theorem Blk.ints {w : World} {b : Nat} {l : List Int} (h : Blk w b (l.map (Value.int .i64)) 3) (hf : ∀ i, InI (ix l i)) (hl : l.length * 8 ≤ 140737488351232) : Ints w (.slice (some ⟨b, 0, none⟩) l.length l.length) l := by
  refine ⟨⟨_, _, rfl, Nat.le_refl _, by unfold maxLen; omega, hl, fun _ => ⟨b, 0, rfl, h.lt, fun i hi => ?_⟩⟩, hf⟩
  rw [Nat.zero_add, h.cell]
  simp [ix, List.getD_eq_getElem?_getD, hi]
theorem Blk.ints1 {w : World} {b : Nat} {x : Int} (h : Blk w b [.int .i64 x] 3) (hx : InI x) : Ints w (.slice (some ⟨b, 0, none⟩) 1 1) [x] :=
  Blk.ints (l := [x]) h (fun i => by cases i <;> simp [ix, InI] at *; exact hx) (by simp)
theorem nil_ints (w : World) : Ints w nilS [] := ⟨⟨none, 0, rfl, Nat.le_refl _, by unfold maxLen; omega, by simp, fun h => absurd h (by simp)⟩, fun i => by simp [ix]⟩
theorem below_push {base : Nat} {W w1 w4 : World} {v : Value} {l : List Int} {o : Obj} (h : Below W.heap.size W w1) (hq : QRow base w1 v l) (hb : W.heap.size ≤ base) (hg : (w1.alloc o).grownBy w4 v.ownBlock) : Below W.heap.size W w4 := by
  refine h.trans ⟨hg.os, hg.tape, hg.output, by have := hg.size; simp at this; omega, fun i hi => ?_⟩
  refine (hg.block i (by simp; have := h.size; omega) (fun e => ?_)).trans (Below.heap_alloc _ _ _ (by have := h.size; omega))
  rcases hq.2 with ⟨rfl, _⟩ | ⟨g, off, cap, cur, rfl, hbg, _⟩
  · cases e
  · simp only [Value.ownBlock, Option.some.injEq] at e; omega
theorem flat6 : ∀ (L : List RQ) (i j : Nat), i < L.length → j < 6 → (L.flatMap cells6)[i * 6 + j]? = (cells6 (L.getD i default))[j]?
  | [], i, j, hi, _ => absurd hi (Nat.not_lt_zero _)
  | q :: L, 0, j, _, hj => by
    rw [List.flatMap_cons, List.getElem?_append_left (by simp [cells6]; omega)]
    simp
  | q :: L, i + 1, j, hi, hj => by
    rw [List.flatMap_cons, List.getElem?_append_right (by simp [cells6]; omega)]
    have : (i + 1) * 6 + j - (cells6 q).length = i * 6 + j := by simp [cells6]; omega
    rw [this, flat6 L i j (by simpa using hi) hj]
    simp
theorem ix_mem {l : List Int} {j : Nat} (hj : j < l.length) : ix l j ∈ l := by
  have e : ix l j = l[j] := by simp [ix, List.getD_eq_getElem?_getD, List.getElem?_eq_getElem hj]
  rw [e]; exact List.getElem_mem hj
def cntF (F : Int → Int) : Nat → Nat
  | 0 => 0
  | n + 1 => cntF F n + if 0 < F ((n : Int) + 1) then 1 else 0
theorem Blk.bytes8 {w : World} {b : Nat} {l : List Int} (h : Blk w b (l.map (Value.int .i8)) 52) (hf : ∀ i, -128 ≤ ix l i ∧ ix l i ≤ 127) (hl : l.length * 1 ≤ 140737488351232) : Bytes8 w (.slice (some ⟨b, 0, none⟩) l.length l.length) l := by
  refine ⟨⟨_, _, rfl, Nat.le_refl _, by unfold maxLen; omega, hl, fun _ => ⟨b, 0, rfl, h.lt, fun i hi => ?_⟩⟩, hf⟩
  rw [Nat.zero_add, h.cell]
  simp [ix, List.getD_eq_getElem?_getD, hi]
theorem fit8 {l : List Int} (h : ∀ x ∈ l, -128 ≤ x ∧ x ≤ 127) (i : Nat) : -128 ≤ ix l i ∧ ix l i ≤ 127 := by
  by_cases hi : i < l.length
  · exact h _ (ix_mem hi)
  · have : ix l i = 0 := by unfold ix; rw [List.getD_eq_getElem?_getD, List.getElem?_eq_none (by omega)]; rfl
    rw [this]; omega
theorem fitI {l : List Int} (h : ∀ x ∈ l, InI x) (i : Nat) : InI (ix l i) := by
  by_cases hi : i < l.length
  · exact h _ (ix_mem hi)
  · have : ix l i = 0 := by unfold ix; rw [List.getD_eq_getElem?_getD, List.getElem?_eq_none (by omega)]; rfl
    rw [this]; unfold InI; omega
theorem QRow.slen {base : Nat} {w : World} {v : Value} {l : List Int} (h : QRow base w v l) : ∃ a c, v = .slice a l.length c := by
  rcases h.2 with ⟨rfl, rfl⟩ | ⟨g, off, cap, cur, rfl, _⟩
  · exact ⟨_, _, rfl⟩
  · exact ⟨_, _, rfl⟩
theorem size_set (w : World) (a : Addr) (v : Value) : (w.setCell a v).heap.size = w.heap.size := by simp [World.setCell]
theorem Blk.newAt (w : World) (c : List Value) (t : TypeId) {b : Nat} (h : b = w.heap.size) : Blk (w.alloc (.cells c.toArray t)) b c t := h ▸ Blk.new w c t
end Go.Proofs.YteblddnoegbalaaGreat
namespace Go.Proofs.YteblddnoegbalaaGreat
structure PBC where
  lits : List Int
  coefs : List Int
  bound : Int
  deriving Inhabited, DecidableEq
def plitB (l : Int) : Bool := decide (l ≠ 0 ∧ -65536 ≤ l ∧ l ≤ 65536)
def byTo (L K : List Int) (v : Int) : Nat → Int
  | 0 => 0
  | i + 1 => byTo L K v i + (if ix L i = v then ix K i else if ix L i = -v then -ix K i else 0)
def negTo (L K : List Int) : Nat → Int
  | 0 => 0
  | i + 1 => negTo L K i + (if ix L i < 0 then ix K i else 0)
def insK (v : Int) : List Int → List Int
  | [] => [v]
  | x :: l => if v < x then v :: x :: l else if v = x then x :: l else x :: insK v l
def keysOf : List Int → List Int
  | [] => []
  | l :: L => insK (l.natAbs : Int) (keysOf L)
def sumI (f : Int → Int) : List Int → Int
  | [] => 0
  | x :: l => f x + sumI f l
def lowI (x : Int) : Int := if x < 0 then x else 0
def absI (x : Int) : Int := if x < 0 then -x else x
def minI (x y : Int) : Int := if x ≤ y then x else y
def litOf (by' : Int → Int) (v : Int) : Int := if by' v < 0 then -v else v
def pokAt (L K : List Int) (i : Nat) : Bool := plitB (ix L i) && decide (-16777216 ≤ ix K i ∧ ix K i ≤ 16777216)
def normC (by' : Int → Int) (V : List Int) (bd : Int) : PBC × Int :=
  if bd ≤ 0 then (⟨[], [], 0⟩, 0)
  else if sumI (fun v => minI (absI (by' v)) bd) V < bd then (⟨[], [], 1⟩, 0)
  else if 16777216 < bd then (⟨[], [], 0⟩, 3)
  else (⟨V.map (litOf by'), V.map (fun v => minI (absI (by' v)) bd), bd⟩, 0)
def normP (L K : List Int) (B : Int) : PBC × Int :=
  if L.length ≠ K.length ∨ 65536 < L.length ∨ B < -1099511627776 ∨ 1099511627776 < B then (⟨[], [], 0⟩, 2)
  else if allR L.length (pokAt L K) = false then (⟨[], [], 0⟩, 2)
  else normC (fun v => byTo L K v L.length) ((keysOf L).filter fun v => byTo L K v L.length != 0) (B - negTo L K L.length - sumI (fun v => lowI (byTo L K v L.length)) (keysOf L))
theorem mem_insK {v x : Int} : ∀ {l : List Int}, x ∈ insK v l ↔ x = v ∨ x ∈ l
  | [] => by simp [insK]
  | y :: l => by
    unfold insK
    split
    · simp
    · split
      · rename_i h; subst h; simp
      · rw [List.mem_cons, mem_insK, List.mem_cons]
        constructor
        · rintro (h | h | h)
          · exact .inr (.inl h)
          · exact .inl h
          · exact .inr (.inr h)
        · rintro (h | h | h)
          · exact .inr (.inl h)
          · exact .inl h
          · exact .inr (.inr h)
theorem insK_sorted {v : Int} : ∀ {l : List Int}, l.Pairwise (· < ·) → (insK v l).Pairwise (· < ·)
  | [], _ => by simp [insK]
  | y :: l, h => by
    obtain ⟨h1, h2⟩ := List.pairwise_cons.1 h
    unfold insK
    split
    · rename_i hv
      refine List.pairwise_cons.2 ⟨fun z hz => ?_, h⟩
      rcases List.mem_cons.1 hz with rfl | hz
      · exact hv
      · have := h1 z hz; omega
    · split
      · exact h
      · rename_i hv hne
        refine List.pairwise_cons.2 ⟨fun z hz => ?_, insK_sorted h2⟩
        rcases mem_insK.1 hz with rfl | hz
        · omega
        · exact h1 z hz
theorem mem_keys {x : Int} : ∀ {L : List Int}, x ∈ keysOf L ↔ ∃ l ∈ L, (l.natAbs : Int) = x
  | [] => by simp [keysOf]
  | l :: L => by
    unfold keysOf
    rw [mem_insK, mem_keys]
    constructor
    · rintro (h | ⟨y, hy, e⟩)
      · exact ⟨l, .head _, h.symm⟩
      · exact ⟨y, .tail _ hy, e⟩
    · rintro ⟨y, hy, e⟩
      rcases List.mem_cons.1 hy with rfl | hy
      · exact .inl e.symm
      · exact .inr ⟨y, hy, e⟩
theorem keys_sorted : ∀ L : List Int, (keysOf L).Pairwise (· < ·)
  | [] => by simp [keysOf]
  | _ :: L => insK_sorted (keys_sorted L)
theorem sorted_nodup {l : List Int} (h : l.Pairwise (· < ·)) : l.Nodup := h.imp fun h => Int.ne_of_lt h
theorem sorted_eqP : ∀ {a b : List Int}, a.Pairwise (· < ·) → b.Pairwise (· < ·) → (∀ x, x ∈ a ↔ x ∈ b) → a = b
  | [], [], _, _, _ => rfl
  | [], y :: b, _, _, h => absurd ((h y).2 (.head _)) (by simp)
  | x :: a, [], _, _, h => absurd ((h x).1 (.head _)) (by simp)
  | x :: a, y :: b, ha, hb, h => by
    obtain ⟨a1, a2⟩ := List.pairwise_cons.1 ha
    obtain ⟨b1, b2⟩ := List.pairwise_cons.1 hb
    have hxy : x = y := by
      have h1 := (h x).1 (.head _)
      have h2 := (h y).2 (.head _)
      rcases List.mem_cons.1 h1 with e | h1
      · exact e
      · rcases List.mem_cons.1 h2 with e | h2
        · exact e.symm
        · have := b1 x h1; have := a1 y h2; omega
    subst hxy
    congr 1
    refine sorted_eqP a2 b2 fun z => ⟨fun hz => ?_, fun hz => ?_⟩
    · rcases List.mem_cons.1 ((h z).1 (.tail _ hz)) with e | h3
      · subst e; have := a1 z hz; omega
      · exact h3
    · rcases List.mem_cons.1 ((h z).2 (.tail _ hz)) with e | h3
      · subst e; have := b1 z hz; omega
      · exact h3
theorem sumI_perm {f : Int → Int} {a b : List Int} (h : a.Perm b) : sumI f a = sumI f b := by
  induction h with
  | nil => rfl
  | cons x _ ih => simp only [sumI, ih]
  | swap x y l => simp only [sumI]; omega
  | trans _ _ h1 h2 => exact h1.trans h2
theorem nodup_perm {a b : List Int} (ha : a.Nodup) (hb : b.Nodup) (h : ∀ x, x ∈ a ↔ x ∈ b) : a.Perm b := by
  refine List.perm_iff_count.2 fun x => ?_
  rw [ha.count, hb.count]
  by_cases hx : x ∈ a
  · rw [if_pos hx, if_pos ((h x).1 hx)]
  · rw [if_neg hx, if_neg (fun h' => hx ((h x).2 h'))]
theorem sumI_append (f : Int → Int) : ∀ a b : List Int, sumI f (a ++ b) = sumI f a + sumI f b
  | [], b => by simp [sumI]
  | x :: a, b => by simp only [List.cons_append, sumI, sumI_append f a b]; omega
theorem sumI_snoc (f : Int → Int) (a : List Int) (x : Int) : sumI f (a ++ [x]) = sumI f a + f x := by
  rw [sumI_append]; simp [sumI]
theorem byTo_bound {L K : List Int} {v : Int} : ∀ (i : Nat), (∀ j, j < i → -16777216 ≤ ix K j ∧ ix K j ≤ 16777216) → -(16777216 * (i : Int)) ≤ byTo L K v i ∧ byTo L K v i ≤ 16777216 * (i : Int)
  | 0, _ => by simp [byTo]
  | i + 1, h => by
    have ih := byTo_bound (L := L) (K := K) (v := v) i fun j hj => h j (by omega)
    have hi := h i (by omega)
    unfold byTo
    push_cast
    split
    · omega
    · split <;> omega
theorem negTo_bound {L K : List Int} : ∀ (i : Nat), (∀ j, j < i → -16777216 ≤ ix K j ∧ ix K j ≤ 16777216) → -(16777216 * (i : Int)) ≤ negTo L K i ∧ negTo L K i ≤ 16777216 * (i : Int)
  | 0, _ => by simp [negTo]
  | i + 1, h => by
    have ih := negTo_bound (L := L) (K := K) i fun j hj => h j (by omega)
    have hi := h i (by omega)
    unfold negTo
    push_cast
    split <;> omega
theorem sumI_bound {f : Int → Int} {m : Int} : ∀ (l : List Int), (∀ x ∈ l, -m ≤ f x ∧ f x ≤ m) → -(m * (l.length : Int)) ≤ sumI f l ∧ sumI f l ≤ m * (l.length : Int)
  | [], _ => by simp [sumI]
  | x :: l, h => by
    have ih := sumI_bound l fun y hy => h y (.tail _ hy)
    have hx := h x (.head _)
    simp only [sumI, List.length_cons]
    push_cast
    rw [Int.mul_add]
    omega
end Go.Proofs.YteblddnoegbalaaGreat
