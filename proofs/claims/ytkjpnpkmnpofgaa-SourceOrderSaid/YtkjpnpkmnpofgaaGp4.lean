/- The contract of gprog.named. -/
import Derived.Test.YtkjpnpkmnpofgaaGp3
import Derived.Test.YtkjpnpkmnpofgaaStr
import Derived.Test.YtkjpnpkmnpofgaaMap
namespace Go.Proofs.Ytkjpnpkmnpofgaa
open Go.RowKit

def emptyS (s : ByteArray) : Bool := s.toList.isEmpty

/-- The check of the name at place i. -/
def nameAt (l : List ByteArray) (i : Nat) : Bool := decide ((ixS l i).size ≤ 200) && !nlB (ixS l i) && (emptyS (ixS l i) || allR i (fun j => decide (ixS l j ≠ ixS l i)))
def namesB (l : List ByteArray) : Bool := allR l.length (nameAt l)

/-- The names met in the first k places. -/
def metTo (l : List ByteArray) (k : Nat) : ByteArray → Option Value := fun s => if emptyS s = false ∧ anyR k (fun j => decide (ixS l j = s)) = true then some (.int .i64 1) else none

def NamedRel (l : List ByteArray) (w : World) (b : Nat) (i : Value) (wr : World) : Prop :=
  ∃ k : Nat, k ≤ l.length ∧ i = .int .i64 k ∧ (∀ j, j < k → nameAt l j = true) ∧ Below w.heap.size w wr ∧ w.heap.size ≤ b ∧ MapIs Value.string wr b (metTo l k)

theorem metTo_zero (l : List ByteArray) : metTo l 0 = fun _ => none := by funext s; simp [metTo, anyR]

theorem named_loop_ok (l : List ByteArray) (k : Nat) (hn : nameAt l k = true) (he : emptyS (ixS l k) = false) : metTo l k (ixS l k) = none ∧ metTo l (k + 1) = upd (metTo l k) (ixS l k) (some (.int .i64 1)) := by
  simp only [nameAt, he, Bool.false_or, Bool.and_eq_true] at hn
  constructor
  · rw [metTo, if_neg]
    rintro ⟨_, h⟩
    simp only [anyR, List.any_eq_true, List.mem_range, decide_eq_true_eq] at h
    obtain ⟨j, hj, e⟩ := h
    have := allR_get hn.2 j hj
    simp [e] at this
  · funext s
    simp only [upd, metTo]
    by_cases hs : s = ixS l k
    · subst hs
      rw [if_pos rfl, if_pos ⟨he, anyR_true k (by omega) (by simp)⟩]
    · rw [if_neg hs]
      congr 1
      simp only [anyR, List.any_eq_true, List.mem_range, decide_eq_true_eq, eq_iff_iff, and_congr_right_iff]
      intro _
      constructor
      · rintro ⟨j, hj, e⟩
        refine ⟨j, ?_, e⟩
        rcases Nat.lt_or_ge j k with h | h
        · exact h
        · obtain rfl : j = k := by omega
          exact absurd e.symm hs
      · rintro ⟨j, hj, e⟩; exact ⟨j, by omega, e⟩

theorem named_loop_empty (l : List ByteArray) (k : Nat) (he : emptyS (ixS l k) = true) : metTo l (k + 1) = metTo l k := by
  funext s
  simp only [metTo]
  congr 1
  simp only [anyR, List.any_eq_true, List.mem_range, decide_eq_true_eq, eq_iff_iff, and_congr_right_iff]
  intro hs
  constructor
  · rintro ⟨j, hj, e⟩
    refine ⟨j, ?_, e⟩
    rcases Nat.lt_or_ge j k with h | h
    · exact h
    · obtain rfl : j = k := by omega
      rw [e] at he; rw [he] at hs; cases hs
  · rintro ⟨j, hj, e⟩; exact ⟨j, by omega, e⟩

def namedB (p : GP) : Bool := decide (0 ≤ p.n ∧ p.n ≤ 4000 ∧ (p.names.length : Int) = p.n) && increasingB p.shown p.n && namesB p.names

def NamedPost (p : GP) (w : World) (e : Ending) (w' : World) : Prop := e = .returned (.bool (namedB p)) ∧ Below w.heap.size w w'

set_option maxHeartbeats 1000000 in
set_option maxRecDepth 100000 in
theorem named_any (v : Value) (p : GP) (w : World) (h : ProgIs w v p) :
    Calls Try.prog 46 #[v] w (NamedPost p w) := by
  obtain ⟨vn, vs, vr, vm, rfl, hn, hnames, hshown, hrules, hmin⟩ := h
  have hal := bal (Below.refl w.heap.size w) (.cells #[.int .i64 p.n, vn, vs, vr, vm] 27)
  have HS := Lib.hid (hshown.below hal)
  have HN := Lib.hid (hnames.below hal)
  clear hrules hmin
  obtain ⟨a1, c1, rfl, -, hl1, -, hsz, hcell⟩ := hnames.form
  obtain ⟨a2, c2, rfl, -, hl2, -, -⟩ := hshown.form
  clear hshown hnames
  by_cases h1 : p.n < 0
  · have HF : Hid (namedB p = false) := Lib.hid (by simp [namedB]; omega)
    go_enter Try.func46, Try.ntmps46
    go_wp2
    go_ret
    exact ⟨ret_bool HF.out.symm, hal⟩
  by_cases h2 : 4000 < p.n
  · have HF : Hid (namedB p = false) := Lib.hid (by simp [namedB]; omega)
    go_enter Try.func46, Try.ntmps46
    go_wp2
    go_ret
    exact ⟨ret_bool HF.out.symm, hal⟩
  by_cases h3 : (p.names.length : Int) = p.n
  case neg =>
    have HF : Hid (namedB p = false) := Lib.hid (by simp [namedB]; omega)
    have h4 : ((p.names.length : Int) != p.n) = true := by simp [h3]
    have h5 : ((p.names.length : Int) == p.n) = false := by simp [h3]
    go_enter Try.func46, Try.ntmps46
    go_wp2
    go_ret
    exact ⟨ret_bool HF.out.symm, hal⟩
  have h4 : ((p.names.length : Int) != p.n) = false := by simp [h3]
  have h5 : ((p.names.length : Int) == p.n) = true := by simp [h3]
  have H3 := Lib.hid h3
  clear h3
  cases h6 : increasingB p.shown p.n with
  | false =>
    have HF : Hid (namedB p = false) := Lib.hid (by simp [namedB, h6])
    go_enter Try.func46, Try.ntmps46
    go_wp2_with (go_at_call 73; refine (increasing_any _ _ _ _ HS.out (by omega)).mono ?_; rintro e w1 ⟨rfl, hb1⟩; have hc1 := bcell hb1; have hz1 : w.heap.size < w1.heap.size := (by have := hb1.size; simp at this; omega))
    go_ret
    exact ⟨ret_bool HF.out.symm, bon hal hb1⟩
  | true =>
    have HF : Hid (namedB p = namesB p.names) := Lib.hid (by have := H3.out; simp [namedB, h6, this]; omega)
    have hmm := @run_makeMap Try.prog
    go_enter Try.func46, Try.ntmps46
    go_wp2_with (go_at_call 73; refine (increasing_any _ _ _ _ HS.out (by omega)).mono ?_; rintro e w1 ⟨rfl, hb1⟩; have hc1 := bcell hb1; have hz1 : w.heap.size < w1.heap.size := (by have := hb1.size; simp at this; omega))
    have hmade := MapIs.made (kv := Value.string) w1
    have hb2 := bal (bon hal hb1) (.map #[] 0)
    go_loopw [34] (NamedRel p.names w w1.heap.size) (fun i _ => p.names.length - (intOf i).toNat)
    case atStart => exact ⟨0, by omega, rfl, fun j hj => absurd hj (Nat.not_lt_zero _), hb2, (by have := hb1.size; simp at this; omega), by rw [metTo_zero]; exact hmade⟩
    case round =>
      clear hmm hb2 hmade
      obtain ⟨k, hk, rfl, hok, hb, hbl, hm⟩ := hrel
      have HOK := Lib.hid hok
      clear hok
      by_cases hlt : k < p.names.length
      · obtain ⟨b, off, rfl, hbl1, hc⟩ := hcell (by omega)
        have hk1 : wr.cell? ⟨b, off + k, none⟩ = some (.string (ixS p.names k)) := (bcell hb _ _ hbl1).trans (hc k hlt)
        have hsz1 := hsz k
        clear hc hcell hsz hc1
        have hlk := hm.lookup kvStr Try.underlying95 Try.underlying9 (Try.zeroValue3 wr) (ixS p.names k)
        have hlen : ∀ x, ixS p.names k = x → nameAt p.names k = (decide (x.size ≤ 200) && !nlB x && (emptyS x || allR k (fun j => decide (ixS p.names j ≠ x)))) := fun x e => by subst e; rfl
        have hput : nameAt p.names k = true → ∀ x, ixS p.names k = x → emptyS x = false → metTo p.names k x = none ∧ metTo p.names (k + 1) = upd (metTo p.names k) x (some (.int .i64 1)) := fun h x e he => by subst e; exact named_loop_ok _ _ h he
        have hemp : ∀ x, ixS p.names k = x → emptyS x = true → metTo p.names (k + 1) = metTo p.names k := fun x e he => by subst e; exact named_loop_empty _ _ he
        have hbad : nameAt p.names k = false → Hid (namedB p = false) := fun h => Lib.hid (by rw [HF.out]; exact allR_false k hlt h)
        generalize ixS p.names k = s at hk1 hsz1 hlk hlen hput hemp
        replace hlen := hlen s rfl
        replace hput := fun h => hput h s rfl
        replace hemp := hemp s rfl
        by_cases g1 : 200 < s.size
        · have HB := hbad (by rw [hlen]; simp; omega)
          clear hlen hput hemp hbad hlk
          go_wp2
          go_ret
          exact ⟨ret_bool HB.out.symm, hb⟩
        cases g2 : nlB s with
        | true =>
          have HB := hbad (by rw [hlen, g2]; simp)
          clear hlen hput hemp hbad hlk
          go_wp2_with (first
            | (go_at_call 65; refine (containsNl_any _ _).mono ?_; rintro e w2 ⟨rfl, rfl⟩))
          go_ret
          exact ⟨ret_bool HB.out.symm, hb⟩
        | false =>
          cases g3 : emptyS s with
          | true =>
            have hbs : metTo p.names k s = none := by simp [metTo, g3]
            rw [hbs] at hlk
            have HK : Hid (nameAt p.names k = true) := Lib.hid (by rw [hlen, g2, g3]; simp; omega)
            have HM : Hid (MapIs Value.string wr w1.heap.size (metTo p.names (k + 1))) := Lib.hid (by rw [hemp g3]; exact hm)
            have g4 : s.toList.isEmpty = true := g3
            have g5 : s.toList = [] := by simpa using g4
            clear hlen hput hemp hbad hbs
            simp only [Option.getD_none] at hlk
            go_wp2_with (first
              | (go_at_call 65; refine (containsNl_any _ _).mono ?_; rintro e w2 ⟨rfl, rfl⟩))
            first
              | (go_roundw
                 case rel => (exact ⟨k + 1, by omega, by go_num, lt_succ_all HOK.out HK.out, hb, hbl, HM.out⟩)
                 case measure => (simp [intOf]; omega))
              | (refine ⟨?_, ?_⟩
                 · (exact ⟨k + 1, by omega, by go_num, lt_succ_all HOK.out HK.out, hb, hbl, HM.out⟩)
                 · (simp [intOf]; omega))
          | false =>
            have g4 : s.toList.isEmpty = false := g3
            have g5 : ¬ s.toList = [] := by simpa using g4
            cases g6 : nameAt p.names k with
            | false =>
              have HB := hbad g6
              have hany : anyR k (fun j => decide (ixS p.names j = s)) = true := by
                rw [hlen, g2, g3] at g6
                simp only [Bool.not_false, Bool.and_true, Bool.false_or, Bool.and_eq_false_iff, decide_eq_false_iff_not] at g6
                rcases g6 with g6 | g6
                · exact absurd (by omega) g6
                · simp [allR] at g6
                  obtain ⟨j, hj, e⟩ := g6
                  exact anyR_true j hj (by simpa using e)
              have hbs : metTo p.names k s = some (.int .i64 1) := by rw [metTo, if_pos ⟨g3, hany⟩]
              rw [hbs] at hlk
              clear hlen hput hemp hbad hbs
              simp only [Option.getD_some] at hlk
              go_wp2_with (first
                | (go_at_call 65; refine (containsNl_any _ _).mono ?_; rintro e w2 ⟨rfl, rfl⟩))
              go_ret
              exact ⟨ret_bool HB.out.symm, hb⟩
            | true =>
              obtain ⟨hbs, hup⟩ := hput g6 g3
              rw [hbs] at hlk
              have HK := Lib.hid g6
              have HUP := Lib.hid hup
              have HMM := Lib.hid hm
              clear hlen hput hemp hbad hbs hup g6 hm
              simp only [Option.getD_none] at hlk
              go_wp2_with (first
                | (go_at_call 65; refine (containsNl_any _ _).mono ?_; rintro e w2 ⟨rfl, rfl⟩)
                | (at_mapUpdate; refine wpList_mput _ _ s (.int .i64 1) kvStr 95 9 3 Try.underlying95 Try.underlying9 rfl _ _ _ rfl rfl rfl rfl HMM.out ?_; intro w2 hm2 hg2 hs2))
              have HM : Hid (MapIs Value.string w2 w1.heap.size (metTo p.names (k + 1))) := Lib.hid (by rw [HUP.out]; exact hm2)
              have hb2 := hb.grown hg2 hb.size (fun j e => by cases e; exact hbl)
              first
                | (go_roundw
                   case rel => (exact ⟨k + 1, by omega, by go_num, lt_succ_all HOK.out HK.out, hb2, hbl, HM.out⟩)
                   case measure => (simp [intOf]; omega))
                | (refine ⟨?_, ?_⟩
                   · (exact ⟨k + 1, by omega, by go_num, lt_succ_all HOK.out HK.out, hb2, hbl, HM.out⟩)
                   · (simp [intOf]; omega))
      · have HL : Hid (k = p.names.length) := Lib.hid (by omega)
        go_wp2
        go_ret
        exact ⟨ret_bool (by rw [HF.out]; exact (allR_true (by rw [← HL.out]; exact HOK.out)).symm), hb⟩

end Go.Proofs.Ytkjpnpkmnpofgaa
