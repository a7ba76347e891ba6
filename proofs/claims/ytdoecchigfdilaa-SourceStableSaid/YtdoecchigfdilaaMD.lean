/- My texts FindW, LeastP, Fn, Rounds1, RoundsU, Rounds2, Least, MoreP, merged. -/
import Derived.Test.YtdoecchigfdilaaMC
import Derived.Test.YtdoecchigfdilaaMB
import Derived.Test.YtdoecchigfdilaaMA
import Derived.Deep.DeepCutAuto
import Derived.Deep.OwnRows
import Derived.Deep.LoopGhost

/- Find asks nothing of the assignment that the object holds. -/
namespace Go.Proofs.Ytdoecchigfdilaa
open Go.RowKit

/-- What a Sources object holds but for the assignment: its blocks from H to T are as they were in a world in which all of it stood. -/
def Core (s : SP) (p : GP) (F K : Int → Int) (clock : Int) (w : World) : Prop :=
  ∃ wo mo a0, Src mo s p F K clock a0 wo ∧ wo.heap.size ≤ w.heap.size ∧ ∀ i, s.H ≤ i → i < s.T → w.heap[i]? = wo.heap[i]?

section
variable {m : Nat} {s : SP} {p : GP} {F K : Int → Int} {clock : Int} {a a0 : List Int} {w w' : World}

theorem Src.core (h : Src m s p F K clock a w) : Core s p F K clock w := ⟨w, m, a, h, Nat.le_refl _, fun _ _ _ => rfl⟩

theorem Core.keep (h : Core s p F K clock w) (hs : w.heap.size ≤ w'.heap.size) (hb : ∀ i, s.H ≤ i → i < s.T → w'.heap[i]? = w.heap[i]?) : Core s p F K clock w' :=
  let ⟨wo, mo, a0, h1, h2, h3⟩ := h
  ⟨wo, mo, a0, h1, by omega, fun i i1 i2 => (hb i i1 i2).trans (h3 i i1 i2)⟩

theorem Core.lim (h : Core s p F K clock w) : s.H ≤ s.T ∧ s.T ≤ w.heap.size ∧ ∀ i ∈ s.mut, s.H ≤ i ∧ i < s.T := by
  obtain ⟨wo, mo, a0, h1, h2, h3⟩ := h
  have := h1.top
  have := h1.lo
  have := h1.hi
  refine ⟨by omega, by omega, fun i hi => ?_⟩
  simp only [SP.mut, List.mem_cons, List.not_mem_nil, or_false] at hi
  rcases hi with rfl | rfl | rfl <;> omega

theorem Core.below (h : Core s p F K clock w) (hb : Below w.heap.size w w') : Core s p F K clock w' :=
  h.keep hb.size fun i _ i2 => hb.block i (by have := h.lim; omega)

theorem Core.obj (h : Core s p F K clock w) : ∃ va, Blk w s.b [.int .i64 p.n, s.vn, nilS, s.vr, nilS, .map (some s.bh), .map (some s.bu), .map (some s.bf), .map (some s.bk), .int .i64 clock, va] 63 := by
  obtain ⟨wo, mo, a0, h1, h2, h3⟩ := h
  obtain ⟨va, ho, -⟩ := h1.obj
  exact ⟨va, ho.same (h3 _ h1.lo.1 h1.hi.1)⟩

theorem Core.valid (h : Core s p F K clock w) : validE p = 0 := by
  obtain ⟨wo, mo, a0, h1, h2, h3⟩ := h
  exact h1.valid

theorem Core.setA {va : Value} {w1 : World} (h : Core s p F K clock w) (hb : Below w.heap.size w w1) (ho : Own8 w.heap.size w1 va a) : Src w1.heap.size s p F K clock a (w1.setCell ⟨s.b, 10, none⟩ va) ∧ Lim w.heap.size s.mut w (w1.setCell ⟨s.b, 10, none⟩ va) := by
  have hlim := h.lim
  obtain ⟨v0, hob⟩ := (h.below hb).obj
  obtain ⟨wo, mo, a0, h1, h2, h3⟩ := h.below hb
  have ht := h1.top
  have hh := h1.hi
  have hl := h1.lo
  have hsz : (w1.setCell ⟨s.b, 10, none⟩ va).heap.size = w1.heap.size := by simp [World.setCell]
  have hbs := hb.size
  refine ⟨⟨⟨va, hob.set 10 va, w.heap.size, w1.heap.size, by omega, Nat.le_refl _, fun w' hs hz => ?_⟩, (h1.frm.same (h3 _ hl.2.1 hh.2.1)).setCell _ _ _, (h1.rank.same (h3 _ hl.2.2 hh.2.2)).setCell _ _ _, h1.ne, h1.hi, h1.lo, ⟨by omega, by omega⟩, fun w' hs hz => ?_, h1.valid, h1.rowsH, h1.rowsU, h1.fitF, h1.fitK, h1.fitC⟩, ?_⟩
  · obtain ⟨⟨hr, hby⟩, hfit⟩ := ho
    have hrow : w'.ownsRow w.heap.size 57 1 va a.length ((List.range a.length).map fun i => Value.int .i8 (ix a i)) := by
      refine ⟨hr.1, ?_⟩
      rcases hr.2 with hn | ⟨g, cap, cur, rfl, hbg, hgg, rest⟩
      · exact .inl hn
      · have hgl := (Array.getElem?_eq_some_iff.1 hgg).1
        exact .inr ⟨g, cap, cur, rfl, hbg, (hs g hbg hgl (by simp)).trans ((Below.heap_setCell _ _ _ _ (show g ≠ s.b by omega)).trans hgg), rest⟩
    exact (show Own8 w.heap.size w' va a from ⟨⟨hrow, hby⟩, hfit⟩).bytes
  · refine h1.fix w' (fun i i1 i2 i3 => (hs i i1 i2 i3).trans ((Below.heap_setCell _ _ _ _ ?_).trans (h3 i i1 i2))) (by omega)
    rintro rfl
    exact i3 (by simp [SP.mut])
  · exact (Lim.of_below hb (Nat.le_refl _)).trans (.setCell _ (.inl (by simp [SP.mut])))

set_option maxHeartbeats 4000000 in
set_option maxRecDepth 100000 in
theorem find_core (h : Core s p F K clock w) (hi : SInv p F K clock) (hC : clock ≤ 2305843009213693952) (va : Value) (hva : Bytes8 w va a) :
    Calls Try.prog 9 #[.pointer (some ⟨s.b, 0, none⟩), va] w (FindPost s p a clock w) := by
  have hv := validP h.valid
  have hvn := hv.n
  obtain ⟨a1, c1, rfl, -, -⟩ := hva.1
  have HVA := Lib.hid hva
  obtain ⟨va0, hob⟩ := h.obj
  have ko := hob.cell
  have fo := hob.free
  have zo := hob.lt
  have HS0 := Lib.hid h
  have HI := Lib.hid hi
  clear h hva hob hi hv
  have qm : ∀ (w : World) (r : Option Nat), (binOp .eql 38 (.map r) (.map none)).run Try.prog w = .ok (.bool r.isNone) w := fun w r => run_eql_map_nil w _ _ _ r Try.underlying38
  go_enter Try.func9, Try.ntmps9
  go_upto_region 4 with (go_at_call 25; refine (clone8_any _ _ _ HVA.out).mono ?_; rintro e w1 ⟨v1, rfl, ho1, hb1⟩; have ko1 := fun o => (bcell hb1 s.b o zo).trans (ko o); have fo1 := fun o => (bfrozen hb1 s.b o zo).trans (fo o); obtain ⟨a2, c2, rfl⟩ := ho1.1.form; have hs1 := HS0.out.setA hb1 ho1; have HS1 := Lib.hid hs1; clear hs1 ho1)
  clear ko1 fo1
  generalize w1.setCell ⟨s.b, 10, none⟩ (.slice a2 a.length c2) = W1 at HS1 ⊢
  go_wp2_with (first
    | (go_at_call 27; refine (gain_any HS2.out HLO.out hC).mono ?_; rintro e w3 ⟨rfl, hl3, F3, K3, clk3, hf3, hc3, hs3⟩; have HL3 := Lib.hid hl3; have HF3 := Lib.hid hf3; have hob3 := hs3.obj; obtain ⟨va3, hob3, -⟩ := hob3; have ko3 := hob3.cell; have HS3 := Lib.hid hs3; clear hob3 hs3 hf3 hl3)
    | (go_at_call 26; refine (lose_any HS1.out.1 HI.out).mono ?_; rintro e w2 ⟨rfl, hl2, F2, K2, hlo2, hs2⟩; have HL2 := Lib.hid hl2; have HLO := Lib.hid hlo2; have HS2 := Lib.hid hs2; clear hl2 hlo2 hs2))
  have HLT : Hid (Lim w.heap.size s.mut w w3) := Lib.hid (by
    have h1 := HS1.out.2
    have h2 := HL2.out
    have h3 := HL3.out
    exact (h1.trans (h2.mono h1.size (fun i hi _ => hi))).trans (h3.mono (Nat.le_trans h1.size h2.size) (fun i hi _ => hi)))
  have hz3 := HLT.out.size
  have hm3 := HS3.out.top.2
  go_loopw [5, 6] (fun v i wx => FRel s p F3 K3 clk3 a w w2.heap.size w3.heap.size v i wx) (fun _ i _ => (p.n + 1 - intOf i).toNat)
  case atStart => exact ⟨0, Nat.zero_le _, rfl, QRow.nil _ _, HS3.out, HLT.out, Nat.le_refl _⟩
  case round =>
    obtain ⟨k, hk, rfl, hq, hs, hl, hzr⟩ := hrel
    have HQ := Lib.hid hq
    have HS := Lib.hid hs
    have HL := Lib.hid hl
    obtain ⟨av, nv, cv, rfl⟩ := hq.form
    obtain ⟨va4, hob, -⟩ := hs.obj
    have ko4 := hob.cell
    have hlen := findTo_len F3 a k
    clear hq hs hl hob
    by_cases hlt : (k : Int) + 1 ≤ p.n
    · have hstep : findTo F3 a (k + 1) = if ¬ 0 < F3 ((k : Int) + 1) ∧ offB a ((k : Int) + 1) = false then findTo F3 a k ++ [(k : Int) + 1] else findTo F3 a k := rfl
      have HN := Lib.hid hstep
      clear hstep
      by_cases hF : 0 < F3 ((k : Int) + 1)
      · have hF' : decide (0 < F3 ((k : Int) + 1)) = true := decide_eq_true hF
        have HN2 : Hid (findTo F3 a (k + 1) = findTo F3 a k) := Lib.hid (by rw [HN.out, if_neg (fun h => h.1 hF)])
        clear hF
        go_wp2_with (go_at_call 28; refine (founded_any HS.out ((k : Int) + 1)).mono ?_; rintro e w1 ⟨rfl, rfl⟩)
        first
          | (go_roundw
             case rel => (exact ⟨k + 1, by omega, by go_num, by rw [HN2.out]; exact HQ.out, HS.out, HL.out, hzr⟩)
             case measure => (simp [intOf]; omega))
          | (refine ⟨?_, ?_⟩
             · (exact ⟨k + 1, by omega, by go_num, by rw [HN2.out]; exact HQ.out, HS.out, HL.out, hzr⟩)
             · (simp [intOf]; omega))
      · have hF' : decide (0 < F3 ((k : Int) + 1)) = false := decide_eq_false hF
        cases ho : offB a ((k : Int) + 1) with
        | true =>
          have HN2 : Hid (findTo F3 a (k + 1) = findTo F3 a k) := Lib.hid (by rw [HN.out, if_neg (fun h => by rw [ho] at h; cases h.2)])
          clear hF
          go_wp2_with (first | (go_at_call 28; refine (founded_any HS.out ((k : Int) + 1)).mono ?_; rintro e w1 ⟨rfl, rfl⟩) | (go_at_call 29; refine (off_any HS.out ((k : Int) + 1) (by omega) (by omega)).mono ?_; rintro e w1 ⟨rfl, rfl⟩))
          first
            | (go_roundw
               case rel => (exact ⟨k + 1, by omega, by go_num, by rw [HN2.out]; exact HQ.out, HS.out, HL.out, hzr⟩)
               case measure => (simp [intOf]; omega))
            | (refine ⟨?_, ?_⟩
               · (exact ⟨k + 1, by omega, by go_num, by rw [HN2.out]; exact HQ.out, HS.out, HL.out, hzr⟩)
               · (simp [intOf]; omega))
        | false =>
          have HN2 : Hid (findTo F3 a (k + 1) = findTo F3 a k ++ [(k : Int) + 1]) := Lib.hid (by rw [HN.out, if_pos ⟨hF, ho⟩])
          have hxI : InI ((k : Int) + 1) := by unfold InI; omega
          have hap : ((findTo F3 a k).length + 1) * 8 ≤ 140737488351232 := by omega
          clear hF
          go_wp2_with (first
            | (go_at_call 28; refine (founded_any HS.out ((k : Int) + 1)).mono ?_; rintro e w1 ⟨rfl, rfl⟩)
            | (go_at_call 29; refine (off_any HS.out ((k : Int) + 1) (by omega) (by omega)).mono ?_; rintro e w1 ⟨rfl, rfl⟩)
            | (at_builtin; refine wpList_appendQ rfl _ _ 23 Try.underlying23 rfl w3.heap.size _ (findTo F3 a k) ((k : Int) + 1) rfl (HQ.out.kept (w' := wr.alloc (.cells #[.int .i64 ((k : Int) + 1)] 3)) (fun i h1 h2 _ => Below.heap_alloc _ _ _ h2)) wr.heap.size 1 rfl (Blk.new wr [.int .i64 ((k : Int) + 1)] _) hxI hap (by simp; omega) ?_; intro v4 w4 hq4 hg4 hl4; have hpp := FRel.push HS.out HQ.out HL.out hm3 hz3 hzr hq4 hg4; have HPP := Lib.hid hpp; obtain ⟨a4, n4, c4, rfl⟩ := hq4.form; clear hpp hq4 hg4 hl4))
          first
            | (go_roundw
               case rel => (exact ⟨k + 1, by omega, by go_num, by rw [HN2.out]; exact HPP.out.1, HPP.out.2.1, HPP.out.2.2.1, HPP.out.2.2.2⟩)
               case measure => (simp [intOf]; omega))
            | (refine ⟨?_, ?_⟩
               · (exact ⟨k + 1, by omega, by go_num, by rw [HN2.out]; exact HPP.out.1, HPP.out.2.1, HPP.out.2.2.1, HPP.out.2.2.2⟩)
               · (simp [intOf]; omega))
    · obtain rfl : k = p.n.toNat := by omega
      go_wp2
      go_ret
      exact ⟨HL.out, F3, K3, clk3, _, HF3.out, hc3, HS.out.mono (by omega) (Nat.le_refl _), rfl, HQ.out.mono hz3⟩

/-- What two calls of Find leave. -/
def HistSt (s : SP) (p : GP) (a : List Int) (clk0 : Int) (W0 w : World) : Prop := ∃ F K clk, Found p a F K clk ∧ clk ≤ clk0 + 4000 ∧ Core s p F K clk w ∧ Below W0.heap.size W0 w

def HPost (s : SP) (p : GP) (a : List Int) (clk0 : Int) (W0 w : World) (e : Ending) (w' : World) : Prop :=
  ∃ F av cv, e = .returned (.slice av (findTo F a p.n.toNat).length cv) ∧ QRow w.heap.size w' (.slice av (findTo F a p.n.toNat).length cv) (findTo F a p.n.toNat) ∧ IsFnd p a F ∧ Lim w.heap.size s.mut w w' ∧ HistSt s p a clk0 W0 w'

theorem find_hist {W0 : World} {clk0 : Int} (h : Core s p F K clk0 w) (hi : SInv p F K clk0) (hC : clk0 ≤ 2305843009213693952) (va : Value) (hva : Bytes8 w va a) (hW : W0.heap.size ≤ s.H) (hb : Below W0.heap.size W0 w) :
    Calls Try.prog 9 #[.pointer (some ⟨s.b, 0, none⟩), va] w (HPost s p a clk0 W0 w) := by
  have hlo : s.H ≤ s.b ∧ s.H ≤ s.bf ∧ s.H ≤ s.bk := by obtain ⟨_, _, _, h1, -⟩ := h; exact h1.lo
  have hv := h.valid
  refine (find_core h hi hC va hva).mono fun e w' hp => ?_
  have hfb := findPost_below hp hW hlo hb.size
  obtain ⟨h1, F', K', clk', vo, h2, h3, h4, rfl, h5⟩ := hp
  obtain ⟨av, cv, rfl⟩ := h5.slen
  exact ⟨F', av, cv, rfl, h5, h2.fnd hv, h1, F', K', clk', h2, h3, h4.core, hb.trans hfb⟩

theorem HistSt.on {clk0 : Int} {W0 : World} (h : HistSt s p a clk0 W0 w) (hb : Below w.heap.size w w') : HistSt s p a clk0 W0 w' := by
  obtain ⟨F, K, clk, h1, h2, h3, h4⟩ := h
  exact ⟨F, K, clk, h1, h2, h3.below hb, bon h4 hb⟩

/-- Another object's Find. -/
theorem HistSt.lim {clk0 : Int} {W0 : World} {S : List Nat} (h : HistSt s p a clk0 W0 w) (hl : Lim w.heap.size S w w') (hs : ∀ i ∈ S, W0.heap.size ≤ i ∧ (i < s.H ∨ s.T ≤ i)) : HistSt s p a clk0 W0 w' := by
  obtain ⟨F, K, clk, h1, h2, h3, h4⟩ := h
  have := h3.lim
  refine ⟨F, K, clk, h1, h2, h3.keep hl.size (fun i i1 i2 => hl.block i (by omega) (fun hm => by have := hs i hm; omega)), h4.trans ((hl.mono h4.size (fun i hi _ => hi)).below (fun i hi => (hs i hi).1))⟩

theorem HistSt.below {clk0 : Int} {W0 : World} (h : HistSt s p a clk0 W0 w) : Below W0.heap.size W0 w := by
  obtain ⟨F, K, clk, h1, h2, h3, h4⟩ := h
  exact h4

theorem hist_eq {F G : Int → Int} (h1 : IsFnd p a F) (h2 : IsFnd p a G) : decide (findTo F a p.n.toNat = findTo G a p.n.toNat) = true :=
  decide_eq_true (findTo_congr (fun x => h1.unique h2 x) _)
end

end Go.Proofs.Ytdoecchigfdilaa

/- The plain law of reduct.Rounds: a definite program's least closed set. -/
namespace Go.Proofs.Ytdoecchigfdilaa
open Go.RowKit

/-- The weight of a literal in a body; what a body lacks at first; what a set of atoms pays. -/
def wOf (r : GR) (k : Nat) : Int := if r.sum then ix r.w k else 1
def need0 (r : GR) : Int := if r.sum then r.bound else r.body.length
def lhsTo (C : List Int) (r : GR) : Nat → Int
  | 0 => 0
  | k + 1 => lhsTo C r k + if ix r.body k ∈ C then wOf r k else 0
def lhs (C : List Int) (r : GR) : Int := lhsTo C r r.body.length
def occTo (a : Int) (r : GR) : Nat → Int
  | 0 => 0
  | k + 1 => occTo a r k + if ix r.body k = a then wOf r k else 0

/-- The rules in whose bodies an atom is, with its weight. -/
def stepU (U : Int → List (Int × Int)) (r : GR) (i : Nat) : Nat → Int → List (Int × Int)
  | 0 => U
  | k + 1 => fun a => if a = ix r.body k then stepU U r i k a ++ [((i : Int), wOf r k)] else stepU U r i k a
def usesU (R : List GR) : Nat → Int → List (Int × Int)
  | 0 => fun _ => []
  | i + 1 => stepU (usesU R i) (ixR R i) i (ixR R i).body.length

def sumAt (i : Int) : List (Int × Int) → Int
  | [] => 0
  | u :: l => (if u.1 = i then u.2 else 0) + sumAt i l

theorem sumAt_append (i : Int) : ∀ l m : List (Int × Int), sumAt i (l ++ m) = sumAt i l + sumAt i m
  | [], m => by simp [sumAt]
  | u :: l, m => by simp only [List.cons_append, sumAt]; rw [sumAt_append i l m]; omega

theorem stepU_sum (U : Int → List (Int × Int)) (r : GR) (i' : Nat) (i a : Int) : ∀ k, sumAt i (stepU U r i' k a) = sumAt i (U a) + if (i' : Int) = i then occTo a r k else 0
  | 0 => by simp [stepU, occTo]
  | k + 1 => by
    have ih := stepU_sum U r i' i a k
    unfold stepU occTo
    by_cases h : a = ix r.body k
    · rw [if_pos h, sumAt_append, ih]
      simp only [sumAt]
      rw [if_pos h.symm]
      split <;> omega
    · rw [if_neg h, ih, if_neg (show ¬ ix r.body k = a from fun e => h e.symm), Int.add_zero]

theorem usesU_sum (R : List GR) (i : Nat) (a : Int) : ∀ m, sumAt i (usesU R m a) = if i < m then occTo a (ixR R i) (ixR R i).body.length else 0
  | 0 => by simp [usesU, sumAt]
  | m + 1 => by
    unfold usesU
    rw [stepU_sum, usesU_sum R i a m]
    by_cases h : m = i
    · subst h; simp
    · rw [if_neg (show ¬ (m : Int) = i by omega)]
      by_cases h2 : i < m
      · rw [if_pos h2, if_pos (by omega)]; omega
      · rw [if_neg h2, if_neg (by omega)]; omega

theorem stepU_mem {U : Int → List (Int × Int)} {r : GR} {i : Nat} {a : Int} {u : Int × Int} : ∀ k, u ∈ stepU U r i k a ↔ u ∈ U a ∨ ∃ j, j < k ∧ ix r.body j = a ∧ u = ((i : Int), wOf r j)
  | 0 => by simp [stepU]
  | k + 1 => by
    have ih := stepU_mem (U := U) (r := r) (i := i) (a := a) (u := u) k
    unfold stepU
    constructor
    · intro h
      split at h
      · rename_i e
        rcases List.mem_append.1 h with h | h
        · rcases ih.1 h with h | ⟨j, h1, h2⟩
          · exact .inl h
          · exact .inr ⟨j, by omega, h2⟩
        · exact .inr ⟨k, by omega, e.symm, by simpa using h⟩
      · rcases ih.1 h with h | ⟨j, h1, h2⟩
        · exact .inl h
        · exact .inr ⟨j, by omega, h2⟩
    · intro h
      have h' : u ∈ stepU U r i k a ∨ (a = ix r.body k ∧ u = ((i : Int), wOf r k)) := by
        rcases h with h | ⟨j, h1, h2, h3⟩
        · exact .inl (ih.2 (.inl h))
        · by_cases hj : j = k
          · subst hj; exact .inr ⟨h2.symm, h3⟩
          · exact .inl (ih.2 (.inr ⟨j, by omega, h2, h3⟩))
      split
      · rename_i e
        rcases h' with h' | ⟨_, h'⟩
        · exact List.mem_append_left _ h'
        · exact List.mem_append_right _ (by simp [h'])
      · rename_i e
        rcases h' with h' | ⟨h', _⟩
        · exact h'
        · exact absurd h' e

theorem usesU_mem {R : List GR} {a : Int} {u : Int × Int} : ∀ m, u ∈ usesU R m a ↔ ∃ i j : Nat, i < m ∧ j < (ixR R i).body.length ∧ ix (ixR R i).body j = a ∧ u = ((i : Int), wOf (ixR R i) j)
  | 0 => by simp [usesU]
  | m + 1 => by
    unfold usesU
    rw [stepU_mem, usesU_mem m]
    constructor
    · rintro (⟨i, j, h1, h2⟩ | ⟨j, h1, h2⟩)
      · exact ⟨i, j, by omega, h2⟩
      · exact ⟨m, j, by omega, h1, h2⟩
    · rintro ⟨i, j, h1, h2⟩
      by_cases e : i = m
      · subst e; exact .inr ⟨j, h2⟩
      · exact .inl ⟨i, j, by omega, h2⟩

theorem stepU_len (U : Int → List (Int × Int)) (r : GR) (i : Nat) (a : Int) : ∀ k, (stepU U r i k a).length ≤ (U a).length + k
  | 0 => by simp [stepU]
  | k + 1 => by
    have := stepU_len U r i a k
    unfold stepU
    split
    · simp; omega
    · omega

theorem usesU_len (R : List GR) (a : Int) (B : Nat) (h : ∀ i, i < R.length → (ixR R i).body.length ≤ B) : ∀ m, m ≤ R.length → (usesU R m a).length ≤ m * B
  | 0, _ => by simp [usesU]
  | m + 1, hm => by
    have h1 := usesU_len R a B h m (by omega)
    have h2 := stepU_len (usesU R m) (ixR R m) m a (ixR R m).body.length
    have h3 := h m (by omega)
    unfold usesU
    rw [Nat.succ_mul]
    omega

theorem lhsTo_push {C : List Int} {a : Int} (h : a ∉ C) (r : GR) : ∀ k, lhsTo (C ++ [a]) r k = lhsTo C r k + occTo a r k
  | 0 => by simp [lhsTo, occTo]
  | k + 1 => by
    unfold lhsTo occTo
    rw [lhsTo_push h r k]
    by_cases e : ix r.body k = a
    · rw [if_pos e, if_pos (by simp [e]), if_neg (by rw [e]; exact h)]; omega
    · rw [if_neg e]
      by_cases e2 : ix r.body k ∈ C
      · rw [if_pos e2, if_pos (by simp [e2])]; omega
      · rw [if_neg e2, if_neg (by simp [e, e2])]; omega

/-- Definite rules over the atoms 1 .. n. -/
structure DefR (n : Int) (R : List GR) : Prop where
  rng : 0 ≤ n ∧ n ≤ 4000
  len : R.length ≤ 40000
  head : ∀ i, i < R.length → (ixR R i).head.length ≤ 1 ∧ ∀ x ∈ (ixR R i).head, 1 ≤ x ∧ x ≤ n
  body : ∀ i, i < R.length → (∀ k, k < (ixR R i).body.length → 1 ≤ ix (ixR R i).body k ∧ ix (ixR R i).body k ≤ n) ∧ (ixR R i).body.length ≤ 8002
  wts : ∀ i, i < R.length → (ixR R i).sum = true → (ixR R i).w.length = (ixR R i).body.length ∧ ∀ k, k < (ixR R i).w.length → 1 ≤ ix (ixR R i).w k ∧ ix (ixR R i).w k ≤ 1048576 - sumTo (ixR R i).w k
  bound : ∀ i, i < R.length → (ixR R i).sum = true → 0 ≤ (ixR R i).bound ∧ (ixR R i).bound ≤ 1048576

section
variable {n : Int} {R : List GR}

theorem DefR.w1 (h : DefR n R) {i : Nat} (hi : i < R.length) {k : Nat} (hk : k < (ixR R i).body.length) : 1 ≤ wOf (ixR R i) k ∧ wOf (ixR R i) k ≤ 1048576 ∧ ((ixR R i).sum = true → k < (ixR R i).w.length) := by
  unfold wOf
  cases hs : (ixR R i).sum with
  | false => simp
  | true =>
    obtain ⟨h1, h2⟩ := h.wts i hi hs
    have h3 := h2 k (by omega)
    have : ∀ m, m ≤ (ixR R i).w.length → 0 ≤ sumTo (ixR R i).w m := fun m => by
      induction m with
      | zero => intro _; simp [sumTo]
      | succ m ih => intro hm; have := ih (by omega); have := h2 m (by omega); unfold sumTo; omega
    have := this k (by omega)
    simp only [if_true]
    exact ⟨h3.1, by omega, fun _ => by omega⟩

/-- What a set pays: at most the whole. -/
theorem DefR.lhs_le (h : DefR n R) {i : Nat} (hi : i < R.length) (C : List Int) : ∀ k, k ≤ (ixR R i).body.length → 0 ≤ lhsTo C (ixR R i) k ∧ lhsTo C (ixR R i) k ≤ (if (ixR R i).sum then sumTo (ixR R i).w k else k)
  | 0, _ => by simp [lhsTo, sumTo]
  | k + 1, hk => by
    have ih := DefR.lhs_le h hi C k (by omega)
    have hw := (h.w1 hi (show k < _ by omega)).1
    unfold lhsTo
    have hle : wOf (ixR R i) k = if (ixR R i).sum then ix (ixR R i).w k else 1 := rfl
    cases hs : (ixR R i).sum with
    | false =>
      rw [hs] at ih hle
      simp only [if_false, Bool.false_eq_true] at ih hle ⊢
      split <;> push_cast <;> omega
    | true =>
      rw [hs] at ih hle
      simp only [if_true] at ih hle ⊢
      unfold sumTo
      split <;> omega

theorem DefR.sum_le (h : DefR n R) {i : Nat} (hi : i < R.length) (hs : (ixR R i).sum = true) : ∀ k, k ≤ (ixR R i).w.length → sumTo (ixR R i).w k ≤ 1048576
  | 0, _ => by simp [sumTo]
  | k + 1, hk => by have := (h.wts i hi hs).2 k (by omega); unfold sumTo; omega

/-- What is lacking stays small. -/
theorem DefR.need (h : DefR n R) {i : Nat} (hi : i < R.length) (C : List Int) {k : Nat} (hk : k ≤ (ixR R i).body.length) : -1048576 ≤ need0 (ixR R i) - lhsTo C (ixR R i) k ∧ need0 (ixR R i) - lhsTo C (ixR R i) k ≤ 1048576 := by
  have h1 := h.lhs_le hi C k hk
  have hb := (h.body i hi).2
  unfold need0
  cases hs : (ixR R i).sum with
  | false =>
    rw [hs] at h1
    simp only [if_false, Bool.false_eq_true] at h1 ⊢
    omega
  | true =>
    rw [hs] at h1
    have h2 := h.sum_le hi hs k (by have := (h.wts i hi hs).1; omega)
    have h3 := h.bound i hi hs
    simp only [if_true] at h1 ⊢
    omega

theorem lhsTo_mono (h : DefR n R) {i : Nat} (hi : i < R.length) {C C' : List Int} (hc : ∀ x ∈ C, x ∈ C') : ∀ k, k ≤ (ixR R i).body.length → lhsTo C (ixR R i) k ≤ lhsTo C' (ixR R i) k
  | 0, _ => by simp [lhsTo]
  | k + 1, hk => by
    have ih := lhsTo_mono h hi hc k (by omega)
    have hw := (h.w1 hi (show k < _ by omega)).1
    unfold lhsTo
    by_cases h1 : ix (ixR R i).body k ∈ C
    · rw [if_pos h1, if_pos (hc _ h1)]; omega
    · rw [if_neg h1]; split <;> omega

theorem lhsTo_congr {C C' : List Int} (hc : ∀ x, x ∈ C ↔ x ∈ C') (r : GR) : ∀ k, lhsTo C r k = lhsTo C' r k
  | 0 => rfl
  | k + 1 => by unfold lhsTo; rw [lhsTo_congr hc r k]; simp only [hc]

/-- The sets that the rules leave as they are; what is in all of them. -/
def ClosedD (R : List GR) (T : List Int) : Prop := ∀ i, i < R.length → need0 (ixR R i) ≤ lhs T (ixR R i) → ∀ x ∈ (ixR R i).head, x ∈ T
def Der (R : List GR) (x : Int) : Prop := ∀ T, ClosedD R T → x ∈ T

/-- M is the least closed set. -/
structure IsLeast (R : List GR) (M : List Int) : Prop where
  closed : ClosedD R M
  least : ∀ x ∈ M, Der R x

theorem der_of (h : DefR n R) {C : List Int} (hC : ∀ x ∈ C, Der R x) {i : Nat} (hi : i < R.length) (hn : need0 (ixR R i) ≤ lhs C (ixR R i)) {x : Int} (hx : x ∈ (ixR R i).head) : Der R x := fun T hT =>
  hT i hi (Int.le_trans hn (lhsTo_mono h hi (fun y hy => hC y hy T hT) _ (Nat.le_refl _))) x hx

/-- Between two rounds. C: the atoms that have been paid; l: those that are new; od: the round of each atom; nd: what each rule lacks. -/
structure Lv (n : Int) (R : List GR) (C l od nd : List Int) : Prop where
  nodup : (C ++ l).Nodup
  range : ∀ x ∈ C ++ l, 1 ≤ x ∧ x ≤ n
  olen : (od.length : Int) = n
  nlen : nd.length = R.length
  out : ∀ x : Int, 1 ≤ x → x ≤ n → (0 < ix od (x - 1).toNat ↔ x ∈ C ++ l) ∧ 0 ≤ ix od (x - 1).toNat ∧ ix od (x - 1).toNat ≤ 4000000
  der : ∀ x ∈ C ++ l, Der R x

/-- The rules that have been asked. -/
def Asked (R : List GR) (A nd : List Int) (Todo : Nat → Prop) : Prop := ∀ i, i < R.length → ix nd i ≤ 0 → (∀ x ∈ (ixR R i).head, x ∈ A) ∨ Todo i
def Paid (R : List GR) (C nd : List Int) : Prop := ∀ i, i < R.length → ix nd i = need0 (ixR R i) - lhs C (ixR R i)

theorem nodup_short : ∀ (n : Nat) (l : List Int), l.Nodup → (∀ x ∈ l, 1 ≤ x ∧ x ≤ n) → l.length ≤ n
  | 0, l, _, h => by
    cases l with
    | nil => simp
    | cons x l => have := h x (by simp); omega
  | n + 1, l, hd, h => by
    by_cases hm : ((n : Int) + 1) ∈ l
    · have h1 := List.length_erase_of_mem hm
      have h2 := nodup_short n (l.erase ((n : Int) + 1)) (hd.erase _) (fun x hx => by
        have h3 := (hd.mem_erase_iff.1 hx)
        have h4 := h x h3.2
        have h5 := h3.1
        omega)
      omega
    · have := nodup_short n l hd (fun x hx => by
        have h4 := h x hx
        have h5 : x ≠ (n : Int) + 1 := fun e => hm (e ▸ hx)
        omega)
      omega

theorem Lv.short {C l od nd : List Int} (h : Lv n R C l od nd) (hn : 0 ≤ n) : (C ++ l).length ≤ n.toNat := by
  exact nodup_short _ _ h.nodup (fun x hx => by have := h.range x hx; omega)

theorem ix_set (l : List Int) (i j : Nat) (v : Int) (hi : i < l.length) : ix (l.set i v) j = if j = i then v else ix l j := by
  unfold ix
  simp only [List.getD_eq_getElem?_getD]
  by_cases h : j = i
  · subst h; rw [if_pos rfl, List.getElem?_set_self hi]; rfl
  · rw [if_neg h, List.getElem?_set_ne (by omega)]

/-- reach: the head is taken. -/
theorem Lv.take {C l od nd : List Int} (hd : DefR n R) (h : Lv n R C l od nd) (hp : Paid R C nd) {i : Nat} (hi : i < R.length) (h0 : ix nd i ≤ 0) {x : Int} (hx : (ixR R i).head = [x]) (ho : ix od (x - 1).toNat = 0) {round : Int} (hr : 1 ≤ round ∧ round ≤ 4000000) :
    Lv n R C (l ++ [x]) (od.set (x - 1).toNat round) nd := by
  have hxr := (hd.head i hi).2 x (by rw [hx]; simp)
  have hxn : x ∉ C ++ l := fun hm => by have := (h.out x hxr.1 hxr.2).1.2 hm; omega
  have hol := h.olen
  have hlt : (x - 1).toNat < od.length := by omega
  refine ⟨by rw [← List.append_assoc]; exact List.nodup_append.2 ⟨h.nodup, by simp, fun a ha b hb => by simp only [List.mem_singleton] at hb; subst hb; rintro rfl; exact hxn ha⟩, fun y hy => ?_, by simpa using hol, h.nlen, fun y h1 h2 => ?_, fun y hy => ?_⟩
  · rw [← List.append_assoc] at hy
    rcases List.mem_append.1 hy with hy | hy
    · exact h.range y hy
    · simp only [List.mem_singleton] at hy; subst hy; exact hxr
  · rw [ix_set _ _ _ _ hlt, ← List.append_assoc]
    by_cases e : y = x
    · subst e; rw [if_pos rfl]; simp; omega
    · rw [if_neg (by omega)]
      have h3 := h.out y h1 h2
      refine ⟨h3.1.trans ?_, h3.2⟩
      simp [e]
  · rw [← List.append_assoc] at hy
    rcases List.mem_append.1 hy with hy | hy
    · exact h.der y hy
    · simp only [List.mem_singleton] at hy; subst hy
      exact der_of hd (fun z hz => h.der z (List.mem_append_left _ hz)) hi (by have := hp i hi; omega) (by rw [hx]; simp)

/-- Nothing paid, nothing new. -/
theorem lhsTo_nil (r : GR) : ∀ k, lhsTo [] r k = 0
  | 0 => rfl
  | k + 1 => by unfold lhsTo; rw [lhsTo_nil r k]; simp

theorem lhsTo_same {C C' : List Int} {r : GR} : ∀ k, (∀ j, j < k → (ix r.body j ∈ C ↔ ix r.body j ∈ C')) → lhsTo C r k = lhsTo C' r k
  | 0, _ => rfl
  | k + 1, h => by
    unfold lhsTo
    rw [lhsTo_same k (fun j hj => h j (by omega))]
    by_cases h1 : ix r.body k ∈ C
    · rw [if_pos h1, if_pos ((h k (by omega)).1 h1)]
    · rw [if_neg h1, if_neg (fun h2 => h1 ((h k (by omega)).2 h2))]

theorem sumAt_nonneg (i : Int) : ∀ l : List (Int × Int), (∀ u ∈ l, 0 ≤ u.2) → 0 ≤ sumAt i l
  | [], _ => by simp [sumAt]
  | u :: l, h => by
    have h1 := sumAt_nonneg i l (fun v hv => h v (by simp [hv]))
    have h2 := h u (by simp)
    unfold sumAt
    split <;> omega

theorem sumAt_take_le (i : Int) (l : List (Int × Int)) (h : ∀ u ∈ l, 0 ≤ u.2) (q : Nat) : 0 ≤ sumAt i (l.take q) ∧ sumAt i (l.take q) ≤ sumAt i l := by
  have h1 := sumAt_nonneg i (l.take q) (fun u hu => h u (List.mem_of_mem_take hu))
  have h2 := sumAt_nonneg i (l.drop q) (fun u hu => h u (List.mem_of_mem_drop hu))
  have h3 := sumAt_append i (l.take q) (l.drop q)
  rw [List.take_append_drop] at h3
  omega

theorem sumAt_take_succ (i : Int) (l : List (Int × Int)) (q : Nat) (hq : q < l.length) : sumAt i (l.take (q + 1)) = sumAt i (l.take q) + if (l.getD q (0, 0)).1 = i then (l.getD q (0, 0)).2 else 0 := by
  rw [List.take_add_one, List.getElem?_eq_getElem hq, sumAt_append]
  simp [sumAt, List.getD_eq_getElem?_getD, List.getElem?_eq_getElem hq]

/-- The rules that the atoms of L, from place j on, still call for. -/
def Todo (R : List GR) (L : List Int) (j : Nat) (i : Nat) : Prop := ∃ j', j ≤ j' ∧ j' < L.length ∧ ∃ u ∈ usesU R R.length (ix L j'), u.1 = (i : Int)
def Todo2 (R : List GR) (L : List Int) (j q : Nat) (i : Nat) : Prop := (∃ q', q ≤ q' ∧ q' < (usesU R R.length (ix L j)).length ∧ ((usesU R R.length (ix L j)).getD q' (0, 0)).1 = (i : Int)) ∨ Todo R L (j + 1) i

theorem Todo.open {L : List Int} {j i : Nat} (h : Todo R L j i) : Todo2 R L j 0 i := by
  obtain ⟨j', h1, h2, u, hu, e⟩ := h
  by_cases hj : j' = j
  · subst hj
    obtain ⟨q, hq, e2⟩ := List.mem_iff_getElem.1 hu
    exact .inl ⟨q, by omega, hq, by rw [List.getD_eq_getElem?_getD, List.getElem?_eq_getElem hq]; simp [e2, e]⟩
  · exact .inr ⟨j', by omega, h2, u, hu, e⟩

theorem Todo2.close {L : List Int} {j i : Nat} (h : Todo2 R L j (usesU R R.length (ix L j)).length i) : Todo R L (j + 1) i := by
  rcases h with ⟨q, h1, h2, _⟩ | h
  · omega
  · exact h

theorem Todo.none {L : List Int} {i : Nat} (h : Todo R L L.length i) : False := by
  obtain ⟨j, h1, h2, _⟩ := h
  omega

/-- The new atoms are paid: which rules are to be asked. -/
theorem Asked.pay {C l nd nd' : List Int} (hp : Paid R C nd) (hp' : Paid R (C ++ l) nd') (ha : Asked R (C ++ l) nd (fun _ => False)) : Asked R (C ++ l) nd' (Todo R l 0) := by
  intro i hi h0
  by_cases h1 : ix nd i ≤ 0
  · rcases ha i hi h1 with h2 | h2
    · exact .inl h2
    · exact h2.elim
  · right
    by_cases ht : Todo R l 0 i
    · exact ht
    · exfalso
      have e : lhs (C ++ l) (ixR R i) = lhs C (ixR R i) := lhsTo_same _ (fun k hk => by
        constructor
        · intro hm
          rcases List.mem_append.1 hm with hm | hm
          · exact hm
          · obtain ⟨j, hj, e2⟩ := List.mem_iff_getElem.1 hm
            exfalso
            refine ht ⟨j, Nat.zero_le _, hj, ((i : Int), wOf (ixR R i) k), ?_, rfl⟩
            have e3 : ix l j = ix (ixR R i).body k := by rw [← e2]; simp [ix, List.getD_eq_getElem?_getD, List.getElem?_eq_getElem hj]
            rw [e3]
            exact (usesU_mem _).2 ⟨i, k, hi, hk, rfl, rfl⟩
        · exact fun hm => List.mem_append_left _ hm)
      have := hp i hi
      have := hp' i hi
      omega

/-- What is in the list of the rounds above 0. -/
def posL (od : List Int) : Nat → List Int
  | 0 => []
  | k + 1 => if 0 < ix od k then posL od k ++ [(k : Int) + 1] else posL od k

theorem posL_mem (od : List Int) (x : Int) : ∀ k, x ∈ posL od k ↔ 1 ≤ x ∧ x ≤ k ∧ 0 < ix od (x - 1).toNat
  | 0 => by simp [posL]; omega
  | k + 1 => by
    have ih := posL_mem od x k
    unfold posL
    split
    · rename_i h
      simp only [List.mem_append, List.mem_singleton, ih]
      constructor
      · rintro (h1 | h1)
        · exact ⟨h1.1, by omega, h1.2.2⟩
        · refine ⟨by omega, by omega, ?_⟩
          have : (x - 1).toNat = k := by omega
          rw [this]; exact h
      · rintro ⟨h1, h2, h3⟩
        by_cases e : x = (k : Int) + 1
        · exact .inr e
        · exact .inl ⟨h1, by omega, h3⟩
    · rename_i h
      rw [ih]
      constructor
      · rintro ⟨h1, h2, h3⟩; exact ⟨h1, by omega, h3⟩
      · rintro ⟨h1, h2, h3⟩
        refine ⟨h1, ?_, h3⟩
        by_cases e : x = (k : Int) + 1
        · have : (x - 1).toNat = k := by omega
          rw [this] at h3; exact absurd h3 h
        · omega

theorem posL_len (od : List Int) : ∀ k, (posL od k).length ≤ k
  | 0 => by simp [posL]
  | k + 1 => by have := posL_len od k; unfold posL; split <;> simp <;> omega

theorem posL_range (od : List Int) (k : Nat) : ∀ x ∈ posL od k, 1 ≤ x ∧ x ≤ k := fun x hx => by have := (posL_mem od x k).1 hx; omega

theorem posL_sorted (od : List Int) : ∀ k, (posL od k).Pairwise (· < ·)
  | 0 => by simp [posL]
  | k + 1 => by
    have ih := posL_sorted od k
    unfold posL
    split
    · refine List.pairwise_append.2 ⟨ih, by simp, fun a ha b hb => ?_⟩
      simp only [List.mem_singleton] at hb
      have := (posL_range od k a ha).2
      omega
    · exact ih

/-- The end. -/
theorem Lv.done {C od nd : List Int} (h : Lv n R C [] od nd) (hp : Paid R C nd) (ha : Asked R C nd (fun _ => False)) : IsLeast R (posL od n.toNat) := by
  have hC : ∀ x, x ∈ posL od n.toNat ↔ x ∈ C := fun x => by
    rw [posL_mem]
    constructor
    · rintro ⟨h1, h2, h3⟩
      have := ((h.out x h1 (by omega)).1).1 h3
      simpa using this
    · intro hx
      have hr := h.range x (by simpa using hx)
      exact ⟨hr.1, by omega, ((h.out x hr.1 hr.2).1).2 (by simpa using hx)⟩
  refine ⟨fun i hi hn x hx => ?_, fun x hx => h.der x (by simpa using (hC x).1 hx)⟩
  have e : lhs (posL od n.toNat) (ixR R i) = lhs C (ixR R i) := lhsTo_congr hC _ _
  rcases ha i hi (by have := hp i hi; omega) with h1 | h1
  · exact (hC x).2 (h1 x hx)
  · exact h1.elim

end

theorem made_list (z : Value) (n : Nat) : madeCells #[z] n = (List.replicate n z).toArray := by
  apply Array.ext
  · simp [size_madeCells]
  · intro i h1 h2
    simp [madeCells, Nat.mod_one]

end Go.Proofs.Ytdoecchigfdilaa

/- slices.IndexFunc, slices.ContainsFunc with a closure, on ints and on rules; reduct.definite. -/
namespace Go.Proofs.Ytdoecchigfdilaa
open Go.RowKit

/-- The first place at which g holds; -1. -/
def IxP (n : Nat) (g : Nat → Bool) (r : Int) : Prop := (r = -1 ∧ ∀ j, j < n → g j = false) ∨ ∃ k : Nat, k < n ∧ r = k ∧ g k = true ∧ ∀ j, j < k → g j = false

def IxR (n : Nat) (g : Nat → Bool) (w : World) (i : Value) (wx : World) : Prop := ∃ k : Nat, k ≤ n ∧ i = .int .i64 k ∧ (∀ j, j < k → g j = false) ∧ Below w.heap.size w wx

theorem IxP.any {n : Nat} {g : Nat → Bool} {r : Int} (h : IxP n g r) : decide (0 ≤ r) = anyR n g := by
  rcases h with ⟨rfl, h⟩ | ⟨k, h1, rfl, h2, h3⟩
  · rw [anyR_false h]; rfl
  · rw [anyR_true k h1 h2, decide_eq_true (by omega)]


set_option maxHeartbeats 1000000 in
theorem idx_def1 (v : Value) (l : List Int) (w : World) (h : Ints w v l) (g : Nat → Bool) 
    (hg : ∀ w', Below w.heap.size w w' → ∀ j, j < l.length → Calls Try.prog 115 #[.int .i64 (ix l j)] w' fun e w'' => e = .returned (.bool (g j)) ∧ Below w'.heap.size w' w'') :
    Calls Try.prog 50 #[v, .func (.func 115) #[] #[]] w fun e w' => ∃ r, e = .returned (.int .i64 r) ∧ IxP l.length g r ∧ Below w.heap.size w w' := by
  obtain ⟨a1, c1, rfl, -, hl1, -, hcell⟩ := h.form
  have HG := Lib.hid hg
  clear h hg
  go_enter Try.func50, Try.ntmps50
  go_wp2
  go_loopw [8] (fun i wx => IxR l.length g w i wx) (fun i _ => l.length - (intOf i).toNat)
  case atStart => exact ⟨0, by omega, rfl, fun j hj => absurd hj (Nat.not_lt_zero _), Below.refl _ _⟩
  case round =>
    obtain ⟨k, hk, rfl, hall, hb⟩ := hrel
    have HA := Lib.hid hall
    clear hall
    by_cases hlt : k < l.length
    · obtain ⟨b, off, rfl, hbl, hc⟩ := hcell (by omega)
      have hk1 := (bcell hb _ _ hbl).trans (hc k hlt)
      clear hc hcell
      cases g1 : g k with
      | true =>
        have HK : Hid (_ = true) := Lib.hid g1
        have HC := Lib.hid (HG.out _ hb k hlt)
        rw [g1] at HC
        clear g1
        go_wp2_with (go_at_call 115; refine (HC.out).mono ?_; rintro e w1 ⟨rfl, hb1⟩)
        go_ret
        exact ⟨_, rfl, .inr ⟨k, hlt, rfl, HK.out, HA.out⟩, bon hb hb1⟩
      | false =>
        have HN := Lib.hid (lt_succ_all HA.out g1)
        have HC := Lib.hid (HG.out _ hb k hlt)
        rw [g1] at HC
        clear g1
        go_wp2_with (go_at_call 115; refine (HC.out).mono ?_; rintro e w1 ⟨rfl, hb1⟩)
        first
          | (go_roundw
             case rel => (exact ⟨k + 1, by omega, by go_num, HN.out, bon hb hb1⟩)
             case measure => (simp [intOf]; omega))
          | (refine ⟨?_, ?_⟩
             · (exact ⟨k + 1, by omega, by go_num, HN.out, bon hb hb1⟩)
             · (simp [intOf]; omega))
    · have HN : Hid (∀ j, j < l.length → g j = false) := Lib.hid (fun j hj => HA.out j (by omega))
      go_wp2
      go_ret
      exact ⟨_, rfl, .inl ⟨rfl, HN.out⟩, hb⟩

set_option maxHeartbeats 1000000 in
theorem ctn_def1 (v : Value) (l : List Int) (w : World) (h : Ints w v l) (g : Nat → Bool) 
    (hg : ∀ w', Below w.heap.size w w' → ∀ j, j < l.length → Calls Try.prog 115 #[.int .i64 (ix l j)] w' fun e w'' => e = .returned (.bool (g j)) ∧ Below w'.heap.size w' w'') :
    Calls Try.prog 40 #[v, .func (.func 115) #[] #[]] w fun e w' => e = .returned (.bool (anyR l.length g)) ∧ Below w.heap.size w w' := by
  have HI := Lib.hid (idx_def1 v l w h g  hg)
  obtain ⟨a1, c1, rfl, -⟩ := h.form
  clear h hg
  go_enter Try.func40, Try.ntmps40
  go_wp2_with (go_at_call 50; refine (HI.out).mono ?_; rintro e w1 ⟨r, rfl, hr, hb1⟩; have HR := Lib.hid hr; clear hr)
  go_ret
  exact ⟨ret_bool HR.out.any, hb1⟩

theorem neg_any (w : World) (x : Int) : Calls Try.prog 115 #[.int .i64 x] w fun e w' => e = .returned (.bool (decide (x < 0))) ∧ w = w' := by
  by_cases h : x < 0
  · go_enter Try.func115, Try.ntmps115
    go_wp2
    go_ret
    exact ⟨ret_bool (decide_eq_true h).symm, rfl⟩
  · go_enter Try.func115, Try.ntmps115
    go_wp2
    go_ret
    exact ⟨ret_bool (decide_eq_false (by omega)).symm, rfl⟩

set_option maxHeartbeats 1000000 in
theorem idxR_def (v : Value) (l : List GR) (w : World) (h : RulesIs w v l) (g : Nat → Bool) (cap : Value)
    (hg : ∀ w', Below w.heap.size w w' → ∀ j, j < l.length → ∀ u, RuleIs w' u (ixR l j) → Calls Try.prog 114 #[u, cap] w' fun e w'' => e = .returned (.bool (g j)) ∧ Below w'.heap.size w' w'') :
    Calls Try.prog 84 #[v, .func (.func 114) #[] #[cap]] w fun e w' => ∃ r, e = .returned (.int .i64 r) ∧ IxP l.length g r ∧ Below w.heap.size w w' := by
  obtain ⟨a1, c1, rfl, -, hl1, -, hcell⟩ := h.form
  have HG := Lib.hid hg
  clear h hg
  go_enter Try.func84, Try.ntmps84
  go_wp2
  go_loopw [8] (fun i wx => IxR l.length g w i wx) (fun i _ => l.length - (intOf i).toNat)
  case atStart => exact ⟨0, by omega, rfl, fun j hj => absurd hj (Nat.not_lt_zero _), Below.refl _ _⟩
  case round =>
    obtain ⟨k, hk, rfl, hall, hb⟩ := hrel
    have HA := Lib.hid hall
    clear hall
    by_cases hlt : k < l.length
    · obtain ⟨b, off, rfl, hbl, hc⟩ := hcell (by omega)
      obtain ⟨vh, vb, vw, ⟨k0, k1, k2, k3, k4, k5⟩, hsl⟩ := hc k hlt
      have hbr := hsl.below hb
      have hk0 := (bcell hb _ _ hbl).trans k0
      have hk1 := (bcell hb _ _ hbl).trans k1
      have hk2 := (bcell hb _ _ hbl).trans k2
      have hk3 := (bcell hb _ _ hbl).trans k3
      have hk4 := (bcell hb _ _ hbl).trans k4
      have hk5 := (bcell hb _ _ hbl).trans k5
      have HRU : Hid (RuleIs wr (.agg #[.bool (ixR l k).choice, vh, .bool (ixR l k).sum, .int .i64 (ixR l k).bound, vb, vw]) (ixR l k)) := Lib.hid ⟨vh, vb, vw, rfl, hbr⟩
      clear hc hcell k0 k1 k2 k3 k4 k5 hsl hbr
      cases g1 : g k with
      | true =>
        have HK : Hid (_ = true) := Lib.hid g1
        have HC := Lib.hid (HG.out _ hb k hlt _ HRU.out)
        rw [g1] at HC
        clear g1
        go_wp2_with (go_at_call 114; refine (HC.out).mono ?_; rintro e w1 ⟨rfl, hb1⟩)
        go_ret
        exact ⟨_, rfl, .inr ⟨k, hlt, rfl, HK.out, HA.out⟩, bon hb hb1⟩
      | false =>
        have HN := Lib.hid (lt_succ_all HA.out g1)
        have HC := Lib.hid (HG.out _ hb k hlt _ HRU.out)
        rw [g1] at HC
        clear g1
        go_wp2_with (go_at_call 114; refine (HC.out).mono ?_; rintro e w1 ⟨rfl, hb1⟩)
        first
          | (go_roundw
             case rel => (exact ⟨k + 1, by omega, by go_num, HN.out, bon hb hb1⟩)
             case measure => (simp [intOf]; omega))
          | (refine ⟨?_, ?_⟩
             · (exact ⟨k + 1, by omega, by go_num, HN.out, bon hb hb1⟩)
             · (simp [intOf]; omega))
    · have HN : Hid (∀ j, j < l.length → g j = false) := Lib.hid (fun j hj => HA.out j (by omega))
      go_wp2
      go_ret
      exact ⟨_, rfl, .inl ⟨rfl, HN.out⟩, hb⟩

set_option maxHeartbeats 1000000 in
theorem ctnR_def (v : Value) (l : List GR) (w : World) (h : RulesIs w v l) (g : Nat → Bool) (cap : Value)
    (hg : ∀ w', Below w.heap.size w w' → ∀ j, j < l.length → ∀ u, RuleIs w' u (ixR l j) → Calls Try.prog 114 #[u, cap] w' fun e w'' => e = .returned (.bool (g j)) ∧ Below w'.heap.size w' w'') :
    Calls Try.prog 54 #[v, .func (.func 114) #[] #[cap]] w fun e w' => e = .returned (.bool (anyR l.length g)) ∧ Below w.heap.size w w' := by
  have HI := Lib.hid (idxR_def v l w h g cap hg)
  obtain ⟨a1, c1, rfl, -⟩ := h.form
  clear h hg
  go_enter Try.func54, Try.ntmps54
  go_wp2_with (go_at_call 84; refine (HI.out).mono ?_; rintro e w1 ⟨r, rfl, hr, hb1⟩; have HR := Lib.hid hr; clear hr)
  go_ret
  exact ⟨ret_bool HR.out.any, hb1⟩

def defAt (n : Int) (r : GR) : Bool := decide (ruleE r n = 0) && !r.choice && decide (r.head.length ≤ 1) && !anyR r.body.length (fun j => decide (ix r.body j < 0))

set_option maxHeartbeats 1000000 in
theorem defAt_any (v : Value) (r : GR) (n : Int) (cb : Nat) (w : World) (h : RuleIs w v r) (hn : Blk w cb [.int .i64 n] 3) :
    Calls Try.prog 114 #[v, .pointer (some ⟨cb, 0, none⟩)] w fun e w' => e = .returned (.bool (!defAt n r)) ∧ Below w.heap.size w w' := by
  obtain ⟨vh, vb, vw, rfl, hsl⟩ := h
  have hal := bal (Below.refl w.heap.size w) (.cells #[.bool r.choice, vh, .bool r.sum, .int .i64 r.bound, vb, vw] 41)
  obtain ⟨a1, c1, rfl, -, hl1, -, -⟩ := hsl.head.form
  obtain ⟨a2, c2, rfl, -, hl2, -, -⟩ := hsl.body.form
  obtain ⟨a3, c3, rfl, -, hl3, -, -⟩ := hsl.wts.form
  have HR : Hid (RuleIs (w.alloc (.cells #[.bool r.choice, .slice a1 r.head.length c1, .bool r.sum, .int .i64 r.bound, .slice a2 r.body.length c2, .slice a3 r.w.length c3] 41)) (.agg #[.bool r.choice, .slice a1 r.head.length c1, .bool r.sum, .int .i64 r.bound, .slice a2 r.body.length c2, .slice a3 r.w.length c3]) r) := Lib.hid ⟨_, _, _, rfl, hsl.below hal⟩
  have HB := Lib.hid (hsl.body.below hal)
  have HBK := Lib.hid (Blk.new w [.bool r.choice, .slice a1 r.head.length c1, .bool r.sum, .int .i64 r.bound, .slice a2 r.body.length c2, .slice a3 r.w.length c3] 41)
  have hcn := hn.cell 0
  have hcz := hn.lt
  have HU : Hid (defAt n r = (decide (ruleE r n = 0) && !r.choice && decide (r.head.length ≤ 1) && !anyR r.body.length (fun j => decide (ix r.body j < 0)))) := Lib.hid rfl
  clear hsl hn
  by_cases h1 : ruleE r n = 0
  · have h1' : (ruleE r n != 0) = false := by simp [h1]
    have H1 := Lib.hid h1
    cases h2 : r.choice with
    | true =>
      have HF : Hid (defAt n r = false) := Lib.hid (by rw [HU.out, h2]; simp)
      rw [h2] at HR HBK HB hal
      clear h1
      go_enter Try.func114, Try.ntmps114
      go_wp2_with (first | (go_at_call 40; (with_reducible refine (ctn_def1 _ _ _ (HB.out.below hb1) (fun j => decide (ix r.body j < 0)) (fun w' _ j _ => (neg_any w' _).mono fun e w'' ⟨e1, e2⟩ => ⟨e1, e2 ▸ Below.refl _ _⟩)).mono ?_); rintro e w2 ⟨rfl, hb2⟩) | (go_at_call 17; (with_reducible refine (rule_any _ r n _ HR.out).mono ?_); rintro e w1 ⟨rfl, hb1⟩; have hc1 := bcell hb1; have kk := fun o => (hc1 w.heap.size o (by simp)).trans (HBK.out.cell o)))
      go_ret
      exact ⟨ret_bool (by rw [HF.out]; rfl), bon hal hb1⟩
    | false =>
      rw [h2] at HR HBK HB hal
      by_cases h3 : r.head.length ≤ 1
      · have HF : Hid (defAt n r = !anyR r.body.length (fun j => decide (ix r.body j < 0))) := Lib.hid (by rw [HU.out, h2, decide_eq_true h1, decide_eq_true h3]; simp)
        clear h1
        go_enter Try.func114, Try.ntmps114
        go_wp2_with (first | (go_at_call 40; (with_reducible refine (ctn_def1 _ _ _ (HB.out.below hb1) (fun j => decide (ix r.body j < 0)) (fun w' _ j _ => (neg_any w' _).mono fun e w'' ⟨e1, e2⟩ => ⟨e1, e2 ▸ Below.refl _ _⟩)).mono ?_); rintro e w2 ⟨rfl, hb2⟩) | (go_at_call 17; (with_reducible refine (rule_any _ r n _ HR.out).mono ?_); rintro e w1 ⟨rfl, hb1⟩; have hc1 := bcell hb1; have kk := fun o => (hc1 w.heap.size o (by simp)).trans (HBK.out.cell o)))
        go_ret
        exact ⟨ret_bool (by rw [HF.out, Bool.not_not, decide_eq_false (by omega), Bool.false_or]), bon (bon hal hb1) hb2⟩
      · have HF : Hid (defAt n r = false) := Lib.hid (by rw [HU.out, decide_eq_false h3]; simp)
        clear h1
        go_enter Try.func114, Try.ntmps114
        go_wp2_with (first | (go_at_call 40; (with_reducible refine (ctn_def1 _ _ _ (HB.out.below hb1) (fun j => decide (ix r.body j < 0)) (fun w' _ j _ => (neg_any w' _).mono fun e w'' ⟨e1, e2⟩ => ⟨e1, e2 ▸ Below.refl _ _⟩)).mono ?_); rintro e w2 ⟨rfl, hb2⟩) | (go_at_call 17; (with_reducible refine (rule_any _ r n _ HR.out).mono ?_); rintro e w1 ⟨rfl, hb1⟩; have hc1 := bcell hb1; have kk := fun o => (hc1 w.heap.size o (by simp)).trans (HBK.out.cell o)))
        go_ret
        exact ⟨ret_bool (by rw [HF.out]; rfl), bon hal hb1⟩
  · have h1' : (ruleE r n != 0) = true := by simp [h1]
    have HF : Hid (defAt n r = false) := Lib.hid (by rw [HU.out, decide_eq_false h1]; simp)
    clear h1
    go_enter Try.func114, Try.ntmps114
    go_wp2_with (first | (go_at_call 40; (with_reducible refine (ctn_def1 _ _ _ (HB.out.below hb1) (fun j => decide (ix r.body j < 0)) (fun w' _ j _ => (neg_any w' _).mono fun e w'' ⟨e1, e2⟩ => ⟨e1, e2 ▸ Below.refl _ _⟩)).mono ?_); rintro e w2 ⟨rfl, hb2⟩) | (go_at_call 17; (with_reducible refine (rule_any _ r n _ HR.out).mono ?_); rintro e w1 ⟨rfl, hb1⟩; have hc1 := bcell hb1; have kk := fun o => (hc1 w.heap.size o (by simp)).trans (HBK.out.cell o)))
    go_ret
    exact ⟨ret_bool (by rw [HF.out]; rfl), bon hal hb1⟩

def definiteB (n : Int) (R : List GR) : Bool := decide (0 ≤ n ∧ n ≤ 4000 ∧ R.length ≤ 40000) && allR R.length (fun i => defAt n (ixR R i))

theorem definite_neg (n : Int) (R : List GR) (h : 0 ≤ n ∧ n ≤ 4000 ∧ R.length ≤ 40000) : (!anyR R.length fun i => !defAt n (ixR R i)) = definiteB n R := by
  unfold definiteB anyR allR
  rw [decide_eq_true h, Bool.true_and]
  induction List.range R.length with
  | nil => rfl
  | cons x l ih => simp only [List.any_cons, List.all_cons, Bool.not_or, ih, Bool.not_not]

set_option maxHeartbeats 1000000 in
theorem definite_any (v : Value) (R : List GR) (n : Int) (w : World) (h : RulesIs w v R) :
    Calls Try.prog 108 #[.int .i64 n, v] w fun e w' => e = .returned (.bool (definiteB n R)) ∧ Below w.heap.size w w' := by
  have hal := bal (Below.refl w.heap.size w) (.cells #[.int .i64 n] 3)
  obtain ⟨a1, c1, rfl, -, hl1, -⟩ := h.form
  have HR := Lib.hid (h.below hal)
  have HBK := Lib.hid (Blk.new w [.int .i64 n] 3)
  clear h
  by_cases h1 : n < 0
  · have HF : Hid (definiteB n R = false) := Lib.hid (by unfold definiteB; rw [decide_eq_false (by omega)]; rfl)
    go_enter Try.func108, Try.ntmps108
    go_wp2
    go_ret
    exact ⟨ret_bool HF.out.symm, hal⟩
  · by_cases h2 : 4000 < n
    · have HF : Hid (definiteB n R = false) := Lib.hid (by unfold definiteB; rw [decide_eq_false (by omega)]; rfl)
      go_enter Try.func108, Try.ntmps108
      go_wp2
      go_ret
      exact ⟨ret_bool HF.out.symm, hal⟩
    · by_cases h3 : (40000 : Int) < R.length
      · have HF : Hid (definiteB n R = false) := Lib.hid (by unfold definiteB; rw [decide_eq_false (by omega)]; rfl)
        go_enter Try.func108, Try.ntmps108
        go_wp2
        go_ret
        exact ⟨ret_bool HF.out.symm, hal⟩
      · have HF := Lib.hid (definite_neg n R (by omega))
        go_enter Try.func108, Try.ntmps108
        go_wp2_with (go_at_call 54; (with_reducible refine (ctnR_def _ R _ HR.out (fun i => !defAt n (ixR R i)) _ (fun w' hb j _ u hu => defAt_any u _ n _ w' hu (HBK.out.below hb))).mono ?_); rintro e w1 ⟨rfl, hb1⟩)
        go_ret
        exact ⟨ret_bool HF.out, bon hal hb1⟩

theorem lits_le {l : List Int} {n : Int} (h : orderedB l n = true) (hn : 0 ≤ n) : (l.length : Int) ≤ 2 * n + 2 := by
  have hp : (l.map litKey).Pairwise (· < ·) := by
    rw [List.pairwise_iff_getElem]
    intro i j hi hj hij
    simp only [List.length_map] at hi hj
    have := ordered_lt h j hj i hij
    simpa [ix, List.getD_eq_getElem?_getD, List.getElem?_eq_getElem hi, List.getElem?_eq_getElem hj] using this
  have := lt_length (l.map litKey) 0 (2 * n + 2) hp (fun x hx => by
    obtain ⟨y, hy, rfl⟩ := List.mem_map.1 hx
    have := ordered_lit h hy
    unfold litKey
    split <;> omega) (by omega)
  simpa using this

/-- What definite says. -/
theorem definiteB_spec {n : Int} {R : List GR} (h : definiteB n R = true) : DefR n R := by
  unfold definiteB at h
  simp only [Bool.and_eq_true, decide_eq_true_eq] at h
  obtain ⟨⟨h1, h2, h3⟩, h4⟩ := h
  have h5 := fun i (hi : i < R.length) => allR_get h4 i hi
  have h6 : ∀ i, i < R.length → ruleE (ixR R i) n = 0 ∧ (ixR R i).head.length ≤ 1 ∧ ∀ j, j < (ixR R i).body.length → 0 ≤ ix (ixR R i).body j := fun i hi => by
    have := h5 i hi
    simp only [defAt, Bool.and_eq_true, decide_eq_true_eq, Bool.not_eq_true'] at this
    obtain ⟨⟨⟨a1, a2⟩, a3⟩, a4⟩ := this
    refine ⟨a1, a3, fun j hj => ?_⟩
    by_cases h0 : ix (ixR R i).body j < 0
    · rw [anyR_true j hj (by simp [h0])] at a4; cases a4
    · omega
  have h7 : ∀ i, i < R.length → increasingB (ixR R i).head n = true ∧ orderedB (ixR R i).body n = true ∧ ((ixR R i).sum = true → weightsB (ixR R i).w (ixR R i).body.length = true ∧ 0 ≤ (ixR R i).bound ∧ (ixR R i).bound ≤ 1048576) := fun i hi => by
    have h8 := (h6 i hi).1
    unfold ruleE at h8
    grind
  refine ⟨⟨h1, h2⟩, h3, fun i hi => ⟨(h6 i hi).2.1, fun x hx => ?_⟩, fun i hi => ⟨fun k hk => ?_, ?_⟩, fun i hi hs => ?_, fun i hi hs => ((h7 i hi).2.2 hs).2⟩
  · have h8 := (h7 i hi).1
    have h9 := ordered_lit (increasing_ordered h8) hx
    unfold increasingB at h8
    simp only [Bool.and_eq_true] at h8
    obtain ⟨k, hk, rfl⟩ : ∃ k, k < (ixR R i).head.length ∧ x = ix (ixR R i).head k := by
      obtain ⟨k, hk, e⟩ := List.mem_iff_getElem.1 hx
      exact ⟨k, hk, by simp [ix, List.getD_eq_getElem?_getD, List.getElem?_eq_getElem hk, e]⟩
    have := allR_get h8.2 k hk
    simp only [decide_eq_true_eq] at this
    omega
  · have h8 := (h6 i hi).2.2 k hk
    have h9 := ordered_lit (h7 i hi).2.1 (show ix (ixR R i).body k ∈ (ixR R i).body from by simp [ix, List.getD_eq_getElem?_getD, List.getElem?_eq_getElem hk])
    omega
  · have := lits_le (h7 i hi).2.1 h1
    omega
  · have h8 := ((h7 i hi).2.2 hs).1
    unfold weightsB at h8
    simp only [Bool.and_eq_true, decide_eq_true_eq] at h8
    refine ⟨by omega, fun k hk => ?_⟩
    have := allR_get h8.1 k hk
    simpa using this

end Go.Proofs.Ytdoecchigfdilaa

/- reduct.Rounds$1: the closure that takes a rule's head. -/
namespace Go.Proofs.Ytdoecchigfdilaa
open Go.RowKit
attribute [local go_sem] memUpon


/-- What never turns while the rounds are reckoned. -/
structure RFx (R : List GR) (n : Int) (w w1 : World) (nb ob b9 b6 b3 b8 : Nat) (ar : Option Addr) (cr : Nat) : Prop where
  need : Blk w1 b6 [.slice (some ⟨nb, 0, none⟩) R.length R.length] 23
  out : Blk w1 b8 [.slice (some ⟨ob, 0, none⟩) n.toNat n.toNat] 23
  rbox : Blk w1 b3 [.slice ar R.length cr] 24
  rules : RulesIs w (.slice ar R.length cr) R
  below : Below w.heap.size w w1
  lo : w.heap.size ≤ nb ∧ w.heap.size ≤ ob ∧ w.heap.size ≤ b9 ∧ w.heap.size ≤ b6 ∧ w.heap.size ≤ b3 ∧ w.heap.size ≤ b8
  lt : nb < w1.heap.size ∧ ob < w1.heap.size ∧ b9 < w1.heap.size
  ne : nb ≠ ob ∧ nb ≠ b9 ∧ ob ≠ b9 ∧ b6 ≠ nb ∧ b6 ≠ ob ∧ b6 ≠ b9 ∧ b8 ≠ nb ∧ b8 ≠ ob ∧ b8 ≠ b9 ∧ b3 ≠ nb ∧ b3 ≠ ob ∧ b3 ≠ b9

/-- What turns: the need, the rounds, what is new. -/
structure RSt (w1 : World) (nb ob b9 : Nat) (nd od l : List Int) (wx : World) : Prop where
  lim : Lim w1.heap.size [nb, ob, b9] w1 wx
  need : Blk wx nb (nd.map (Value.int .i64)) 3
  out : Blk wx ob (od.map (Value.int .i64)) 3
  now : ∃ an cn, Blk wx b9 [.slice an l.length cn] 23 ∧ QRow w1.heap.size wx (.slice an l.length cn) l

section
variable {R : List GR} {n : Int} {w w1 wx w' : World} {nb ob b9 b6 b3 b8 : Nat} {ar : Option Addr} {cr : Nat} {nd od l : List Int}

theorem RSt.on (h : RSt w1 nb ob b9 nd od l wx) (hb : Below wx.heap.size wx w') : RSt w1 nb ob b9 nd od l w' := by
  obtain ⟨an, cn, h1, h2⟩ := h.now
  exact ⟨h.lim.trans (.of_below hb h.lim.size), h.need.below hb, h.out.below hb, an, cn, h1.below hb, h2.kept fun i _ hi _ => hb.block i hi⟩

theorem RFx.at (hf : RFx R n w w1 nb ob b9 b6 b3 b8 ar cr) (h : RSt w1 nb ob b9 nd od l wx) :
    Blk wx b6 [.slice (some ⟨nb, 0, none⟩) R.length R.length] 23 ∧ Blk wx b8 [.slice (some ⟨ob, 0, none⟩) n.toNat n.toNat] 23 ∧ Blk wx b3 [.slice ar R.length cr] 24 ∧ Below w.heap.size w wx := by
  have hn := hf.ne
  have k : ∀ b, b < w1.heap.size → b ≠ nb → b ≠ ob → b ≠ b9 → wx.heap[b]? = w1.heap[b]? := fun b h1 h2 h3 h4 => h.lim.block b h1 (by simp [h2, h3, h4])
  refine ⟨hf.need.same (k _ hf.need.lt (by omega) (by omega) (by omega)), hf.out.same (k _ hf.out.lt (by omega) (by omega) (by omega)), hf.rbox.same (k _ hf.rbox.lt (by omega) (by omega) (by omega)), hf.below.trans ((h.lim.mono hf.below.size (fun i hi _ => hi)).below (fun i hi => ?_))⟩
  have := hf.lo
  simp only [List.mem_cons, List.not_mem_nil, or_false] at hi
  rcases hi with rfl | rfl | rfl <;> omega

theorem mapI_at (l : List Int) (i : Nat) (hi : i < l.length) : (l.map (Value.int .i64))[i]? = some (.int .i64 (ix l i)) := by
  simp [ix, List.getD_eq_getElem?_getD, List.getElem?_eq_getElem hi]

theorem mapI_setL (l : List Int) (i : Nat) (v : Int) : (l.map (Value.int .i64)).set i (.int .i64 v) = (l.set i v).map (Value.int .i64) := by
  rw [List.map_set]

/-- A store into the list of the rounds. -/
theorem RSt.setOut (h : RSt w1 nb ob b9 nd od l wx) (hne : nb ≠ ob ∧ ob ≠ b9) (hlt : ob < w1.heap.size) (i : Nat) (v : Int) : RSt w1 nb ob b9 nd (od.set i v) l (wx.setCell ⟨ob, i, none⟩ (.int .i64 v)) := by
  obtain ⟨an, cn, h1, h2⟩ := h.now
  refine ⟨h.lim.trans (.setCell _ (.inl (by simp))), h.need.setOther _ _ hne.1, by rw [← mapI_setL]; exact h.out.set _ _, an, cn, h1.setOther _ _ (fun e => hne.2 e.symm), h2.kept fun j hj _ _ => Below.heap_setCell _ _ _ _ (show j ≠ ob by omega)⟩

theorem RSt.setNeed (h : RSt w1 nb ob b9 nd od l wx) (hne : nb ≠ ob ∧ nb ≠ b9) (hlt : nb < w1.heap.size) (i : Nat) (v : Int) : RSt w1 nb ob b9 (nd.set i v) od l (wx.setCell ⟨nb, i, none⟩ (.int .i64 v)) := by
  obtain ⟨an, cn, h1, h2⟩ := h.now
  refine ⟨h.lim.trans (.setCell _ (.inl (by simp))), by rw [← mapI_setL]; exact h.need.set _ _, h.out.setOther _ _ (fun e => hne.1 e.symm), an, cn, h1.setOther _ _ (fun e => hne.2 e.symm), h2.kept fun j hj _ _ => Below.heap_setCell _ _ _ _ (show j ≠ nb by omega)⟩

theorem QRow.slenQ {base : Nat} {w : World} {v : Value} {l : List Int} (h : QRow base w v l) : ∃ a c, v = .slice a l.length c := by
  rcases h.2 with ⟨rfl, rfl⟩ | ⟨g, off, cap, cur, rfl, _⟩
  · exact ⟨_, _, rfl⟩
  · exact ⟨_, _, rfl⟩

theorem RSt.push {an : Option Addr} {cn : Nat} {v4 : Value} {x : Int} {w4 : World} (h : RSt w1 nb ob b9 nd od l wx) (hb : Blk wx b9 [.slice an l.length cn] 23) (hq : QRow w1.heap.size wx (.slice an l.length cn) l) (hne : nb ≠ b9 ∧ ob ≠ b9) (hlt : nb < w1.heap.size ∧ ob < w1.heap.size ∧ b9 < w1.heap.size)
    (hq4 : QRow w1.heap.size w4 v4 (l ++ [x])) (hg : wx.grownBy w4 (Value.slice an l.length cn).ownBlock) : Blk w4 b9 [.slice an l.length cn] 23 ∧ RSt w1 nb ob b9 nd od (l ++ [x]) (w4.setCell ⟨b9, 0, none⟩ v4) := by
  have hlow : ∀ i, i < w1.heap.size → some i ≠ (Value.slice an l.length cn).ownBlock := fun i hi e => by
    rcases hq.2 with ⟨e2, _⟩ | ⟨g, off, cap, cur, e2, hbg, _⟩
    · rw [e2] at e; cases e
    · rw [e2] at e; simp only [Value.ownBlock, Option.some.injEq] at e; omega
  have hs := h.lim.size
  have hk : ∀ i, i < w1.heap.size → w4.heap[i]? = wx.heap[i]? := fun i hi => hg.block i (by omega) (hlow i hi)
  obtain ⟨a4, c4, rfl⟩ := hq4.slenQ
  have hb4 := hb.same (hk _ hlt.2.2)
  refine ⟨hb4, ⟨(h.lim.trans ⟨hg.os, hg.tape, hg.output, hg.size, fun i hi _ => hk i hi⟩).trans (.setCell _ (.inl (by simp))), (h.need.same (hk _ hlt.1)).setOther _ _ hne.1, (h.out.same (hk _ hlt.2.1)).setOther _ _ hne.2, a4, c4, hb4.set 0 _, hq4.kept fun i hi _ _ => Below.heap_setCell _ _ _ _ (show i ≠ b9 by omega)⟩⟩

/-- What a rule's asking does. -/
def ReachP (R : List GR) (nd : List Int) (i : Nat) (round : Int) (od l od' l' : List Int) : Prop :=
  (od' = od ∧ l' = l ∧ (ix nd i ≤ 0 → ∀ x ∈ (ixR R i).head, ix od (x - 1).toNat ≠ 0)) ∨
    (ix nd i ≤ 0 ∧ ∃ x, (ixR R i).head = [x] ∧ ix od (x - 1).toNat = 0 ∧ od' = od.set (x - 1).toNat round ∧ l' = l ++ [x])

/-- The law of one asking. -/
theorem Lv.reach {C od' l' : List Int} (hd : DefR n R) (h : Lv n R C l od nd) (hp : Paid R C nd) {i : Nat} (hi : i < R.length) {round : Int} (hr : 1 ≤ round ∧ round ≤ 4000000) (hx : ReachP R nd i round od l od' l') :
    Lv n R C l' od' nd ∧ (∀ x ∈ C ++ l, x ∈ C ++ l') ∧ (ix nd i ≤ 0 → ∀ x ∈ (ixR R i).head, x ∈ C ++ l') := by
  rcases hx with ⟨rfl, rfl, h1⟩ | ⟨h0, x, e, ho, rfl, rfl⟩
  · refine ⟨h, fun _ h => h, fun h0 x hx => ?_⟩
    have hxr := (hd.head i hi).2 x hx
    have ho := h.out x hxr.1 hxr.2
    have := h1 h0 x hx
    exact ho.1.1 (by omega)
  · refine ⟨h.take hd hp hi h0 e ho hr, fun y hy => by rw [← List.append_assoc]; exact List.mem_append_left _ hy, fun _ y hy => ?_⟩
    rw [e] at hy
    simp only [List.mem_singleton] at hy
    subst hy
    simp

theorem Asked.reach {A A' : List Int} {T T' : Nat → Prop} {i : Nat} (h : Asked R A nd T) (hA : ∀ x ∈ A, x ∈ A') (hi : ix nd i ≤ 0 → ∀ x ∈ (ixR R i).head, x ∈ A') (hT : ∀ j, T j → j = i ∨ T' j) : Asked R A' nd T' := fun j hj h0 => by
  rcases h j hj h0 with h1 | h1
  · exact .inl fun x hx => hA x (h1 x hx)
  · rcases hT j h1 with rfl | h2
    · exact .inl (hi h0)
    · exact .inr h2

/-- What the operations of the append leave. -/
def app2Φ (x : Int) : Nat → List Value → Value → Nat → Nat → World → Prop
  | _, _, v, lo, hi, w => v = .slice (some ⟨lo, 0, none⟩) 1 1 ∧ lo < hi ∧ Blk w lo [.int .i64 x] 3

theorem app2Φ_later (x : Int) : ∀ i args v lo hi w w', app2Φ x i args v lo hi w → Below w.heap.size w w' → app2Φ x i args v lo hi w' := by
  intro i args v lo hi w w' h hb
  obtain ⟨e, hl, h⟩ := h
  exact ⟨e, hl, h.below hb⟩

set_option maxHeartbeats 4000000 in
set_option maxRecDepth 100000 in
theorem reach_any (hd : DefR n R) (hf : RFx R n w w1 nb ob b9 b6 b3 b8 ar cr) (h : RSt w1 nb ob b9 nd od l wx) (hnl : nd.length = R.length) (hol : (od.length : Int) = n) (hll : l.length ≤ 4000) (i : Nat) (hi : i < R.length) (round : Int) :
    Calls Try.prog 109 #[.int .i64 i, .int .i64 round, .pointer (some ⟨b6, 0, none⟩), .pointer (some ⟨b3, 0, none⟩), .pointer (some ⟨b8, 0, none⟩), .pointer (some ⟨b9, 0, none⟩)] wx fun e w' =>
      e = .returned (.tuple #[]) ∧ ∃ od' l', RSt w1 nb ob b9 nd od' l' w' ∧ ReachP R nd i round od l od' l' := by
  obtain ⟨h6, h8, h3, hbw⟩ := hf.at h
  obtain ⟨a1, c1, e1, -, hl1, -, hcell⟩ := hf.rules.form
  simp only [Value.slice.injEq, true_and] at e1
  obtain ⟨rfl, rfl⟩ := e1
  obtain ⟨b, off, rfl, hbl, hc⟩ := hcell (by omega)
  obtain ⟨vh, vb, vw, ⟨-, q1, -⟩, hsl⟩ := hc i hi
  obtain ⟨a3, c3, rfl, -, hl3, -, hcell3⟩ := hsl.head.form
  have hhd := hd.head i hi
  have hrng := hd.rng
  have hlen := hd.len
  have hi' : i < nd.length := by omega
  have HKR : Hid (∀ w', Below w.heap.size w w' → w'.cell? ⟨b, off + i * 6 + 1, none⟩ = some (.slice a3 (ixR R i).head.length c3)) := Lib.hid (fun w' hb => (bcell hb _ _ hbl).trans q1)
  have k6 : ∀ e : Ext wx, e.world.cell? ⟨b6, 0, none⟩ = some (.slice (some ⟨nb, 0, none⟩) R.length R.length) := fun e => (bcell e.below _ _ h6.lt).trans (h6.cell 0)
  have k8 : ∀ e : Ext wx, e.world.cell? ⟨b8, 0, none⟩ = some (.slice (some ⟨ob, 0, none⟩) n.toNat n.toNat) := fun e => (bcell e.below _ _ h8.lt).trans (h8.cell 0)
  have k3 : ∀ e : Ext wx, e.world.cell? ⟨b3, 0, none⟩ = some (.slice (some ⟨b, off, none⟩) R.length cr) := fun e => (bcell e.below _ _ h3.lt).trans (h3.cell 0)
  have kn : ∀ e : Ext wx, e.world.cell? ⟨nb, i, none⟩ = some (.int .i64 (ix nd i)) := fun e => (bcell e.below _ _ h.need.lt).trans ((h.need.cell i).trans (mapI_at nd i hi'))
  have kr : ∀ e : Ext wx, e.world.cell? ⟨b, off + i * 6 + 1, none⟩ = some (.slice a3 (ixR R i).head.length c3) := fun e => HKR.out _ (bon hbw e.below)
  have HS := Lib.hid h
  have HF := Lib.hid hf
  have HHD := Lib.hid hhd.2
  have HBW := Lib.hid hbw
  have hh1 := hhd.1
  have HB6 := Lib.hid h6
  have HB8 := Lib.hid h8
  have HB3 := Lib.hid h3
  clear hhd hsl hc q1 hf h h6 h8 h3 hbw
  by_cases c1' : ix nd i ≤ 0
  · by_cases c2 : (ixR R i).head.length = 0
    · have HE : Hid ((ixR R i).head = []) := Lib.hid (List.eq_nil_of_length_eq_zero c2)
      have HC := Lib.hid hcell3
      clear hcell3
      go_enter Try.func109, Try.ntmps109
      go_wp2
      refine wp_region_ext (by kernel_rfl) (by kernel_rfl) ?_
      repeat (go_big_quiet_step (fail))
      refine wpQuiet_nil ?_
      intro w9 hw'
      obtain ⟨e9, he9⟩ := hw'
      have hb9 := e9.below
      rw [← he9] at hb9
      clear he9 e9
      try dsimp only
      go_wp2
      refine bodyPost_end (v := .tuple #[]) ?_ rfl ?_
      · simp [results, Try.results109, go_sem]
      · exact ⟨rfl, od, l, HS.out.on hb9, .inl ⟨rfl, rfl, fun _ x hx => by rw [HE.out] at hx; simp at hx⟩⟩
    · obtain ⟨x, hx⟩ : ∃ x, (ixR R i).head = [x] := by
        match hh : (ixR R i).head, hh1, c2 with
        | [], _, h => exact absurd rfl h
        | [x], _, _ => exact ⟨x, rfl⟩
        | x :: y :: t, h, _ => simp at h
      have hx1 := HHD.out x (by rw [hx]; simp)
      obtain ⟨m, rfl⟩ : ∃ m : Nat, x = (m : Int) + 1 := ⟨(x - 1).toNat, by omega⟩
      obtain ⟨bh, offh, rfl, hbh, hch⟩ := hcell3 (by omega)
      have kx : ∀ e : Ext wx, e.world.cell? ⟨bh, offh, none⟩ = some (.int .i64 ((m : Int) + 1)) := fun e => (bcell (bon HBW.out e.below) _ _ hbh).trans ((hch 0 (by omega)).trans (by rw [hx]; rfl))
      have HKX : Hid (∀ w', Below w.heap.size w w' → w'.cell? ⟨bh, offh, none⟩ = some (.int .i64 ((m : Int) + 1))) := Lib.hid (fun w' hb => (bcell hb _ _ hbh).trans ((hch 0 (by omega)).trans (by rw [hx]; rfl)))
      have hml : m < n.toNat := by omega
      have hmo : m < od.length := by omega
      have kod : ∀ e : Ext wx, e.world.cell? ⟨ob, m, none⟩ = some (.int .i64 (ix od m)) := fun e => (bcell e.below _ _ HS.out.out.lt).trans ((HS.out.out.cell m).trans (mapI_at od m hmo))
      have HX := Lib.hid hx
      have hlen1 : (ixR R i).head.length = 1 := by rw [hx]; rfl
      have hmm : ((m : Int) + 1 - 1).toNat = m := by omega
      have HMM := Lib.hid hmm
      have hwm : IntKind.i64.wrap ((m : Int) + 1 - 1) = (m : Int) := by rw [IntKind.wrap_i64]; omega
      clear hx hx1 hch hmm hh1 c2
      by_cases ho : ix od m = 0
      · have HO := Lib.hid ho
        have HR0 : Hid (InI ((m : Int) + 1)) := Lib.hid (by unfold InI; omega)
        go_enter Try.func109, Try.ntmps109
        go_wp2
        refine wp_region_ext (by kernel_rfl) (by kernel_rfl) ?_
        repeat (go_big_quiet_step (fail))
        refine wpQuiet_nil ?_
        intro w9 hw'
        obtain ⟨e9, he9⟩ := hw'
        have hb9 := e9.below
        rw [← he9] at hb9
        clear he9 e9
        try dsimp only
        have hs9 := HS.out.on hb9
        obtain ⟨g6, g8, g3, gbw⟩ := HF.out.at hs9
        have HS9 := Lib.hid hs9
        have HG9 := Lib.hid gbw
        clear k6 k8 k3 kn kr kx kod
        have k8 : ∀ e : Ext w9, e.world.cell? ⟨b8, 0, none⟩ = some (.slice (some ⟨ob, 0, none⟩) n.toNat n.toNat) := fun e => (bcell e.below _ _ g8.lt).trans (g8.cell 0)
        have k3 : ∀ e : Ext w9, e.world.cell? ⟨b3, 0, none⟩ = some (.slice (some ⟨b, off, none⟩) R.length cr) := fun e => (bcell e.below _ _ g3.lt).trans (g3.cell 0)
        have kr : ∀ e : Ext w9, e.world.cell? ⟨b, off + i * 6 + 1, none⟩ = some (.slice (some ⟨bh, offh, none⟩) (ixR R i).head.length c3) := fun e => HKR.out _ (bon HG9.out e.below)
        have kx : ∀ e : Ext w9, e.world.cell? ⟨bh, offh, none⟩ = some (.int .i64 ((m : Int) + 1)) := fun e => HKX.out _ (bon HG9.out e.below)
        clear hs9 gbw g6 g8 g3 hb9
        go_upto_region 1 with fail
        refine wp_region_tail' 11 (fun _ => True) (fun _ _ _ _ _ _ => False) (fun _ => false) (by kernel_rfl) (by kernel_rfl) (by kernel_rfl) (fun _ _ => trivial) (fun _ _ _ _ _ _ _ h _ => h) ?_
        simp only [List.take_succ_cons, List.take_zero, List.drop_succ_cons, List.drop_zero]
        iterate 11 (refine walkP_head (by kernel_rfl) rfl rfl rfl (fun K hK => ?_); go_big_quiet_op; refine hK _ ?_; clear hK K)
        intro wy hby hF hI hP
        clear hF hI hP
        have hsy := HS9.out.on hby
        have ky : wy.cell? ⟨ob, m, none⟩ = some (.int .i64 (ix od m)) := (hsy.out.cell m).trans (mapI_at od m hmo)
        have fy := hsy.out.free m
        have HSY := Lib.hid (hsy.setOut ⟨HF.out.ne.1, HF.out.ne.2.2.1⟩ HF.out.lt.2.1 m round)
        clear hsy hby
        refine ⟨rfl, rfl, ?_⟩
        go_simp
        simp only [tailW]
        clear ky fy k8 k3 kr kx
        generalize wy.setCell ⟨ob, m, none⟩ (.int .i64 round) = W2 at *
        go_upto_region 2 with fail
        obtain ⟨g6, g8, g3, gbw⟩ := HF.out.at HSY.out
        obtain ⟨an, cn, hbn, hqn⟩ := HSY.out.now
        have HG2 := Lib.hid gbw
        have k9 : ∀ e : Ext W2, e.world.cell? ⟨b9, 0, none⟩ = some (.slice an l.length cn) := fun e => (bcell e.below _ _ hbn.lt).trans (hbn.cell 0)
        have k3 : ∀ e : Ext W2, e.world.cell? ⟨b3, 0, none⟩ = some (.slice (some ⟨b, off, none⟩) R.length cr) := fun e => (bcell e.below _ _ g3.lt).trans (g3.cell 0)
        have kr : ∀ e : Ext W2, e.world.cell? ⟨b, off + i * 6 + 1, none⟩ = some (.slice (some ⟨bh, offh, none⟩) (ixR R i).head.length c3) := fun e => HKR.out _ (bon HG2.out e.below)
        have kx : ∀ e : Ext W2, e.world.cell? ⟨bh, offh, none⟩ = some (.int .i64 ((m : Int) + 1)) := fun e => HKX.out _ (bon HG2.out e.below)
        have HBN := Lib.hid hbn
        have HQN := Lib.hid hqn
        clear g6 g8 g3 gbw hbn hqn
        refine wp_region_tail' 9 (fun _ => True) (app2Φ ((m : Int) + 1)) (fun i => i == 8) (by kernel_rfl) (by kernel_rfl) (by kernel_rfl) (fun _ _ => trivial) (app2Φ_later _) ?_
        simp only [List.take_succ_cons, List.take_zero, List.drop_succ_cons, List.drop_zero]
        iterate 8 (refine walkP_head (by kernel_rfl) rfl rfl rfl (fun K hK => ?_); go_big_quiet_op; refine hK _ ?_; clear hK K)
        refine walkP_mem rfl rfl (fun wa hba hFa => ?_) (fun v8 lo8 hi8 l8 g8 h8 => ?_)
        · go_simp
          exact ⟨bal (Below.refl _ _) _, rfl, by simp, Blk.new _ [.int .i64 ((m : Int) + 1)] _⟩
        obtain ⟨_, rfl, -, -⟩ := h8
        simp only [Act.put, List.setIfInBounds_toArray, List.set_cons_succ, List.set_cons_zero]
        intro wy2 hby2 hF hI hP
        obtain ⟨-, -, F8⟩ := hF _ (.head _)
        clear hF hI hP
        have hsy := HSY.out.on hby2
        have hbn := HBN.out.below hby2
        have hqn := HQN.out.kept (w' := wy2) (fun i _ hi _ => hby2.block i hi)
        have HSZ := Lib.hid hsy
        have HBZ := Lib.hid hbn
        have HQZ := Lib.hid hqn
        have hzy := hsy.lim.size
        have hll8 : (l.length + 1) * 8 ≤ 140737488351232 := by omega
        clear hsy hbn hqn hby2 k9 k3 kr kx
        refine ⟨rfl, rfl, wp_appendQ _ _ 23 Try.underlying23 rfl w1.heap.size (.slice an l.length cn) l ((m : Int) + 1) rfl HQZ.out lo8 1 rfl F8 HR0.out hll8 hzy ?_⟩
        intro v4 w4 hq4 hg4 hl4
        have hpp := HSZ.out.push HBZ.out HQZ.out ⟨HF.out.ne.2.1, HF.out.ne.2.2.1⟩ HF.out.lt hq4 hg4
        have k9 := hpp.1.cell 0
        have f9 := hpp.1.free 0
        have HPP := Lib.hid hpp.2
        obtain ⟨a4, n4, c4, rfl⟩ := hq4.form
        clear hpp hq4 hg4 hl4
        refine ⟨trivial, rfl, rfl, ?_⟩
        go_simp
        simp only [tailW]
        refine bodyPost_end (v := .tuple #[]) ?_ rfl ?_
        · simp [results, Try.results109, go_sem]
        · exact ⟨rfl, _, _, HPP.out, .inr ⟨c1', (m : Int) + 1, HX.out, by rw [HMM.out]; exact HO.out, by rw [HMM.out], rfl⟩⟩
      · have ho' : (ix od m == 0) = false := by simp [ho]
        have HO := Lib.hid ho
        clear ho
        go_enter Try.func109, Try.ntmps109
        go_wp2
        refine wp_region_ext (by kernel_rfl) (by kernel_rfl) ?_
        repeat (go_big_quiet_step (fail))
        refine wpQuiet_nil ?_
        intro w9 hw'
        obtain ⟨e9, he9⟩ := hw'
        have hb9 := e9.below
        rw [← he9] at hb9
        clear he9 e9
        try dsimp only
        go_wp2
        refine bodyPost_end (v := .tuple #[]) ?_ rfl ?_
        · simp [results, Try.results109, go_sem]
        · exact ⟨rfl, od, l, HS.out.on hb9, .inl ⟨rfl, rfl, fun _ y hy => by rw [HX.out] at hy; simp only [List.mem_singleton] at hy; subst hy; rw [HMM.out]; exact HO.out⟩⟩
  · have c1'' : decide (ix nd i ≤ 0) = false := decide_eq_false c1'
    have HC1 := Lib.hid c1'
    have HC := Lib.hid hcell3
    clear hcell3 c1'
    go_enter Try.func109, Try.ntmps109
    go_wp2
    refine wp_region_ext (by kernel_rfl) (by kernel_rfl) ?_
    repeat (go_big_quiet_step (fail))
    refine wpQuiet_nil ?_
    intro w9 hw'
    obtain ⟨e9, he9⟩ := hw'
    have hb9 := e9.below
    rw [← he9] at hb9
    clear he9 e9
    try dsimp only
    go_wp2
    refine bodyPost_end (v := .tuple #[]) ?_ rfl ?_
    · simp [results, Try.results109, go_sem]
    · exact ⟨rfl, od, l, HS.out.on hb9, .inl ⟨rfl, rfl, fun h => by have := HC1.out; omega⟩⟩
end

end Go.Proofs.Ytdoecchigfdilaa

/- The table of uses: rows of pairs, each in its own block. -/
namespace Go.Proofs.Ytdoecchigfdilaa
open Go.RowKit

theorem infoU : (Try.prog.info? 125).map (fun i => (i.zero, i.size, i.bytes)) = some (some (.slice none 0 0), 1, 24) := by kernel_rfl
theorem infoA : (Try.prog.info? 126).map (fun i => (i.zero, i.size, i.bytes)) = some (some (.agg #[.int .i64 0, .int .i64 0]), 2, 16) := by kernel_rfl

def cells2 (u : Int × Int) : List Value := [.int .i64 u.1, .int .i64 u.2]

/-- append of one pair to a row of the call's own. -/
theorem wp_appendU {o : Oper} {a : Act} {w : World} {K : Act → World → Prop} {Q : Exit → Act → World → Prop} (s x : Operand) (T : TypeId) (hT : Try.prog.underlying T = some (.slice 126))
    (ho : o.op = .call { callee := .builtin .append, args := #[s, x], argTypes := #[T, T] }) (base : Nat) (v : Value) (n : Nat) (xs : List Value) (u : Int × Int) (hs : a.eval s = v) (hown : w.ownsRow base 126 2 v n xs)
    (g0 c : Nat) (hx : a.eval x = .slice (some ⟨g0, 0, none⟩) 1 c) (hb : Blk w g0 (cells2 u) 126) (hlen : (n + 1) * 16 ≤ 140737488351232) (hbase : base ≤ w.heap.size)
    (h : ∀ g cap w', w'.ownsRow base 126 2 (.slice (some ⟨g, 0, none⟩) (n + 1) cap) (n + 1) (xs ++ cells2 u) → w.grownBy w' v.ownBlock →
      (v.ownBlock = some g ∨ g = w.heap.size) → g < w'.heap.size → K (a.put o.dst (.slice (some ⟨g, 0, none⟩) (n + 1) cap)) w') : o.wp Try.prog a w K Q := by
  have hi := infoA
  obtain ⟨i, hi, he⟩ := Option.map_eq_some_iff.1 hi
  simp only [Prod.mk.injEq] at he
  refine wp_append_lies w s x T ho base 126 i _ 2 16 hT hi he.1 he.2.1 he.2.2 rfl (by decide) v n _ hs hown ⟨g0, 0, none⟩ 1 c (cells2 u) hx rfl (newsOf hb) (by simp [cells2, Value.oneCell']) (by omega) (by unfold maxLen; omega) (by omega) hbase _ rfl ?_
  exact h

/-- The table lies in block tb, its rows in blocks from B on. -/
structure UT (nn B tb : Nat) (V : List Value) (U : Int → List (Int × Int)) (w : World) : Prop where
  tab : Blk w tb V 125
  len : V.length = nn + 1
  row : ∀ a : Nat, a ≤ nn → w.ownsRow B 126 2 (V.getD a nilS) (U a).length ((U a).flatMap cells2)
  dis : ∀ a a' : Nat, ∀ g, a ≤ nn → a' ≤ nn → (V.getD a nilS).ownBlock = some g → (V.getD a' nilS).ownBlock = some g → a = a'
  lo : tb < B ∧ B ≤ w.heap.size

section
variable {nn B tb : Nat} {V : List Value} {U : Int → List (Int × Int)} {w w' : World}

theorem UT.kept (h : UT nn B tb V U w) (hs : w.heap.size ≤ w'.heap.size) (hb : ∀ i, (i = tb ∨ B ≤ i) → i < w.heap.size → w'.heap[i]? = w.heap[i]?) : UT nn B tb V U w' := by
  refine ⟨h.tab.same (hb _ (.inl rfl) h.tab.lt), h.len, fun a ha => ⟨(h.row a ha).1, ?_⟩, h.dis, h.lo.1, by have := h.lo; omega⟩
  rcases (h.row a ha).2 with hn | ⟨g, cap, cur, e, hbg, hgg, rest⟩
  · exact .inl hn
  · exact .inr ⟨g, cap, cur, e, hbg, (hb g (.inr hbg) (Array.getElem?_eq_some_iff.1 hgg).1).trans hgg, rest⟩

theorem UT.below (h : UT nn B tb V U w) (hb : Below w.heap.size w w') : UT nn B tb V U w' := h.kept hb.size fun i _ hi => hb.block i hi

theorem row_block {base E size n : Nat} {xs : List Value} {v : Value} {g : Nat} (h : w.ownsRow base E size v n xs) (hg : v.ownBlock = some g) : base ≤ g ∧ g < w.heap.size := by
  rcases h.2 with ⟨rfl, _⟩ | ⟨g', cap, cur, rfl, hb, hgg, _⟩
  · cases hg
  · simp only [Value.ownBlock, Option.some.injEq] at hg
    subst hg
    exact ⟨hb, (Array.getElem?_eq_some_iff.1 hgg).1⟩

theorem getDV_set (V : List Value) (a b : Nat) (v : Value) (ha : a < V.length) : (V.set a v).getD b nilS = if b = a then v else V.getD b nilS := by
  simp only [List.getD_eq_getElem?_getD]
  by_cases h : b = a
  · subst h; rw [if_pos rfl, List.getElem?_set_self ha]; rfl
  · rw [if_neg h, List.getElem?_set_ne (by omega)]

/-- A row has been appended to, and is stored again. -/
theorem UT.push (h : UT nn B tb V U w) (a : Nat) (ha : a ≤ nn) (u : Int × Int) {g cap : Nat} (hown : w'.ownsRow B 126 2 (.slice (some ⟨g, 0, none⟩) ((U a).length + 1) cap) ((U a).length + 1) ((U a).flatMap cells2 ++ cells2 u))
    (hg : w.grownBy w' (V.getD a nilS).ownBlock) (hl : (V.getD a nilS).ownBlock = some g ∨ g = w.heap.size) :
    Blk w' tb V 125 ∧ UT nn B tb (V.set a (.slice (some ⟨g, 0, none⟩) ((U a).length + 1) cap)) (fun b => if b = (a : Int) then U b ++ [u] else U b) (w'.setCell ⟨tb, a, none⟩ (.slice (some ⟨g, 0, none⟩) ((U a).length + 1) cap)) := by
  have hlo := h.lo
  have hrow : ∀ g', (V.getD a nilS).ownBlock = some g' → B ≤ g' := fun g' e => (row_block (h.row a ha) e).1
  have htab : Blk w' tb V 125 := h.tab.same (hg.block _ h.tab.lt (fun e => by have := hrow _ e.symm; omega))
  refine ⟨htab, htab.set _ _, by simpa using h.len, fun b hb => ?_, fun b b' g' hb hb' => ?_, hlo.1, by have := hg.size; simp [World.setCell]; omega⟩
  · rw [getDV_set V a b _ (by have := h.len; omega)]
    have setK : ∀ {v : Value} {n : Nat} {xs : List Value} {nv : Value}, w'.ownsRow B 126 2 v n xs → (w'.setCell ⟨tb, a, none⟩ nv).ownsRow B 126 2 v n xs := fun {v n xs nv} hr => by
      refine ⟨hr.1, ?_⟩
      rcases hr.2 with hn | ⟨g', cap, cur, e, hbg, hgg, rest⟩
      · exact .inl hn
      · exact .inr ⟨g', cap, cur, e, hbg, (Below.heap_setCell _ _ _ _ (show g' ≠ tb by omega)).trans hgg, rest⟩
    by_cases e : b = a
    · subst e
      rw [if_pos rfl]
      simp only [if_true, List.length_append, List.length_singleton, List.flatMap_append, List.flatMap_cons, List.flatMap_nil, List.append_nil]
      exact setK hown
    · rw [if_neg e]
      simp only [show ¬ ((b : Int) = (a : Int)) by omega, if_false]
      refine setK ⟨(h.row b hb).1, ?_⟩
      rcases (h.row b hb).2 with hn | ⟨g', cap', cur, e', hbg, hgg, rest⟩
      · exact .inl hn
      · refine .inr ⟨g', cap', cur, e', hbg, (hg.block g' (Array.getElem?_eq_some_iff.1 hgg).1 (fun e2 => e (h.dis b a g' hb ha (by rw [e']; rfl) e2.symm))).trans hgg, rest⟩
  · have hlen := h.len
    rw [getDV_set V a b _ (by omega), getDV_set V a b' _ (by omega)]
    have key : ∀ c : Nat, c ≤ nn → c ≠ a → (V.getD c nilS).ownBlock ≠ some g := fun c hc hca e => by
      rcases hl with hl | hl
      · exact hca (h.dis c a g hc ha e hl)
      · have := (row_block (h.row c hc) e).2; omega
    by_cases e1 : b = a
    · by_cases e2 : b' = a
      · intro _ _; omega
      · rw [if_pos e1, if_neg e2]
        intro h1 h2
        simp only [Value.ownBlock, Option.some.injEq] at h1
        exact absurd (h1 ▸ h2) (key b' hb' e2)
    · by_cases e2 : b' = a
      · rw [if_neg e1, if_pos e2]
        intro h1 h2
        simp only [Value.ownBlock, Option.some.injEq] at h2
        exact absurd (h2 ▸ h1) (key b hb e1)
      · rw [if_neg e1, if_neg e2]
        exact h.dis b b' g' hb hb'

/-- The row of an atom. -/
theorem UT.cell (h : UT nn B tb V U w) (a : Nat) (ha : a ≤ nn) : w.cell? ⟨tb, a, none⟩ = some (V.getD a nilS) := by
  rw [h.tab.cell]
  have := h.len
  rw [List.getElem?_eq_getElem (by omega)]
  simp [List.getD_eq_getElem?_getD, List.getElem?_eq_getElem (show a < V.length by omega)]

theorem flat2 : ∀ (L : List (Int × Int)) (i : Nat), i < L.length → (L.flatMap cells2)[i * 2]? = some (.int .i64 (L.getD i (0, 0)).1) ∧ (L.flatMap cells2)[i * 2 + 1]? = some (.int .i64 (L.getD i (0, 0)).2)
  | [], i, hi => absurd hi (Nat.not_lt_zero _)
  | q :: L, 0, _ => by simp [cells2]
  | q :: L, i + 1, hi => by
    have ih := flat2 L i (by simpa using hi)
    have e1 : (i + 1) * 2 = i * 2 + 1 + 1 := by omega
    simp only [List.flatMap_cons, cells2, List.cons_append, List.nil_append, e1, List.getElem?_cons_succ, List.getD_cons_succ]
    exact ih

theorem UT.at (h : UT nn B tb V U w) (a : Nat) (ha : a ≤ nn) : ∃ ad cap, V.getD a nilS = .slice ad (U a).length cap ∧ ∀ j, j < (U a).length → ∃ g, ad = some ⟨g, 0, none⟩ ∧ B ≤ g ∧ g < w.heap.size ∧ w.cell? ⟨g, j * 2, none⟩ = some (.int .i64 ((U a).getD j (0, 0)).1) ∧ w.cell? ⟨g, j * 2 + 1, none⟩ = some (.int .i64 ((U a).getD j (0, 0)).2) := by
  rcases (h.row a ha).2 with ⟨e, e2⟩ | ⟨g, cap, cur, e, hb, hg, hn, hm, hs, hx⟩
  · exact ⟨none, 0, by rw [e, e2], fun j hj => by omega⟩
  · refine ⟨_, cap, e, fun j hj => ⟨g, rfl, hb, (Array.getElem?_eq_some_iff.1 hg).1, ?_⟩⟩
    obtain ⟨h1, h2⟩ := flat2 (U a) j hj
    rw [← hx, List.getElem?_take_of_lt (by omega)] at h1 h2
    have c1 := cell_of_row w g (j * 2) cur _ (0, 0) hg
    have c2 := cell_of_row w g (j * 2 + 1) cur _ (0, 0) hg
    rw [c1, c2]
    exact ⟨by simpa using h1, by simpa using h2⟩
end

/-- The first part of Rounds: the need and the uses. -/
structure P1 (R : List GR) (nn : Nat) (W6 : World) (nb tb : Nat) (i : Nat) (nd : List Int) (V : List Value) (U : Int → List (Int × Int)) (wx : World) : Prop where
  lim : Lim W6.heap.size [nb, tb] W6 wx
  need : Blk wx nb (nd.map (Value.int .i64)) 3
  len : nd.length = R.length
  val : ∀ j, j < i → ix nd j = need0 (ixR R j)
  uses : UT nn W6.heap.size tb V U wx
  ne : nb ≠ tb ∧ nb < W6.heap.size

theorem P1.below {R : List GR} {nn nb tb i : Nat} {W6 wx w' : World} {nd : List Int} {V : List Value} {U : Int → List (Int × Int)} (h : P1 R nn W6 nb tb i nd V U wx) (hb : Below wx.heap.size wx w') : P1 R nn W6 nb tb i nd V U w' :=
  ⟨h.lim.trans (.of_below hb h.lim.size), h.need.below hb, h.len, h.val, h.uses.below hb, h.ne⟩

theorem P1.setNeed {R : List GR} {nn nb tb i : Nat} {W6 wx : World} {nd : List Int} {V : List Value} {U : Int → List (Int × Int)} (h : P1 R nn W6 nb tb i nd V U wx) (v : Int) : P1 R nn W6 nb tb i (nd.set i v) V U (wx.setCell ⟨nb, i, none⟩ (.int .i64 v)) := by
  have hn := h.ne
  refine ⟨h.lim.trans (.setCell _ (.inl (by simp))), by rw [← mapI_setL]; exact h.need.set _ _, by simpa using h.len, fun j hj => ?_, h.uses.kept (by simp [World.setCell]) (fun b hb _ => Below.heap_setCell _ _ _ _ (show b ≠ nb by omega)), h.ne⟩
  rw [← h.val j hj]
  unfold ix
  simp only [List.getD_eq_getElem?_getD]
  rw [List.getElem?_set_ne (by omega)]

theorem P1.next {R : List GR} {nn nb tb i : Nat} {W6 wx : World} {nd : List Int} {V : List Value} {U : Int → List (Int × Int)} (h : P1 R nn W6 nb tb i nd V U wx) (hv : ix nd i = need0 (ixR R i)) : P1 R nn W6 nb tb (i + 1) nd V U wx :=
  ⟨h.lim, h.need, h.len, lt_succ_all h.val hv, h.uses, h.ne⟩

theorem P1.push {R : List GR} {nn nb tb i : Nat} {W6 wx w4 : World} {nd : List Int} {V : List Value} {U : Int → List (Int × Int)} (h : P1 R nn W6 nb tb i nd V U wx) (a : Nat) (ha : a ≤ nn) (u : Int × Int) {g cap : Nat} (hown : w4.ownsRow W6.heap.size 126 2 (.slice (some ⟨g, 0, none⟩) ((U a).length + 1) cap) ((U a).length + 1) ((U a).flatMap cells2 ++ cells2 u))
    (hg : wx.grownBy w4 (V.getD a nilS).ownBlock) (hl : (V.getD a nilS).ownBlock = some g ∨ g = wx.heap.size) :
    Blk w4 tb V 125 ∧ P1 R nn W6 nb tb i nd (V.set a (.slice (some ⟨g, 0, none⟩) ((U a).length + 1) cap)) (fun b => if b = (a : Int) then U b ++ [u] else U b) (w4.setCell ⟨tb, a, none⟩ (.slice (some ⟨g, 0, none⟩) ((U a).length + 1) cap)) := by
  obtain ⟨h1, h2⟩ := h.uses.push a ha u hown hg hl
  have hn := h.ne
  have hs := h.lim.size
  have hlow : ∀ j, j < W6.heap.size → w4.heap[j]? = wx.heap[j]? := fun j hj => hg.block j (by omega) (fun e => by have := (row_block (h.uses.row a ha) e.symm).1; omega)
  refine ⟨h1, (h.lim.trans ⟨hg.os, hg.tape, hg.output, hg.size, fun j hj _ => hlow j hj⟩).trans (.setCell _ (.inl (by simp))), (h.need.same (hlow _ hn.2)).setOther _ _ hn.1, h.len, h.val, h2, h.ne⟩

/-- A block other than the two. -/
theorem P1.blk {R : List GR} {nn nb tb i b : Nat} {c : List Value} {T : TypeId} {W6 wx : World} {nd : List Int} {V : List Value} {U : Int → List (Int × Int)} (h : P1 R nn W6 nb tb i nd V U wx) (hb : Blk W6 b c T) (h1 : b ≠ nb) (h2 : b ≠ tb) : Blk wx b c T :=
  hb.same (h.lim.block b hb.lt (by simp [h1, h2]))

theorem P1.bel {R : List GR} {nn nb tb i : Nat} {w W6 wx : World} {nd : List Int} {V : List Value} {U : Int → List (Int × Int)} (h : P1 R nn W6 nb tb i nd V U wx) (hb : Below w.heap.size w W6) (h1 : w.heap.size ≤ nb) (h2 : w.heap.size ≤ tb) : Below w.heap.size w wx :=
  hb.trans ((h.lim.mono hb.size (fun i hi _ => hi)).below (fun i hi => by simp only [List.mem_cons, List.not_mem_nil, or_false] at hi; omega))

end Go.Proofs.Ytdoecchigfdilaa

/- reduct.Rounds: of definite rules, the round of every atom. -/
namespace Go.Proofs.Ytdoecchigfdilaa
open Go.RowKit
attribute [local go_sem] memUpon



theorem sz_alloc (w : World) (o : Obj) : (w.alloc o).heap.size = w.heap.size + 1 := by simp

theorem alloc6 (w : World) (a b c d e f : Obj) : ((((((w.alloc a).alloc b).alloc c).alloc d).alloc e).alloc f).heap[w.heap.size]? = some a ∧ ((((((w.alloc a).alloc b).alloc c).alloc d).alloc e).alloc f).heap[w.heap.size + 1]? = some b ∧
    ((((((w.alloc a).alloc b).alloc c).alloc d).alloc e).alloc f).heap[w.heap.size + 1 + 1]? = some c ∧ ((((((w.alloc a).alloc b).alloc c).alloc d).alloc e).alloc f).heap[w.heap.size + 1 + 1 + 1]? = some d ∧
    ((((((w.alloc a).alloc b).alloc c).alloc d).alloc e).alloc f).heap[w.heap.size + 1 + 1 + 1 + 1]? = some e ∧ ((((((w.alloc a).alloc b).alloc c).alloc d).alloc e).alloc f).heap[w.heap.size + 1 + 1 + 1 + 1 + 1]? = some f := by
  refine ⟨?_, ?_, ?_, ?_, ?_, ?_⟩ <;> simp only [alloc_at, sz_alloc] <;> repeat (first | rw [if_pos trivial] | rw [if_pos rfl] | rw [if_neg (by omega)])

theorem rowTy {base E size n : Nat} {xs : List Value} {v : Value} {g : Nat} {w : World} {c : List Value} {T : TypeId} (h : w.ownsRow base E size v n xs) (hg : v.ownBlock = some g) (hb : Blk w g c T) : T = E := by
  rcases h.2 with ⟨rfl, _⟩ | ⟨g', cap, cur, rfl, _, hgg, _⟩
  · cases hg
  · simp only [Value.ownBlock, Option.some.injEq] at hg
    subst hg
    unfold Blk at hb
    rw [hgg] at hb
    have := Option.some.inj hb
    injection this with _ h2 _
    exact h2.symm

theorem RFx.rebase {R : List GR} {n : Int} {w w1 wx : World} {nb ob b9 b6 b3 b8 : Nat} {ar : Option Addr} {cr : Nat} {nd od l : List Int} (hf : RFx R n w w1 nb ob b9 b6 b3 b8 ar cr) (h : RSt w1 nb ob b9 nd od l wx) : RFx R n w wx nb ob b9 b6 b3 b8 ar cr := by
  obtain ⟨h6, h8, h3, hb⟩ := hf.at h
  have := h.lim.size
  have := hf.lt
  exact ⟨h6, h8, h3, hf.rules, hb, hf.lo, by omega, hf.ne⟩

/-- What is new is forgotten. -/
theorem RSt.clear {w1 wx : World} {nb ob b9 : Nat} {nd od l : List Int} (h : RSt w1 nb ob b9 nd od l wx) (hne : nb ≠ b9 ∧ ob ≠ b9) : RSt (wx.setCell ⟨b9, 0, none⟩ (.slice none 0 0)) nb ob b9 nd od [] (wx.setCell ⟨b9, 0, none⟩ (.slice none 0 0)) := by
  obtain ⟨an, cn, h1, h2⟩ := h.now
  exact ⟨.refl _ _ _, h.need.setOther _ _ hne.1, h.out.setOther _ _ hne.2, none, 0, h1.set 0 _, QRow.nil _ _⟩

theorem RSt.back {w1 wx wy : World} {nb ob b9 : Nat} {nd od l nd' od' l' : List Int} {v : Value} (h : RSt w1 nb ob b9 nd od l wx) (k : RSt (wx.setCell ⟨b9, 0, none⟩ v) nb ob b9 nd' od' l' wy) : RSt w1 nb ob b9 nd' od' l' wy := by
  obtain ⟨an, cn, h1, h2⟩ := k.now
  have hs : (wx.setCell ⟨b9, 0, none⟩ v).heap.size = wx.heap.size := by simp [World.setCell]
  have hz := h.lim.size
  exact ⟨(h.lim.trans (.setCell _ (.inl (by simp)))).trans (k.lim.mono (by omega) (fun i hi _ => hi)), k.need, k.out, an, cn, h1, h2.mono (by omega)⟩

def R1 (R : List GR) (nn : Nat) (W6 : World) (nb tb : Nat) (i : Value) (wx : World) : Prop := ∃ k : Nat, k ≤ R.length ∧ i = .int .i64 k ∧ ∃ nd V, P1 R nn W6 nb tb k nd V (usesU R k) wx
def R2 (R : List GR) (nn : Nat) (W6 : World) (nb tb k b12 : Nat) (c : List Value) (i : Value) (wx : World) : Prop :=
  ∃ q : Nat, q ≤ (ixR R k).body.length ∧ i = .int .i64 q ∧ ∃ nd V, P1 R nn W6 nb tb (k + 1) nd V (stepU (usesU R k) (ixR R k) k q) wx ∧ Blk wx b12 c 41

theorem RFx.clear {R : List GR} {n : Int} {w w1 wx : World} {nb ob b9 b6 b3 b8 : Nat} {ar : Option Addr} {cr : Nat} {nd od l : List Int} (hf : RFx R n w w1 nb ob b9 b6 b3 b8 ar cr) (h : RSt w1 nb ob b9 nd od l wx) (v : Value) : RFx R n w (wx.setCell ⟨b9, 0, none⟩ v) nb ob b9 b6 b3 b8 ar cr := by
  obtain ⟨h6, h8, h3, hb⟩ := hf.at h
  have := h.lim.size
  have h1 := hf.lt
  have h2 := hf.ne
  have h4 := hf.lo
  have hs : (wx.setCell ⟨b9, 0, none⟩ v).heap.size = wx.heap.size := by simp [World.setCell]
  exact ⟨h6.setOther _ _ (by omega), h8.setOther _ _ (by omega), h3.setOther _ _ (by omega), hf.rules, hb.setCell (show w.heap.size ≤ b9 by omega) _, hf.lo, by omega, hf.ne⟩

theorem Lv.turn {n : Int} {R : List GR} {C l od nd nd' : List Int} (h : Lv n R C l od nd) (hn : nd'.length = R.length) : Lv n R (C ++ l) [] od nd' :=
  ⟨by simpa using h.nodup, by simpa using h.range, h.olen, hn, by simpa using h.out, by simpa using h.der⟩

theorem UT.lim {nn B tb nb ob b9 : Nat} {V : List Value} {U : Int → List (Int × Int)} {w1 wx : World} (h : UT nn B tb V U w1) (hl : Lim w1.heap.size [nb, ob, b9] w1 wx) (hn : tb ≠ nb ∧ tb ≠ ob ∧ tb ≠ b9) (hB : nb < B ∧ ob < B ∧ b9 < B) : UT nn B tb V U wx :=
  h.kept hl.size fun i hi hi2 => hl.block i hi2 (by simp only [List.mem_cons, List.not_mem_nil, or_false]; omega)

def R3' (R : List GR) (nn : Nat) (w1 : World) (nb ob b9 : Nat) (nd : List Int) (i : Value) (wx : World) : Prop :=
  ∃ k : Nat, k ≤ R.length ∧ i = .int .i64 k ∧ ∃ od l, RSt w1 nb ob b9 nd od l wx ∧ Lv nn R [] l od nd ∧ Asked R ([] ++ l) nd (fun j => k ≤ j)
def R4' (R : List GR) (nn : Nat) (w1 : World) (nb ob b9 : Nat) (g : Nat) (r : Value) (wx : World) : Prop :=
  ∃ C l od nd, ∃ rd : Int, g + C.length = nn ∧ r = .int .i64 rd ∧ 2 ≤ rd ∧ rd ≤ 2 + C.length ∧ RSt w1 nb ob b9 nd od l wx ∧ Lv nn R C l od nd ∧ Paid R C nd ∧ Asked R (C ++ l) nd (fun _ => False)
def R5' (R : List GR) (W2 : World) (nb ob b9 : Nat) (C L od : List Int) (i : Value) (wx : World) : Prop :=
  ∃ j : Nat, j ≤ L.length ∧ i = .int .i64 j ∧ ∃ nd, nd.length = R.length ∧ RSt W2 nb ob b9 nd od [] wx ∧ Paid R (C ++ L.take j) nd
def R6' (R : List GR) (W2 : World) (nb ob b9 : Nat) (D od : List Int) (a : Int) (i : Value) (wx : World) : Prop :=
  ∃ q : Nat, q ≤ (usesU R R.length a).length ∧ i = .int .i64 q ∧ ∃ nd, nd.length = R.length ∧ RSt W2 nb ob b9 nd od [] wx ∧ ∀ i, i < R.length → ix nd i = need0 (ixR R i) - lhs D (ixR R i) - sumAt i ((usesU R R.length a).take q)
def R7' (R : List GR) (nn : Nat) (W2 : World) (nb ob b9 : Nat) (C L nd : List Int) (T : Nat → Nat → Prop) (n : Nat) (i : Value) (wx : World) : Prop :=
  ∃ j : Nat, j ≤ n ∧ i = .int .i64 j ∧ ∃ od l, RSt W2 nb ob b9 nd od l wx ∧ Lv nn R (C ++ L) l od nd ∧ Asked R ((C ++ L) ++ l) nd (T j)

theorem QRow.lo {base : Nat} {w : World} {b o n c : Nat} {l : List Int} (h : QRow base w (.slice (some ⟨b, o, none⟩) n c) l) : base ≤ b := by
  rcases h.2 with ⟨e, _⟩ | ⟨g, off, cap, cur, e, hb, _⟩
  · cases e
  · simp only [Value.slice.injEq, Option.some.injEq, Addr.mk.injEq] at e
    omega

theorem Lv.at {n : Int} {R : List GR} {C l od nd : List Int} (h : Lv n R C l od nd) {j : Nat} (hj : j < l.length) : 1 ≤ ix l j ∧ ix l j ≤ n :=
  h.range _ (List.mem_append_right _ (ix_mem hj))

theorem take_push (L : List Int) (j : Nat) (hj : j < L.length) (C : List Int) : C ++ L.take (j + 1) = (C ++ L.take j) ++ [ix L j] := by
  rw [take_ix L j hj, List.append_assoc]

theorem Lv.fresh {n : Int} {R : List GR} {C l od nd : List Int} (h : Lv n R C l od nd) {j : Nat} (hj : j < l.length) : ix l j ∉ C ++ l.take j := by
  have h1 := h.nodup
  have e : C ++ l = (C ++ l.take j) ++ l.drop j := by rw [List.append_assoc, List.take_append_drop]
  rw [e] at h1
  have h2 := (List.nodup_append.1 h1).2.2
  intro hm
  refine h2 _ hm (ix l j) ?_ rfl
  have : ix l j = l[j] := by simp [ix, List.getD_eq_getElem?_getD, List.getElem?_eq_getElem hj]
  rw [this, List.mem_iff_getElem]
  exact ⟨0, by simp; omega, by simp⟩

/-- An atom of the list is paid in whole. -/
theorem paid_push {R : List GR} {D : List Int} {a : Int} {nd : List Int} (ha : a ∉ D) (h : ∀ i, i < R.length → ix nd i = need0 (ixR R i) - lhs D (ixR R i) - sumAt i (usesU R R.length a)) : Paid R (D ++ [a]) nd := fun i hi => by
  rw [h i hi, usesU_sum, if_pos hi]
  unfold lhs
  rw [lhsTo_push ha]
  omega

theorem pay_step {R : List GR} {D : List Int} {U : List (Int × Int)} {nd : List Int} {q ui : Nat} {uw : Int} (hq : q < U.length) (hup : U.getD q (0, 0) = ((ui : Int), uw)) (hl : ui < nd.length) (h : ∀ i, i < R.length → ix nd i = need0 (ixR R i) - lhs D (ixR R i) - sumAt i (U.take q)) :
    ∀ i, i < R.length → ix (nd.set ui (ix nd ui - uw)) i = need0 (ixR R i) - lhs D (ixR R i) - sumAt i (U.take (q + 1)) := fun i hi => by
  rw [ix_set _ _ _ _ hl, sumAt_take_succ _ _ _ hq, hup]
  by_cases e : i = ui
  · subst e
    rw [if_pos rfl, if_pos rfl, h i hi]
    simp only
    omega
  · rw [if_neg e, if_neg (by simp only; omega), h i hi]
    omega

theorem DefR.part {n : Int} {R : List GR} (h : DefR n R) {D : List Int} {a : Int} (ha : a ∉ D) {i : Nat} (hi : i < R.length) (q : Nat) :
    -1048576 ≤ need0 (ixR R i) - lhs D (ixR R i) - sumAt i ((usesU R R.length a).take q) ∧ need0 (ixR R i) - lhs D (ixR R i) - sumAt i ((usesU R R.length a).take q) ≤ 1048576 := by
  have hpos : ∀ u ∈ usesU R R.length a, 0 ≤ u.2 := fun u hu => by
    obtain ⟨i', k, h1, h2, h3, rfl⟩ := (usesU_mem _).1 hu
    have := (h.w1 h1 h2).1
    simp only
    omega
  have h1 := sumAt_take_le i (usesU R R.length a) hpos q
  have h2 := h.need hi D (Nat.le_refl _)
  have h3 := h.need hi (D ++ [a]) (Nat.le_refl _)
  rw [lhsTo_push ha] at h3
  have h4 := usesU_sum R i a R.length
  rw [if_pos hi] at h4
  unfold lhs
  omega

def RoundsPost (R : List GR) (nn : Nat) (w : World) (e : Ending) (w' : World) : Prop :=
  ∃ od ao co, e = .returned (.tuple #[.slice ao nn co, .int .i64 0]) ∧ QRow w.heap.size w' (.slice ao nn co) od ∧ od.length = nn ∧ (∀ i, 0 ≤ ix od i) ∧ IsLeast R (posL od nn) ∧ Below w.heap.size w w'

set_option maxHeartbeats 8000000 in
set_option maxRecDepth 100000 in
theorem rounds_any (v : Value) (R : List GR) (nn : Nat) (w : World) (h : RulesIs w v R) (hB : definiteB nn R = true) :
    Calls Try.prog 89 #[.int .i64 nn, v] w (RoundsPost R nn w) := by
  have hd := definiteB_spec hB
  obtain ⟨ar, cr, rfl, -, hl1, -, hcellR⟩ := h.form
  have hal := bal (Below.refl w.heap.size w) (.cells #[.slice ar R.length cr] 24)
  have HR := Lib.hid (h.below hal)
  have HBK := Lib.hid (Blk.new w [.slice ar R.length cr] 24)
  have hrng := hd.rng
  have hlen := hd.len
  have HB := Lib.hid hB
  have HD := Lib.hid hd
  have HR0 := Lib.hid h
  have HCR := Lib.hid hcellR
  clear h hd hcellR
  have hmk1 : ∀ w : World, (Instr.makeSlice 23 (.int .i64 (R.length : Int)) (.int .i64 (R.length : Int))).run Try.prog w = .ok (.slice (some ⟨w.heap.size, 0, none⟩) R.length R.length) (w.alloc (.cells (madeCells #[.int .i64 0] R.length) 3)) := fun w => run_make_row' _ _ _ _ Try.underlying23 infoI rfl .i64 .i64 R.length (by omega) (by omega) w
  have hmk2 : ∀ w : World, (Instr.makeSlice 23 (.int .i64 (nn : Int)) (.int .i64 (nn : Int))).run Try.prog w = .ok (.slice (some ⟨w.heap.size, 0, none⟩) nn nn) (w.alloc (.cells (madeCells #[.int .i64 0] nn) 3)) := fun w => run_make_row' _ _ _ _ Try.underlying23 infoI rfl .i64 .i64 nn (by omega) (by omega) w
  have hmk3 : ∀ w : World, (Instr.makeSlice 123 (.int .i64 ((nn : Int) + 1)) (.int .i64 ((nn : Int) + 1))).run Try.prog w = .ok (.slice (some ⟨w.heap.size, 0, none⟩) (nn + 1) (nn + 1)) (w.alloc (.cells (madeCells #[.slice none 0 0] (nn + 1)) 125)) := fun w => by
    have := run_make_row' (P := Try.prog) 123 125 (.slice none 0 0) 24 Try.underlying123 infoU rfl .i64 .i64 (nn + 1) (by omega) (by omega) w
    push_cast at this
    exact this
  go_enter Try.func89, Try.ntmps89
  go_upto_region 8 with ((go_at_call 108; (with_reducible refine (definite_any _ R _ _ HR.out).mono ?_); rintro e w2 ⟨e2, hb2⟩; rw [HB.out] at e2; subst e2; have hb2' := bcell hb2; have hz2 : w.heap.size < w2.heap.size := (by have := hb2.size; simp at this; omega)))
  obtain ⟨W6, hW6⟩ : ∃ W6, W6 = ((((((w2.alloc (.cells (madeCells #[.int .i64 0] R.length) 3)).alloc (.cells #[.slice (some ⟨w2.heap.size, 0, none⟩) R.length R.length] 23)).alloc (.cells (madeCells #[.slice none 0 0] (nn + 1)) 125)).alloc (.cells (madeCells #[.int .i64 0] nn) 3)).alloc (.cells #[.slice (some ⟨w2.heap.size + 1 + 1 + 1, 0, none⟩) nn nn] 23)).alloc (.cells #[.slice none 0 0] 23)) := ⟨_, rfl⟩
  have hz6 : W6.heap.size = w2.heap.size + 6 := by rw [hW6]; simp
  have hb6 : Below w2.heap.size w2 W6 := by rw [hW6]; exact bal (bal (bal (bal (bal (bal (Below.refl _ _) _) _) _) _) _) _
  obtain ⟨a0, a1, a2, a3, a4, a5⟩ := alloc6 w2 (.cells (madeCells #[.int .i64 0] R.length) 3) (.cells #[.slice (some ⟨w2.heap.size, 0, none⟩) R.length R.length] 23) (.cells (madeCells #[.slice none 0 0] (nn + 1)) 125) (.cells (madeCells #[.int .i64 0] nn) 3) (.cells #[.slice (some ⟨w2.heap.size + 1 + 1 + 1, 0, none⟩) nn nn] 23) (.cells #[.slice none 0 0] 23)
  rw [← hW6] at a0 a1 a2 a3 a4 a5
  have B0 : Blk W6 w2.heap.size ((List.replicate R.length 0).map (Value.int .i64)) 3 := by unfold Blk; rw [a0, made_list]; simp
  have B1 : Blk W6 (w2.heap.size + 1) [.slice (some ⟨w2.heap.size, 0, none⟩) R.length R.length] 23 := a1
  have B2 : Blk W6 (w2.heap.size + 1 + 1) (List.replicate (nn + 1) nilS) 125 := by unfold Blk; rw [a2, made_list]; rfl
  have B3 : Blk W6 (w2.heap.size + 1 + 1 + 1) ((List.replicate nn 0).map (Value.int .i64)) 3 := by unfold Blk; rw [a3, made_list]; simp
  have B4 : Blk W6 (w2.heap.size + 1 + 1 + 1 + 1) [.slice (some ⟨w2.heap.size + 1 + 1 + 1, 0, none⟩) nn nn] 23 := a4
  have B5 : Blk W6 (w2.heap.size + 1 + 1 + 1 + 1 + 1) [.slice none 0 0] 23 := a5
  clear a0 a1 a2 a3 a4 a5
  have B6 : Blk W6 w.heap.size [.slice ar R.length cr] 24 := (HBK.out.below hb2).below hb6
  have HW6 : Hid (Below w.heap.size w W6) := Lib.hid (bon (bon hal hb2) hb6)
  have k3 := B6.cell 0
  rw [← hW6]
  have hp0 : P1 R nn W6 w2.heap.size (w2.heap.size + 1 + 1) 0 (List.replicate R.length 0) (List.replicate (nn + 1) nilS) (usesU R 0) W6 :=
    ⟨.refl _ _ _, B0, by simp, fun j hj => absurd hj (Nat.not_lt_zero _), ⟨B2, by simp, fun a ha => by
      have e : (List.replicate (nn + 1) nilS).getD a nilS = nilS := by simp [List.getD_eq_getElem?_getD, List.getElem?_replicate]; split <;> rfl
      rw [e]; exact World.ownsRow_nil _ _ _ _, fun a a' g ha ha' h1 h2 => (by
      have e : (List.replicate (nn + 1) nilS).getD a nilS = nilS := by simp [List.getD_eq_getElem?_getD, List.getElem?_replicate]; split <;> rfl
      rw [e] at h1; cases h1), by omega, Nat.le_refl _⟩, by omega, by omega⟩
  have HP0 := Lib.hid hp0
  have HB1 := Lib.hid B1
  have HB3 := Lib.hid B3
  have HB4 := Lib.hid B4
  have HB5 := Lib.hid B5
  have HB6 := Lib.hid B6
  clear hW6 hp0 B0 B1 B2 B3 B4 B5 B6 hb6 hb2 hb2' hmk1 hmk2 hmk3 hal HBK HR
  go_wp2_with fail
  clear k3
  go_loopw [42] (fun i wx => R1 R nn W6 w2.heap.size (w2.heap.size + 1 + 1) i wx) (fun i _ => R.length - (intOf i).toNat)
  case atStart => exact ⟨0, Nat.zero_le _, rfl, _, _, HP0.out⟩
  case round =>
    obtain ⟨k, hk, rfl, nd, V, hp⟩ := hrel
    have HP := Lib.hid hp
    have HBR : Hid (Below w.heap.size w wr) := Lib.hid (hp.bel HW6.out (by omega) (by omega))
    have k3 := (hp.blk HB6.out (by omega) (by omega)).cell 0
    have k6 := (hp.blk HB1.out (by omega) (by omega)).cell 0
    have hz := hp.lim.size
    clear hp
    by_cases hlt : k < R.length
    · obtain ⟨b, off, hab, hbl, hc⟩ := HCR.out (by omega)
      subst hab
      obtain ⟨vh, vb, vw, ⟨r0, r1, r2, r3, r4, r5⟩, hsl⟩ := hc k hlt
      obtain ⟨x1, y1, rfl, -, g1, -, -⟩ := hsl.head.form
      obtain ⟨x2, y2, rfl, -, g2, -, -⟩ := hsl.body.form
      obtain ⟨x3, y3, rfl, -, g3, -, -⟩ := hsl.wts.form
      have kk := bcell HBR.out b
      have q0 := (kk _ hbl).trans r0
      have q1 := (kk _ hbl).trans r1
      have q2 := (kk _ hbl).trans r2
      have q3 := (kk _ hbl).trans r3
      have q4 := (kk _ hbl).trans r4
      have q5 := (kk _ hbl).trans r5
      have HSL := Lib.hid hsl
      clear kk r0 r1 r2 r3 r4 r5 hc hsl
      go_upto_region 11 with fail
      have hbr := Blk.new wr [.bool (ixR R k).choice, .slice x1 (ixR R k).head.length y1, .bool (ixR R k).sum, .int .i64 (ixR R k).bound, .slice x2 (ixR R k).body.length y2, .slice x3 (ixR R k).w.length y3] 41
      have hbx := bal (Below.refl wr.heap.size wr) (.cells #[.bool (ixR R k).choice, .slice x1 (ixR R k).head.length y1, .bool (ixR R k).sum, .int .i64 (ixR R k).bound, .slice x2 (ixR R k).body.length y2, .slice x3 (ixR R k).w.length y3] 41)
      have HRU := Lib.hid hbr
      have HP7 := Lib.hid (HP.out.below hbx)
      have hz7 : W6.heap.size ≤ wr.heap.size := hz
      clear hbr hbx q0 q1 q2 q3 q4 q5 k3 k6
      generalize wr.alloc (.cells #[.bool (ixR R k).choice, .slice x1 (ixR R k).head.length y1, .bool (ixR R k).sum, .int .i64 (ixR R k).bound, .slice x2 (ixR R k).body.length y2, .slice x3 (ixR R k).w.length y3] 41) = W7 at *
      have k6 := (HP7.out.blk HB1.out (by omega) (by omega)).cell 0
      have kn := (HP7.out.need.cell k).trans (mapI_at nd k (by have := HP7.out.len; omega))
      have fn := HP7.out.need.free k
      have kr := HRU.out.cell
      cases hs : (ixR R k).sum with
      | false =>
        go_upto_region 14 with fail
        have HP8 := Lib.hid ((HP7.out.setNeed ((ixR R k).body.length : Int)).next (by rw [ix_set _ _ _ _ (by have := HP7.out.len; omega), if_pos rfl]; unfold need0; rw [hs]; rfl))
        have HRU8 := Lib.hid (HRU.out.setOther k (.int .i64 ((ixR R k).body.length : Int)) (show wr.heap.size ≠ w2.heap.size by omega))
        have hbodyC := HSL.out.body.form
        obtain ⟨_, _, e9, -, -, -, hbodyC⟩ := hbodyC
        simp only [Value.slice.injEq, true_and] at e9
        obtain ⟨rfl, rfl⟩ := e9
        clear k6 kn fn kr HP7 HRU
        generalize W7.setCell ⟨w2.heap.size, k, none⟩ (.int .i64 ((ixR R k).body.length : Int)) = W8 at *
        obtain ⟨wo, rfl⟩ : ∃ wo : World, wo = wr := ⟨_, rfl⟩
        have kr8 := HRU8.out.cell
        go_wp2_with fail
        clear kr8
        go_loopw [63] (fun i wx => R2 R nn W6 w2.heap.size (w2.heap.size + 1 + 1) k wo.heap.size [.bool (ixR R k).choice, .slice x1 (ixR R k).head.length y1, .bool (ixR R k).sum, .int .i64 (ixR R k).bound, .slice x2 (ixR R k).body.length y2, .slice x3 (ixR R k).w.length y3] i wx) (fun i _ => (ixR R k).body.length - (intOf i).toNat)
        case atStart => exact ⟨0, Nat.zero_le _, rfl, _, _, HP8.out, HRU8.out⟩
        case round =>
          obtain ⟨q, hq, rfl, nd2, V2, hp2, hru2⟩ := hrel
          have HP2 := Lib.hid hp2
          have HRU2 := Lib.hid hru2
          have kr := hru2.cell
          have hz2r := hp2.lim.size
          have HBW := Lib.hid (hp2.bel HW6.out (by omega) (by omega))
          clear hp2 hru2
          by_cases hltq : q < (ixR R k).body.length
          · obtain ⟨bb, offb, rfl, hbb, hcb⟩ := hbodyC (by omega)
            have hbd := ((HD.out.body k hlt).1 q hltq)
            obtain ⟨an, han⟩ : ∃ an : Nat, ix (ixR R k).body q = an := ⟨(ix (ixR R k).body q).toNat, by omega⟩
            have han1 : an ≤ nn := by omega
            have kb := (bcell HBW.out _ _ hbb).trans (hcb q hltq)
            rw [han] at kb
            have HAN := Lib.hid han
            have HWO : Hid (wOf (ixR R k) q = 1) := Lib.hid (by unfold wOf; rw [hs]; rfl)
            have HW1 := Lib.hid (HD.out.w1 hlt hltq)
            skip
            have hal2 := bal (Below.refl wr.heap.size wr) (.cells #[.int .i64 k, .int .i64 (1)] 126)
            have HPA := Lib.hid (HP2.out.below hal2)
            obtain ⟨U, hU⟩ : ∃ U, U = stepU (usesU R k) (ixR R k) k q := ⟨_, rfl⟩
            have HUL : Hid ((U an).length ≤ 330000000) := Lib.hid (by
              have h1 := stepU_len (usesU R k) (ixR R k) k an q
              have h2 := usesU_len R an 8002 (fun i hi => (HD.out.body i hi).2) k (by omega)
              have h3 := (HD.out.body k hlt).2
              have h4 : k * 8002 ≤ 40000 * 8002 := Nat.mul_le_mul_right _ (by omega)
              rw [hU]; omega)
            have HSU : Hid (stepU (usesU R k) (ixR R k) k (q + 1) = fun b => if b = (an : Int) then U b ++ [((k : Int), 1)] else U b) := Lib.hid (by rw [hU]; funext b; show (if b = ix (ixR R k).body q then stepU (usesU R k) (ixR R k) k q b ++ [((k : Int), wOf (ixR R k) q)] else stepU (usesU R k) (ixR R k) k q b) = _; rw [HAN.out, HWO.out])
            rw [← hU] at HPA HP2
            have hlenU : ((U an).length + 1) * 16 ≤ 140737488351232 := by have := HUL.out; omega
            have ktab := HP2.out.uses.cell an han1
            obtain ⟨vr, hvr⟩ : ∃ vr, vr = V2.getD an nilS := ⟨_, rfl⟩
            rw [← hvr] at ktab
            have HVR := Lib.hid hvr
            have HROWA : Hid ((wr.alloc (.cells #[.int .i64 k, .int .i64 (1)] 126)).ownsRow W6.heap.size 126 2 vr (U an).length ((U an).flatMap cells2)) := Lib.hid (by rw [hvr]; exact HPA.out.uses.row an han1)
            have hbase : W6.heap.size ≤ (wr.alloc (.cells #[.int .i64 k, .int .i64 (1)] 126)).heap.size := by simp; omega
            clear hbd hcb hal2 hU hvr han
            go_wp2_with (at_builtin; go_loud (refine wpList_plain rfl (fun _ hK' => wp_appendU _ _ 125 Try.underlying125 rfl W6.heap.size vr (U an).length _ ((k : Int), 1) rfl HROWA.out wr.heap.size 1 rfl (Blk.new wr [.int .i64 k, .int .i64 (1)] _) hlenU hbase ?_)); intro g4 cap4 w4 hown4 hg4 hl4 hlt4; rw [HVR.out] at hg4 hl4; have hpp := HPA.out.push an han1 _ hown4 hg4 hl4; have kt4 := hpp.1.cell an; have ft4 := hpp.1.free an; rw [show V2[an]? = some vr from (by have := hpp.1.cell an; rw [HVR.out, List.getD_eq_getElem?_getD, List.getElem?_eq_getElem (by have := HP2.out.uses.len; omega)]; rfl)] at kt4; have HPP := Lib.hid hpp.2; have HRU4 : Hid (Blk w4 wo.heap.size [.bool (ixR R k).choice, .slice x1 (ixR R k).head.length y1, .bool (ixR R k).sum, .int .i64 (ixR R k).bound, .slice (some ⟨bb, offb, none⟩) (ixR R k).body.length y2, .slice _ (ixR R k).w.length y3] 41) := Lib.hid ((HRU2.out.alloc _).same (hg4.block _ (HRU2.out.alloc _).lt (fun e => absurd (rowTy (HPA.out.uses.row an han1) e.symm (HRU2.out.alloc _)) (by decide)))); clear hpp hown4 hg4 hl4 hlt4; refine hK' _ _ ?_)
            first
              | (go_roundw
                 case rel => (exact ⟨q + 1, by omega, by go_num, _, _, by rw [HSU.out]; exact HPP.out, HRU4.out.setOther _ _ (by omega)⟩)
                 case measure => (simp [intOf]; omega))
              | (refine ⟨?_, ?_⟩
                 · (exact ⟨q + 1, by omega, by go_num, _, _, by rw [HSU.out]; exact HPP.out, HRU4.out.setOther _ _ (by omega)⟩)
                 · (simp [intOf]; omega))
          · obtain rfl : q = (ixR R k).body.length := by omega
            go_wp2_with fail
            first
              | (go_roundw
                 case rel => (exact ⟨k + 1, by omega, by go_num, _, _, HP2.out⟩)
                 case measure => (simp [intOf]; omega))
              | (refine ⟨?_, ?_⟩
                 · (exact ⟨k + 1, by omega, by go_num, _, _, HP2.out⟩)
                 · (simp [intOf]; omega))
      | true =>
        go_upto_region 13 with fail
        have HP71 := Lib.hid (HP7.out.setNeed ((ixR R k).body.length : Int))
        have HRU71 := Lib.hid (HRU.out.setOther k (.int .i64 ((ixR R k).body.length : Int)) (show wr.heap.size ≠ w2.heap.size by omega))
        have hbodyC := HSL.out.body.form
        obtain ⟨_, _, e9, -, -, -, hbodyC⟩ := hbodyC
        simp only [Value.slice.injEq, true_and] at e9
        obtain ⟨rfl, rfl⟩ := e9
        have hwtsC := HSL.out.wts.form
        obtain ⟨_, _, e9, -, -, -, hwtsC⟩ := hwtsC
        simp only [Value.slice.injEq, true_and] at e9
        obtain ⟨rfl, rfl⟩ := e9
        clear k6 kn fn kr HP7 HRU
        generalize W7.setCell ⟨w2.heap.size, k, none⟩ (.int .i64 ((ixR R k).body.length : Int)) = W9 at *
        have k6 := (HP71.out.blk HB1.out (by omega) (by omega)).cell 0
        have kn := (HP71.out.need.cell k).trans (mapI_at _ k (by have := HP71.out.len; omega))
        have fn := HP71.out.need.free k
        have kr := HRU71.out.cell
        go_upto_region 14 with fail
        have HP8 := Lib.hid ((HP71.out.setNeed (ixR R k).bound).next (by rw [ix_set _ _ _ _ (by have := HP71.out.len; omega), if_pos rfl]; unfold need0; rw [hs]; rfl))
        have HRU8 := Lib.hid (HRU71.out.setOther k (.int .i64 (ixR R k).bound) (show wr.heap.size ≠ w2.heap.size by omega))
        clear k6 kn fn kr HP71 HRU71
        generalize W9.setCell ⟨w2.heap.size, k, none⟩ (.int .i64 (ixR R k).bound) = W8 at *
        obtain ⟨wo, rfl⟩ : ∃ wo : World, wo = wr := ⟨_, rfl⟩
        have kr8 := HRU8.out.cell
        go_wp2_with fail
        clear kr8
        go_loopw [63] (fun i wx => R2 R nn W6 w2.heap.size (w2.heap.size + 1 + 1) k wo.heap.size [.bool (ixR R k).choice, .slice x1 (ixR R k).head.length y1, .bool (ixR R k).sum, .int .i64 (ixR R k).bound, .slice x2 (ixR R k).body.length y2, .slice x3 (ixR R k).w.length y3] i wx) (fun i _ => (ixR R k).body.length - (intOf i).toNat)
        case atStart => exact ⟨0, Nat.zero_le _, rfl, _, _, HP8.out, HRU8.out⟩
        case round =>
          obtain ⟨q, hq, rfl, nd2, V2, hp2, hru2⟩ := hrel
          have HP2 := Lib.hid hp2
          have HRU2 := Lib.hid hru2
          have kr := hru2.cell
          have hz2r := hp2.lim.size
          have HBW := Lib.hid (hp2.bel HW6.out (by omega) (by omega))
          clear hp2 hru2
          by_cases hltq : q < (ixR R k).body.length
          · obtain ⟨bb, offb, rfl, hbb, hcb⟩ := hbodyC (by omega)
            have hbd := ((HD.out.body k hlt).1 q hltq)
            obtain ⟨an, han⟩ : ∃ an : Nat, ix (ixR R k).body q = an := ⟨(ix (ixR R k).body q).toNat, by omega⟩
            have han1 : an ≤ nn := by omega
            have kb := (bcell HBW.out _ _ hbb).trans (hcb q hltq)
            rw [han] at kb
            have HAN := Lib.hid han
            have HWO : Hid (wOf (ixR R k) q = ix (ixR R k).w q) := Lib.hid (by unfold wOf; rw [hs]; rfl)
            have HW1 := Lib.hid (HD.out.w1 hlt hltq)
            obtain ⟨bw, offw, rfl, hbw3, hcw⟩ := hwtsC (by have := HW1.out.2.2 hs; omega); have hqw := HW1.out.2.2 hs; have kw := (bcell HBW.out _ _ hbw3).trans (hcw q hqw)
            have hal2 := bal (Below.refl wr.heap.size wr) (.cells #[.int .i64 k, .int .i64 (ix (ixR R k).w q)] 126)
            have HPA := Lib.hid (HP2.out.below hal2)
            obtain ⟨U, hU⟩ : ∃ U, U = stepU (usesU R k) (ixR R k) k q := ⟨_, rfl⟩
            have HUL : Hid ((U an).length ≤ 330000000) := Lib.hid (by
              have h1 := stepU_len (usesU R k) (ixR R k) k an q
              have h2 := usesU_len R an 8002 (fun i hi => (HD.out.body i hi).2) k (by omega)
              have h3 := (HD.out.body k hlt).2
              have h4 : k * 8002 ≤ 40000 * 8002 := Nat.mul_le_mul_right _ (by omega)
              rw [hU]; omega)
            have HSU : Hid (stepU (usesU R k) (ixR R k) k (q + 1) = fun b => if b = (an : Int) then U b ++ [((k : Int), ix (ixR R k).w q)] else U b) := Lib.hid (by rw [hU]; funext b; show (if b = ix (ixR R k).body q then stepU (usesU R k) (ixR R k) k q b ++ [((k : Int), wOf (ixR R k) q)] else stepU (usesU R k) (ixR R k) k q b) = _; rw [HAN.out, HWO.out])
            rw [← hU] at HPA HP2
            have hlenU : ((U an).length + 1) * 16 ≤ 140737488351232 := by have := HUL.out; omega
            have ktab := HP2.out.uses.cell an han1
            obtain ⟨vr, hvr⟩ : ∃ vr, vr = V2.getD an nilS := ⟨_, rfl⟩
            rw [← hvr] at ktab
            have HVR := Lib.hid hvr
            have HROWA : Hid ((wr.alloc (.cells #[.int .i64 k, .int .i64 (ix (ixR R k).w q)] 126)).ownsRow W6.heap.size 126 2 vr (U an).length ((U an).flatMap cells2)) := Lib.hid (by rw [hvr]; exact HPA.out.uses.row an han1)
            have hbase : W6.heap.size ≤ (wr.alloc (.cells #[.int .i64 k, .int .i64 (ix (ixR R k).w q)] 126)).heap.size := by simp; omega
            clear hbd hcb hal2 hU hvr han
            go_wp2_with (at_builtin; go_loud (refine wpList_plain rfl (fun _ hK' => wp_appendU _ _ 125 Try.underlying125 rfl W6.heap.size vr (U an).length _ ((k : Int), ix (ixR R k).w q) rfl HROWA.out wr.heap.size 1 rfl (Blk.new wr [.int .i64 k, .int .i64 (ix (ixR R k).w q)] _) hlenU hbase ?_)); intro g4 cap4 w4 hown4 hg4 hl4 hlt4; rw [HVR.out] at hg4 hl4; have hpp := HPA.out.push an han1 _ hown4 hg4 hl4; have kt4 := hpp.1.cell an; have ft4 := hpp.1.free an; rw [show V2[an]? = some vr from (by have := hpp.1.cell an; rw [HVR.out, List.getD_eq_getElem?_getD, List.getElem?_eq_getElem (by have := HP2.out.uses.len; omega)]; rfl)] at kt4; have HPP := Lib.hid hpp.2; have HRU4 : Hid (Blk w4 wo.heap.size [.bool (ixR R k).choice, .slice x1 (ixR R k).head.length y1, .bool (ixR R k).sum, .int .i64 (ixR R k).bound, .slice (some ⟨bb, offb, none⟩) (ixR R k).body.length y2, .slice _ (ixR R k).w.length y3] 41) := Lib.hid ((HRU2.out.alloc _).same (hg4.block _ (HRU2.out.alloc _).lt (fun e => absurd (rowTy (HPA.out.uses.row an han1) e.symm (HRU2.out.alloc _)) (by decide)))); clear hpp hown4 hg4 hl4 hlt4; refine hK' _ _ ?_)
            first
              | (go_roundw
                 case rel => (exact ⟨q + 1, by omega, by go_num, _, _, by rw [HSU.out]; exact HPP.out, HRU4.out.setOther _ _ (by omega)⟩)
                 case measure => (simp [intOf]; omega))
              | (refine ⟨?_, ?_⟩
                 · (exact ⟨q + 1, by omega, by go_num, _, _, by rw [HSU.out]; exact HPP.out, HRU4.out.setOther _ _ (by omega)⟩)
                 · (simp [intOf]; omega))
          · obtain rfl : q = (ixR R k).body.length := by omega
            go_wp2_with fail
            first
              | (go_roundw
                 case rel => (exact ⟨k + 1, by omega, by go_num, _, _, HP2.out⟩)
                 case measure => (simp [intOf]; omega))
              | (refine ⟨?_, ?_⟩
                 · (exact ⟨k + 1, by omega, by go_num, _, _, HP2.out⟩)
                 · (simp [intOf]; omega))
    · obtain rfl : k = R.length := by omega
      have hnd := HP.out.len
      have hfx : RFx R (nn : Int) w wr w2.heap.size (w2.heap.size + 1 + 1 + 1) (w2.heap.size + 1 + 1 + 1 + 1 + 1) (w2.heap.size + 1) w.heap.size (w2.heap.size + 1 + 1 + 1 + 1) ar cr :=
        ⟨HP.out.blk HB1.out (by omega) (by omega), by rw [Int.toNat_natCast]; exact HP.out.blk HB4.out (by omega) (by omega), HP.out.blk HB6.out (by omega) (by omega), HR0.out, HBR.out, by omega, by omega, by omega⟩
      have hst : RSt wr w2.heap.size (w2.heap.size + 1 + 1 + 1) (w2.heap.size + 1 + 1 + 1 + 1 + 1) nd (List.replicate nn 0) [] wr :=
        ⟨.refl _ _ _, HP.out.need, HP.out.blk HB3.out (by omega) (by omega), none, 0, HP.out.blk HB5.out (by omega) (by omega), QRow.nil _ _⟩
      have hlv : Lv nn R [] [] (List.replicate nn 0) nd := ⟨by simp, by simp, by simp, hnd, fun x h1 h2 => by
        have : ix (List.replicate nn 0) (x - 1).toNat = 0 := by unfold ix; rw [List.getD_eq_getElem?_getD, List.getElem?_replicate]; split <;> rfl
        rw [this]; simp, by simp⟩
      have hpd : Paid R [] nd := fun i hi => by rw [HP.out.val i hi]; unfold lhs; rw [lhsTo_nil]; omega
      have HFX := Lib.hid hfx
      have HST0 := Lib.hid hst
      have HLV0 := Lib.hid hlv
      have HPD := Lib.hid hpd
      have HUT := Lib.hid HP.out.uses
      have hask : Asked R ([] ++ ([] : List Int)) nd (fun j => 0 ≤ j) := fun i hi h0 => .inr (Nat.zero_le _)
      have HASK := Lib.hid hask
      clear hfx hst hlv hpd hask HP HP0 HB1 HB3 HB4 HB5 HB6 HCR k6 hlt
      go_wp2_with fail
      clear k3
      obtain ⟨w1, rfl⟩ : ∃ wo : World, wo = wr := ⟨_, rfl⟩
      go_loopw [91] (fun i wx => R3' R nn w1 w2.heap.size (w2.heap.size + 1 + 1 + 1) (w2.heap.size + 1 + 1 + 1 + 1 + 1) nd i wx) (fun i _ => R.length - (intOf i).toNat)
      case atStart => exact ⟨0, Nat.zero_le _, rfl, _, _, HST0.out, HLV0.out, HASK.out⟩
      case round =>
        obtain ⟨k, hk, rfl, od, l, hst, hlv, hask⟩ := hrel
        have HST := Lib.hid hst
        have HLV := Lib.hid hlv
        have HASK := Lib.hid hask
        have hol := hlv.olen
        have hll : l.length ≤ 4000 := by have := hlv.short hrng.1; simp at this; omega
        clear hst hlv hask HST0 HLV0
        by_cases hlt : k < R.length
        · go_wp2_with (go_at_call 109; (with_reducible refine (reach_any HD.out HFX.out HST.out hnd hol hll k hlt 1).mono ?_); rintro e w5 ⟨rfl, od5, l5, hst5, hrp5⟩; have HST5 := Lib.hid hst5; have HRP := Lib.hid hrp5; clear hst5 hrp5)
          have hre := HLV.out.reach HD.out HPD.out hlt (by omega) HRP.out
          first
            | (go_roundw
               case rel => (exact ⟨k + 1, by omega, by go_num, _, _, HST5.out, hre.1, HASK.out.reach hre.2.1 hre.2.2 (fun j hj => by omega)⟩)
               case measure => (simp [intOf]; omega))
            | (refine ⟨?_, ?_⟩
               · (exact ⟨k + 1, by omega, by go_num, _, _, HST5.out, hre.1, HASK.out.reach hre.2.1 hre.2.2 (fun j hj => by omega)⟩)
               · (simp [intOf]; omega))
        · obtain rfl : k = R.length := by omega
          go_wp2_with fail
          have HASKF : Hid (Asked R ([] ++ l) nd (fun _ => False)) := Lib.hid (fun i hi h0 => (HASK.out i hi h0).imp id (fun h => by omega))
          clear HASK
          go_loopg [17] nn (fun g r wx => R4' R nn w1 w2.heap.size (w2.heap.size + 1 + 1 + 1) (w2.heap.size + 1 + 1 + 1 + 1 + 1) g r wx)
          case atStart => exact ⟨[], _, _, _, 2, by simp, rfl, by omega, by simp, HST.out, HLV.out, HPD.out, HASKF.out⟩
          case round =>
            obtain ⟨C, L, od, nd, rd, hg, rfl, hr1, hr2, hst, hlv, hpd, hask⟩ := hrel
            have HST := Lib.hid hst
            have HLV := Lib.hid hlv
            have HPD := Lib.hid hpd
            have HASK := Lib.hid hask
            obtain ⟨an, cn, hbn, hqn⟩ := hst.now
            have k9 := hbn.cell 0
            have hzw := hst.lim.size
            have hsh := hlv.short hrng.1
            rw [List.length_append, Int.toNat_natCast] at hsh
            have HQN := Lib.hid hqn
            have hnl := hlv.nlen
            have hol := hlv.olen
            clear hst hlv hpd hask hqn
            by_cases hL : L.length = 0
            · have HL0 : Hid (L = []) := Lib.hid (List.eq_nil_of_length_eq_zero hL)
              have k8 := ((HFX.out.at HST.out).2.1).cell 0
              rw [Int.toNat_natCast] at k8
              go_wp2_with fail
              refine bodyPost_ret (v := .tuple #[.slice (some ⟨w2.heap.size + 1 + 1 + 1, 0, none⟩) nn nn, .int .i64 0]) ?_ rfl ?_
              · simp [results, Try.results89, go_sem]
              · have hz8 := HFX.out.lt.2.1
                have hlv := HLV.out
                rw [HL0.out] at hlv
                have hfit : ∀ i, 0 ≤ ix od i ∧ ix od i ≤ 4000000 := fun i => by
                  by_cases hi : i < od.length
                  · have := (hlv.out ((i : Int) + 1) (by omega) (by omega)).2
                    rw [show ((i : Int) + 1 - 1).toNat = i by omega] at this
                    exact this
                  · have : ix od i = 0 := by unfold ix; rw [List.getD_eq_getElem?_getD, List.getElem?_eq_none (by omega)]; rfl
                    rw [this]; omega
                have hlast := hlv.done HPD.out (by have := HASK.out; rw [HL0.out, List.append_nil] at this; exact this)
                rw [Int.toNat_natCast] at hlast
                have hob := HST.out.out
                refine ⟨od, _, _, rfl, ⟨fun i => by have := hfit i; omega, .inr ⟨w2.heap.size + 1 + 1 + 1, 0, nn, (od.map (Value.int .i64)).toArray, by rw [show od.length = nn by omega], by omega, hob, by omega, by unfold maxLen; omega, by simp; omega, fun i hi => by rw [Nat.zero_add, List.getElem?_toArray]; exact mapI_at od i hi⟩⟩, by omega, fun i => (hfit i).1, hlast, (HFX.out.at HST.out).2.2.2⟩
            · have hL1 : 0 < L.length := by omega
              have kf9 := hbn.free 0
              have hb2c := HST.out.clear (⟨HFX.out.ne.2.1, HFX.out.ne.2.2.1⟩ : _ ∧ _)
              have HBACK : Hid (∀ nd' od' l' wy, RSt (wr.setCell ⟨w2.heap.size + 1 + 1 + 1 + 1 + 1, 0, none⟩ (.slice none 0 0)) w2.heap.size (w2.heap.size + 1 + 1 + 1) (w2.heap.size + 1 + 1 + 1 + 1 + 1) nd' od' l' wy → RSt w1 w2.heap.size (w2.heap.size + 1 + 1 + 1) (w2.heap.size + 1 + 1 + 1 + 1 + 1) nd' od' l' wy) := Lib.hid (fun _ _ _ _ k => HST.out.back k)
              have HST2 := Lib.hid hb2c
              have HFX2 := Lib.hid (HFX.out.clear HST.out (.slice none 0 0))
              have HUT2 := Lib.hid ((HUT.out.lim HST.out.lim (by omega) (by omega)).kept (w' := wr.setCell ⟨w2.heap.size + 1 + 1 + 1 + 1 + 1, 0, none⟩ (.slice none 0 0)) (by simp [World.setCell]) (fun i hi _ => Below.heap_setCell _ _ _ _ (show i ≠ w2.heap.size + 1 + 1 + 1 + 1 + 1 by omega)))
              have hlast := (QRow.kept (w' := wr.setCell ⟨w2.heap.size + 1 + 1 + 1 + 1 + 1, 0, none⟩ (.slice none 0 0)) HQN.out (fun i hi _ _ => Below.heap_setCell _ _ _ _ (show i ≠ w2.heap.size + 1 + 1 + 1 + 1 + 1 by have := HFX.out.lt; omega))).ints (by omega)
              obtain ⟨_, _, e9, -, -, -, hlastC⟩ := hlast.form
              simp only [Value.slice.injEq, true_and] at e9
              obtain ⟨rfl, rfl⟩ := e9
              obtain ⟨bl, offl, rfl, hbl, hlc⟩ := hlastC hL1
              go_upto_region 33 with fail
              have hblo := HQN.out.lo
              have HLC : Hid (∀ wx, Lim (wr.setCell ⟨w2.heap.size + 1 + 1 + 1 + 1 + 1, 0, none⟩ (.slice none 0 0)).heap.size [w2.heap.size, w2.heap.size + 1 + 1 + 1, w2.heap.size + 1 + 1 + 1 + 1 + 1] (wr.setCell ⟨w2.heap.size + 1 + 1 + 1 + 1 + 1, 0, none⟩ (.slice none 0 0)) wx → ∀ j, j < L.length → wx.cell? ⟨bl, offl + j, none⟩ = some (.int .i64 (ix L j))) := Lib.hid (fun wx hlm j hj => (World.cell?_of_block (a := ⟨bl, offl + j, none⟩) (hlm.block bl hbl (by simp only [List.mem_cons, List.not_mem_nil, or_false]; have := HFX.out.lt; omega))).trans (hlc j hj))
              clear hb2c hlast hlastC hlc k9 kf9 hbn HST HQN
              generalize wr.setCell ⟨w2.heap.size + 1 + 1 + 1 + 1 + 1, 0, none⟩ (.slice none 0 0) = W2 at *
              go_wp2_with fail
              go_loopw [106] (fun i wx => R5' R W2 w2.heap.size (w2.heap.size + 1 + 1 + 1) (w2.heap.size + 1 + 1 + 1 + 1 + 1) C L od i wx) (fun i _ => L.length - (intOf i).toNat)
              case atStart => exact ⟨0, Nat.zero_le _, rfl, nd, hnl, HST2.out, by rw [List.take_zero, List.append_nil]; exact HPD.out⟩
              case round =>
                obtain ⟨j, hj, rfl, nd5, hnl5, hst5, hpd5⟩ := hrel
                have HST5 := Lib.hid hst5
                have HPD5 := Lib.hid hpd5
                have hz5 := hst5.lim.size
                clear hst5 hpd5
                by_cases hltj : j < L.length
                · have kl := HLC.out _ HST5.out.lim j hltj
                  have hlr := HLV.out.at hltj
                  obtain ⟨an, han⟩ : ∃ an : Nat, ix L j = an := ⟨(ix L j).toNat, by omega⟩
                  have hfr := HLV.out.fresh hltj
                  rw [han] at kl hfr
                  have han1 : an ≤ nn := by omega
                  have HAN := Lib.hid han
                  have HFR := Lib.hid hfr
                  have HUT5 := Lib.hid (HUT2.out.lim HST5.out.lim (by omega) (by have := HUT2.out.lo; omega))
                  have ktab := HUT5.out.cell an han1
                  obtain ⟨ad, capd, hV, hcellU⟩ := HUT5.out.at an han1
                  rw [hV] at ktab
                  have HV := Lib.hid hV
                  have hULn : (usesU R R.length an).length ≤ 330000000 := by
                    have h2 := usesU_len R an 8002 (fun i hi => (HD.out.body i hi).2) R.length (Nat.le_refl _)
                    have h4 : R.length * 8002 ≤ 40000 * 8002 := Nat.mul_le_mul_right _ (by omega)
                    omega
                  clear han hfr hV hlr hcellU
                  go_wp2_with fail
                  clear kl ktab
                  obtain ⟨wo5, rfl⟩ : ∃ wo : World, wo = wr := ⟨_, rfl⟩
                  go_loopw [115] (fun i wx => R6' R W2 w2.heap.size (w2.heap.size + 1 + 1 + 1) (w2.heap.size + 1 + 1 + 1 + 1 + 1) (C ++ L.take j) od an i wx) (fun i _ => (usesU R R.length an).length - (intOf i).toNat)
                  case atStart => exact ⟨0, Nat.zero_le _, rfl, nd5, hnl5, HST5.out, fun i hi => by rw [HPD5.out i hi, List.take_zero]; simp [sumAt]⟩
                  case round =>
                    obtain ⟨q, hq, rfl, nd6, hnl6, hst6, hpd6⟩ := hrel
                    have HST6 := Lib.hid hst6
                    have HPD6 := Lib.hid hpd6
                    have hz6' := hst6.lim.size
                    have HUT6 := Lib.hid (HUT2.out.lim hst6.lim (by omega) (by have := HUT2.out.lo; omega))
                    clear hst6 hpd6
                    by_cases hltq : q < (usesU R R.length an).length
                    · obtain ⟨_, _, e9, hcellU⟩ := HUT6.out.at an han1
                      rw [HV.out] at e9
                      simp only [Value.slice.injEq, true_and] at e9
                      obtain ⟨rfl, rfl⟩ := e9
                      obtain ⟨gu, rfl, hgu1, hgu2, ku1, ku2⟩ := hcellU q hltq
                      obtain ⟨ui, uk, hui, huk, hue, hup⟩ : ∃ i k : Nat, i < R.length ∧ k < (ixR R i).body.length ∧ ix (ixR R i).body k = an ∧ (usesU R R.length an).getD q (0, 0) = ((i : Int), wOf (ixR R i) k) := by
                        have : (usesU R R.length an).getD q (0, 0) ∈ usesU R R.length an := by rw [List.getD_eq_getElem?_getD, List.getElem?_eq_getElem hltq]; exact List.getElem_mem hltq
                        exact (usesU_mem _).1 this
                      have HUP := Lib.hid hup
                      rw [hup] at ku1 ku2
                      simp only at ku1 ku2
                      have hwb := HD.out.w1 hui huk
                      generalize wOf (ixR R ui) uk = uw at *
                      clear hue huk hup hcellU
                      go_upto_region 39 with fail
                      have hbu := Blk.new wr [.int .i64 ui, .int .i64 uw] 126
                      have hbx := bal (Below.refl wr.heap.size wr) (.cells #[.int .i64 ui, .int .i64 uw] 126)
                      have HBU := Lib.hid hbu
                      have HST9 := Lib.hid (HST6.out.on hbx)
                      clear hbu hbx ku1 ku2
                      generalize wr.alloc (.cells #[.int .i64 ui, .int .i64 uw] 126) = W9 at *
                      obtain ⟨g6, -, -, -⟩ := HFX2.out.at HST9.out
                      have hndl : ui < nd6.length := by omega
                      have k6 : ∀ e : Ext W9, e.world.cell? ⟨w2.heap.size + 1, 0, none⟩ = some (.slice (some ⟨w2.heap.size, 0, none⟩) R.length R.length) := fun e => (bcell e.below _ _ g6.lt).trans (g6.cell 0)
                      have ku1 : ∀ e : Ext W9, e.world.cell? ⟨wr.heap.size, 0, none⟩ = some (.int .i64 ui) := fun e => (bcell e.below _ _ HBU.out.lt).trans (HBU.out.cell 0)
                      have ku2 : ∀ e : Ext W9, e.world.cell? ⟨wr.heap.size, 1, none⟩ = some (.int .i64 uw) := fun e => (bcell e.below _ _ HBU.out.lt).trans (HBU.out.cell 1)
                      have kn : ∀ e : Ext W9, e.world.cell? ⟨w2.heap.size, ui, none⟩ = some (.int .i64 (ix nd6 ui)) := fun e => (bcell e.below _ _ HST9.out.need.lt).trans ((HST9.out.need.cell ui).trans (mapI_at nd6 ui hndl))
                      have hpart := HD.out.part HFR.out hui q
                      have hpd6 := HPD6.out ui hui
                      have hwr : IntKind.i64.wrap (ix nd6 ui - uw) = ix nd6 ui - uw := by rw [IntKind.wrap_i64]; omega
                      clear g6 hpart hpd6
                      refine wp_region_tail' 9 (fun _ => True) (fun _ _ _ _ _ _ => False) (fun _ => false) (by kernel_rfl) (by kernel_rfl) (by kernel_rfl) (fun _ _ => trivial) (fun _ _ _ _ _ _ _ h _ => h) ?_
                      simp only [List.take_succ_cons, List.take_zero, List.drop_succ_cons, List.drop_zero]
                      iterate 9 (refine walkP_head (by kernel_rfl) rfl rfl rfl (fun K hK => ?_); go_big_quiet_op; refine hK _ ?_; clear hK K)
                      intro wy hby hF hI hP
                      clear hF hI hP
                      have hsy := HST9.out.on hby
                      have ky := (hsy.need.cell ui).trans (mapI_at nd6 ui hndl)
                      have fy := hsy.need.free ui
                      have HSY := Lib.hid (hsy.setNeed (⟨by omega, by omega⟩ : _ ∧ _) (by have := HFX2.out.lt; omega) ui (ix nd6 ui - uw))
                      clear hsy hby k6 ku1 ku2 kn
                      refine ⟨rfl, rfl, ?_⟩
                      go_simp
                      simp only [tailW]
                      go_wp2_with fail
                      first
                        | (go_roundw
                           case rel => (exact ⟨q + 1, by omega, by go_num, nd6.set ui (ix nd6 ui - uw), by simpa using hnl6, HSY.out, pay_step hltq HUP.out hndl HPD6.out⟩)
                           case measure => (simp [intOf]; omega))
                        | (refine ⟨?_, ?_⟩
                           · (exact ⟨q + 1, by omega, by go_num, nd6.set ui (ix nd6 ui - uw), by simpa using hnl6, HSY.out, pay_step hltq HUP.out hndl HPD6.out⟩)
                           · (simp [intOf]; omega))
                    · obtain rfl : q = (usesU R R.length an).length := by omega
                      go_wp2_with fail
                      first
                        | (go_roundw
                           case rel => (exact ⟨j + 1, by omega, by go_num, nd6, hnl6, HST6.out, by rw [take_push L j hltj, HAN.out]; exact paid_push HFR.out (fun i hi => by have := HPD6.out i hi; rw [List.take_length] at this; exact this)⟩)
                           case measure => (simp [intOf]; omega))
                        | (refine ⟨?_, ?_⟩
                           · (exact ⟨j + 1, by omega, by go_num, nd6, hnl6, HST6.out, by rw [take_push L j hltj, HAN.out]; exact paid_push HFR.out (fun i hi => by have := HPD6.out i hi; rw [List.take_length] at this; exact this)⟩)
                           · (simp [intOf]; omega))
                · obtain rfl : j = L.length := by omega
                  have HPD7 : Hid (Paid R (C ++ L) nd5) := Lib.hid (by have := HPD5.out; rw [List.take_length] at this; exact this)
                  have HLV7 := Lib.hid (HLV.out.turn hnl5)
                  have HASK7 : Hid (Asked R ((C ++ L) ++ []) nd5 (Todo R L 0)) := Lib.hid (by rw [List.append_nil]; exact Asked.pay HPD.out HPD7.out HASK.out)
                  clear HPD5
                  go_wp2_with fail
                  go_loopw [132] (fun i wx => R7' R nn W2 w2.heap.size (w2.heap.size + 1 + 1 + 1) (w2.heap.size + 1 + 1 + 1 + 1 + 1) C L nd5 (fun j => Todo R L j) L.length i wx) (fun i _ => L.length - (intOf i).toNat)
                  case atStart => exact ⟨0, Nat.zero_le _, rfl, _, _, HST5.out, HLV7.out, HASK7.out⟩
                  case round =>
                    obtain ⟨j, hj, rfl, od7, l7, hst7, hlv7, hask7⟩ := hrel
                    have HST7 := Lib.hid hst7
                    have HLV8 := Lib.hid hlv7
                    have HASK8 := Lib.hid hask7
                    have hz7 := hst7.lim.size
                    clear hst7 hlv7 hask7
                    by_cases hltj : j < L.length
                    · have kl := HLC.out _ HST7.out.lim j hltj
                      have hlr := HLV.out.at hltj
                      obtain ⟨an, han⟩ : ∃ an : Nat, ix L j = an := ⟨(ix L j).toNat, by omega⟩
                      rw [han] at kl
                      have han1 : an ≤ nn := by omega
                      have HAN := Lib.hid han
                      have HUT5 := Lib.hid (HUT2.out.lim HST7.out.lim (by omega) (by have := HUT2.out.lo; omega))
                      have ktab := HUT5.out.cell an han1
                      obtain ⟨ad, capd, hV, -⟩ := HUT5.out.at an han1
                      rw [hV] at ktab
                      have HV := Lib.hid hV
                      have hULn : (usesU R R.length an).length ≤ 330000000 := by
                        have h2 := usesU_len R an 8002 (fun i hi => (HD.out.body i hi).2) R.length (Nat.le_refl _)
                        have h4 : R.length * 8002 ≤ 40000 * 8002 := Nat.mul_le_mul_right _ (by omega)
                        omega
                      have HOP : Hid (Asked R ((C ++ L) ++ l7) nd5 (Todo2 R L j 0)) := Lib.hid (fun i hi h0 => (HASK8.out i hi h0).imp id (fun h => h.open))
                      clear han hV hlr
                      go_wp2_with fail
                      clear kl ktab
                      obtain ⟨wo7, rfl⟩ : ∃ wo : World, wo = wr := ⟨_, rfl⟩
                      go_loopw [141] (fun i wx => R7' R nn W2 w2.heap.size (w2.heap.size + 1 + 1 + 1) (w2.heap.size + 1 + 1 + 1 + 1 + 1) C L nd5 (fun q => Todo2 R L j q) (usesU R R.length an).length i wx) (fun i _ => (usesU R R.length an).length - (intOf i).toNat)
                      case atStart => exact ⟨0, Nat.zero_le _, rfl, _, _, HST7.out, HLV8.out, HOP.out⟩
                      case round =>
                        obtain ⟨q, hq, rfl, od8, l8, hst8, hlv8, hask8⟩ := hrel
                        have HST8 := Lib.hid hst8
                        have HLV9 := Lib.hid hlv8
                        have HASK9 := Lib.hid hask8
                        have hol8 := hlv8.olen
                        have hll8 : l8.length ≤ 4000 := by have := hlv8.short hrng.1; rw [List.length_append, Int.toNat_natCast] at this; omega
                        have HUT6 := Lib.hid (HUT2.out.lim hst8.lim (by omega) (by have := HUT2.out.lo; omega))
                        clear hst8 hlv8 hask8
                        by_cases hltq : q < (usesU R R.length an).length
                        · obtain ⟨_, _, e9, hcellU⟩ := HUT6.out.at an han1
                          rw [HV.out] at e9
                          simp only [Value.slice.injEq, true_and] at e9
                          obtain ⟨rfl, rfl⟩ := e9
                          obtain ⟨gu, rfl, hgu1, hgu2, ku1, ku2⟩ := hcellU q hltq
                          obtain ⟨ui, uk, hui, huk, hue, hup⟩ : ∃ i k : Nat, i < R.length ∧ k < (ixR R i).body.length ∧ ix (ixR R i).body k = an ∧ (usesU R R.length an).getD q (0, 0) = ((i : Int), wOf (ixR R i) k) := by
                            have : (usesU R R.length an).getD q (0, 0) ∈ usesU R R.length an := by rw [List.getD_eq_getElem?_getD, List.getElem?_eq_getElem hltq]; exact List.getElem_mem hltq
                            exact (usesU_mem _).1 this
                          have HUP := Lib.hid hup
                          rw [hup] at ku1 ku2
                          simp only at ku1 ku2
                          generalize wOf (ixR R ui) uk = uw at *
                          clear hue huk hup hcellU
                          go_upto_region 48 with fail
                          have hbu := Blk.new wr [.int .i64 ui, .int .i64 uw] 126
                          have hbx := bal (Below.refl wr.heap.size wr) (.cells #[.int .i64 ui, .int .i64 uw] 126)
                          have HST9 := Lib.hid (HST8.out.on hbx)
                          have ku1 := hbu.cell 0
                          clear hbu hbx ku2
                          generalize wr.alloc (.cells #[.int .i64 ui, .int .i64 uw] 126) = W9 at *
                          go_wp2_with (go_at_call 109; (with_reducible refine (reach_any HD.out HFX2.out HST9.out hnl5 hol8 hll8 ui hui rd).mono ?_); rintro e w5 ⟨rfl, od5, l5, hst5, hrp5⟩; have HST5 := Lib.hid hst5; have HRP := Lib.hid hrp5; clear hst5 hrp5)
                          have hre := HLV9.out.reach HD.out HPD7.out hui (by omega) HRP.out
                          have hasked : Asked R ((C ++ L) ++ l5) nd5 (Todo2 R L j (q + 1)) := HASK9.out.reach hre.2.1 hre.2.2 (fun i hi => by
                            rcases hi with ⟨q', h1, h2, h3⟩ | hi
                            · by_cases e : q' = q
                              · subst e
                                rw [HAN.out, HUP.out] at h3
                                exact .inl (by simp only at h3; omega)
                              · exact .inr (.inl ⟨q', by omega, h2, h3⟩)
                            · exact .inr (.inr hi))
                          first
                            | (go_roundw
                               case rel => (exact ⟨q + 1, by omega, by go_num, _, _, HST5.out, hre.1, hasked⟩)
                               case measure => (simp [intOf]; omega))
                            | (refine ⟨?_, ?_⟩
                               · (exact ⟨q + 1, by omega, by go_num, _, _, HST5.out, hre.1, hasked⟩)
                               · (simp [intOf]; omega))
                        · obtain rfl : q = (usesU R R.length an).length := by omega
                          go_wp2_with fail
                          first
                            | (go_roundw
                               case rel => (exact ⟨j + 1, by omega, by go_num, _, _, HST8.out, HLV9.out, fun i hi h0 => (HASK9.out i hi h0).imp id (fun h => by rw [← HAN.out] at h; exact h.close)⟩)
                               case measure => (simp [intOf]; omega))
                            | (refine ⟨?_, ?_⟩
                               · (exact ⟨j + 1, by omega, by go_num, _, _, HST8.out, HLV9.out, fun i hi h0 => (HASK9.out i hi h0).imp id (fun h => by rw [← HAN.out] at h; exact h.close)⟩)
                               · (simp [intOf]; omega))
                    · obtain rfl : j = L.length := by omega
                      have hsh8 := HLV8.out.short hrng.1
                      rw [List.length_append, List.length_append, Int.toNat_natCast] at hsh8
                      go_wp2_with fail
                      go_roundg (gk - L.length)
                      case measure => omega
                      case rel => exact ⟨C ++ L, l7, od7, nd5, rd + 1, by rw [List.length_append]; omega, by go_num, by omega, by rw [List.length_append]; push_cast; omega, HBACK.out _ _ _ _ HST7.out, HLV8.out, HPD7.out, fun i hi h0 => (HASK8.out i hi h0).imp id (fun h => h.none)⟩

end Go.Proofs.Ytdoecchigfdilaa

/- reduct.Least: of definite rules, the least closed set. -/
namespace Go.Proofs.Ytdoecchigfdilaa
open Go.RowKit

def LeastPost (R : List GR) (nn : Nat) (w : World) (e : Ending) (w' : World) : Prop :=
  ∃ M ao co, e = .returned (.tuple #[.slice ao M.length co, .int .i64 0]) ∧ QRow w.heap.size w' (.slice ao M.length co) M ∧ IsLeast R M ∧ M.Pairwise (· < ·) ∧ (∀ x ∈ M, 1 ≤ x ∧ x ≤ nn) ∧ M.length ≤ nn ∧ Below w.heap.size w w'

def LsRel (od : List Int) (nn : Nat) (w1 : World) (v i : Value) (wx : World) : Prop :=
  ∃ k : Nat, k ≤ nn ∧ i = .int .i64 k ∧ QRow w1.heap.size wx v (posL od k) ∧ Below w1.heap.size w1 wx

set_option maxHeartbeats 4000000 in
set_option maxRecDepth 100000 in
theorem least_any (v : Value) (R : List GR) (nn : Nat) (w : World) (h : RulesIs w v R) (hB : definiteB nn R = true) :
    Calls Try.prog 58 #[.int .i64 nn, v] w (LeastPost R nn w) := by
  have hd := definiteB_spec hB
  have hrng := hd.rng
  have h0 := Lib.hid h
  have HB := Lib.hid hB
  obtain ⟨ar, cr, rfl, -, hl1, -, -⟩ := h.form
  clear h hd
  go_enter Try.func58, Try.ntmps58
  go_wp2_with (go_at_call 89; (with_reducible refine (rounds_any _ R nn _ h0.out HB.out).mono ?_); rintro e w1 ⟨od, ao, co, rfl, hq1, hol, hpos, hls, hb1⟩; have HQ1 := Lib.hid hq1; have HLS := Lib.hid hls; have HB1 := Lib.hid hb1; clear hq1 hls hb1)
  have hints := HQ1.out.ints (by omega)
  obtain ⟨_, _, e9, -, -, -, hcell⟩ := hints.form
  rw [hol] at e9
  simp only [Value.slice.injEq, true_and] at e9
  obtain ⟨rfl, rfl⟩ := e9
  have HC := Lib.hid hcell
  have HPOS := Lib.hid hpos
  have HOL := Lib.hid hol
  clear hcell hints hol hpos
  go_loopw [8, 22] (fun v i wx => LsRel od nn w1 v i wx) (fun _ i _ => nn - (intOf i).toNat)
  case atStart => exact ⟨0, Nat.zero_le _, rfl, QRow.nil _ _, Below.refl _ _⟩
  case round =>
    obtain ⟨k, hk, rfl, hq, hb⟩ := hrel
    have HQ := Lib.hid hq
    have HBX := Lib.hid hb
    have hlen2 := posL_len od k
    obtain ⟨av, nv, cv, rfl⟩ := hq.form
    have hzr := hb.size
    clear hq hb
    by_cases hlt : k < nn
    · obtain ⟨bo, offo, rfl, hbo, hco⟩ := HC.out (by have := HOL.out; omega)
      have ko := (bcell HBX.out _ _ hbo).trans (hco k (by have := HOL.out; omega))
      have hstep : posL od (k + 1) = if 0 < ix od k then posL od k ++ [(k : Int) + 1] else posL od k := rfl
      have HN := Lib.hid hstep
      clear hstep hco
      by_cases hp : 0 < ix od k
      · have HN2 : Hid (posL od (k + 1) = posL od k ++ [(k : Int) + 1]) := Lib.hid (by rw [HN.out, if_pos hp])
        have hxI : InI ((k : Int) + 1) := by unfold InI; omega
        have hap : ((posL od k).length + 1) * 8 ≤ 140737488351232 := by omega
        go_wp2_with (at_builtin; refine wpList_appendQ rfl _ _ 23 Try.underlying23 rfl w1.heap.size _ (posL od k) ((k : Int) + 1) rfl (HQ.out.kept (w' := wr.alloc (.cells #[.int .i64 ((k : Int) + 1)] 3)) (fun i h1 h2 _ => Below.heap_alloc _ _ _ h2)) wr.heap.size 1 rfl (Blk.new wr [.int .i64 ((k : Int) + 1)] _) hxI hap (by simp; omega) ?_; intro v4 w4 hq4 hg4 hl4; have HB4 := Lib.hid (below_push HBX.out HQ.out (Nat.le_refl _) hg4); obtain ⟨a4, n4, c4, rfl⟩ := hq4.form; have HQ4 := Lib.hid hq4; clear hq4 hg4 hl4)
        first
          | (go_roundw
             case rel => (exact ⟨k + 1, by omega, by go_num, by rw [HN2.out]; exact HQ4.out, HB4.out⟩)
             case measure => (simp [intOf]; omega))
          | (refine ⟨?_, ?_⟩
             · (exact ⟨k + 1, by omega, by go_num, by rw [HN2.out]; exact HQ4.out, HB4.out⟩)
             · (simp [intOf]; omega))
      · have HN2 : Hid (posL od (k + 1) = posL od k) := Lib.hid (by rw [HN.out, if_neg hp])
        go_wp2_with fail
        first
          | (go_roundw
             case rel => (exact ⟨k + 1, by omega, by go_num, by rw [HN2.out]; exact HQ.out, HBX.out⟩)
             case measure => (simp [intOf]; omega))
          | (refine ⟨?_, ?_⟩
             · (exact ⟨k + 1, by omega, by go_num, by rw [HN2.out]; exact HQ.out, HBX.out⟩)
             · (simp [intOf]; omega))
    · obtain rfl : k = nn := by omega
      obtain ⟨a9, c9, e9⟩ := HQ.out.slenQ
      simp only [Value.slice.injEq] at e9
      obtain ⟨rfl, rfl, rfl⟩ := e9
      go_wp2_with fail
      refine bodyPost_ret (v := .tuple #[.slice av (posL od k).length cv, .int .i64 0]) ?_ rfl ?_
      · simp [results, Try.results58, go_sem]
      · have hz := HB1.out.size
        exact ⟨posL od k, _, _, rfl, HQ.out.mono hz, HLS.out, posL_sorted od k, posL_range od k, posL_len od k, HB1.out.trans (HBX.out.mono hz)⟩

/-- The length of the least closed set is that of any set with the same atoms, in order. -/
theorem sorted_eq : ∀ {L M : List Int}, L.Pairwise (· < ·) → M.Pairwise (· < ·) → (∀ x, x ∈ L ↔ x ∈ M) → L = M
  | [], [], _, _, _ => rfl
  | [], y :: M, _, _, h => absurd ((h y).2 (by simp)) (by simp)
  | x :: L, [], _, _, h => absurd ((h x).1 (by simp)) (by simp)
  | x :: L, y :: M, hL, hM, h => by
    have hL' := List.pairwise_cons.1 hL
    have hM' := List.pairwise_cons.1 hM
    have hxy : x = y := by
      have h1 := (h x).1 (by simp)
      have h2 := (h y).2 (by simp)
      simp only [List.mem_cons] at h1 h2
      rcases h1 with h1 | h1
      · exact h1
      · rcases h2 with h2 | h2
        · exact h2.symm
        · have := hM'.1 x h1; have := hL'.1 y h2; omega
    subst hxy
    refine congrArg (x :: ·) (sorted_eq hL'.2 hM'.2 fun z => ?_)
    have hz := h z
    simp only [List.mem_cons] at hz
    constructor
    · intro hm
      have := hL'.1 z hm
      rcases hz.1 (.inr hm) with rfl | h1
      · omega
      · exact h1
    · intro hm
      have := hM'.1 z hm
      rcases hz.2 (.inr hm) with rfl | h1
      · omega
      · exact h1

end Go.Proofs.Ytdoecchigfdilaa

/- The plain law of SourceMore: more assigned founds less; the founded atoms of a definite program are its least closed set. -/
namespace Go.Proofs.Ytdoecchigfdilaa
open Go.RowKit

/-- More is assigned. -/
def Anti (p : GP) (a b : List Int) : Prop := ∀ l : Int, 1 ≤ l.natAbs → (l.natAbs : Int) ≤ p.n + p.rules.length → offB a l = true → offB b l = true

theorem ordered_abs {l : List Int} {n : Int} (h : orderedB l n = true) {k : Nat} (hk : k < l.length) : 1 ≤ (ix l k).natAbs ∧ ((ix l k).natAbs : Int) ≤ n := by
  have := ordered_lit h (ix_mem hk)
  omega

theorem avSum_anti {p : GP} {a b : List Int} {G : Int → Int} {r : GR} (h : Anti p a b) (hb : ∀ k, k < r.body.length → 1 ≤ (ix r.body k).natAbs ∧ ((ix r.body k).natAbs : Int) ≤ p.n + p.rules.length) (hw : ∀ k, k < r.body.length → 0 ≤ ix r.w k) :
    ∀ k, k ≤ r.body.length → avSum r b G (fun _ => 0) 1 k ≤ avSum r a G (fun _ => 0) 1 k
  | 0, _ => Int.le_refl _
  | k + 1, hk => by
    have ih := avSum_anti (G := G) h hb hw k (by omega)
    have h1 := hb k (by omega)
    have h2 := hw k (by omega)
    have h3 := h (ix r.body k) h1.1 h1.2
    unfold avSum
    rw [holds_set, holds_set]
    cases ha : offB a (ix r.body k) with
    | true => rw [h3 ha]; simp only [Bool.not_true, Bool.false_and, Bool.false_eq_true, if_false]; omega
    | false =>
      simp only [Bool.not_false, Bool.true_and]
      cases hb' : offB b (ix r.body k) with
      | true => simp only [Bool.not_true, Bool.false_and, Bool.false_eq_true, if_false]; split <;> omega
      | false => simp only [Bool.not_false, Bool.true_and]; omega

theorem avS_anti {p : GP} {a b : List Int} {G : Int → Int} {i : Int} (hv : validE p = 0) (hi : 0 ≤ i ∧ i < p.rules.length) (h : Anti p a b) (hav : avS p b G i = true) : avS p a G i = true := by
  have hV := validP hv
  have hil : i.toNat < p.rules.length := by omega
  have hb : ∀ k, k < (ixR p.rules i.toNat).body.length → 1 ≤ (ix (ixR p.rules i.toNat).body k).natAbs ∧ ((ix (ixR p.rules i.toNat).body k).natAbs : Int) ≤ p.n + p.rules.length := fun k hk => by
    have := ordered_abs (hV.body i.toNat hil) hk
    omega
  unfold avS avB availB at *
  simp only [Bool.and_eq_true, Bool.not_eq_true'] at *
  refine ⟨?_, ?_⟩
  · cases ho : offB a (p.n + 1 + i.toNat) with
    | false => rfl
    | true =>
      have hn := hV.n.1
      have := h _ (by omega) (by omega) ho
      rw [hav.1] at this; cases this
  · have h2 := hav.2
    cases hs : (ixR p.rules i.toNat).sum with
    | true =>
      rw [hs] at h2
      simp only [if_true, decide_eq_true_eq] at h2 ⊢
      obtain ⟨h3, h4, -⟩ := weights_sum (hV.sum i.toNat hil hs)
      have := avSum_anti (G := G) h hb (fun k hk => by have := h4 k (by omega); omega) _ (Nat.le_refl _)
      omega
    | false =>
      rw [hs] at h2
      simp only [Bool.false_eq_true, if_false] at h2 ⊢
      refine allR_true fun k hk => ?_
      have h3 := allR_get h2 k hk
      rw [holds_set] at *
      simp only [Bool.and_eq_true, Bool.not_eq_true'] at *
      refine ⟨?_, h3.2⟩
      cases ho : offB a (ix (ixR p.rules i.toNat).body k) with
      | false => rfl
      | true => have := h _ (hb k hk).1 (hb k hk).2 ho; rw [h3.1] at this; cases this

theorem fnd_anti {p : GP} {a b : List Int} {F G : Int → Int} (hv : validE p = 0) (h : Anti p a b) (hF : IsFnd p a F) (hG : IsFnd p b G) (x : Int) (hx : 0 < G x) : 0 < F x :=
  hG.least F (fun x i h1 h2 h3 h4 h5 => hF.closed x i h1 h2 (by
    cases ho : offB a x with
    | false => rfl
    | true => have := h x (by omega) (by omega) ho; rw [h3] at this; cases this) h4 (avS_anti hv ⟨h4.1, h4.2.1⟩ h h5)) x hx

/-- The first n numbers of an assignment. -/
def firstN (a : List Int) (n : Nat) : List Int := (List.range n).map (ix a)
theorem firstN_len (a : List Int) (n : Nat) : (firstN a n).length = n := by simp [firstN]
theorem firstN_ix (a : List Int) (n i : Nat) (hi : i < n) : ix (firstN a n) i = ix a i := by
  unfold firstN
  conv => lhs; unfold ix
  simp [List.getD_eq_getElem?_getD, hi, ix]

theorem anti_set {p : GP} (a : List Int) {n : Nat} (hn : (n : Int) = p.n + p.rules.length) (v : Nat) (s : Int) (hv : v < n) (h0 : ix a v = 0) : Anti p a ((firstN a n).set v s) := fun l h1 h2 h3 => by
  unfold offB at *
  simp only [Bool.and_eq_true, decide_eq_true_eq] at *
  have hne : l.natAbs - 1 ≠ v := fun e => h3.1.2 (by rw [e]; exact h0)
  rw [List.length_set, firstN_len, ix_set _ _ _ _ (by rw [firstN_len]; exact hv), if_neg hne, firstN_ix _ _ _ (by omega)]
  exact ⟨⟨by omega, h3.1.2⟩, h3.2⟩

theorem anti_first {p : GP} (a : List Int) {n : Nat} (hn : (n : Int) = p.n + p.rules.length) : Anti p a (firstN a n) := fun l h1 h2 h3 => by
  unfold offB at *
  simp only [Bool.and_eq_true, decide_eq_true_eq] at *
  rw [firstN_len, firstN_ix _ _ _ (by omega)]
  exact ⟨⟨by omega, h3.1.2⟩, h3.2⟩

/-! ### The positive rules -/
def posR (r : GR) : Bool := decide (r.head.length = 1) && !r.choice && allR r.body.length (fun k => decide (0 < ix r.body k))
def posRules (l : List GR) : List GR := l.filter posR
def GP.pos (p : GP) : GP := { p with rules := posRules p.rules }

theorem ixR_mem {l : List GR} {i : Nat} (hi : i < l.length) : ixR l i ∈ l := by
  have : ixR l i = l[i] := by simp [ixR, List.getD_eq_getElem?_getD, List.getElem?_eq_getElem hi]
  rw [this]; exact List.getElem_mem hi

theorem ixR_of_mem {l : List GR} {r : GR} (h : r ∈ l) : ∃ i, i < l.length ∧ ixR l i = r := by
  obtain ⟨i, hi, e⟩ := List.mem_iff_getElem.1 h
  exact ⟨i, hi, by simp [ixR, List.getD_eq_getElem?_getD, List.getElem?_eq_getElem hi, e]⟩

theorem rulesFrom_all {l : List GR} {n : Int} (h : ∀ i, i < l.length → ruleE (ixR l i) n = 0) : ∀ m k, k + m ≤ l.length → rulesFrom l n k m = 0
  | 0, _, _ => rfl
  | m + 1, k, hk => by
    unfold rulesFrom
    rw [if_neg (by rw [h k (by omega)]; simp)]
    exact rulesFrom_all h m (k + 1) (by omega)

theorem valid_rules {p : GP} (h : validE p = 0) : ∀ r ∈ p.rules, ruleE r p.n = 0 := fun r hr => by
  obtain ⟨i, hi, rfl⟩ := ixR_of_mem hr
  unfold validE at h
  split at h
  · omega
  split at h
  · omega
  split at h
  · rename_i h3; exact absurd h h3
  rename_i h3
  exact rulesFrom_zero p.rules.length 0 (Decidable.not_not.1 h3) i (by omega) (by omega)

/-- Fewer rules. -/
theorem valid_with {p : GP} (h : validE p = 0) (l : List GR) (hl : l.length ≤ 40000) (hr : ∀ r ∈ l, ruleE r p.n = 0) : validE { p with rules := l } = 0 := by
  have h4 : rulesE l p.n = 0 := rulesFrom_all (fun i hi => hr _ (ixR_mem hi)) _ _ (by omega)
  have e1 : namedB { p with rules := l } = namedB p := rfl
  unfold validE at h ⊢
  rw [e1]
  simp only [h4]
  split at h
  · omega
  rename_i h1
  rw [if_neg h1, if_neg (by omega)]
  split at h
  · omega
  split at h
  · rename_i h3; exact absurd h h3
  split at h
  · omega
  rename_i h5
  split at h
  · omega
  rename_i h6
  simp [h5, h6]

theorem pos_len (l : List GR) : (posRules l).length ≤ l.length := List.length_filter_le _ _

theorem pos_valid {p : GP} (h : validE p = 0) : validE p.pos = 0 :=
  valid_with h _ (by have := (validP h).rules; have := pos_len p.rules; omega) (fun r hr => valid_rules h r (List.mem_filter.1 hr).1)

theorem pos_definite {p : GP} (h : validE p = 0) : definiteB p.n (posRules p.rules) = true := by
  have hV := validP h
  have := pos_len p.rules
  have hr := hV.rules
  unfold definiteB
  rw [decide_eq_true ⟨hV.n.1, hV.n.2, by omega⟩, Bool.true_and]
  refine allR_true fun i hi => ?_
  have hm' : ixR (posRules p.rules) i ∈ p.rules ∧ posR (ixR (posRules p.rules) i) = true := List.mem_filter.1 (ixR_mem hi)
  generalize ixR (posRules p.rules) i = r at *
  have h1 := valid_rules h _ hm'.1
  have h2 := hm'.2
  unfold posR at h2
  simp only [Bool.and_eq_true, decide_eq_true_eq, Bool.not_eq_true'] at h2
  unfold defAt
  rw [decide_eq_true h1, h2.1.2, decide_eq_true (show r.head.length ≤ 1 by omega), anyR_false (fun j hj => decide_eq_false (by have := allR_get h2.2 j hj; simp only [decide_eq_true_eq] at this; omega))]
  rfl

/-! ### Founded and least -/
theorem offB_nil (l : Int) : offB [] l = false := by simp [offB, ix]

theorem holds_nil {G : Int → Int} {l : Int} (hl : 0 < l) : holdsB [] G (fun _ => 0) 1 l = decide (0 < G l) := by
  rw [holds_set, offB_nil, decide_eq_false (by omega)]; simp

theorem lhs_all {M : List Int} {r : GR} (hs : r.sum = false) : ∀ k, lhsTo M r k ≤ k ∧ ((k : Int) ≤ lhsTo M r k ↔ ∀ j, j < k → ix r.body j ∈ M)
  | 0 => by simp [lhsTo]
  | k + 1 => by
    have ih := lhs_all (M := M) hs k
    have hw : wOf r k = 1 := by unfold wOf; rw [hs]; rfl
    unfold lhsTo
    rw [hw]
    by_cases h : ix r.body k ∈ M
    · rw [if_pos h]
      push_cast
      refine ⟨by omega, ⟨fun h1 => lt_succ_all (ih.2.1 (by omega)) h, fun h1 => by have := ih.2.2 (fun j hj => h1 j (by omega)); omega⟩⟩
    · rw [if_neg h]
      push_cast
      refine ⟨by omega, ⟨fun h1 => by omega, fun h1 => absurd (h1 k (by omega)) h⟩⟩

theorem avSum_lhs {G : Int → Int} {M : List Int} {r : GR} (hs : r.sum = true) (hGM : ∀ x, 0 < G x ↔ x ∈ M) (hb : ∀ k, k < r.body.length → 0 < ix r.body k) : ∀ k, k ≤ r.body.length → avSum r [] G (fun _ => 0) 1 k = lhsTo M r k
  | 0, _ => rfl
  | k + 1, hk => by
    have hw : wOf r k = ix r.w k := by unfold wOf; rw [hs]; rfl
    unfold avSum lhsTo
    rw [avSum_lhs hs hGM hb k (by omega), holds_nil (hb k (by omega)), hw]
    by_cases h : ix r.body k ∈ M
    · rw [if_pos h, decide_eq_true ((hGM _).2 h)]; rfl
    · rw [if_neg h, decide_eq_false (fun h' => h ((hGM _).1 h'))]; rfl

theorem avS_need {p : GP} {R : List GR} (hR : p.rules = R) {G : Int → Int} {M : List Int} (hGM : ∀ x, 0 < G x ↔ x ∈ M) {i : Nat} (hb : ∀ k, k < (ixR R i).body.length → 0 < ix (ixR R i).body k) : avS p [] G i = true ↔ need0 (ixR R i) ≤ lhs M (ixR R i) := by
  subst hR
  unfold avS avB availB lhs need0
  rw [Int.toNat_natCast, offB_nil]
  simp only [Bool.not_false, Bool.true_and]
  cases hs : (ixR p.rules i).sum with
  | true =>
    simp only [if_true, decide_eq_true_eq]
    rw [avSum_lhs hs hGM hb _ (Nat.le_refl _)]
  | false =>
    simp only [Bool.false_eq_true, if_false]
    rw [(lhs_all hs _).2]
    constructor
    · intro h j hj
      have := allR_get h j hj
      rw [holds_nil (hb j hj)] at this
      exact (hGM _).1 (of_decide_eq_true this)
    · intro h
      refine allR_true fun j hj => ?_
      rw [holds_nil (hb j hj)]
      exact decide_eq_true ((hGM _).2 (h j hj))

/-- The founded atoms in order. -/
def upF (F : Int → Int) : Nat → List Int
  | 0 => []
  | k + 1 => if 0 < F ((k : Int) + 1) then upF F k ++ [(k : Int) + 1] else upF F k

theorem upF_mem (F : Int → Int) (x : Int) : ∀ k, x ∈ upF F k ↔ 1 ≤ x ∧ x ≤ k ∧ 0 < F x
  | 0 => by simp [upF]; omega
  | k + 1 => by
    have ih := upF_mem F x k
    unfold upF
    split
    · rename_i h
      simp only [List.mem_append, List.mem_singleton, ih]
      constructor
      · rintro (h1 | rfl)
        · exact ⟨h1.1, by omega, h1.2.2⟩
        · exact ⟨by omega, by omega, h⟩
      · rintro ⟨h1, h2, h3⟩
        by_cases e : x = (k : Int) + 1
        · exact .inr e
        · exact .inl ⟨h1, by omega, h3⟩
    · rename_i h
      rw [ih]
      constructor
      · rintro ⟨h1, h2, h3⟩; exact ⟨h1, by omega, h3⟩
      · rintro ⟨h1, h2, h3⟩
        refine ⟨h1, ?_, h3⟩
        by_cases e : x = (k : Int) + 1
        · subst e; exact absurd h3 h
        · omega

theorem upF_sorted (F : Int → Int) : ∀ k, (upF F k).Pairwise (· < ·)
  | 0 => by simp [upF]
  | k + 1 => by
    have ih := upF_sorted F k
    unfold upF
    split
    · refine List.pairwise_append.2 ⟨ih, by simp, fun a ha b hb => ?_⟩
      simp only [List.mem_singleton] at hb
      have := (upF_mem F a k).1 ha
      omega
    · exact ih

theorem upF_count (F : Int → Int) : ∀ k, (findTo F [] k).length + (upF F k).length = k
  | 0 => rfl
  | k + 1 => by
    have ih := upF_count F k
    unfold findTo upF
    by_cases h : 0 < F ((k : Int) + 1)
    · rw [if_neg (fun h' => h'.1 h), if_pos h]; simp; omega
    · rw [if_pos ⟨h, offB_nil _⟩, if_neg h]; simp; omega

/-- The founded atoms of a positive program under nothing are its least closed set. -/
theorem fnd_least {p : GP} (hv : validE p = 0) {F : Int → Int} {M : List Int} (hF : IsFnd p.pos [] F) (hM : IsLeast (posRules p.rules) M) (x : Int) : 0 < F x ↔ x ∈ M := by
  have hd := definiteB_spec (pos_definite hv)
  have hb : ∀ i, i < (posRules p.rules).length → ∀ k, k < (ixR (posRules p.rules) i).body.length → 0 < ix (ixR (posRules p.rules) i).body k := fun i hi k hk => by have := (hd.body i hi).1 k hk; omega
  constructor
  · intro hx
    have hone : ∀ x : Int, 0 < (if x ∈ M then (1 : Int) else 0) ↔ x ∈ M := fun x => by
      by_cases h : x ∈ M
      · rw [if_pos h]; exact ⟨fun _ => h, fun _ => by omega⟩
      · rw [if_neg h]; exact ⟨fun h' => by omega, fun h' => absurd h' h⟩
    have := hF.least (fun x => if x ∈ M then 1 else 0) (fun x i h1 h2 h3 h4 h5 => by
      have hil : i.toNat < (posRules p.rules).length := by have := h4.2.1; have := h4.1; show i.toNat < p.pos.rules.length; omega
      have e : i = (i.toNat : Int) := by have := h4.1; omega
      rw [e] at h5
      have h6 := (avS_need (p := p.pos) rfl (M := M) hone (hb _ hil)).1 h5
      have := hM.closed _ hil h6 x h4.2.2
      exact (hone x).2 this) x hx
    by_cases h : x ∈ M
    · exact h
    · rw [if_neg h] at this; omega
  · intro hx
    have hmem : ∀ y, 0 < F y ↔ y ∈ upF F p.n.toNat := fun y => by
      rw [upF_mem]
      constructor
      · intro h
        have h1 := hF.dom y h
        have h2 : y ≤ p.n := h1.2
        exact ⟨h1.1, by omega, h⟩
      · exact fun h => h.2.2
    refine (hmem x).2 (hM.least x hx _ (fun i hi hn y hy => ?_))
    refine (hmem y).1 (hF.closed y i ?_ ?_ (offB_nil _) ⟨by omega, by show (i : Int) < (posRules p.rules).length; omega, by rw [Int.toNat_natCast]; exact hy⟩ ((avS_need (p := p.pos) rfl hmem (hb i hi)).2 hn))
    · exact ((hd.head i hi).2 y hy).1
    · exact ((hd.head i hi).2 y hy).2

theorem least_count {p : GP} (hv : validE p = 0) {F : Int → Int} {M : List Int} (hF : IsFnd p.pos [] F) (hM : IsLeast (posRules p.rules) M) (hs : M.Pairwise (· < ·)) : (findTo F [] p.n.toNat).length + M.length = p.n.toNat := by
  have e : M = upF F p.n.toNat := sorted_eq hs (upF_sorted F _) (fun x => by
    rw [← fnd_least hv hF hM x, upF_mem]
    constructor
    · intro h
      have h1 := hF.dom x h
      have h2 : x ≤ p.n := h1.2
      exact ⟨h1.1, by omega, h⟩
    · exact fun h => h.2.2)
  rw [e]
  exact upF_count F _

/-! ### Source, of what never turns -/
section
variable {s : SP} {p : GP} {F K : Int → Int} {clock : Int} {w : World}

theorem Core.lookF (h : Core s p F K clock w) (x : Int) : (Instr.lookup 38 (.map (some s.bf)) (.int .i64 x) false).run Try.prog w = .ok (.int .i64 (F x)) w := by
  obtain ⟨wo, mo, a0, h1, h2, h3⟩ := h
  have := (h1.frm.same (h3 _ h1.lo.2.1 h1.hi.2.1)).lookup kvInt Try.underlying38 Try.underlying3 (Try.zeroValue3 w) x
  rw [mapI_getD] at this
  exact this

theorem Core.fitF (h : Core s p F K clock w) (x : Int) : InI (F x) := by
  obtain ⟨wo, mo, a0, h1, h2, h3⟩ := h
  exact h1.fitF x

theorem founded_core (h : Core s p F K clock w) (x : Int) :
    Calls Try.prog 28 #[.pointer (some ⟨s.b, 0, none⟩), .int .i64 x] w fun e w' => e = .returned (.bool (decide (0 < F x))) ∧ w = w' := by
  have hl := h.lookF x
  obtain ⟨va, ho⟩ := h.obj
  have ko := ho.cell
  have hf := h.fitF x
  unfold InI at hf
  clear ho h
  go_enter Try.func28, Try.ntmps28
  go_wp2
  go_ret
  exact ⟨rfl, rfl⟩

set_option maxHeartbeats 1000000 in
theorem source_core (h : Core s p F K clock w) (x : Int) (hF0 : 0 ≤ F x) :
    Calls Try.prog 21 #[.pointer (some ⟨s.b, 0, none⟩), .int .i64 x] w fun e w' => e = .returned (.tuple #[.int .i64 (if 0 < F x then F x - 1 else 0), .bool (decide (0 < F x))]) ∧ w = w' := by
  have HS := Lib.hid h
  obtain ⟨va, ho⟩ := h.obj
  have ko := ho.cell
  have hl := h.lookF x
  have hf := h.fitF x
  unfold InI at hf
  have qm : ∀ (w : World) (r : Option Nat), (binOp .eql 38 (.map r) (.map none)).run Try.prog w = .ok (.bool r.isNone) w := fun w r => run_eql_map_nil w _ _ _ r Try.underlying38
  clear h ho
  by_cases hF : 0 < F x
  · have hF' : decide (0 < F x) = true := decide_eq_true hF
    rw [if_pos hF, hF']
    go_enter Try.func21, Try.ntmps21
    go_wp2_with (go_at_call 28; refine (founded_core HS.out x).mono ?_; rintro e w1 ⟨rfl, rfl⟩)
    go_ret2
    exact ⟨rfl, rfl⟩
  · have hF' : decide (0 < F x) = false := decide_eq_false hF
    rw [if_neg hF, hF']
    go_enter Try.func21, Try.ntmps21
    go_wp2_with (go_at_call 28; refine (founded_core HS.out x).mono ?_; rintro e w1 ⟨rfl, rfl⟩)
    go_ret2
    exact ⟨rfl, rfl⟩
end

end Go.Proofs.Ytdoecchigfdilaa
