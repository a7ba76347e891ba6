/- Find asks nothing of the assignment that the object holds. -/
import Derived.Test.YtkjpnpkmnpofgaaTellsQ
namespace Go.Proofs.Ytkjpnpkmnpofgaa
open Go.RowKit

/-- What a Sources object holds but for the assignment: its blocks from H to T are as they were in a world in which all of it stood. -/
def Core (s : SP) (p : GP) (F K : Int → Int) (clock : Int) (w : World) : Prop :=
  ∃ wo mo a0, Src mo s p F K clock a0 wo ∧ wo.heap.size ≤ w.heap.size ∧ ∀ i, s.H ≤ i → i < s.T → w.heap[i]? = wo.heap[i]?

section
variable {m : Nat} {s : SP} {p : GP} {F K : Int → Int} {clock : Int} {a a0 : List Int} {w w' : World}

theorem Src.core (h : Src m s p F K clock a w) : Core s p F K clock w := ⟨w, m, a, h, Nat.le_refl _, fun _ _ _ => rfl⟩

theorem Core.keep (h : Core s p F K clock w) (hs : w.heap.size ≤ w'.heap.size) (hb : ∀ i, s.H ≤ i → i < s.T → w'.heap[i]? = w.heap[i]?) : Core s p F K clock w' :=
  let ⟨wo, mo, a0, h1, h2, h3⟩ := h
  ⟨wo, mo, a0, h1, by omega, fun i i1 i2 => (hb i i1 i2).trans (h3 i i1 i2)⟩

theorem Core.lim (h : Core s p F K clock w) : s.H ≤ s.T ∧ s.T ≤ w.heap.size ∧ ∀ i ∈ s.mut, s.H ≤ i ∧ i < s.T := by
  obtain ⟨wo, mo, a0, h1, h2, h3⟩ := h
  have := h1.top
  have := h1.lo
  have := h1.hi
  refine ⟨by omega, by omega, fun i hi => ?_⟩
  simp only [SP.mut, List.mem_cons, List.not_mem_nil, or_false] at hi
  rcases hi with rfl | rfl | rfl <;> omega

theorem Core.below (h : Core s p F K clock w) (hb : Below w.heap.size w w') : Core s p F K clock w' :=
  h.keep hb.size fun i _ i2 => hb.block i (by have := h.lim; omega)

theorem Core.obj (h : Core s p F K clock w) : ∃ va, Blk w s.b [.int .i64 p.n, s.vn, nilS, s.vr, nilS, .map (some s.bh), .map (some s.bu), .map (some s.bf), .map (some s.bk), .int .i64 clock, va] 54 := by
  obtain ⟨wo, mo, a0, h1, h2, h3⟩ := h
  obtain ⟨va, ho, -⟩ := h1.obj
  exact ⟨va, ho.same (h3 _ h1.lo.1 h1.hi.1)⟩

theorem Core.valid (h : Core s p F K clock w) : validE p = 0 := by
  obtain ⟨wo, mo, a0, h1, h2, h3⟩ := h
  exact h1.valid

theorem Core.setA {va : Value} {w1 : World} (h : Core s p F K clock w) (hb : Below w.heap.size w w1) (ho : Own8 w.heap.size w1 va a) : Src w1.heap.size s p F K clock a (w1.setCell ⟨s.b, 10, none⟩ va) ∧ Lim w.heap.size s.mut w (w1.setCell ⟨s.b, 10, none⟩ va) := by
  have hlim := h.lim
  obtain ⟨v0, hob⟩ := (h.below hb).obj
  obtain ⟨wo, mo, a0, h1, h2, h3⟩ := h.below hb
  have ht := h1.top
  have hh := h1.hi
  have hl := h1.lo
  have hsz : (w1.setCell ⟨s.b, 10, none⟩ va).heap.size = w1.heap.size := by simp [World.setCell]
  have hbs := hb.size
  refine ⟨⟨⟨va, hob.set 10 va, w.heap.size, w1.heap.size, by omega, Nat.le_refl _, fun w' hs hz => ?_⟩, (h1.frm.same (h3 _ hl.2.1 hh.2.1)).setCell _ _ _, (h1.rank.same (h3 _ hl.2.2 hh.2.2)).setCell _ _ _, h1.ne, h1.hi, h1.lo, ⟨by omega, by omega⟩, fun w' hs hz => ?_, h1.valid, h1.rowsH, h1.rowsU, h1.fitF, h1.fitK, h1.fitC⟩, ?_⟩
  · obtain ⟨⟨hr, hby⟩, hfit⟩ := ho
    have hrow : w'.ownsRow w.heap.size 58 1 va a.length ((List.range a.length).map fun i => Value.int .i8 (ix a i)) := by
      refine ⟨hr.1, ?_⟩
      rcases hr.2 with hn | ⟨g, cap, cur, rfl, hbg, hgg, rest⟩
      · exact .inl hn
      · have hgl := (Array.getElem?_eq_some_iff.1 hgg).1
        exact .inr ⟨g, cap, cur, rfl, hbg, (hs g hbg hgl (by simp)).trans ((Below.heap_setCell _ _ _ _ (show g ≠ s.b by omega)).trans hgg), rest⟩
    exact (show Own8 w.heap.size w' va a from ⟨⟨hrow, hby⟩, hfit⟩).bytes
  · refine h1.fix w' (fun i i1 i2 i3 => (hs i i1 i2 i3).trans ((Below.heap_setCell _ _ _ _ ?_).trans (h3 i i1 i2))) (by omega)
    rintro rfl
    exact i3 (by simp [SP.mut])
  · exact (Lim.of_below hb (Nat.le_refl _)).trans (.setCell _ (.inl (by simp [SP.mut])))

set_option maxHeartbeats 4000000 in
set_option maxRecDepth 100000 in
theorem find_core (h : Core s p F K clock w) (hi : SInv p F K clock) (hC : clock ≤ 2305843009213693952) (va : Value) (hva : Bytes8 w va a) :
    Calls Try.prog 14 #[.pointer (some ⟨s.b, 0, none⟩), va] w (FindPost s p a clock w) := by
  have hv := validP h.valid
  have hvn := hv.n
  obtain ⟨a1, c1, rfl, -, -⟩ := hva.1
  have HVA := Lib.hid hva
  obtain ⟨va0, hob⟩ := h.obj
  have ko := hob.cell
  have fo := hob.free
  have zo := hob.lt
  have HS0 := Lib.hid h
  have HI := Lib.hid hi
  clear h hva hob hi hv
  have qm : ∀ (w : World) (r : Option Nat), (binOp .eql 48 (.map r) (.map none)).run Try.prog w = .ok (.bool r.isNone) w := fun w r => run_eql_map_nil w _ _ _ r Try.underlying48
  go_enter Try.func14, Try.ntmps14
  go_upto_region 4 with (go_at_call 39; refine (clone8_any _ _ _ HVA.out).mono ?_; rintro e w1 ⟨v1, rfl, ho1, hb1⟩; have ko1 := fun o => (bcell hb1 s.b o zo).trans (ko o); have fo1 := fun o => (bfrozen hb1 s.b o zo).trans (fo o); obtain ⟨a2, c2, rfl⟩ := ho1.1.form; have hs1 := HS0.out.setA hb1 ho1; have HS1 := Lib.hid hs1; clear hs1 ho1)
  clear ko1 fo1
  generalize w1.setCell ⟨s.b, 10, none⟩ (.slice a2 a.length c2) = W1 at HS1 ⊢
  go_wp2_with (first
    | (go_at_call 41; refine (gain_any HS2.out HLO.out hC).mono ?_; rintro e w3 ⟨rfl, hl3, F3, K3, clk3, hf3, hc3, hs3⟩; have HL3 := Lib.hid hl3; have HF3 := Lib.hid hf3; have hob3 := hs3.obj; obtain ⟨va3, hob3, -⟩ := hob3; have ko3 := hob3.cell; have HS3 := Lib.hid hs3; clear hob3 hs3 hf3 hl3)
    | (go_at_call 40; refine (lose_any HS1.out.1 HI.out).mono ?_; rintro e w2 ⟨rfl, hl2, F2, K2, hlo2, hs2⟩; have HL2 := Lib.hid hl2; have HLO := Lib.hid hlo2; have HS2 := Lib.hid hs2; clear hl2 hlo2 hs2))
  have HLT : Hid (Lim w.heap.size s.mut w w3) := Lib.hid (by
    have h1 := HS1.out.2
    have h2 := HL2.out
    have h3 := HL3.out
    exact (h1.trans (h2.mono h1.size (fun i hi _ => hi))).trans (h3.mono (Nat.le_trans h1.size h2.size) (fun i hi _ => hi)))
  have hz3 := HLT.out.size
  have hm3 := HS3.out.top.2
  go_loopw [5, 6] (fun v i wx => FRel s p F3 K3 clk3 a w w2.heap.size w3.heap.size v i wx) (fun _ i _ => (p.n + 1 - intOf i).toNat)
  case atStart => exact ⟨0, Nat.zero_le _, rfl, QRow.nil _ _, HS3.out, HLT.out, Nat.le_refl _⟩
  case round =>
    obtain ⟨k, hk, rfl, hq, hs, hl, hzr⟩ := hrel
    have HQ := Lib.hid hq
    have HS := Lib.hid hs
    have HL := Lib.hid hl
    obtain ⟨av, nv, cv, rfl⟩ := hq.form
    obtain ⟨va4, hob, -⟩ := hs.obj
    have ko4 := hob.cell
    have hlen := findTo_len F3 a k
    clear hq hs hl hob
    by_cases hlt : (k : Int) + 1 ≤ p.n
    · have hstep : findTo F3 a (k + 1) = if ¬ 0 < F3 ((k : Int) + 1) ∧ offB a ((k : Int) + 1) = false then findTo F3 a k ++ [(k : Int) + 1] else findTo F3 a k := rfl
      have HN := Lib.hid hstep
      clear hstep
      by_cases hF : 0 < F3 ((k : Int) + 1)
      · have hF' : decide (0 < F3 ((k : Int) + 1)) = true := decide_eq_true hF
        have HN2 : Hid (findTo F3 a (k + 1) = findTo F3 a k) := Lib.hid (by rw [HN.out, if_neg (fun h => h.1 hF)])
        clear hF
        go_wp2_with (go_at_call 42; refine (founded_any HS.out ((k : Int) + 1)).mono ?_; rintro e w1 ⟨rfl, rfl⟩)
        first
          | (go_roundw
             case rel => (exact ⟨k + 1, by omega, by go_num, by rw [HN2.out]; exact HQ.out, HS.out, HL.out, hzr⟩)
             case measure => (simp [intOf]; omega))
          | (refine ⟨?_, ?_⟩
             · (exact ⟨k + 1, by omega, by go_num, by rw [HN2.out]; exact HQ.out, HS.out, HL.out, hzr⟩)
             · (simp [intOf]; omega))
      · have hF' : decide (0 < F3 ((k : Int) + 1)) = false := decide_eq_false hF
        cases ho : offB a ((k : Int) + 1) with
        | true =>
          have HN2 : Hid (findTo F3 a (k + 1) = findTo F3 a k) := Lib.hid (by rw [HN.out, if_neg (fun h => by rw [ho] at h; cases h.2)])
          clear hF
          go_wp2_with (first | (go_at_call 42; refine (founded_any HS.out ((k : Int) + 1)).mono ?_; rintro e w1 ⟨rfl, rfl⟩) | (go_at_call 43; refine (off_any HS.out ((k : Int) + 1) (by omega) (by omega)).mono ?_; rintro e w1 ⟨rfl, rfl⟩))
          first
            | (go_roundw
               case rel => (exact ⟨k + 1, by omega, by go_num, by rw [HN2.out]; exact HQ.out, HS.out, HL.out, hzr⟩)
               case measure => (simp [intOf]; omega))
            | (refine ⟨?_, ?_⟩
               · (exact ⟨k + 1, by omega, by go_num, by rw [HN2.out]; exact HQ.out, HS.out, HL.out, hzr⟩)
               · (simp [intOf]; omega))
        | false =>
          have HN2 : Hid (findTo F3 a (k + 1) = findTo F3 a k ++ [(k : Int) + 1]) := Lib.hid (by rw [HN.out, if_pos ⟨hF, ho⟩])
          have hxI : InI ((k : Int) + 1) := by unfold InI; omega
          have hap : ((findTo F3 a k).length + 1) * 8 ≤ 140737488351232 := by omega
          clear hF
          go_wp2_with (first
            | (go_at_call 42; refine (founded_any HS.out ((k : Int) + 1)).mono ?_; rintro e w1 ⟨rfl, rfl⟩)
            | (go_at_call 43; refine (off_any HS.out ((k : Int) + 1) (by omega) (by omega)).mono ?_; rintro e w1 ⟨rfl, rfl⟩)
            | (at_builtin; refine wpList_appendQ rfl _ _ 23 Try.underlying23 rfl w3.heap.size _ (findTo F3 a k) ((k : Int) + 1) rfl (HQ.out.kept (w' := wr.alloc (.cells #[.int .i64 ((k : Int) + 1)] 3)) (fun i h1 h2 _ => Below.heap_alloc _ _ _ h2)) wr.heap.size 1 rfl (Blk.new wr [.int .i64 ((k : Int) + 1)] _) hxI hap (by simp; omega) ?_; intro v4 w4 hq4 hg4 hl4; have hpp := FRel.push HS.out HQ.out HL.out hm3 hz3 hzr hq4 hg4; have HPP := Lib.hid hpp; obtain ⟨a4, n4, c4, rfl⟩ := hq4.form; clear hpp hq4 hg4 hl4))
          first
            | (go_roundw
               case rel => (exact ⟨k + 1, by omega, by go_num, by rw [HN2.out]; exact HPP.out.1, HPP.out.2.1, HPP.out.2.2.1, HPP.out.2.2.2⟩)
               case measure => (simp [intOf]; omega))
            | (refine ⟨?_, ?_⟩
               · (exact ⟨k + 1, by omega, by go_num, by rw [HN2.out]; exact HPP.out.1, HPP.out.2.1, HPP.out.2.2.1, HPP.out.2.2.2⟩)
               · (simp [intOf]; omega))
    · obtain rfl : k = p.n.toNat := by omega
      go_wp2
      go_ret
      exact ⟨HL.out, F3, K3, clk3, _, HF3.out, hc3, HS.out.mono (by omega) (Nat.le_refl _), rfl, HQ.out.mono hz3⟩

/-- What two calls of Find leave. -/
def HistSt (s : SP) (p : GP) (a : List Int) (clk0 : Int) (W0 w : World) : Prop := ∃ F K clk, Found p a F K clk ∧ clk ≤ clk0 + 4000 ∧ Core s p F K clk w ∧ Below W0.heap.size W0 w

def HPost (s : SP) (p : GP) (a : List Int) (clk0 : Int) (W0 w : World) (e : Ending) (w' : World) : Prop :=
  ∃ F av cv, e = .returned (.slice av (findTo F a p.n.toNat).length cv) ∧ QRow w.heap.size w' (.slice av (findTo F a p.n.toNat).length cv) (findTo F a p.n.toNat) ∧ IsFnd p a F ∧ Lim w.heap.size s.mut w w' ∧ HistSt s p a clk0 W0 w'

theorem find_hist {W0 : World} {clk0 : Int} (h : Core s p F K clk0 w) (hi : SInv p F K clk0) (hC : clk0 ≤ 2305843009213693952) (va : Value) (hva : Bytes8 w va a) (hW : W0.heap.size ≤ s.H) (hb : Below W0.heap.size W0 w) :
    Calls Try.prog 14 #[.pointer (some ⟨s.b, 0, none⟩), va] w (HPost s p a clk0 W0 w) := by
  have hlo : s.H ≤ s.b ∧ s.H ≤ s.bf ∧ s.H ≤ s.bk := by obtain ⟨_, _, _, h1, -⟩ := h; exact h1.lo
  have hv := h.valid
  refine (find_core h hi hC va hva).mono fun e w' hp => ?_
  have hfb := findPost_below hp hW hlo hb.size
  obtain ⟨h1, F', K', clk', vo, h2, h3, h4, rfl, h5⟩ := hp
  obtain ⟨av, cv, rfl⟩ := h5.slen
  exact ⟨F', av, cv, rfl, h5, h2.fnd hv, h1, F', K', clk', h2, h3, h4.core, hb.trans hfb⟩

theorem HistSt.on {clk0 : Int} {W0 : World} (h : HistSt s p a clk0 W0 w) (hb : Below w.heap.size w w') : HistSt s p a clk0 W0 w' := by
  obtain ⟨F, K, clk, h1, h2, h3, h4⟩ := h
  exact ⟨F, K, clk, h1, h2, h3.below hb, bon h4 hb⟩

/-- Another object's Find. -/
theorem HistSt.lim {clk0 : Int} {W0 : World} {S : List Nat} (h : HistSt s p a clk0 W0 w) (hl : Lim w.heap.size S w w') (hs : ∀ i ∈ S, W0.heap.size ≤ i ∧ (i < s.H ∨ s.T ≤ i)) : HistSt s p a clk0 W0 w' := by
  obtain ⟨F, K, clk, h1, h2, h3, h4⟩ := h
  have := h3.lim
  refine ⟨F, K, clk, h1, h2, h3.keep hl.size (fun i i1 i2 => hl.block i (by omega) (fun hm => by have := hs i hm; omega)), h4.trans ((hl.mono h4.size (fun i hi _ => hi)).below (fun i hi => (hs i hi).1))⟩

theorem HistSt.below {clk0 : Int} {W0 : World} (h : HistSt s p a clk0 W0 w) : Below W0.heap.size W0 w := by
  obtain ⟨F, K, clk, h1, h2, h3, h4⟩ := h
  exact h4

theorem hist_eq {F G : Int → Int} (h1 : IsFnd p a F) (h2 : IsFnd p a G) : decide (findTo F a p.n.toNat = findTo G a p.n.toNat) = true :=
  decide_eq_true (findTo_congr (fun x => h1.unique h2 x) _)
end

end Go.Proofs.Ytkjpnpkmnpofgaa
