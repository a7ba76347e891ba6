/- Find and Source. -/
import Derived.Test.YtkjpnpkmnpofgaaGain
import Derived.WalkSpells
namespace Go.Proofs.Ytkjpnpkmnpofgaa
open Go.RowKit

def findTo (F : Int → Int) (a : List Int) : Nat → List Int
  | 0 => []
  | k + 1 => if ¬ 0 < F ((k : Int) + 1) ∧ offB a ((k : Int) + 1) = false then findTo F a k ++ [(k : Int) + 1] else findTo F a k

theorem findTo_len (F : Int → Int) (a : List Int) : ∀ k, (findTo F a k).length ≤ k
  | 0 => Nat.le_refl _
  | k + 1 => by have := findTo_len F a k; unfold findTo; split <;> simp <;> omega

theorem QRow.ints {base : Nat} {w : World} {v : Value} {l : List Int} (h : QRow base w v l) (hl : l.length * 8 ≤ 140737488351232) : Ints w v l := by
  refine ⟨?_, h.1⟩
  rcases h.2 with ⟨rfl, rfl⟩ | ⟨g, off, cap, cur, rfl, hb, hg, h1, h2, h3, h4⟩
  · exact ⟨none, 0, rfl, Nat.le_refl _, by unfold maxLen; omega, by simp, fun h0 => absurd h0 (by simp)⟩
  · refine ⟨_, cap, rfl, h1, h2, hl, fun _ => ⟨g, off, rfl, (Array.getElem?_eq_some_iff.1 hg).1, fun i hi => ?_⟩⟩
    rw [cell_of_row w g (off + i) cur 3 (0, 0) hg]; exact h4 i hi

theorem QRow.below {base : Nat} {w w' : World} {v : Value} {l : List Int} (h : QRow base w v l) (hb : Below w.heap.size w w') : QRow base w' v l := h.kept fun i _ hi _ => hb.block i hi
theorem QRow.mono {base base' : Nat} {w : World} {v : Value} {l : List Int} (h : QRow base w v l) (hb : base' ≤ base) : QRow base' w v l :=
  ⟨h.1, h.2.imp id fun ⟨g, off, cap, cur, e, h1, r⟩ => ⟨g, off, cap, cur, e, by omega, r⟩⟩

/-- What Find leaves and yields. -/
def FindPost (s : SP) (p : GP) (a : List Int) (clock : Int) (w : World) (e : Ending) (w' : World) : Prop :=
  Lim w.heap.size s.mut w w' ∧ ∃ F K clock' vo, Found p a F K clock' ∧ clock' ≤ clock + 4000 ∧ Src w'.heap.size s p F K clock' a w' ∧ e = .returned vo ∧ QRow w.heap.size w' vo (findTo F a p.n.toNat)

def FRel (s : SP) (p : GP) (F K : Int → Int) (clock : Int) (a : List Int) (w0 : World) (m base : Nat) (v i : Value) (wx : World) : Prop :=
  ∃ k : Nat, k ≤ p.n.toNat ∧ i = .int .i64 ((k : Int) + 1) ∧ QRow base wx v (findTo F a k) ∧ Src m s p F K clock a wx ∧ Lim w0.heap.size s.mut w0 wx ∧ base ≤ wx.heap.size

section
variable {m : Nat} {s : SP} {p : GP} {F K : Int → Int} {clock : Int} {a a0 : List Int} {w : World}

theorem Src.setA {va : Value} {w1 : World} (h : Src m s p F K clock a0 w) (hb : Below w.heap.size w w1) (ho : Own8 w.heap.size w1 va a) : Src w1.heap.size s p F K clock a (w1.setCell ⟨s.b, 10, none⟩ va) ∧ Lim w.heap.size s.mut w (w1.setCell ⟨s.b, 10, none⟩ va) := by
  have ht := h.top
  have hh := h.hi
  have hl := h.lo
  have hn := h.ne1
  have h1 := h.below hb
  obtain ⟨v0, hob, -⟩ := h1.obj
  have hsz : (w1.setCell ⟨s.b, 10, none⟩ va).heap.size = w1.heap.size := by simp [World.setCell]
  have hbs := hb.size
  refine ⟨⟨⟨va, hob.set 10 va, w.heap.size, w1.heap.size, by omega, Nat.le_refl _, fun w' hs hz => ?_⟩, h1.frm.setCell _ _ _, h1.rank.setCell _ _ _, h.ne, h.hi, h.lo, ⟨by omega, by omega⟩, fun w' hs hz => ?_, h.valid, h.rowsH, h.rowsU, h.fitF, h.fitK, h.fitC⟩, ?_⟩
  · obtain ⟨⟨hr, hby⟩, hfit⟩ := ho
    have hrow : w'.ownsRow w.heap.size 58 1 va a.length ((List.range a.length).map fun i => Value.int .i8 (ix a i)) := by
      refine ⟨hr.1, ?_⟩
      rcases hr.2 with hn | ⟨g, cap, cur, rfl, hbg, hgg, rest⟩
      · exact .inl hn
      · have hgl := (Array.getElem?_eq_some_iff.1 hgg).1
        exact .inr ⟨g, cap, cur, rfl, hbg, (hs g hbg hgl (by simp)).trans ((Below.heap_setCell _ _ _ _ (show g ≠ s.b by omega)).trans hgg), rest⟩
    exact (show Own8 w.heap.size w' va a from ⟨⟨hrow, hby⟩, hfit⟩).bytes
  · refine h1.fix w' (fun i i1 i2 i3 => (hs i i1 i2 i3).trans (Below.heap_setCell _ _ _ _ ?_)) (by omega)
    rintro rfl
    exact i3 (by simp [SP.mut])
  · exact (Lim.of_below hb (Nat.le_refl _)).trans (.setCell _ (.inl (by simp [SP.mut])))

theorem FRel.push {base : Nat} {l : List Int} {x : Int} {v v' : Value} {w0 w1 w4 : World} (hs : Src m s p F K clock a w1) (hq : QRow base w1 v l) (hl : Lim w0.heap.size s.mut w0 w1) (hm : m ≤ base) (hw : w0.heap.size ≤ base) (hbw : base ≤ w1.heap.size)
    (hq4 : QRow base w4 v' (l ++ [x])) (hg : (w1.alloc (.cells #[.int .i64 x] 3)).grownBy w4 v.ownBlock) : QRow base w4 v' (l ++ [x]) ∧ Src m s p F K clock a w4 ∧ Lim w0.heap.size s.mut w0 w4 ∧ base ≤ w4.heap.size := by
  have ht := hs.top
  have hsz := hg.size
  simp at hsz
  have hf : ∀ i, v.ownBlock = some i → base ≤ i := fun i e => by
    rcases hq.2 with ⟨rfl, _⟩ | ⟨g, off, cap, cur, rfl, hbg, _⟩
    · cases e
    · simp only [Value.ownBlock, Option.some.injEq] at e; omega
  have hk : ∀ i, i < base → w4.heap[i]? = w1.heap[i]? := fun i hi => (hg.block i (by simp; omega) (fun e => by have := hf i e.symm; omega)).trans (Below.heap_alloc _ _ _ (by omega))
  exact ⟨hq4, hs.keep (by omega) (fun i hi => hk i (by omega)), hl.trans ⟨hg.os, hg.tape, hg.output, by omega, fun i hi _ => hk i (by omega)⟩, by omega⟩

set_option maxHeartbeats 4000000 in
set_option maxRecDepth 100000 in
theorem find_any (h : Src m s p F K clock a0 w) (hi : SInv p F K clock) (hC : clock ≤ 2305843009213693952) (va : Value) (hva : Bytes8 w va a) :
    Calls Try.prog 14 #[.pointer (some ⟨s.b, 0, none⟩), va] w (FindPost s p a clock w) := by
  have h0 := h
  have hv := validP h.valid
  have hvn := hv.n
  obtain ⟨a1, c1, rfl, -, -⟩ := hva.1
  have HVA := Lib.hid hva
  obtain ⟨va0, hob, -⟩ := h.obj
  have ko := hob.cell
  have fo := hob.free
  have zo := hob.lt
  have HS0 := Lib.hid h0
  have HI := Lib.hid hi
  clear h h0 hva hob hi hv
  have qm : ∀ (w : World) (r : Option Nat), (binOp .eql 48 (.map r) (.map none)).run Try.prog w = .ok (.bool r.isNone) w := fun w r => run_eql_map_nil w _ _ _ r Try.underlying48
  go_enter Try.func14, Try.ntmps14
  go_upto_region 4 with (go_at_call 39; refine (clone8_any _ _ _ HVA.out).mono ?_; rintro e w1 ⟨v1, rfl, ho1, hb1⟩; have ko1 := fun o => (bcell hb1 s.b o zo).trans (ko o); have fo1 := fun o => (bfrozen hb1 s.b o zo).trans (fo o); obtain ⟨a2, c2, rfl⟩ := ho1.1.form; have hs1 := HS0.out.setA hb1 ho1; have HS1 := Lib.hid hs1; clear hs1 ho1)
  clear ko1 fo1
  generalize w1.setCell ⟨s.b, 10, none⟩ (.slice a2 a.length c2) = W1 at HS1 ⊢
  go_wp2_with (first
    | (go_at_call 41; refine (gain_any HS2.out HLO.out hC).mono ?_; rintro e w3 ⟨rfl, hl3, F3, K3, clk3, hf3, hc3, hs3⟩; have HL3 := Lib.hid hl3; have HF3 := Lib.hid hf3; have hob3 := hs3.obj; obtain ⟨va3, hob3, -⟩ := hob3; have ko3 := hob3.cell; have HS3 := Lib.hid hs3; clear hob3 hs3 hf3 hl3)
    | (go_at_call 40; refine (lose_any HS1.out.1 HI.out).mono ?_; rintro e w2 ⟨rfl, hl2, F2, K2, hlo2, hs2⟩; have HL2 := Lib.hid hl2; have HLO := Lib.hid hlo2; have HS2 := Lib.hid hs2; clear hl2 hlo2 hs2))
  have HLT : Hid (Lim w.heap.size s.mut w w3) := Lib.hid (by
    have h1 := HS1.out.2
    have h2 := HL2.out
    have h3 := HL3.out
    exact (h1.trans (h2.mono h1.size (fun i hi _ => hi))).trans (h3.mono (Nat.le_trans h1.size h2.size) (fun i hi _ => hi)))
  have hz3 := HLT.out.size
  have hm3 := HS3.out.top.2
  go_loopw [5, 6] (fun v i wx => FRel s p F3 K3 clk3 a w w2.heap.size w3.heap.size v i wx) (fun _ i _ => (p.n + 1 - intOf i).toNat)
  case atStart => exact ⟨0, Nat.zero_le _, rfl, QRow.nil _ _, HS3.out, HLT.out, Nat.le_refl _⟩
  case round =>
    obtain ⟨k, hk, rfl, hq, hs, hl, hzr⟩ := hrel
    have HQ := Lib.hid hq
    have HS := Lib.hid hs
    have HL := Lib.hid hl
    obtain ⟨av, nv, cv, rfl⟩ := hq.form
    obtain ⟨va4, hob, -⟩ := hs.obj
    have ko4 := hob.cell
    have hlen := findTo_len F3 a k
    clear hq hs hl hob
    by_cases hlt : (k : Int) + 1 ≤ p.n
    · have hstep : findTo F3 a (k + 1) = if ¬ 0 < F3 ((k : Int) + 1) ∧ offB a ((k : Int) + 1) = false then findTo F3 a k ++ [(k : Int) + 1] else findTo F3 a k := rfl
      have HN := Lib.hid hstep
      clear hstep
      by_cases hF : 0 < F3 ((k : Int) + 1)
      · have hF' : decide (0 < F3 ((k : Int) + 1)) = true := decide_eq_true hF
        have HN2 : Hid (findTo F3 a (k + 1) = findTo F3 a k) := Lib.hid (by rw [HN.out, if_neg (fun h => h.1 hF)])
        clear hF
        go_wp2_with (go_at_call 42; refine (founded_any HS.out ((k : Int) + 1)).mono ?_; rintro e w1 ⟨rfl, rfl⟩)
        first
          | (go_roundw
             case rel => (exact ⟨k + 1, by omega, by go_num, by rw [HN2.out]; exact HQ.out, HS.out, HL.out, hzr⟩)
             case measure => (simp [intOf]; omega))
          | (refine ⟨?_, ?_⟩
             · (exact ⟨k + 1, by omega, by go_num, by rw [HN2.out]; exact HQ.out, HS.out, HL.out, hzr⟩)
             · (simp [intOf]; omega))
      · have hF' : decide (0 < F3 ((k : Int) + 1)) = false := decide_eq_false hF
        cases ho : offB a ((k : Int) + 1) with
        | true =>
          have HN2 : Hid (findTo F3 a (k + 1) = findTo F3 a k) := Lib.hid (by rw [HN.out, if_neg (fun h => by rw [ho] at h; cases h.2)])
          clear hF
          go_wp2_with (first | (go_at_call 42; refine (founded_any HS.out ((k : Int) + 1)).mono ?_; rintro e w1 ⟨rfl, rfl⟩) | (go_at_call 43; refine (off_any HS.out ((k : Int) + 1) (by omega) (by omega)).mono ?_; rintro e w1 ⟨rfl, rfl⟩))
          first
            | (go_roundw
               case rel => (exact ⟨k + 1, by omega, by go_num, by rw [HN2.out]; exact HQ.out, HS.out, HL.out, hzr⟩)
               case measure => (simp [intOf]; omega))
            | (refine ⟨?_, ?_⟩
               · (exact ⟨k + 1, by omega, by go_num, by rw [HN2.out]; exact HQ.out, HS.out, HL.out, hzr⟩)
               · (simp [intOf]; omega))
        | false =>
          have HN2 : Hid (findTo F3 a (k + 1) = findTo F3 a k ++ [(k : Int) + 1]) := Lib.hid (by rw [HN.out, if_pos ⟨hF, ho⟩])
          have hxI : InI ((k : Int) + 1) := by unfold InI; omega
          have hap : ((findTo F3 a k).length + 1) * 8 ≤ 140737488351232 := by omega
          clear hF
          go_wp2_with (first
            | (go_at_call 42; refine (founded_any HS.out ((k : Int) + 1)).mono ?_; rintro e w1 ⟨rfl, rfl⟩)
            | (go_at_call 43; refine (off_any HS.out ((k : Int) + 1) (by omega) (by omega)).mono ?_; rintro e w1 ⟨rfl, rfl⟩)
            | (at_builtin; refine wpList_appendQ rfl _ _ 23 Try.underlying23 rfl w3.heap.size _ (findTo F3 a k) ((k : Int) + 1) rfl (HQ.out.kept (w' := wr.alloc (.cells #[.int .i64 ((k : Int) + 1)] 3)) (fun i h1 h2 _ => Below.heap_alloc _ _ _ h2)) wr.heap.size 1 rfl (Blk.new wr [.int .i64 ((k : Int) + 1)] _) hxI hap (by simp; omega) ?_; intro v4 w4 hq4 hg4 hl4; have hpp := FRel.push HS.out HQ.out HL.out hm3 hz3 hzr hq4 hg4; have HPP := Lib.hid hpp; obtain ⟨a4, n4, c4, rfl⟩ := hq4.form; clear hpp hq4 hg4 hl4))
          first
            | (go_roundw
               case rel => (exact ⟨k + 1, by omega, by go_num, by rw [HN2.out]; exact HPP.out.1, HPP.out.2.1, HPP.out.2.2.1, HPP.out.2.2.2⟩)
               case measure => (simp [intOf]; omega))
            | (refine ⟨?_, ?_⟩
               · (exact ⟨k + 1, by omega, by go_num, by rw [HN2.out]; exact HPP.out.1, HPP.out.2.1, HPP.out.2.2.1, HPP.out.2.2.2⟩)
               · (simp [intOf]; omega))
    · obtain rfl : k = p.n.toNat := by omega
      go_wp2
      go_ret
      exact ⟨HL.out, F3, K3, clk3, _, HF3.out, hc3, HS.out.mono (by omega) (Nat.le_refl _), rfl, HQ.out.mono hz3⟩

end

end Go.Proofs.Ytkjpnpkmnpofgaa
