/- reduct.Least: of definite rules, the least closed set. -/
import Derived.Test.YtkjpnpkmnpofgaaRounds2Q
import Derived.Test.YtkjpnpkmnpofgaaMD
namespace Go.Proofs.Ytkjpnpkmnpofgaa
open Go.RowKit

def LeastPost (R : List GR) (nn : Nat) (w : World) (e : Ending) (w' : World) : Prop :=
  ∃ M ao co, e = .returned (.tuple #[.slice ao M.length co, .int .i64 0]) ∧ QRow w.heap.size w' (.slice ao M.length co) M ∧ IsLeast R M ∧ M.Pairwise (· < ·) ∧ (∀ x ∈ M, 1 ≤ x ∧ x ≤ nn) ∧ M.length ≤ nn ∧ Below w.heap.size w w'

def LsRel (od : List Int) (nn : Nat) (w1 : World) (v i : Value) (wx : World) : Prop :=
  ∃ k : Nat, k ≤ nn ∧ i = .int .i64 k ∧ QRow w1.heap.size wx v (posL od k) ∧ Below w1.heap.size w1 wx

set_option maxHeartbeats 4000000 in
set_option maxRecDepth 100000 in
theorem least_any (v : Value) (R : List GR) (nn : Nat) (w : World) (h : RulesIs w v R) (hB : definiteB nn R = true) :
    Calls Try.prog 24 #[.int .i64 nn, v] w (LeastPost R nn w) := by
  have hd := definiteB_spec hB
  have hrng := hd.rng
  have h0 := Lib.hid h
  have HB := Lib.hid hB
  obtain ⟨ar, cr, rfl, -, hl1, -, -⟩ := h.form
  clear h hd
  go_enter Try.func24, Try.ntmps24
  go_wp2_with (go_at_call 51; (with_reducible refine (rounds_any _ R nn _ h0.out HB.out).mono ?_); rintro e w1 ⟨od, ao, co, rfl, hq1, hol, hpos, hls, hb1⟩; have HQ1 := Lib.hid hq1; have HLS := Lib.hid hls; have HB1 := Lib.hid hb1; clear hq1 hls hb1)
  have hints := HQ1.out.ints (by omega)
  obtain ⟨_, _, e9, -, -, -, hcell⟩ := hints.form
  rw [hol] at e9
  simp only [Value.slice.injEq, true_and] at e9
  obtain ⟨rfl, rfl⟩ := e9
  have HC := Lib.hid hcell
  have HPOS := Lib.hid hpos
  have HOL := Lib.hid hol
  clear hcell hints hol hpos
  go_loopw [8, 22] (fun v i wx => LsRel od nn w1 v i wx) (fun _ i _ => nn - (intOf i).toNat)
  case atStart => exact ⟨0, Nat.zero_le _, rfl, QRow.nil _ _, Below.refl _ _⟩
  case round =>
    obtain ⟨k, hk, rfl, hq, hb⟩ := hrel
    have HQ := Lib.hid hq
    have HBX := Lib.hid hb
    have hlen2 := posL_len od k
    obtain ⟨av, nv, cv, rfl⟩ := hq.form
    have hzr := hb.size
    clear hq hb
    by_cases hlt : k < nn
    · obtain ⟨bo, offo, rfl, hbo, hco⟩ := HC.out (by have := HOL.out; omega)
      have ko := (bcell HBX.out _ _ hbo).trans (hco k (by have := HOL.out; omega))
      have hstep : posL od (k + 1) = if 0 < ix od k then posL od k ++ [(k : Int) + 1] else posL od k := rfl
      have HN := Lib.hid hstep
      clear hstep hco
      by_cases hp : 0 < ix od k
      · have HN2 : Hid (posL od (k + 1) = posL od k ++ [(k : Int) + 1]) := Lib.hid (by rw [HN.out, if_pos hp])
        have hxI : InI ((k : Int) + 1) := by unfold InI; omega
        have hap : ((posL od k).length + 1) * 8 ≤ 140737488351232 := by omega
        go_wp2_with (at_builtin; refine wpList_appendQ rfl _ _ 23 Try.underlying23 rfl w1.heap.size _ (posL od k) ((k : Int) + 1) rfl (HQ.out.kept (w' := wr.alloc (.cells #[.int .i64 ((k : Int) + 1)] 3)) (fun i h1 h2 _ => Below.heap_alloc _ _ _ h2)) wr.heap.size 1 rfl (Blk.new wr [.int .i64 ((k : Int) + 1)] _) hxI hap (by simp; omega) ?_; intro v4 w4 hq4 hg4 hl4; have HB4 := Lib.hid (below_push HBX.out HQ.out (Nat.le_refl _) hg4); obtain ⟨a4, n4, c4, rfl⟩ := hq4.form; have HQ4 := Lib.hid hq4; clear hq4 hg4 hl4)
        first
          | (go_roundw
             case rel => (exact ⟨k + 1, by omega, by go_num, by rw [HN2.out]; exact HQ4.out, HB4.out⟩)
             case measure => (simp [intOf]; omega))
          | (refine ⟨?_, ?_⟩
             · (exact ⟨k + 1, by omega, by go_num, by rw [HN2.out]; exact HQ4.out, HB4.out⟩)
             · (simp [intOf]; omega))
      · have HN2 : Hid (posL od (k + 1) = posL od k) := Lib.hid (by rw [HN.out, if_neg hp])
        go_wp2_with fail
        first
          | (go_roundw
             case rel => (exact ⟨k + 1, by omega, by go_num, by rw [HN2.out]; exact HQ.out, HBX.out⟩)
             case measure => (simp [intOf]; omega))
          | (refine ⟨?_, ?_⟩
             · (exact ⟨k + 1, by omega, by go_num, by rw [HN2.out]; exact HQ.out, HBX.out⟩)
             · (simp [intOf]; omega))
    · obtain rfl : k = nn := by omega
      obtain ⟨a9, c9, e9⟩ := HQ.out.slenQ
      simp only [Value.slice.injEq] at e9
      obtain ⟨rfl, rfl, rfl⟩ := e9
      go_wp2_with fail
      refine bodyPost_ret (v := .tuple #[.slice av (posL od k).length cv, .int .i64 0]) ?_ rfl ?_
      · simp [results, Try.results24, go_sem]
      · have hz := HB1.out.size
        exact ⟨posL od k, _, _, rfl, HQ.out.mono hz, HLS.out, posL_sorted od k, posL_range od k, posL_len od k, HB1.out.trans (HBX.out.mono hz)⟩

/-- The length of the least closed set is that of any set with the same atoms, in order. -/
theorem sorted_eq : ∀ {L M : List Int}, L.Pairwise (· < ·) → M.Pairwise (· < ·) → (∀ x, x ∈ L ↔ x ∈ M) → L = M
  | [], [], _, _, _ => rfl
  | [], y :: M, _, _, h => absurd ((h y).2 (by simp)) (by simp)
  | x :: L, [], _, _, h => absurd ((h x).1 (by simp)) (by simp)
  | x :: L, y :: M, hL, hM, h => by
    have hL' := List.pairwise_cons.1 hL
    have hM' := List.pairwise_cons.1 hM
    have hxy : x = y := by
      have h1 := (h x).1 (by simp)
      have h2 := (h y).2 (by simp)
      simp only [List.mem_cons] at h1 h2
      rcases h1 with h1 | h1
      · exact h1
      · rcases h2 with h2 | h2
        · exact h2.symm
        · have := hM'.1 x h1; have := hL'.1 y h2; omega
    subst hxy
    refine congrArg (x :: ·) (sorted_eq hL'.2 hM'.2 fun z => ?_)
    have hz := h z
    simp only [List.mem_cons] at hz
    constructor
    · intro hm
      have := hL'.1 z hm
      rcases hz.1 (.inr hm) with rfl | h1
      · omega
      · exact h1
    · intro hm
      have := hM'.1 z hm
      rcases hz.2 (.inr hm) with rfl | h1
      · omega
      · exact h1

end Go.Proofs.Ytkjpnpkmnpofgaa
