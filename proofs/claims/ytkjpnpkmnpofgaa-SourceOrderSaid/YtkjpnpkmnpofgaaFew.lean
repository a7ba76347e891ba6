/- ostlerlaw26.Few. -/
import Derived.Test.YtkjpnpkmnpofgaaData
namespace Go.Proofs.Ytkjpnpkmnpofgaa
open Go.RowKit

def fewAt (r : GR) : Bool := decide (r.head.length ≤ 10) && decide (r.body.length ≤ 20) && decide (r.w.length ≤ 20)
def fewB (p : GP) : Bool := decide (p.n ≤ 10) && decide (p.names.length ≤ 10) && decide (p.rules.length ≤ 12) && allR p.rules.length (fun i => fewAt (ixR p.rules i))

def FewRel (p : GP) (w : World) (i : Value) (wx : World) : Prop := ∃ k : Nat, k ≤ p.rules.length ∧ i = .int .i64 k ∧ (∀ j, j < k → fewAt (ixR p.rules j) = true) ∧ Below w.heap.size w wx

set_option maxHeartbeats 1000000 in
set_option maxRecDepth 100000 in
theorem few_any (v : Value) (p : GP) (w : World) (h : ProgIs w v p) :
    Calls Try.prog 10 #[v] w fun e w' => e = .returned (.bool (fewB p)) ∧ Below w.heap.size w w' := by
  obtain ⟨vn, vs, vr, vm, rfl, hn, hnames, hshown, hrules, hmin⟩ := h
  obtain ⟨a0, c0, rfl, -, hl0, -⟩ := hnames.form
  obtain ⟨a1, c1, rfl, -, hl1, -, hcell⟩ := hrules.form
  unfold InI at hn
  have hal := bal (Below.refl w.heap.size w) (.cells #[.int .i64 p.n, .slice a0 p.names.length c0, vs, .slice a1 p.rules.length c1, vm] 27)
  clear hnames hshown hrules hmin
  by_cases h1 : p.n ≤ 10
  · by_cases h2 : p.names.length ≤ 10
    · by_cases h3 : p.rules.length ≤ 12
      · have HF : Hid (fewB p = allR p.rules.length (fun i => fewAt (ixR p.rules i))) := Lib.hid (by simp [fewB, h1, h2, h3])
        go_enter Try.func10, Try.ntmps10
        go_wp2
        have hbk : Blk (w.alloc (.cells #[.int .i64 p.n, .slice a0 p.names.length c0, vs, .slice a1 p.rules.length c1, vm] 27)) w.heap.size _ _ := Blk.new w [.int .i64 p.n, .slice a0 p.names.length c0, vs, .slice a1 p.rules.length c1, vm] _
        generalize w.alloc (.cells #[.int .i64 p.n, .slice a0 p.names.length c0, vs, .slice a1 p.rules.length c1, vm] 27) = W at hal hbk ⊢
        go_loopw [23] (fun i wx => FewRel p w i wx) (fun i _ => p.rules.length - (intOf i).toNat)
        case atStart => exact ⟨0, by omega, rfl, fun j hj => absurd hj (Nat.not_lt_zero _), hal⟩
        case round =>
          obtain ⟨k, hk, rfl, hall, hb⟩ := hrel
          have HA := Lib.hid hall
          clear hall
          by_cases hlt : k < p.rules.length
          · obtain ⟨b, off, rfl, hbl, hc⟩ := hcell (by omega)
            obtain ⟨vh, vb, vw, ⟨r0, r1, r2, r3, r4, r5⟩, hsl⟩ := hc k hlt
            have HR : Hid (fewAt (ixR p.rules k) = (decide ((ixR p.rules k).head.length ≤ 10) && decide ((ixR p.rules k).body.length ≤ 20) && decide ((ixR p.rules k).w.length ≤ 20))) := Lib.hid rfl
            have HB : Hid (fewAt (ixR p.rules k) = false → fewB p = false) := Lib.hid (fun h => by rw [HF.out]; exact allR_false k hlt h)
            have HG : Hid (fewAt (ixR p.rules k) = true → ∀ j, j < k + 1 → fewAt (ixR p.rules j) = true) := Lib.hid (fun h => lt_succ_all HA.out h)
            generalize ixR p.rules k = r at *
            obtain ⟨x1, y1, rfl, -, g1, -, -⟩ := hsl.head.form
            obtain ⟨x2, y2, rfl, -, g2, -, -⟩ := hsl.body.form
            obtain ⟨x3, y3, rfl, -, g3, -, -⟩ := hsl.wts.form
            have kk := bcell hb b
            have q0 := (kk _ hbl).trans r0
            have q1 := (kk _ hbl).trans r1
            have q2 := (kk _ hbl).trans r2
            have q3 := (kk _ hbl).trans r3
            have q4 := (kk _ hbl).trans r4
            have q5 := (kk _ hbl).trans r5
            clear kk r0 r1 r2 r3 r4 r5 hc hcell hsl
            by_cases e1 : r.head.length ≤ 10
            · by_cases e2 : r.body.length ≤ 20
              · by_cases e3 : r.w.length ≤ 20
                · have HN := Lib.hid (HG.out (by rw [HR.out]; simp [e1, e2, e3]))
                  go_wp2
                  first
                    | (go_roundw
                       case rel => (exact ⟨k + 1, by omega, by go_num, HN.out, bal hb _⟩)
                       case measure => (simp [intOf]; omega))
                    | (refine ⟨?_, ?_⟩
                       · (exact ⟨k + 1, by omega, by go_num, HN.out, bal hb _⟩)
                       · (simp [intOf]; omega))
                · have HN := Lib.hid (HB.out (by rw [HR.out]; simp [e3]))
                  go_wp2
                  go_ret
                  exact ⟨ret_bool HN.out.symm, bal hb _⟩
              · have HN := Lib.hid (HB.out (by rw [HR.out]; simp [e2]))
                go_wp2
                go_ret
                exact ⟨ret_bool HN.out.symm, bal hb _⟩
            · have HN := Lib.hid (HB.out (by rw [HR.out]; simp [e1]))
              go_wp2
              go_ret
              exact ⟨ret_bool HN.out.symm, bal hb _⟩
          · have HN : Hid (fewB p = true) := Lib.hid (by rw [HF.out]; exact allR_true (fun j hj => HA.out j (by omega)))
            go_wp2
            go_ret
            exact ⟨ret_bool HN.out.symm, hb⟩
      · have HF : Hid (fewB p = false) := Lib.hid (by simp [fewB, h3])
        go_enter Try.func10, Try.ntmps10
        go_wp2
        go_ret
        exact ⟨ret_bool HF.out.symm, hal⟩
    · have HF : Hid (fewB p = false) := Lib.hid (by simp [fewB, h2])
      go_enter Try.func10, Try.ntmps10
      go_wp2
      go_ret
      exact ⟨ret_bool HF.out.symm, hal⟩
  · have HF : Hid (fewB p = false) := Lib.hid (by simp [fewB, h1])
    go_enter Try.func10, Try.ntmps10
    go_wp2
    go_ret
    exact ⟨ret_bool HF.out.symm, hal⟩

end Go.Proofs.Ytkjpnpkmnpofgaa
