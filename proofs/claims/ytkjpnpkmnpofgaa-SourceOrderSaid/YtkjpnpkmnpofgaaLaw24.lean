/- ostlerlaw24.Ints; ostlerlaw33.loop. -/
import Derived.Test.YtkjpnpkmnpofgaaSource
namespace Go.Proofs.Ytkjpnpkmnpofgaa
open Go.RowKit


def IntsRel (l1 l2 : List Int) (w : World) (i : Value) (wx : World) : Prop := ∃ k : Nat, k ≤ l1.length ∧ i = .int .i64 k ∧ (∀ j, j < k → ix l1 j = ix l2 j) ∧ Below w.heap.size w wx

theorem eq_of_ix {l1 l2 : List Int} (hl : l1.length = l2.length) (h : ∀ j, j < l1.length → ix l1 j = ix l2 j) : l1 = l2 := by
  apply List.ext_getElem hl
  intro i h1 h2
  have := h i h1
  simpa [ix, List.getD_eq_getElem?_getD, List.getElem?_eq_getElem h1, List.getElem?_eq_getElem h2] using this

set_option maxHeartbeats 1000000 in
theorem intsEq_any (v1 v2 : Value) (l1 l2 : List Int) (w : World) (h1 : Ints w v1 l1) (h2 : Ints w v2 l2) :
    Calls Try.prog 16 #[v1, v2] w fun e w' => e = .returned (.bool (decide (l1 = l2))) ∧ Below w.heap.size w w' := by
  have i1 := h1
  have i2 := h2
  obtain ⟨a1, c1, rfl, -, hl1, -, hc1⟩ := h1.form
  obtain ⟨a2, c2, rfl, -, hl2, -, hc2⟩ := h2.form
  clear h1 h2
  by_cases hlen : l1.length = l2.length
  · have hb0 : ((l1.length : Int) != (l2.length : Int)) = false := by simp [hlen]
    have HL := Lib.hid hlen
    have F1 := Lib.hid i1.2
    have F2 := Lib.hid i2.2
    clear hlen i1 i2
    go_enter Try.func16, Try.ntmps16
    go_wp2
    go_loopw [13] (fun i wx => IntsRel l1 l2 w i wx) (fun i _ => l1.length - (intOf i).toNat)
    case atStart => exact ⟨0, by omega, rfl, fun j hj => absurd hj (Nat.not_lt_zero _), Below.refl _ _⟩
    case round =>
      obtain ⟨k, hk, rfl, hall, hb⟩ := hrel
      have HA := Lib.hid hall
      clear hall
      by_cases hlt : k < l1.length
      · obtain ⟨b1, off1, rfl, hbl1, hcc1⟩ := hc1 (by omega)
        obtain ⟨b2, off2, rfl, hbl2, hcc2⟩ := hc2 (by have := HL.out; omega)
        have hlt2 : k < l2.length := by have := HL.out; omega
        have hlr1 : b1 < wr.heap.size := Nat.lt_of_lt_of_le hbl1 hb.size
        have hlr2 : b2 < wr.heap.size := Nat.lt_of_lt_of_le hbl2 hb.size
        have k1 : ∀ e : Ext wr, e.world.cell? ⟨b1, off1 + k, none⟩ = some (.int .i64 (ix l1 k)) := fun e => (bcell e.below _ _ hlr1).trans ((bcell hb _ _ hbl1).trans (hcc1 k hlt))
        have k2 : ∀ e : Ext wr, e.world.cell? ⟨b2, off2 + k, none⟩ = some (.int .i64 (ix l2 k)) := fun e => (bcell e.below _ _ hlr2).trans ((bcell hb _ _ hbl2).trans (hcc2 k hlt2))
        have f1 := F1.out k
        have f2 := F2.out k
        clear hcc1 hcc2 hc1 hc2
        by_cases he : ix l1 k = ix l2 k
        · have HN := Lib.hid (lt_succ_all HA.out he)
          have he' : (ix l1 k != ix l2 k) = false := by simp [he]
          clear he
          go_wp2
          refine wp_region_ext (by kernel_rfl) (by kernel_rfl) ?_
          repeat (go_big_quiet_step (fail))
          refine wpQuiet_nil ?_
          intro _ hw'
          obtain ⟨⟨w9, hb9⟩, rfl⟩ := hw'
          try dsimp only
          go_wp2
          first
            | (go_roundw
               case rel => (exact ⟨k + 1, by omega, by go_num, HN.out, bon hb hb9⟩)
               case measure => (simp [intOf]; omega))
            | (refine ⟨?_, ?_⟩
               · (exact ⟨k + 1, by omega, by go_num, HN.out, bon hb hb9⟩)
               · (simp [intOf]; omega))
        · have HF : Hid (decide (l1 = l2) = false) := Lib.hid (decide_eq_false (fun e => he (by rw [e])))
          have he' : (ix l1 k != ix l2 k) = true := by simp [he]
          clear he
          go_wp2
          refine wp_region_ext (by kernel_rfl) (by kernel_rfl) ?_
          repeat (go_big_quiet_step (fail))
          refine wpQuiet_nil ?_
          intro _ hw'
          obtain ⟨⟨w9, hb9⟩, rfl⟩ := hw'
          try dsimp only
          go_wp2
          go_ret
          exact ⟨ret_bool HF.out.symm, bon hb hb9⟩
      · have HF : Hid (decide (l1 = l2) = true) := Lib.hid (decide_eq_true (eq_of_ix HL.out (fun j hj => HA.out j (by omega))))
        go_wp2
        go_ret
        exact ⟨ret_bool HF.out.symm, hb⟩
  · have HF : Hid (decide (l1 = l2) = false) := Lib.hid (decide_eq_false (fun e => hlen (by rw [e])))
    have hb0 : ((l1.length : Int) != (l2.length : Int)) = true := by simp; omega
    clear hlen i1 i2
    go_enter Try.func16, Try.ntmps16
    go_wp2
    go_ret
    exact ⟨ret_bool HF.out.symm, Below.refl _ _⟩

def loopP : GP := ⟨3, [⟨#[97]⟩, ⟨#[98]⟩, ⟨#[99]⟩], [], [⟨false, [1], false, 0, [2], []⟩, ⟨false, [2], false, 0, [1], []⟩, ⟨false, [1], false, 0, [3], []⟩, ⟨true, [3], false, 0, [], []⟩], []⟩

theorem loop_valid : validE loopP = 0 := by kernel_rfl

theorem alloc_at (w : World) (o : Obj) (i : Nat) : (w.alloc o).heap[i]? = if i = w.heap.size then some o else w.heap[i]? := by
  show (w.heap.push o)[i]? = _
  rw [Array.getElem?_push]

theorem Blk.ints {w : World} {b : Nat} {l : List Int} (h : Blk w b (l.map (Value.int .i64)) 3) (hf : ∀ i, InI (ix l i)) (hl : l.length * 8 ≤ 140737488351232) : Ints w (.slice (some ⟨b, 0, none⟩) l.length l.length) l := by
  refine ⟨⟨_, _, rfl, Nat.le_refl _, by unfold maxLen; omega, hl, fun _ => ⟨b, 0, rfl, h.lt, fun i hi => ?_⟩⟩, hf⟩
  rw [Nat.zero_add, h.cell]
  simp [ix, List.getD_eq_getElem?_getD, hi]

theorem Blk.ints1 {w : World} {b : Nat} {x : Int} (h : Blk w b [.int .i64 x] 3) (hx : InI x) : Ints w (.slice (some ⟨b, 0, none⟩) 1 1) [x] :=
  Blk.ints (l := [x]) h (fun i => by cases i <;> simp [ix, InI] at *; exact hx) (by simp)

theorem nil_ints (w : World) : Ints w nilS [] := ⟨⟨none, 0, rfl, Nat.le_refl _, by unfold maxLen; omega, by simp, fun h => absurd h (by simp)⟩, fun i => by simp [ix]⟩

def loopCells (n : Nat) : List Value :=
  [.bool false, .slice (some ⟨n + 2, 0, none⟩) 1 1, .bool false, .int .i64 0, .slice (some ⟨n + 3, 0, none⟩) 1 1, .slice none 0 0,
   .bool false, .slice (some ⟨n + 4, 0, none⟩) 1 1, .bool false, .int .i64 0, .slice (some ⟨n + 5, 0, none⟩) 1 1, .slice none 0 0,
   .bool false, .slice (some ⟨n + 6, 0, none⟩) 1 1, .bool false, .int .i64 0, .slice (some ⟨n + 7, 0, none⟩) 1 1, .slice none 0 0,
   .bool true, .slice (some ⟨n + 8, 0, none⟩) 1 1, .bool false, .int .i64 0, .slice none 0 0, .slice none 0 0]

theorem loop_prog {n : Nat} {w : World} (b1 : Blk w (n + 1) [.string ⟨#[97]⟩, .string ⟨#[98]⟩, .string ⟨#[99]⟩] 9) (b2 : Blk w (n + 2) [.int .i64 1] 3) (b3 : Blk w (n + 3) [.int .i64 2] 3) (b4 : Blk w (n + 4) [.int .i64 2] 3)
    (b5 : Blk w (n + 5) [.int .i64 1] 3) (b6 : Blk w (n + 6) [.int .i64 1] 3) (b7 : Blk w (n + 7) [.int .i64 3] 3) (b8 : Blk w (n + 8) [.int .i64 3] 3) (b9 : Blk w (n + 9) (loopCells n) 44) :
    ProgIs w (.agg #[.int .i64 3, .slice (some ⟨n + 1, 0, none⟩) 3 3, .slice none 0 0, .slice (some ⟨n + 9, 0, none⟩) 4 4, .slice none 0 0]) loopP := by
  have i1 : InI 1 := by unfold InI; omega
  have i2 : InI 2 := by unfold InI; omega
  have i3 : InI 3 := by unfold InI; omega
  have i0 : InI 0 := by unfold InI; omega
  refine ⟨_, _, _, _, rfl, i3, ⟨⟨_, 3, rfl, Nat.le_refl _, by unfold maxLen; omega, by simp [loopP], fun _ => ⟨n + 1, 0, rfl, b1.lt, fun i hi => ?_⟩⟩, fun i => ?_⟩, nil_ints w, ?_, ⟨fun _ => nilS, fun _ => nilS, ⟨none, 0, rfl, Nat.le_refl _, by unfold maxLen; omega, by simp [loopP], fun h => absurd h (by simp [loopP])⟩, fun i hi => absurd hi (by simp [loopP])⟩⟩
  · rw [b1.cell]
    simp only [loopP, List.length_cons, List.length_nil] at hi
    rcases (show i = 0 ∨ i = 1 ∨ i = 2 by omega) with rfl | rfl | rfl <;> rfl
  · have hs : ∀ l : List ByteArray, (∀ x ∈ l, x.size ≤ 1) → (ixS l i).size ≤ 140737488351232 := fun l hl => by
      unfold ixS
      rw [List.getD_eq_getElem?_getD]
      cases h : l[i]? with
      | none => decide
      | some x =>
        have := hl x (List.mem_of_getElem? h)
        simp only [Option.getD_some]
        omega
    refine hs _ (fun x hx => ?_)
    simp only [loopP, List.mem_cons, List.not_mem_nil, or_false] at hx
    rcases hx with rfl | rfl | rfl <;> decide
  · refine ⟨fun i => .slice (some ⟨n + 2 * (i + 1), 0, none⟩) 1 1, fun i => if i < 3 then .slice (some ⟨n + 2 * (i + 1) + 1, 0, none⟩) 1 1 else .slice none 0 0, fun _ => .slice none 0 0, ⟨_, 4, rfl, Nat.le_refl _, by unfold maxLen; omega, by simp [loopP], fun _ => ⟨n + 9, 0, rfl, b9.lt, fun i hi j hj => ?_⟩⟩, fun i hi => ?_⟩
    · rw [b9.cell]
      simp only [loopP, List.length_cons, List.length_nil] at hi
      rcases (show i = 0 ∨ i = 1 ∨ i = 2 ∨ i = 3 by omega) with rfl | rfl | rfl | rfl <;> rcases (show j = 0 ∨ j = 1 ∨ j = 2 ∨ j = 3 ∨ j = 4 ∨ j = 5 by omega) with rfl | rfl | rfl | rfl | rfl | rfl <;> rfl
    · simp only [loopP, List.length_cons, List.length_nil] at hi
      rcases (show i = 0 ∨ i = 1 ∨ i = 2 ∨ i = 3 by omega) with rfl | rfl | rfl | rfl
      · exact ⟨b2.ints1 i1, b3.ints1 i2, nil_ints w, i0⟩
      · exact ⟨b4.ints1 i2, b5.ints1 i1, nil_ints w, i0⟩
      · exact ⟨b6.ints1 i1, b7.ints1 i3, nil_ints w, i0⟩
      · exact ⟨b8.ints1 i3, nil_ints w, nil_ints w, i0⟩

set_option maxHeartbeats 1000000 in
set_option maxRecDepth 100000 in
theorem loop_any (w : World) : Calls Try.prog 31 #[] w fun e w' => ∃ v, e = .returned v ∧ ProgIs w' v loopP ∧ Below w.heap.size w w' := by
  go_enter Try.func31, Try.ntmps31
  go_wp2
  refine bodyPost_ret (v := .agg #[.int .i64 3, .slice (some ⟨w.heap.size + 1, 0, none⟩) 3 3, .slice none 0 0, .slice (some ⟨w.heap.size + 9, 0, none⟩) 4 4, .slice none 0 0]) (by simp [results, Try.results31, go_sem]) rfl ⟨_, rfl, ?_, ?_⟩
  · apply loop_prog (n := w.heap.size) <;> (unfold Blk; simp only [alloc_at]; simp [loopCells])
  · exact bal (bal (bal (bal (bal (bal (bal (bal (bal (bal (Below.refl _ _) _) _) _) _) _) _) _) _) _) _

end Go.Proofs.Ytkjpnpkmnpofgaa
