/- ostlerlaw33.awake returns true. -/
import Derived.Test.YtkjpnpkmnpofgaaAwake1
import Derived.Test.YtkjpnpkmnpofgaaNew2
namespace Go.Proofs.Ytkjpnpkmnpofgaa
open Go.RowKit

theorem Blk.bytes8 {w : World} {b : Nat} {l : List Int} (h : Blk w b (l.map (Value.int .i8)) 58) (hf : ∀ i, -128 ≤ ix l i ∧ ix l i ≤ 127) (hl : l.length * 1 ≤ 140737488351232) : Bytes8 w (.slice (some ⟨b, 0, none⟩) l.length l.length) l := by
  refine ⟨⟨_, _, rfl, Nat.le_refl _, by unfold maxLen; omega, hl, fun _ => ⟨b, 0, rfl, h.lt, fun i hi => ?_⟩⟩, hf⟩
  rw [Nat.zero_add, h.cell]
  simp [ix, List.getD_eq_getElem?_getD, hi]

theorem nil_bytes8 (w : World) : Bytes8 w (.slice none 0 0) [] := ⟨⟨none, 0, rfl, Nat.le_refl _, by unfold maxLen; omega, by simp, fun h => absurd h (by simp)⟩, fun i => by simp [ix]⟩

theorem fit8 {l : List Int} (h : ∀ x ∈ l, -128 ≤ x ∧ x ≤ 127) (i : Nat) : -128 ≤ ix l i ∧ ix l i ≤ 127 := by
  by_cases hi : i < l.length
  · exact h _ (ix_mem hi)
  · have : ix l i = 0 := by unfold ix; rw [List.getD_eq_getElem?_getD, List.getElem?_eq_none (by omega)]; rfl
    rw [this]; omega
theorem fitI {l : List Int} (h : ∀ x ∈ l, InI x) (i : Nat) : InI (ix l i) := by
  by_cases hi : i < l.length
  · exact h _ (ix_mem hi)
  · have : ix l i = 0 := by unfold ix; rw [List.getD_eq_getElem?_getD, List.getElem?_eq_none (by omega)]; rfl
    rw [this]; unfold InI; omega

theorem new_valid {v : Value} {p : GP} {w : World} (h : ProgIs w v p) (hv : validE p = 0) :
    Calls Try.prog 12 #[v] w fun e w' => ∃ s : SP, e = .returned (.tuple #[.pointer (some ⟨s.b, 0, none⟩), .int .i64 0]) ∧ Below w.heap.size w w' ∧ s.H = w.heap.size ∧ Src w'.heap.size s p (fun _ => 0) (fun _ => 0) 0 [] w' :=
  (new_any v p w h).mono fun e w' ⟨hb, h2⟩ => by
    rw [if_pos hv] at h2
    obtain ⟨s, h3, h4, h5, h6⟩ := h2
    exact ⟨s, h3, hb, h4, h6⟩

theorem zero_inv (p : GP) : SInv p (fun _ => 0) (fun _ => 0) 0 := fun _ => .inl rfl

theorem findPost_below {s : SP} {p : GP} {a : List Int} {clock : Int} {w w' : World} {e : Ending} {n : Nat} (h : FindPost s p a clock w e w') (hs : n ≤ s.H) (hl : s.H ≤ s.b ∧ s.H ≤ s.bf ∧ s.H ≤ s.bk) (hn : n ≤ w.heap.size) : Below n w w' := by
  refine (h.1.mono hn (fun i hi _ => hi)).below (fun i hi => ?_)
  simp only [SP.mut, List.mem_cons, List.not_mem_nil, or_false] at hi
  omega

theorem find_loop {m : Nat} {s : SP} {F K : Int → Int} {clk : Int} {a0 a : List Int} {w : World} (h : Src m s loopP F K clk a0 w) (hi : SInv loopP F K clk) (hC : clk ≤ 1000000) (va : Value) (hva : Bytes8 w va a) (n : Nat) (hn : n ≤ s.H) :
    Calls Try.prog 14 #[.pointer (some ⟨s.b, 0, none⟩), va] w fun e w' => ∃ F' K' clk' av nv cv, e = .returned (.slice av nv cv) ∧ Found loopP a F' K' clk' ∧ clk' ≤ clk + 4000 ∧ Src w'.heap.size s loopP F' K' clk' a w' ∧
      QRow w.heap.size w' (.slice av nv cv) (findTo F' a 3) ∧ nv = (findTo F' a 3).length ∧ Below n w w' :=
  (find_any h hi (by omega) va hva).mono fun e w' hp => by
    have hb := findPost_below hp hn h.lo (by have := h.top; have := h.lo; have := h.hi; omega)
    obtain ⟨h1, F', K', clk', vo, h2, h3, h4, rfl, h5⟩ := hp
    have h5' : QRow w.heap.size w' vo (findTo F' a 3) := h5
    have hl : ∃ av nv cv, vo = .slice av nv cv ∧ nv = (findTo F' a 3).length := by
      rcases h5'.2 with ⟨e, e2⟩ | ⟨g, off, cap, cur, e, _⟩
      · exact ⟨_, _, _, e, by rw [e2]; rfl⟩
      · exact ⟨_, _, _, e, rfl⟩
    obtain ⟨av, nv, cv, rfl, h6⟩ := hl
    exact ⟨F', K', clk', av, nv, cv, rfl, h2, h3, h4, h5', h6, hb⟩

set_option maxHeartbeats 4000000 in
set_option maxRecDepth 100000 in
theorem awake_any (w : World) : Calls Try.prog 11 #[] w fun e w' => e = .returned (.bool true) ∧ Below w.heap.size w w' := by
  go_enter Try.func11, Try.ntmps11
  go_upto_region 4 with (first
    | (go_at_call 14; refine (find_loop HS2.out (zero_inv _) (by omega) _ (nil_bytes8 _) w.heap.size hH).mono ?_; rintro e w3 ⟨F3, K3, clk3, av3, nv3, cv3, rfl, hf3, hc3, hs3, -, hn3, hb3⟩; rw [(loop_nil hf3).1] at hn3; simp only [List.length_nil] at hn3; subst hn3; have HS3 := Lib.hid hs3; have HF3 := Lib.hid hf3; have HW3 := Lib.hid (HW2.out.trans hb3); clear hs3 hf3 hb3)
    | (go_at_call 12; refine (new_valid HP1.out loop_valid).mono ?_; rintro e w2 ⟨s, rfl, hb2, hsH, hs2⟩; have HW2 := Lib.hid (bon HW1.out hb2); have HS2 := Lib.hid hs2; have hH : w.heap.size ≤ s.H := (by have := HW1.out.size; omega); clear hb2 hs2 hsH)
    | (go_at_call 31; refine (loop_any _).mono ?_; rintro e w1 ⟨v1, rfl, hp1, hb1⟩; obtain ⟨vn, vs, vr, vm, rfl, hp1⟩ := hp1; have HP1 := Lib.hid (show ProgIs w1 (.agg #[.int .i64 loopP.n, vn, vs, vr, vm]) loopP from ⟨_, _, _, _, rfl, hp1⟩); have HW1 := Lib.hid hb1; clear hp1 hb1))
  have hF := loop_nil HF3.out
  have HX : ∀ x f : Int, F3 x = f → 0 < f → Calls Try.prog 15 #[.pointer (some ⟨s.b, 0, none⟩), .int .i64 x] w3 fun e w' => e = .returned (.tuple #[.int .i64 (f - 1), .bool true]) ∧ w3 = w' := fun x f h1 h2 => by
    have := source_any HS3.out x (by omega)
    rw [h1, if_pos h2, decide_eq_true h2] at this
    exact this
  have HX1 := Lib.hid (HX 1 3 hF.2.1 (by omega))
  have HX2 := Lib.hid (HX 2 2 hF.2.2.1 (by omega))
  have HX3 := Lib.hid (HX 3 4 hF.2.2.2 (by omega))
  have hi3 := HF3.out.lost.inv
  have HI3 := Lib.hid hi3
  clear HX hF hi3
  go_upto_region 7 with (first
    | (go_at_call 15; (with_reducible refine (HX3.out).mono ?_); rintro e w4 ⟨rfl, rfl⟩)
    | (go_at_call 15; (with_reducible refine (HX2.out).mono ?_); rintro e w4 ⟨rfl, rfl⟩)
    | (go_at_call 15; (with_reducible refine (HX1.out).mono ?_); rintro e w4 ⟨rfl, rfl⟩))
  have hal := bal (Below.refl w3.heap.size w3) (.cells #[.int .i8 0, .int .i8 0, .int .i8 (-1)] 58)
  have hba : Bytes8 (w3.alloc (.cells #[.int .i8 0, .int .i8 0, .int .i8 (-1)] 58)) (.slice (some ⟨w3.heap.size, 0, none⟩) 3 3) [0, 0, -1] := Blk.bytes8 (l := [0, 0, -1]) (Blk.new w3 [.int .i8 0, .int .i8 0, .int .i8 (-1)] 58) (fit8 (by simp)) (by simp)
  have HA4 := Lib.hid hba
  have HS4 := Lib.hid (HS3.out.below hal)
  have HW4 := Lib.hid (bon HW3.out hal)
  clear hba hal
  have hc3' : clk3 ≤ 1000000 := by omega
  go_wp2_with (first
    | (go_at_call 16; (with_reducible refine (intsEq_any _ _ [2] [2] _ HQ8.out HL8.out).mono ?_); rintro e w9 ⟨rfl, hb9⟩)
    | (go_at_call 14; (with_reducible refine (find_loop HS7.out HI5.out (by omega) _ HA7.out w.heap.size hH).mono ?_); rintro e w8 ⟨F8, K8, clk8, av8, nv8, cv8, rfl, hf8, hc8, hs8, hq8, hn8, hb8⟩; rw [loop_off13 hf8] at hn8 hq8; simp only [List.length_cons, List.length_nil, Nat.zero_add] at hn8; subst hn8; have HQ8 := Lib.hid ((hq8.ints (by simp)).below (bal (Below.refl w8.heap.size w8) (.cells #[.int .i64 2] 3))); have HL8 := Lib.hid ((Blk.new w8 [.int .i64 2] 3).ints1 (by unfold InI; omega)); have HW8 := Lib.hid ((HW7.out.trans hb8).trans (bal (Below.refl w8.heap.size w8) (.cells #[.int .i64 2] 3) |>.mono (by have := HW7.out.size; have := hb8.size; omega))); clear hs8 hq8 hf8 hb8)
    | (go_at_call 16; (with_reducible refine (intsEq_any _ _ [1, 2] [1, 2] _ HQ5.out HL5.out).mono ?_); rintro e w6 ⟨rfl, hb6⟩; have HW6 := Lib.hid (bon HW5.out hb6); have HS6 := Lib.hid (HS5.out.below hb6); have HA7 := Lib.hid (show Bytes8 (w6.alloc (.cells #[.int .i8 (-1), .int .i8 0, .int .i8 (-1)] 58)) (.slice (some ⟨w6.heap.size, 0, none⟩) 3 3) [-1, 0, -1] from Blk.bytes8 (l := [-1, 0, -1]) (Blk.new w6 [.int .i8 (-1), .int .i8 0, .int .i8 (-1)] 58) (fit8 (by simp)) (by simp)); have HS7 := Lib.hid (HS6.out.below (bal (Below.refl w6.heap.size w6) (.cells #[.int .i8 (-1), .int .i8 0, .int .i8 (-1)] 58))); have HW7 := Lib.hid (bon HW6.out (bal (Below.refl w6.heap.size w6) (.cells #[.int .i8 (-1), .int .i8 0, .int .i8 (-1)] 58))); clear hb6)
    | (go_at_call 14; (with_reducible refine (find_loop HS4.out HI3.out hc3' _ HA4.out w.heap.size hH).mono ?_); rintro e w5 ⟨F5, K5, clk5, av5, nv5, cv5, rfl, hf5, hc5, hs5, hq5, hn5, hb5⟩; rw [loop_off3 hf5] at hn5 hq5; simp only [List.length_cons, List.length_nil, Nat.zero_add, Nat.reduceAdd] at hn5; subst hn5; have HI5 := Lib.hid hf5.lost.inv; have hb5a := bal (Below.refl w5.heap.size w5) (.cells #[.int .i64 1, .int .i64 2] 3); have HQ5 := Lib.hid ((hq5.ints (by simp)).below hb5a); have HL5 := Lib.hid (show Ints (w5.alloc (.cells #[.int .i64 1, .int .i64 2] 3)) (.slice (some ⟨w5.heap.size, 0, none⟩) 2 2) [1, 2] from Blk.ints (l := [1, 2]) (Blk.new w5 [.int .i64 1, .int .i64 2] 3) (fitI (by simp [InI])) (by simp)); have HW5 := Lib.hid (bon (HW4.out.trans hb5) hb5a); have HS5 := Lib.hid (hs5.below hb5a); clear hs5 hq5 hf5 hb5 hb5a))
  go_ret
  exact ⟨rfl, bon HW8.out hb9⟩

end Go.Proofs.Ytkjpnpkmnpofgaa
