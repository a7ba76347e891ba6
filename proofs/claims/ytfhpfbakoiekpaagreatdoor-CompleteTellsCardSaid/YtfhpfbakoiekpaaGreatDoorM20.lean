/- My texts Rn1, Two, merged. -/
import Derived.Test.YtfhpfbakoiekpaaGreatDoorM19
import Derived.Test.YtfhpfbakoiekpaaGreatDoorM12
import Derived.Test.YtfhpfbakoiekpaaGreatDoorM10
import Derived.Test.YtfhpfbakoiekpaaGreatDoorM09

/- ostlerref24: Var, Literal, insert, Equal. -/
namespace Go.Proofs.YtfhpfbakoiekpaaGreatDoor
open Go.RowKit

theorem rvar_any (x : Int) (w : World) (hx : -9223372036854775808 < x ∧ x ≤ 9223372036854775807) : Calls Tryz.prog 104 #[.int .i64 x] w fun e w' => e = .returned (.int .i64 (x.natAbs : Int)) ∧ w = w' := by
  by_cases h : x < 0
  · go_enter Tryz.func104, Tryz.ntmps104
    go_wp2
    go_ret
    exact ⟨ret_int (by omega), rfl⟩
  · go_enter Tryz.func104, Tryz.ntmps104
    go_wp2
    go_ret
    exact ⟨ret_int (by omega), rfl⟩

theorem rlit_any (x : Int) (w : World) (hx : InI x) : Calls Tryz.prog 103 #[.int .i64 x] w fun e w' => e = .returned (.bool (plitB x)) ∧ w = w' := by
  unfold InI at hx
  have HF : Hid (plitB x = decide (x ≠ 0 ∧ -65536 ≤ x ∧ x ≤ 65536)) := Lib.hid rfl
  by_cases h0 : x = 0
  · have h0' : (x != 0) = false := by simp [h0]
    have HG : Hid (plitB x = false) := Lib.hid (by rw [HF.out]; exact decide_eq_false (by omega))
    clear h0
    go_enter Tryz.func103, Tryz.ntmps103
    go_wp2
    go_ret
    exact ⟨ret_bool HG.out.symm, rfl⟩
  · have h0' : (x != 0) = true := by simp [h0]
    by_cases h1 : -65536 ≤ x
    · by_cases h2 : x ≤ 65536
      · have HG : Hid (plitB x = true) := Lib.hid (by rw [HF.out]; exact decide_eq_true (by omega))
        clear h0
        go_enter Tryz.func103, Tryz.ntmps103
        go_wp2
        go_ret
        exact ⟨ret_bool HG.out.symm, rfl⟩
      · have HG : Hid (plitB x = false) := Lib.hid (by rw [HF.out]; exact decide_eq_false (by omega))
        clear h0
        go_enter Tryz.func103, Tryz.ntmps103
        go_wp2
        go_ret
        exact ⟨ret_bool HG.out.symm, rfl⟩
    · have HG : Hid (plitB x = false) := Lib.hid (by rw [HF.out]; exact decide_eq_false (by omega))
      clear h0
      go_enter Tryz.func103, Tryz.ntmps103
      go_wp2
      go_ret
      exact ⟨ret_bool HG.out.symm, rfl⟩

/-! ### insert -/
theorem hq_base {B : Nat} {w : World} {v : Value} {l : List Int} (h : QRow B w v l) {g : Nat} (e : v.ownBlock = some g) : B ≤ g := by
  rcases h.2 with ⟨rfl, _⟩ | ⟨g', off, cap, cur, rfl, hb, _⟩
  · cases e
  · have : g' = g := by simpa [Value.ownBlock] using e
    omega

def InsRel (l : List Int) (v : Int) (w : World) (o pl i : Value) (wx : World) : Prop :=
  ∃ k : Nat, k ≤ l.length ∧ i = .int .i64 k ∧ pl = .bool (insTo l v k).2 ∧ QRow w.heap.size wx o (insTo l v k).1 ∧ Below w.heap.size w wx

set_option maxHeartbeats 4000000 in
set_option maxRecDepth 100000 in
theorem insert_any (vl : Value) (l : List Int) (v : Int) (w : World) (h : Ints w vl l) (hv : InI v) (hl : l.length ≤ 1000000) :
    Calls Tryz.prog 122 #[vl, .int .i64 v] w fun e w' => ∃ vo, e = .returned vo ∧ QRow w.heap.size w' vo (insR l v) ∧ Below w.heap.size w w' := by
  have hfit := h.2
  have HFIT : Hid (∀ i, InI (ix l i)) := Lib.hid hfit
  obtain ⟨a1, c1, rfl, -, hl1, -, hcell⟩ := h.form
  have HC := Lib.hid hcell
  have HV := Lib.hid hv
  clear h hcell hv hfit
  go_enter Tryz.func122, Tryz.ntmps122
  go_wp2
  go_loopw [5, 6, 7] (fun o pl i wx => InsRel l v w o pl i wx) (fun _ _ i _ => l.length - (intOf i).toNat)
  case atStart => exact ⟨0, Nat.zero_le _, rfl, rfl, QRow.nil _ _, Below.refl _ _⟩
  case round =>
    obtain ⟨k, hk, rfl, rfl, hq, hb⟩ := hrel
    have HQ := Lib.hid hq
    have HB := Lib.hid hb
    have hlen := insTo_len l v k
    have hzr := hb.size
    obtain ⟨av, nv, cv, rfl⟩ := hq.form
    have HST : Hid (insTo l v (k + 1) = ((if ix l k = v then (if v ≤ ix l k ∧ (insTo l v k).2 = false then (insTo l v k).1 ++ [v] else (insTo l v k).1) else (if v ≤ ix l k ∧ (insTo l v k).2 = false then (insTo l v k).1 ++ [v] else (insTo l v k).1) ++ [ix l k]), (insTo l v k).2 || decide (v ≤ ix l k))) := Lib.hid rfl
    have HRR : Hid (k = l.length → insR l v = if (insTo l v k).2 then (insTo l v k).1 else (insTo l v k).1 ++ [v]) := Lib.hid (fun e => by subst e; rfl)
    clear hq
    generalize insTo l v k = TP at *
    obtain ⟨T, pl⟩ := TP
    dsimp only at HQ HST HRR hlen ⊢
    by_cases hlt : k < l.length
    · obtain ⟨b, off, rfl, hbl, hc⟩ := HC.out (by omega)
      have hk1 := (bcell hb _ _ hbl).trans (hc k hlt)
      have hblr : b < wr.heap.size := Nat.lt_of_lt_of_le hbl hb.size
      have HXI := Lib.hid (HFIT.out k)
      generalize ix l k = x at *
      clear hc hb
      by_cases hP : v ≤ x ∧ pl = false
      · obtain ⟨hvx, rfl⟩ := hP
        by_cases hxv : x = v
        · have hxe : (x != v) = false := by simp [hxv]
          have HN : Hid (insTo l v (k + 1) = (T ++ [v], true)) := Lib.hid (by rw [HST.out, if_pos hxv, if_pos ⟨hvx, rfl⟩, decide_eq_true hvx]; rfl)
          clear hxv
          go_wp2_with (at_builtin; refine wpList_appendQ rfl _ _ 23 Tryz.underlying23 rfl w.heap.size _ T v rfl (HQ.out.kept (w' := wr.alloc (.cells #[.int .i64 v] 3)) (fun i h1 h2 _ => Below.heap_alloc _ _ _ h2)) wr.heap.size 1 rfl (Blk.new wr [.int .i64 v] _) HV.out (by omega) (by simp; omega) ?_; intro v4 w4 hq4 hg4 hl4; have HB4 := Lib.hid (below_push HB.out HQ.out (Nat.le_refl _) hg4); have HQ4 := Lib.hid hq4; have hz4 := HB4.out.size; have hk4 : w4.cell? ⟨b, off + k, none⟩ = some (.int .i64 x) := (World.cell?_of_block ((hg4.block b (by simp; omega) (fun e => by have := (hq_base HQ.out e.symm); omega)).trans (Below.heap_alloc _ _ _ hblr))).trans hk1; obtain ⟨av4, nv4, cv4, rfl⟩ := hq4.form; clear hq4 hg4 hl4)
          first
            | (go_roundw
               case rel => (exact ⟨k + 1, hlt, by go_num, by rw [HN.out], by rw [HN.out]; exact HQ4.out, HB4.out⟩)
               case measure => (simp [intOf]; omega))
            | (refine ⟨?_, ?_⟩
               · (exact ⟨k + 1, hlt, by go_num, by rw [HN.out], by rw [HN.out]; exact HQ4.out, HB4.out⟩)
               · (simp [intOf]; omega))
        · have hxe : (x != v) = true := by simp [hxv]
          have HN : Hid (insTo l v (k + 1) = (T ++ [v] ++ [x], true)) := Lib.hid (by rw [HST.out, if_neg hxv, if_pos ⟨hvx, rfl⟩, decide_eq_true hvx]; rfl)
          have hl5 : ((T ++ [v]).length + 1) * 8 ≤ 140737488351232 := by simp; omega
          clear hxv
          go_upto_region 10 with (at_builtin; refine wpList_appendQ rfl _ _ 23 Tryz.underlying23 rfl w.heap.size _ T v rfl (HQ.out.kept (w' := wr.alloc (.cells #[.int .i64 v] 3)) (fun i h1 h2 _ => Below.heap_alloc _ _ _ h2)) wr.heap.size 1 rfl (Blk.new wr [.int .i64 v] _) HV.out (by omega) (by simp; omega) ?_; intro v4 w4 hq4 hg4 hl4; have HB4 := Lib.hid (below_push HB.out HQ.out (Nat.le_refl _) hg4); have HQ4 := Lib.hid hq4; have hz4 := HB4.out.size; have hk4 : w4.cell? ⟨b, off + k, none⟩ = some (.int .i64 x) := (World.cell?_of_block ((hg4.block b (by simp; omega) (fun e => by have := (hq_base HQ.out e.symm); omega)).trans (Below.heap_alloc _ _ _ hblr))).trans hk1; obtain ⟨av4, nv4, cv4, rfl⟩ := hq4.form; clear hq4 hg4 hl4)
          go_wp2_with (at_builtin; go_must (refine wpList_appendQ rfl _ _ 23 Tryz.underlying23 rfl w.heap.size _ (T ++ [v]) x rfl (HQ4.out.kept (w' := w4.alloc (.cells #[.int .i64 x] 3)) (fun i h1 h2 _ => Below.heap_alloc _ _ _ h2)) w4.heap.size 1 rfl (Blk.new w4 [.int .i64 x] _) HXI.out hl5 (by simp; omega) ?_); intro v5 w5 hq5 hg5 hl5; have HB5 := Lib.hid (below_push HB4.out HQ4.out (Nat.le_refl _) hg5); have HQ5 := Lib.hid hq5; clear hq5 hg5 hl5)
          first
            | (go_roundw
               case rel => (exact ⟨k + 1, hlt, by go_num, by rw [HN.out], by rw [HN.out]; exact HQ5.out, HB5.out⟩)
               case measure => (simp [intOf]; omega))
            | (refine ⟨?_, ?_⟩
               · (exact ⟨k + 1, hlt, by go_num, by rw [HN.out], by rw [HN.out]; exact HQ5.out, HB5.out⟩)
               · (simp [intOf]; omega))
      · by_cases hxv : x = v
        · have hxe : (x != v) = false := by simp [hxv]
          have HN : Hid (insTo l v (k + 1) = (T, pl || decide (v ≤ x))) := Lib.hid (by rw [HST.out, if_pos hxv, if_neg hP])
          cases pl with
          | true =>
            have hvx : v ≤ x := by omega
            clear hxv
            go_wp2_with fail
            first
              | (go_roundw
                 case rel => (exact ⟨k + 1, hlt, by go_num, by simp [HN.out], by rw [HN.out]; exact HQ.out, HB.out⟩)
                 case measure => (simp [intOf]; omega))
              | (refine ⟨?_, ?_⟩
                 · (exact ⟨k + 1, hlt, by go_num, by simp [HN.out], by rw [HN.out]; exact HQ.out, HB.out⟩)
                 · (simp [intOf]; omega))
          | false => exact absurd ⟨by omega, rfl⟩ hP
        · have hxe : (x != v) = true := by simp [hxv]
          have HN : Hid (insTo l v (k + 1) = (T ++ [x], pl || decide (v ≤ x))) := Lib.hid (by rw [HST.out, if_neg hxv, if_neg hP])
          clear hxv
          cases pl with
          | true =>
            by_cases hvx : v ≤ x
            · go_wp2_with (at_builtin; refine wpList_appendQ rfl _ _ 23 Tryz.underlying23 rfl w.heap.size _ T (x) rfl (HQ.out.kept (w' := wr.alloc (.cells #[.int .i64 (x)] 3)) (fun i h1 h2 _ => Below.heap_alloc _ _ _ h2)) wr.heap.size 1 rfl (Blk.new wr [.int .i64 (x)] _) HXI.out (by omega) (by simp; omega) ?_; intro v4 w4 hq4 hg4 hl4; have HB4 := Lib.hid (below_push HB.out HQ.out (Nat.le_refl _) hg4); have HQ4 := Lib.hid hq4; have hz4 := HB4.out.size; obtain ⟨av4, nv4, cv4, rfl⟩ := hq4.form; clear hq4 hg4 hl4)
              first
                | (go_roundw
                   case rel => (exact ⟨k + 1, hlt, by go_num, by simp [HN.out], by rw [HN.out]; exact HQ4.out, HB4.out⟩)
                   case measure => (simp [intOf]; omega))
                | (refine ⟨?_, ?_⟩
                   · (exact ⟨k + 1, hlt, by go_num, by simp [HN.out], by rw [HN.out]; exact HQ4.out, HB4.out⟩)
                   · (simp [intOf]; omega))
            · go_wp2_with (at_builtin; refine wpList_appendQ rfl _ _ 23 Tryz.underlying23 rfl w.heap.size _ T (x) rfl (HQ.out.kept (w' := wr.alloc (.cells #[.int .i64 (x)] 3)) (fun i h1 h2 _ => Below.heap_alloc _ _ _ h2)) wr.heap.size 1 rfl (Blk.new wr [.int .i64 (x)] _) HXI.out (by omega) (by simp; omega) ?_; intro v4 w4 hq4 hg4 hl4; have HB4 := Lib.hid (below_push HB.out HQ.out (Nat.le_refl _) hg4); have HQ4 := Lib.hid hq4; have hz4 := HB4.out.size; obtain ⟨av4, nv4, cv4, rfl⟩ := hq4.form; clear hq4 hg4 hl4)
              first
                | (go_roundw
                   case rel => (exact ⟨k + 1, hlt, by go_num, by simp [HN.out], by rw [HN.out]; exact HQ4.out, HB4.out⟩)
                   case measure => (simp [intOf]; omega))
                | (refine ⟨?_, ?_⟩
                   · (exact ⟨k + 1, hlt, by go_num, by simp [HN.out], by rw [HN.out]; exact HQ4.out, HB4.out⟩)
                   · (simp [intOf]; omega))
          | false =>
            have hvx : ¬ v ≤ x := fun h => hP ⟨h, rfl⟩
            have HVX := Lib.hid (decide_eq_false hvx)
            clear hP
            go_wp2_with (at_builtin; refine wpList_appendQ rfl _ _ 23 Tryz.underlying23 rfl w.heap.size _ T (x) rfl (HQ.out.kept (w' := wr.alloc (.cells #[.int .i64 (x)] 3)) (fun i h1 h2 _ => Below.heap_alloc _ _ _ h2)) wr.heap.size 1 rfl (Blk.new wr [.int .i64 (x)] _) HXI.out (by omega) (by simp; omega) ?_; intro v4 w4 hq4 hg4 hl4; have HB4 := Lib.hid (below_push HB.out HQ.out (Nat.le_refl _) hg4); have HQ4 := Lib.hid hq4; have hz4 := HB4.out.size; obtain ⟨av4, nv4, cv4, rfl⟩ := hq4.form; clear hq4 hg4 hl4)
            first
              | (go_roundw
                 case rel => (exact ⟨k + 1, hlt, by go_num, by simp [HN.out, HVX.out], by rw [HN.out]; exact HQ4.out, HB4.out⟩)
                 case measure => (simp [intOf]; omega))
              | (refine ⟨?_, ?_⟩
                 · (exact ⟨k + 1, hlt, by go_num, by simp [HN.out, HVX.out], by rw [HN.out]; exact HQ4.out, HB4.out⟩)
                 · (simp [intOf]; omega))
    · obtain rfl : k = l.length := by omega
      have HR := Lib.hid (HRR.out rfl)
      cases pl with
      | true =>
        clear hb
        go_wp2
        go_ret
        exact ⟨_, rfl, by rw [HR.out]; exact HQ.out, HB.out⟩
      | false =>
        clear hb
        go_wp2_with (at_builtin; refine wpList_appendQ rfl _ _ 23 Tryz.underlying23 rfl w.heap.size _ T (v) rfl (HQ.out.kept (w' := wr.alloc (.cells #[.int .i64 (v)] 3)) (fun i h1 h2 _ => Below.heap_alloc _ _ _ h2)) wr.heap.size 1 rfl (Blk.new wr [.int .i64 (v)] _) HV.out (by omega) (by simp; omega) ?_; intro v4 w4 hq4 hg4 hl4; have HB4 := Lib.hid (below_push HB.out HQ.out (Nat.le_refl _) hg4); have HQ4 := Lib.hid hq4; have hz4 := HB4.out.size; obtain ⟨av4, nv4, cv4, rfl⟩ := hq4.form; clear hq4 hg4 hl4)
        go_ret
        exact ⟨_, rfl, by rw [HR.out]; exact HQ4.out, HB4.out⟩

/-! ### Equal -/
structure EqSt (w : World) (c d : PBC) (vl vk ul uk : Value) (W : World) : Prop where
  b1 : Blk W w.heap.size [vl, vk, .int .i64 c.bound] 30
  b2 : Blk W (w.heap.size + 1) [ul, uk, .int .i64 d.bound] 30
  below : Below w.heap.size w W

def EqRel (w : World) (c d : PBC) (vl vk ul uk : Value) (l m : List Int) (i : Value) (wx : World) : Prop :=
  ∃ k : Nat, k ≤ l.length ∧ i = .int .i64 k ∧ (∀ j, j < k → ix l j = ix m j) ∧ EqSt w c d vl vk ul uk wx

theorem EqSt.on {w : World} {c d : PBC} {vl vk ul uk : Value} {W W' : World} (h : EqSt w c d vl vk ul uk W) (hb : Below W.heap.size W W') : EqSt w c d vl vk ul uk W' := ⟨h.b1.below hb, h.b2.below hb, bon h.below hb⟩

theorem pbc_eq {c d : PBC} (h1 : c.bound = d.bound) (h2 : c.lits = d.lits) (h3 : c.coefs = d.coefs) : c = d := by
  cases c; cases d; simp_all

set_option maxHeartbeats 4000000 in
set_option maxRecDepth 100000 in
theorem requal_any (v u : Value) (c d : PBC) (w : World) (h1 : PBIs w v c) (h2 : PBIs w u d) :
    Calls Tryz.prog 13 #[v, u] w fun e w' => e = .returned (.bool (decide (c = d))) ∧ Below w.heap.size w w' := by
  obtain ⟨vl, vk, rfl, hvl, hvk, hbc⟩ := h1
  obtain ⟨ul, uk, rfl, hul, huk, hbd⟩ := h2
  unfold InI at hbc hbd
  obtain ⟨a1, c1, rfl, -, hl1, -, hc1⟩ := hvl.form
  obtain ⟨a2, c2, rfl, -, hl2, -, hc2⟩ := hvk.form
  obtain ⟨a3, c3, rfl, -, hl3, -, hc3⟩ := hul.form
  obtain ⟨a4, c4, rfl, -, hl4, -, hc4⟩ := huk.form
  have HC1 := Lib.hid hc1
  have HC2 := Lib.hid hc2
  have HC3 := Lib.hid hc3
  have HC4 := Lib.hid hc4
  have F1 := Lib.hid hvl.2
  have F2 := Lib.hid hvk.2
  have F3 := Lib.hid hul.2
  have F4 := Lib.hid huk.2
  clear hvl hvk hul huk hc1 hc2 hc3 hc4
  go_enter Tryz.func13, Tryz.ntmps13
  go_upto_region 1 with fail
  have hst : EqSt w c d (.slice a1 c.lits.length c1) (.slice a2 c.coefs.length c2) (.slice a3 d.lits.length c3) (.slice a4 d.coefs.length c4) ((w.alloc (.cells #[.slice a1 c.lits.length c1, .slice a2 c.coefs.length c2, .int .i64 c.bound] 30)).alloc (.cells #[.slice a3 d.lits.length c3, .slice a4 d.coefs.length c4, .int .i64 d.bound] 30)) :=
    ⟨(Blk.new w [.slice a1 c.lits.length c1, .slice a2 c.coefs.length c2, .int .i64 c.bound] _).alloc _, Blk.new2 w _ [.slice a3 d.lits.length c3, .slice a4 d.coefs.length c4, .int .i64 d.bound] _, bal (bal (Below.refl _ _) _) _⟩
  have HS := Lib.hid hst
  have kx1 := hst.b1.cell
  have kx2 := hst.b2.cell
  clear hst
  generalize (w.alloc (.cells #[.slice a1 c.lits.length c1, .slice a2 c.coefs.length c2, .int .i64 c.bound] 30)).alloc (.cells #[.slice a3 d.lits.length c3, .slice a4 d.coefs.length c4, .int .i64 d.bound] 30) = W at *
  by_cases e1 : c.bound = d.bound
  · have g1 : (c.bound != d.bound) = false := by simp [e1]
    by_cases e2 : c.lits.length = d.lits.length
    · have g2 : ((c.lits.length : Int) != (d.lits.length : Int)) = false := by simp [e2]
      by_cases e3 : c.coefs.length = d.coefs.length
      · have g3 : ((c.coefs.length : Int) != (d.coefs.length : Int)) = false := by simp [e3]
        have HE1 := Lib.hid e1
        have HE2 := Lib.hid e2
        have HE3 := Lib.hid e3
        clear e1 e2 e3
        go_upto_region 4 with fail
        go_loopw [5] (fun i wx => EqRel w c d (.slice a1 c.lits.length c1) (.slice a2 c.coefs.length c2) (.slice a3 d.lits.length c3) (.slice a4 d.coefs.length c4) c.lits d.lits i wx) (fun i _ => c.lits.length - (intOf i).toNat)
        case atStart => exact ⟨0, Nat.zero_le _, rfl, fun j hj => absurd hj (Nat.not_lt_zero _), HS.out⟩
        case round =>
          clear kx1 kx2
          obtain ⟨k, hk, rfl, hall, hst⟩ := hrel
          have HALL := Lib.hid hall
          have HSR := Lib.hid hst
          have kr1 := hst.b1.cell
          have kr2 := hst.b2.cell
          clear hall hst
          by_cases hlt : k < c.lits.length
          · have hlt2 : k < d.lits.length := by have := HE2.out; omega
            obtain ⟨b, o, rfl, hb, hc⟩ := HC1.out (by omega)
            obtain ⟨b', o', rfl, hb', hc'⟩ := HC3.out (by omega)
            have q1 := (bcell HSR.out.below _ _ hb).trans (hc k hlt)
            have q2 := (bcell HSR.out.below _ _ hb').trans (hc' k hlt2)
            have hz := HSR.out.below.size
            have ke1 : ∀ e : Ext wr, e.world.cell? ⟨b, o + k, none⟩ = some (.int .i64 (ix c.lits k)) := fun e => (bcell e.below _ _ (by omega)).trans q1
            have ke2 : ∀ e : Ext wr, e.world.cell? ⟨b', o' + k, none⟩ = some (.int .i64 (ix d.lits k)) := fun e => (bcell e.below _ _ (by omega)).trans q2
            have kp1 : ∀ e : Ext wr, ∀ o, e.world.cell? ⟨w.heap.size, o, none⟩ = _ := fun e o => (bcell e.below _ o HSR.out.b1.lt).trans (HSR.out.b1.cell o)
            have kp2 : ∀ e : Ext wr, ∀ o, e.world.cell? ⟨w.heap.size + 1, o, none⟩ = _ := fun e o => (bcell e.below _ o HSR.out.b2.lt).trans (HSR.out.b2.cell o)
            have f1 := F1.out k
            have f2 := F3.out k
            clear hc hc' q1 q2
            by_cases he : ix c.lits k = ix d.lits k
            · have HN := Lib.hid (lt_succ_all HALL.out he)
              have he' : (ix c.lits k != ix d.lits k) = false := by simp [he]
              clear he
              go_wp2
              refine wp_region_ext (by kernel_rfl) (by kernel_rfl) ?_
              repeat (go_big_quiet_step (fail))
              refine wpQuiet_nil ?_
              intro w9 hw'
              obtain ⟨e9, he9⟩ := hw'
              have hb9 := e9.below
              rw [← he9] at hb9
              clear he9 e9
              try dsimp only
              go_wp2
              first
                | (go_roundw
                   case rel => (exact ⟨k + 1, hlt, by go_num, HN.out, HSR.out.on hb9⟩)
                   case measure => (simp [intOf]; omega))
                | (refine ⟨?_, ?_⟩
                   · (exact ⟨k + 1, hlt, by go_num, HN.out, HSR.out.on hb9⟩)
                   · (simp [intOf]; omega))
            · have HF : Hid (decide (c = d) = false) := Lib.hid (decide_eq_false fun e => he (by rw [e]))
              have he' : (ix c.lits k != ix d.lits k) = true := by simp [he]
              clear he
              go_wp2
              refine wp_region_ext (by kernel_rfl) (by kernel_rfl) ?_
              repeat (go_big_quiet_step (fail))
              refine wpQuiet_nil ?_
              intro w9 hw'
              obtain ⟨e9, he9⟩ := hw'
              have hb9 := e9.below
              rw [← he9] at hb9
              clear he9 e9
              try dsimp only
              go_wp2
              go_ret
              exact ⟨ret_bool HF.out.symm, bon HSR.out.below hb9⟩
          · obtain rfl : k = c.lits.length := by omega
            have HEQ : Hid (c.lits = d.lits) := Lib.hid (eq_of_ix HE2.out fun j hj => HALL.out j hj)
            go_upto_region 9 with fail
            obtain ⟨wo, rfl⟩ : ∃ wo : World, wo = wr := ⟨_, rfl⟩
            go_loopw [6] (fun i wx => EqRel w c d (.slice a1 c.lits.length c1) (.slice a2 c.coefs.length c2) (.slice a3 d.lits.length c3) (.slice a4 d.coefs.length c4) c.coefs d.coefs i wx) (fun i _ => c.coefs.length - (intOf i).toNat)
            case atStart => exact ⟨0, Nat.zero_le _, rfl, fun j hj => absurd hj (Nat.not_lt_zero _), HSR.out⟩
            case round =>
              clear kr1 kr2
              obtain ⟨k, hk, rfl, hall, hst⟩ := hrel
              have HALL := Lib.hid hall
              have HSR := Lib.hid hst
              have kr1 := hst.b1.cell
              have kr2 := hst.b2.cell
              clear hall hst
              by_cases hlt : k < c.coefs.length
              · have hlt2 : k < d.coefs.length := by have := HE3.out; omega
                obtain ⟨b, o, rfl, hb, hc⟩ := HC2.out (by omega)
                obtain ⟨b', o', rfl, hb', hc'⟩ := HC4.out (by omega)
                have q1 := (bcell HSR.out.below _ _ hb).trans (hc k hlt)
                have q2 := (bcell HSR.out.below _ _ hb').trans (hc' k hlt2)
                have hz := HSR.out.below.size
                have ke1 : ∀ e : Ext wr, e.world.cell? ⟨b, o + k, none⟩ = some (.int .i64 (ix c.coefs k)) := fun e => (bcell e.below _ _ (by omega)).trans q1
                have ke2 : ∀ e : Ext wr, e.world.cell? ⟨b', o' + k, none⟩ = some (.int .i64 (ix d.coefs k)) := fun e => (bcell e.below _ _ (by omega)).trans q2
                have kp1 : ∀ e : Ext wr, ∀ o, e.world.cell? ⟨w.heap.size, o, none⟩ = _ := fun e o => (bcell e.below _ o HSR.out.b1.lt).trans (HSR.out.b1.cell o)
                have kp2 : ∀ e : Ext wr, ∀ o, e.world.cell? ⟨w.heap.size + 1, o, none⟩ = _ := fun e o => (bcell e.below _ o HSR.out.b2.lt).trans (HSR.out.b2.cell o)
                have f1 := F2.out k
                have f2 := F4.out k
                clear hc hc' q1 q2
                by_cases he : ix c.coefs k = ix d.coefs k
                · have HN := Lib.hid (lt_succ_all HALL.out he)
                  have he' : (ix c.coefs k != ix d.coefs k) = false := by simp [he]
                  clear he
                  go_wp2
                  refine wp_region_ext (by kernel_rfl) (by kernel_rfl) ?_
                  repeat (go_big_quiet_step (fail))
                  refine wpQuiet_nil ?_
                  intro w9 hw'
                  obtain ⟨e9, he9⟩ := hw'
                  have hb9 := e9.below
                  rw [← he9] at hb9
                  clear he9 e9
                  try dsimp only
                  go_wp2
                  first
                    | (go_roundw
                       case rel => (exact ⟨k + 1, hlt, by go_num, HN.out, HSR.out.on hb9⟩)
                       case measure => (simp [intOf]; omega))
                    | (refine ⟨?_, ?_⟩
                       · (exact ⟨k + 1, hlt, by go_num, HN.out, HSR.out.on hb9⟩)
                       · (simp [intOf]; omega))
                · have HF : Hid (decide (c = d) = false) := Lib.hid (decide_eq_false fun e => he (by rw [e]))
                  have he' : (ix c.coefs k != ix d.coefs k) = true := by simp [he]
                  clear he
                  go_wp2
                  refine wp_region_ext (by kernel_rfl) (by kernel_rfl) ?_
                  repeat (go_big_quiet_step (fail))
                  refine wpQuiet_nil ?_
                  intro w9 hw'
                  obtain ⟨e9, he9⟩ := hw'
                  have hb9 := e9.below
                  rw [← he9] at hb9
                  clear he9 e9
                  try dsimp only
                  go_wp2
                  go_ret
                  exact ⟨ret_bool HF.out.symm, bon HSR.out.below hb9⟩
              · obtain rfl : k = c.coefs.length := by omega
                have HF : Hid (decide (c = d) = true) := Lib.hid (decide_eq_true (pbc_eq HE1.out HEQ.out (eq_of_ix HE3.out fun j hj => HALL.out j hj)))
                go_wp2
                go_ret
                exact ⟨ret_bool HF.out.symm, HSR.out.below⟩
      · have g3 : ((c.coefs.length : Int) != (d.coefs.length : Int)) = true := by simp; omega
        have HF : Hid (decide (c = d) = false) := Lib.hid (decide_eq_false fun e => e3 (by rw [e]))
        clear e1 e2 e3
        go_wp2
        go_ret
        exact ⟨ret_bool HF.out.symm, HS.out.below⟩
    · have g2 : ((c.lits.length : Int) != (d.lits.length : Int)) = true := by simp; omega
      have HF : Hid (decide (c = d) = false) := Lib.hid (decide_eq_false fun e => e2 (by rw [e]))
      clear e1 e2
      go_wp2
      go_ret
      exact ⟨ret_bool HF.out.symm, HS.out.below⟩
  · have g1 : (c.bound != d.bound) = true := by simp [e1]
    have HF : Hid (decide (c = d) = false) := Lib.hid (decide_eq_false fun e => e1 (by rw [e]))
    clear e1
    go_wp2
    go_ret
    exact ⟨ret_bool HF.out.symm, HS.out.below⟩

end Go.Proofs.YtfhpfbakoiekpaaGreatDoor

/- 'a.F, a.G = append(a.F, x), append(a.G, y)' where other operations stand between: NrmR's predicate at other places of the listing. -/
namespace Go.Proofs.YtfhpfbakoiekpaaGreatDoor
open Go.RowKit

/-- Where the fourteen operations of the statement stand. -/
def sg (l : List Nat) (r : Nat) : Nat := l.getD r (1000 + r)
def okB (l E : List Nat) : Bool :=
  ((List.range l.length).all fun i => (List.range l.length).all fun j => i == j || l.getD i 0 != l.getD j 0) && l.all (fun x => decide (x < 1000)) && E.all (fun x => decide (x < 1000)) && l.all (fun x => !E.contains x)

theorem sg_inj {l E : List Nat} (h : okB l E = true) {r s : Nat} (e : sg l r = sg l s) : r = s := by
  unfold okB at h
  simp only [Bool.and_eq_true, List.all_eq_true, List.mem_range, Bool.or_eq_true, beq_iff_eq, bne_iff_ne, decide_eq_true_eq] at h
  obtain ⟨⟨⟨h1, h2⟩, -⟩, -⟩ := h
  unfold sg at e
  have hg : ∀ i (hi : i < l.length), l.getD i (1000 + i) = l[i] := fun i hi => by simp [List.getD_eq_getElem?_getD, hi]
  have hn : ∀ i, l.length ≤ i → l.getD i (1000 + i) = 1000 + i := fun i hi => by rw [List.getD_eq_getElem?_getD, List.getElem?_eq_none hi]; rfl
  have hb : ∀ i (hi : i < l.length), l[i] < 1000 := fun i hi => h2 _ (List.getElem_mem hi)
  rcases Nat.lt_or_ge r l.length with hr | hr <;> rcases Nat.lt_or_ge s l.length with hs | hs
  · rcases h1 r hr s hs with h3 | h3
    · exact h3
    · rw [hg r hr, hg s hs] at e
      exact absurd (by simpa [List.getD_eq_getElem?_getD, hr, hs] using e) h3
  · rw [hg r hr, hn s hs] at e
    have := hb r hr
    omega
  · rw [hn r hr, hg s hs] at e
    have := hb s hs
    omega
  · rw [hn r hr, hn s hs] at e
    omega

theorem sg_out {l E : List Nat} (h : okB l E = true) {i : Nat} (hi : E.contains i = true) (r : Nat) : sg l r ≠ i := by
  unfold okB at h
  simp only [Bool.and_eq_true, List.all_eq_true, decide_eq_true_eq, Bool.not_eq_true'] at h
  obtain ⟨⟨⟨-, h2⟩, h3⟩, h4⟩ := h
  rintro rfl
  unfold sg at hi
  rcases Nat.lt_or_ge r l.length with hr | hr
  · have e : l.getD r (1000 + r) = l[r] := by simp [List.getD_eq_getElem?_getD, hr]
    rw [e, h4 _ (List.getElem_mem hr)] at hi
    cases hi
  · have e : l.getD r (1000 + r) = 1000 + r := by rw [List.getD_eq_getElem?_getD, List.getElem?_eq_none hr]; rfl
    rw [e] at hi
    have := h3 _ (List.contains_iff_mem.1 hi)
    omega

theorem upd_sg {α : Type} {l E : List Nat} (h : okB l E = true) (f : Nat → α) (r0 : Nat) (v : α) : (fun r => updN f (sg l r0) v (sg l r)) = updN (fun r => f (sg l r)) r0 v := by
  funext r
  unfold updN
  by_cases e : r = r0
  · subst e; rw [if_pos rfl, if_pos rfl]
  · rw [if_neg (fun e2 => e (sg_inj h e2)), if_neg e]

theorem upd_ex {α : Type} {l E : List Nat} (h : okB l E = true) (f : Nat → α) {i : Nat} (hi : E.contains i = true) (v : α) : (fun r => updN f i v (sg l r)) = fun r => f (sg l r) := by
  funext r
  unfold updN
  rw [if_neg (sg_out h hi r)]

structure TS (l E : List Nat) (Q : Nat → Value) (w : World) (ob : Nat) (v1 v2 bd : Value) (l1 l2 : List Int) (x y : Int) (vals : Nat → Value) (L : Nat → Bool) (wx : World) : Prop where
  t : TW w ob v1 v2 bd l1 l2 x y (fun r => vals (sg l r)) (fun r => L (sg l r)) wx
  q : ∀ i, E.contains i = true → L i = true → vals i = Q i

section
variable {l E : List Nat} {Q : Nat → Value} {w : World} {ob : Nat} {v1 v2 bd : Value} {l1 l2 : List Int} {x y : Int} {vals : Nat → Value} {L : Nat → Bool} {wx : World}

theorem TS.start (hb : Blk w ob [v1, v2, bd] 30) (h1 : QRow (ob + 1) w v1 l1) (h2 : QRow (ob + 1) w v2 l2) (hf : Far v1 v2) : TS l E Q w ob v1 v2 bd l1 l2 x y (fun _ => undef) (fun _ => false) w.drew :=
  ⟨TW.start hb h1 h2 hf, fun _ _ h => Bool.noConfusion h⟩

theorem TS.keepQ (ok : okB l E = true) (h : ∀ i, E.contains i = true → L i = true → vals i = Q i) (r : Nat) (v : Value) : ∀ i, E.contains i = true → updN L (sg l r) true i = true → updN vals (sg l r) v i = Q i := fun i hi hL => by
  have hne : i ≠ sg l r := fun e => sg_out ok hi r e.symm
  unfold updN at hL ⊢
  rw [if_neg hne] at hL ⊢
  exact h i hi hL

theorem TS.extra (ok : okB l E = true) (h : TS l E Q w ob v1 v2 bd l1 l2 x y vals L wx) (i : Nat) (hi : E.contains i = true) : TS l E Q w ob v1 v2 bd l1 l2 x y (updN vals i (Q i)) (updN L i true) wx := by
  refine ⟨by rw [upd_ex ok vals hi, upd_ex ok L hi]; exact h.t, fun j hj hL => ?_⟩
  unfold updN at hL ⊢
  by_cases e : j = i
  · subst e; rw [if_pos rfl]
  · rw [if_neg e] at hL ⊢; exact h.q j hj hL

theorem TS.quiet (ok : okB l E = true) (h : TS l E Q w ob v1 v2 bd l1 l2 x y vals L wx) (r : Nat) (hr : r = 0 ∨ r = 1 ∨ r = 2 ∨ r = 5 ∨ r = 6 ∨ r = 7 ∨ r = 10 ∨ r = 12) : TS l E Q w ob v1 v2 bd l1 l2 x y (updN vals (sg l r) (quietV ob v1 v2 x y r)) (updN L (sg l r) true) wx :=
  ⟨by rw [upd_sg ok, upd_sg ok]; exact h.t.quiet r hr, TS.keepQ ok h.q r _⟩
theorem TS.build3 (ok : okB l E = true) (h : TS l E Q w ob v1 v2 bd l1 l2 x y vals L wx) : TS l E Q w ob v1 v2 bd l1 l2 x y (updN vals (sg l 3) (.slice (some ⟨wx.heap.size, 0, none⟩) 1 1)) (updN L (sg l 3) true) (wx.alloc (.cells #[.int .i64 x] 3)) :=
  ⟨by rw [upd_sg ok, upd_sg ok]; exact h.t.build3, TS.keepQ ok h.q 3 _⟩
theorem TS.build8 (ok : okB l E = true) (h : TS l E Q w ob v1 v2 bd l1 l2 x y vals L wx) (hx : ∀ g, v1.ownBlock = some g → g < wx.heap.size) : TS l E Q w ob v1 v2 bd l1 l2 x y (updN vals (sg l 8) (.slice (some ⟨wx.heap.size, 0, none⟩) 1 1)) (updN L (sg l 8) true) (wx.alloc (.cells #[.int .i64 y] 3)) :=
  ⟨by rw [upd_sg ok, upd_sg ok]; exact h.t.build8 hx, TS.keepQ ok h.q 8 _⟩
theorem TS.app4 (ok : okB l E = true) (h : TS l E Q w ob v1 v2 bd l1 l2 x y vals L wx) (h4 : L (sg l 4) = false) (h9 : L (sg l 9) = false) (h11 : L (sg l 11) = false) {v' : Value} {w' : World} (hq : QRow (ob + 1) w' v' (l1 ++ [x])) (hg : wx.grownBy w' v1.ownBlock) (ho : v'.ownBlock = v1.ownBlock ∨ v'.ownBlock = some wx.heap.size) :
    TS l E Q w ob v1 v2 bd l1 l2 x y (updN vals (sg l 4) v') (updN L (sg l 4) true) w' :=
  ⟨by rw [upd_sg ok, upd_sg ok]; exact h.t.app4 h4 h9 h11 hq hg ho, TS.keepQ ok h.q 4 _⟩
theorem TS.app9 (ok : okB l E = true) (h : TS l E Q w ob v1 v2 bd l1 l2 x y vals L wx) (h4 : L (sg l 4) = true) (h9 : L (sg l 9) = false) (h13 : L (sg l 13) = false) {v' : Value} {w' : World} (hq : QRow (ob + 1) w' v' (l2 ++ [y])) (hg : wx.grownBy w' v2.ownBlock) (ho : v'.ownBlock = v2.ownBlock ∨ v'.ownBlock = some wx.heap.size) :
    TS l E Q w ob v1 v2 bd l1 l2 x y (updN vals (sg l 9) v') (updN L (sg l 9) true) w' :=
  ⟨by rw [upd_sg ok, upd_sg ok]; exact h.t.app9 h4 h9 h13 hq hg ho, TS.keepQ ok h.q 9 _⟩
theorem TS.store (ok : okB l E = true) (h : TS l E Q w ob v1 v2 bd l1 l2 x y vals L wx) (r : Nat) (h4 : L (sg l 4) = true) (h9 : L (sg l 9) = true) (hr : r = 11 ∨ r = 13) (u : Value) :
    TS l E Q w ob v1 v2 bd l1 l2 x y (updN vals (sg l r) u) (updN L (sg l r) true) (wx.setCell ⟨ob, if r = 11 then 0 else 1, none⟩ (if r = 11 then vals (sg l 4) else vals (sg l 9))) :=
  ⟨by rw [upd_sg ok, upd_sg ok]; exact h.t.store r h4 h9 hr u, TS.keepQ ok h.q r _⟩
theorem TS.end (h : TS l E Q w ob v1 v2 bd l1 l2 x y vals L wx) (hL : ∀ r, r < 14 → L (sg l r) = true) : Blk wx ob [vals (sg l 4), vals (sg l 9), bd] 30 ∧ QRow (ob + 1) wx (vals (sg l 4)) (l1 ++ [x]) ∧ QRow (ob + 1) wx (vals (sg l 9)) (l2 ++ [y]) ∧ Far (vals (sg l 4)) (vals (sg l 9)) ∧ Below ob w wx :=
  h.t.end hL
end

/-- One element of a row of the call's own is overwritten. -/
theorem QRow.setAt {base g off n cap : Nat} {w : World} {l : List Int} (h : QRow base w (.slice (some ⟨g, off, none⟩) n cap) l) {i : Nat} (hi : i < l.length) {x : Int} (hx : InI x) : QRow base (w.setCell ⟨g, off + i, none⟩ (.int .i64 x)) (.slice (some ⟨g, off, none⟩) n cap) (l.set i x) ∧ w.frozen? ⟨g, off + i, none⟩ = false ∧ w.cell? ⟨g, off + i, none⟩ = some (.int .i64 (ix l i)) := by
  rcases h.2 with ⟨e, _⟩ | ⟨g', off', cap', cur, e, hb, hg, h1, h2, h3, h4⟩
  · cases e
  · simp only [Value.slice.injEq, Option.some.injEq, Addr.mk.injEq] at e
    obtain ⟨⟨rfl, rfl, -⟩, rfl, rfl⟩ := e
    have hB : Blk w g cur.toList 3 := by unfold Blk; rw [hg]
    refine ⟨⟨fitI fun y hy => ?_, .inr ⟨g, off, cap, cur.setIfInBounds (off + i) (.int .i64 x), by rw [List.length_set], hb, ?_, by rw [List.length_set]; exact h1, h2, ?_, fun j hj => ?_⟩⟩, hB.free _, ?_⟩
    · rcases List.mem_or_eq_of_mem_set hy with h5 | rfl
      · obtain ⟨j, hj, rfl⟩ := List.mem_iff_getElem.1 h5
        have h6 := h.1 j
        unfold ix at h6
        rw [List.getD_eq_getElem?_getD, List.getElem?_eq_getElem hj] at h6
        exact h6
      · exact hx
    · have := hB.set (off + i) (.int .i64 x)
      unfold Blk at this
      rw [this, show (cur.toList.set (off + i) (Value.int .i64 x)).toArray = cur.setIfInBounds (off + i) (.int .i64 x) from Array.toList_inj.1 (by simp)]
    · simpa using h3
    · rw [List.length_set] at hj
      by_cases e : j = i
      · subst e
        have hlt : off + j < cur.size := by have := h4 j hj; exact (Array.getElem?_eq_some_iff.1 this).1
        rw [Array.getElem?_setIfInBounds_self_of_lt hlt]
        simp [ix, List.getD_eq_getElem?_getD, hj]
      · rw [Array.getElem?_setIfInBounds_ne (by omega), h4 j hj]
        unfold ix
        rw [List.getD_eq_getElem?_getD, List.getD_eq_getElem?_getD, List.getElem?_set_ne (Ne.symm e)]
    · have := h4 i hi
      simp [World.cell?, hg, this]

end Go.Proofs.YtfhpfbakoiekpaaGreatDoor
