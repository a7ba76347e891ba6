/- complete.Extend: its contract. -/
import Derived.Test.YtdoecchigfdilaaCm1Q
import Derived.Deep.OwnRows
namespace Go.Proofs.Ytdoecchigfdilaa
open Go.RowKit

/-- The value of a variable (from 0) in the extension. -/
def extAt (p : GP) (m : List Int) (j : Nat) : Int := if (j : Int) < p.n then (if (j : Int) + 1 ∈ m then 1 else -1) else (if bodyT (ixR p.rules (j - p.n.toNat)) m then 1 else -1)
/-- The extension. -/
def extA (p : GP) (m : List Int) : List Int := if validE p = 0 ∧ setQ p.n m = true then (List.range (p.n.toNat + p.rules.length)).map (extAt p m) else []

def fnL (N : Nat) (F : Nat → Int) : List Value := (List.range N).map fun j => .int .i8 (F j)

theorem fnL_set (N : Nat) (F : Nat → Int) (q : Nat) (v : Int) : (fnL N F).set q (.int .i8 v) = fnL N (fun j => if j = q then v else F j) := by
  unfold fnL
  apply List.ext_getElem
  · simp
  · intro i h1 h2
    simp only [List.getElem_set, List.getElem_map, List.getElem_range]
    by_cases e : q = i
    · subst e; simp
    · rw [if_neg e, if_neg (fun h => e h.symm)]

theorem fnL_congr {N : Nat} {F G : Nat → Int} (h : ∀ j, j < N → F j = G j) : fnL N F = fnL N G := List.map_congr_left fun j hj => by rw [h j (List.mem_range.1 hj)]

theorem fnL_at {N : Nat} {F : Nat → Int} {j : Nat} (hj : j < N) : (fnL N F)[j]? = some (.int .i8 (F j)) := by simp [fnL, hj]

def exF1 (k j : Nat) : Int := if j < k then -1 else 0
def exF2 (m : List Int) (k j : Nat) : Int := if (j : Int) + 1 ∈ m.take k then 1 else -1
def exF3 (p : GP) (m : List Int) (k j : Nat) : Int := if (j : Int) < p.n then (if (j : Int) + 1 ∈ m then 1 else -1) else (if j - p.n.toNat < k ∧ bodyT (ixR p.rules (j - p.n.toNat)) m = true then 1 else -1)

/-- The slice under way: block g of W2's next, F what it holds. -/
def ExSt (W2 : World) (N : Nat) (F : Nat → Int) (wx : World) : Prop := Below W2.heap.size W2 wx ∧ Blk wx W2.heap.size (fnL N F) 57

theorem ExSt.on {W2 wx wy : World} {N : Nat} {F : Nat → Int} (h : ExSt W2 N F wx) (hb : Below wx.heap.size wx wy) : ExSt W2 N F wy := ⟨bon h.1 hb, h.2.below hb⟩
theorem ExSt.put {W2 wx : World} {N q : Nat} {F G : Nat → Int} {v : Int} (h : ExSt W2 N F wx) (hG : ∀ j, j < N → G j = if j = q then v else F j) : ExSt W2 N G (wx.setCell ⟨W2.heap.size, q, none⟩ (.int .i8 v)) := by
  refine ⟨h.1.setCell (p := ⟨W2.heap.size, q, none⟩) (Nat.le_refl _) _, ?_⟩
  have := h.2.set q (.int .i8 v)
  rw [fnL_set, fnL_congr (G := G) fun j hj => (hG j hj).symm] at this
  exact this

def ExRel (W2 : World) (N n : Nat) (F : Nat → Nat → Int) (i : Value) (wx : World) : Prop := ∃ k : Nat, k ≤ n ∧ i = .int .i64 k ∧ ExSt W2 N (F k) wx

set_option maxHeartbeats 4000000 in
set_option maxRecDepth 100000 in
theorem extend_any (v vm : Value) (p : GP) (m : List Int) (w : World) (h : ProgIs w v p) (hm : Ints w vm m) :
    Calls Try.prog 14 #[v, vm] w fun e w' => ∃ a c, e = .returned (.slice a (extA p m).length c) ∧ Bytes8 w' (.slice a (extA p m).length c) (extA p m) ∧ Below w.heap.size w w' := by
  have h0 := h
  obtain ⟨vn, vs, vr, vmn, rfl, hps⟩ := h
  have hal := bal (Below.refl w.heap.size w) (.cells #[.int .i64 p.n, vn, vs, vr, vmn] 27)
  have HBX := Lib.hid (Blk.new w [.int .i64 p.n, vn, vs, vr, vmn] 27)
  have kx := HBX.out.cell
  have hlt := HBX.out.lt
  have HP := Lib.hid (h0.below hal)
  have HM := Lib.hid (hm.below hal)
  obtain ⟨a1, c1, rfl, -, hl1, -, hcellR⟩ := hps.rules.form
  have HCR := Lib.hid hcellR
  have HAL := Lib.hid hal
  obtain ⟨am, cm, rfl, -, -, -, hcellm⟩ := hm.form
  have HCM := Lib.hid hcellm
  clear h0 hm hal hps hcellR hcellm
  by_cases hv : validE p = 0
  · have hve : (validE p != 0) = false := by simp [hv]
    cases hs : setQ p.n m with
    | true =>
      have HS := Lib.hid hs
      have hV := validP hv
      have hpn := hV.n
      have hpr := hV.rules
      have HBV : Hid (∀ k, k < p.rules.length → BodyV (ixR p.rules k) p.n) := Lib.hid (fun k hk => bodyV_valid hv hk)
      have hml := inc_le hs hpn.1
      have HF : Hid (extA p m = (List.range (p.n.toNat + p.rules.length)).map (extAt p m)) := Lib.hid (if_pos ⟨hv, hs⟩)
      have HMR : Hid (∀ k, k < m.length → 1 ≤ ix m k ∧ ix m k ≤ p.n) := Lib.hid (fun k hk => by
        have := allR_get hs k hk
        unfold setTo at this
        simp only [Bool.and_eq_true, decide_eq_true_eq] at this
        exact this.1)
      obtain ⟨N, hN⟩ : ∃ N : Nat, N = p.n.toNat + p.rules.length := ⟨_, rfl⟩
      have hNi : p.n + (p.rules.length : Int) = N := by omega
      have HN := Lib.hid hN
      have HNI := Lib.hid hNi
      have hN1 : N ≤ 44000 := by omega
      have hmk : ∀ w : World, (Instr.makeSlice 28 (.int .i64 (N : Int)) (.int .i64 (N : Int))).run Try.prog w = .ok (.slice (some ⟨w.heap.size, 0, none⟩) N N) (w.alloc (.cells (madeCells #[.int .i8 0] N) 57)) := fun w => run_make_row' _ _ _ _ Try.underlying28 info8 rfl .i64 .i64 N (by omega) (by omega) w
      clear hv hs hV hN
      go_enter Try.func14, Try.ntmps14
      go_upto_region 4 with (first | (go_at_call 6; (with_reducible refine (valid_any _ p _ HP.out).mono ?_); rintro e w1 ⟨e1, hb1⟩; subst e1; have kx1 := fun o => (bcell hb1 _ o hlt).trans (kx o); have hz1 := hb1.size; have HB1 := Lib.hid hb1; have hlt1 := Nat.lt_of_lt_of_le hlt hz1; clear hb1) | (go_at_call 37; (with_reducible refine (cset_any _ _ p m _ (HP.out.below HB1.out) (HM.out.below HB1.out)).mono ?_); rintro e w2 ⟨e2, hb2⟩; rw [HS.out] at e2; subst e2; have kx2 := fun o => (bcell hb2 _ o hlt1).trans (kx1 o); have HB2 := Lib.hid (bon HB1.out hb2); have hlt2 := Nat.lt_of_lt_of_le hlt1 hb2.size; clear hb2))
      have hst : ExSt w2 N (exF1 0) (w2.alloc (.cells (madeCells #[.int .i8 0] N) 57)) := by
        refine ⟨bal (Below.refl _ _) _, ?_⟩
        have := Blk.new w2 (List.replicate N (Value.int .i8 0)) 57
        rw [← made_list] at this
        have e : fnL N (exF1 0) = List.replicate N (Value.int .i8 0) := by
          unfold fnL exF1
          apply List.ext_getElem (by simp)
          intro i h1 h2; simp
        rw [e]; exact this
      have HST := Lib.hid hst
      clear hst hmk hNi
      generalize w2.alloc (.cells (madeCells #[.int .i8 0] N) 57) = W3 at *
      clear kx1 kx hz1
      go_wp2
      go_loopw [29] (fun i wx => ExRel w2 N N exF1 i wx) (fun i _ => N - (intOf i).toNat)
      case atStart => exact ⟨0, Nat.zero_le _, rfl, HST.out⟩
      case round =>
        obtain ⟨k, hk, rfl, hx⟩ := hrel
        have HX := Lib.hid hx
        by_cases hlt3 : k < N
        · have q1 := (hx.2.cell k).trans (fnL_at hlt3)
          have q2 := hx.2.free k
          clear hx
          go_wp2
          first
            | (go_roundw
               case rel => (exact ⟨k + 1, hlt3, by go_num, HX.out.put fun j hj => by unfold exF1; by_cases e : j = k; (rw [if_pos (by omega), if_pos e]); (rw [if_neg e]; split <;> split <;> first | rfl | omega)⟩)
               case measure => (simp [intOf]; omega))
            | (refine ⟨?_, ?_⟩
               · (exact ⟨k + 1, hlt3, by go_num, HX.out.put fun j hj => by unfold exF1; by_cases e : j = k; (rw [if_pos (by omega), if_pos e]); (rw [if_neg e]; split <;> split <;> first | rfl | omega)⟩)
               · (simp [intOf]; omega))
        · obtain rfl : k = N := by omega
          go_wp2
          clear hx
          have hst2 : ExSt w2 k (exF2 m 0) wr := by
            refine ⟨HX.out.1, ?_⟩
            have := HX.out.2
            rw [fnL_congr (G := exF2 m 0) fun j hj => by unfold exF1 exF2; rw [if_pos hj]; simp] at this
            exact this
          have HST2 := Lib.hid hst2
          clear hst2 HX HST
          obtain ⟨wo, rfl⟩ : ∃ wo : World, wo = wr := ⟨_, rfl⟩
          go_loopw [38] (fun i wx => ExRel w2 k m.length (exF2 m) i wx) (fun i _ => m.length - (intOf i).toNat)
          case atStart => exact ⟨0, Nat.zero_le _, rfl, HST2.out⟩
          case round =>
            obtain ⟨i, hi, rfl, hx⟩ := hrel
            have HX := Lib.hid hx
            have hbw : Below w.heap.size w wr := bon (bon HAL.out HB2.out) hx.1
            by_cases hlt4 : i < m.length
            · obtain ⟨b, off, rfl, hbl, hc⟩ := HCM.out (by omega)
              have hmr := HMR.out i hlt4
              obtain ⟨q, hq⟩ : ∃ q : Nat, ix m i = (q : Int) + 1 := ⟨(ix m i - 1).toNat, by omega⟩
              have hcx : wr.cell? ⟨b, off + i, none⟩ = some (.int .i64 ((q : Int) + 1)) := (bcell hbw _ _ hbl).trans ((hc i hlt4).trans (by rw [hq]))
              have hqk : q < k := by have := HN.out; omega
              have q1 := (hx.2.cell q).trans (fnL_at hqk)
              have q2 := hx.2.free q
              have HP2 : Hid (∀ j, j < k → exF2 m (i + 1) j = if j = q then 1 else exF2 m i j) := Lib.hid (fun j hj => by
                unfold exF2
                rw [take_ixM m i hlt4]
                simp only [List.mem_append, List.mem_singleton, hq]
                by_cases e : j = q
                · subst e; simp
                · rw [if_neg e]
                  have : ((j : Int) + 1 ∈ m.take i ∨ (j : Int) + 1 = (q : Int) + 1) ↔ (j : Int) + 1 ∈ m.take i := ⟨fun h => h.resolve_right (by omega), .inl⟩
                  simp only [this])
              clear hx hc hq hmr hbw
              go_wp2
              first
                | (go_roundw
                   case rel => (exact ⟨i + 1, hlt4, by go_num, HX.out.put HP2.out⟩)
                   case measure => (simp [intOf]; omega))
                | (refine ⟨?_, ?_⟩
                   · (exact ⟨i + 1, hlt4, by go_num, HX.out.put HP2.out⟩)
                   · (simp [intOf]; omega))
            · obtain rfl : i = m.length := by omega
              have kq := fun o => (bcell hx.1 _ o hlt2).trans (kx2 o)
              have hst3 : ExSt w2 k (exF3 p m 0) wr := by
                refine ⟨hx.1, ?_⟩
                have := hx.2
                rw [fnL_congr (G := exF3 p m 0) fun j hj => by
                  unfold exF2 exF3
                  rw [List.take_length]
                  by_cases e : (j : Int) < p.n
                  · rw [if_pos e]
                  · rw [if_neg e, if_neg (fun h => by
                      obtain ⟨y, hy, e2⟩ := mem_ix.1 h
                      have := HMR.out y hy
                      omega), if_neg (by omega)]] at this
                exact this
              have HST3 := Lib.hid hst3
              clear hst3 hx hbw
              go_wp2
              clear HX HST2
              obtain ⟨wp, rfl⟩ : ∃ wo : World, wo = wr := ⟨_, rfl⟩
              go_loopw [50] (fun i wx => ExRel w2 k p.rules.length (exF3 p m) i wx) (fun i _ => p.rules.length - (intOf i).toNat)
              case atStart => exact ⟨0, Nat.zero_le _, rfl, HST3.out⟩
              case round =>
                clear kq
                obtain ⟨i, hi, rfl, hx⟩ := hrel
                have HX := Lib.hid hx
                have kq := fun o => (bcell hx.1 _ o hlt2).trans (kx2 o)
                have hbw : Below w.heap.size w wr := bon (bon HAL.out HB2.out) hx.1
                by_cases hlt5 : i < p.rules.length
                · obtain ⟨b, off, rfl, hbl, hc⟩ := HCR.out (by omega)
                  obtain ⟨vh, vb, vw, hcc, hsl⟩ := hc i hlt5
                  obtain ⟨r0, r1, r2, r3, r4, r5⟩ := hcc.below hbw hbl
                  have hal3 := bal (Below.refl wr.heap.size wr) (.cells #[.bool (ixR p.rules i).choice, vh, .bool (ixR p.rules i).sum, .int .i64 (ixR p.rules i).bound, vb, vw] 41)
                  obtain ⟨a3, c3, rfl, -, hl3, -, -⟩ := hsl.head.form
                  obtain ⟨a4, c4, rfl, -, hl4, -, -⟩ := hsl.body.form
                  obtain ⟨a5, c5, rfl, -, hl5, -, -⟩ := hsl.wts.form
                  have HRI : Hid (RuleIs (wr.alloc (.cells #[.bool (ixR p.rules i).choice, .slice a3 (ixR p.rules i).head.length c3, .bool (ixR p.rules i).sum, .int .i64 (ixR p.rules i).bound, .slice a4 (ixR p.rules i).body.length c4, .slice a5 (ixR p.rules i).w.length c5] 41)) (.agg #[.bool (ixR p.rules i).choice, .slice a3 (ixR p.rules i).head.length c3, .bool (ixR p.rules i).sum, .int .i64 (ixR p.rules i).bound, .slice a4 (ixR p.rules i).body.length c4, .slice a5 (ixR p.rules i).w.length c5]) (ixR p.rules i)) := Lib.hid ⟨_, _, _, rfl, hsl.below (bon hbw hal3)⟩
                  have HMI : Hid (Ints (wr.alloc (.cells #[.bool (ixR p.rules i).choice, .slice a3 (ixR p.rules i).head.length c3, .bool (ixR p.rules i).sum, .int .i64 (ixR p.rules i).bound, .slice a4 (ixR p.rules i).body.length c4, .slice a5 (ixR p.rules i).w.length c5] 41)) (.slice am m.length cm) m) := Lib.hid (HM.out.below ((HB2.out.trans ((bon hx.1 hal3).mono HB2.out.size))))
                  have HAL3 := Lib.hid hal3
                  obtain ⟨nn, hnn⟩ : ∃ nn : Nat, p.n = nn := ⟨p.n.toNat, by omega⟩
                  have hqk : nn + i < k := by have := HN.out; omega
                  have hq0 := kq 0
                  rw [show ([Value.int .i64 p.n, vn, vs, .slice (some ⟨b, off, none⟩) p.rules.length c1, vmn] : List Value)[0]? = some (.int .i64 (nn : Int)) by rw [← hnn]; rfl] at hq0
                  have hltw : w.heap.size < wr.heap.size := Nat.lt_of_lt_of_le hlt2 hx.1.size
                  have hti : ((nn : Int) + (i : Int)).toNat = nn + i := by omega
                  have hti2 : (nn : Int) + (i : Int) < k := by omega
                  clear hc hcc hsl hx hbw kq
                  cases hbt : bodyT (ixR p.rules i) m with
                  | true =>
                    have HBT := Lib.hid hbt
                    have HP3 : Hid (∀ j, j < k → exF3 p m (i + 1) j = if j = nn + i then 1 else exF3 p m i j) := Lib.hid (fun j hj => by
                      unfold exF3
                      by_cases e : j = nn + i
                      · subst e
                        rw [if_pos rfl, if_neg (by omega), if_pos ⟨by omega, by rw [show nn + i - p.n.toNat = i by omega]; exact hbt⟩]
                      · rw [if_neg e]
                        by_cases e2 : (j : Int) < p.n
                        · rw [if_pos e2, if_pos e2]
                        · rw [if_neg e2, if_neg e2]
                          have : (j - p.n.toNat < i + 1) ↔ j - p.n.toNat < i := by omega
                          simp only [this])
                    clear hbt hal3 hnn
                    go_wp2_with (go_at_call 38; (with_reducible refine (rBody_any _ _ (ixR p.rules i) m _ HRI.out HMI.out (by omega) (HBV.out i hlt5)).mono ?_); rintro e w6 ⟨e6, hb6⟩; rw [HBT.out] at e6; subst e6; have HX6 := Lib.hid (HX.out.on (bon HAL3.out hb6)); have q1 := (HX6.out.2.cell (nn + i)).trans (fnL_at hqk); have q2 := HX6.out.2.free (nn + i); have hq6 := (bcell (bon HAL3.out hb6) _ 0 hltw).trans hq0; clear hb6)
                    first
                      | (go_roundw
                         case rel => (exact ⟨i + 1, hlt5, by go_num, HX6.out.put HP3.out⟩)
                         case measure => (simp [intOf]; omega))
                      | (refine ⟨?_, ?_⟩
                         · (exact ⟨i + 1, hlt5, by go_num, HX6.out.put HP3.out⟩)
                         · (simp [intOf]; omega))
                  | false =>
                    have HBT := Lib.hid hbt
                    have HP3 : Hid (∀ j, j < k → exF3 p m (i + 1) j = exF3 p m i j) := Lib.hid (fun j hj => by
                      unfold exF3
                      by_cases e2 : (j : Int) < p.n
                      · rw [if_pos e2, if_pos e2]
                      · rw [if_neg e2, if_neg e2]
                        by_cases e : j - p.n.toNat = i
                        · rw [e, hbt]; simp
                        · have : (j - p.n.toNat < i + 1) ↔ j - p.n.toNat < i := by omega
                          simp only [this])
                    clear hbt hal3 hnn
                    go_wp2_with (go_at_call 38; (with_reducible refine (rBody_any _ _ (ixR p.rules i) m _ HRI.out HMI.out (by omega) (HBV.out i hlt5)).mono ?_); rintro e w6 ⟨e6, hb6⟩; rw [HBT.out] at e6; subst e6; have HX6 := Lib.hid (HX.out.on (bon HAL3.out hb6)); have q1 := (HX6.out.2.cell (nn + i)).trans (fnL_at hqk); have q2 := HX6.out.2.free (nn + i); have hq6 := (bcell (bon HAL3.out hb6) _ 0 hltw).trans hq0; clear hb6)
                    first
                      | (go_roundw
                         case rel => (exact ⟨i + 1, hlt5, by go_num, HX6.out.1, by rw [fnL_congr HP3.out]; exact HX6.out.2⟩)
                         case measure => (simp [intOf]; omega))
                      | (refine ⟨?_, ?_⟩
                         · (exact ⟨i + 1, hlt5, by go_num, HX6.out.1, by rw [fnL_congr HP3.out]; exact HX6.out.2⟩)
                         · (simp [intOf]; omega))
                · obtain rfl : i = p.rules.length := by omega
                  have HFE : Hid ((extA p m).length = k ∧ fnL k (exF3 p m p.rules.length) = (extA p m).map (Value.int .i8)) := Lib.hid (by
                    rw [HF.out]
                    refine ⟨by rw [List.length_map, List.length_range, HN.out], ?_⟩
                    unfold fnL
                    rw [List.map_map, HN.out]
                    refine List.map_congr_left fun j hj => ?_
                    have hj := List.mem_range.1 hj
                    show Value.int .i8 _ = Value.int .i8 _
                    congr 1
                    unfold exF3 extAt
                    by_cases e : (j : Int) < p.n
                    · rw [if_pos e, if_pos e]
                    · rw [if_neg e, if_neg e]
                      have : j - p.n.toNat < p.rules.length := by omega
                      simp only [this, true_and])
                  have HBY : Hid (Bytes8 wr (.slice (some ⟨w2.heap.size, 0, none⟩) k k) (extA p m)) := Lib.hid (by
                    have h1 := hx.2
                    rw [HFE.out.2] at h1
                    have h2 := Blk.bytes8 h1 (fit8 fun x hx => by
                      rw [HF.out] at hx
                      obtain ⟨j, -, rfl⟩ := List.mem_map.1 hx
                      unfold extAt
                      split <;> split <;> omega) (by rw [HFE.out.1]; omega)
                    rw [HFE.out.1] at h2
                    exact h2)
                  have HBW := Lib.hid hbw
                  clear hx hbw kq
                  go_wp2
                  go_ret
                  rw [HFE.out.1]
                  exact ⟨_, _, rfl, HBY.out, HBW.out⟩
    | false =>
      have HS := Lib.hid hs
      have HF : Hid (extA p m = []) := Lib.hid (by unfold extA; rw [if_neg (by rw [hs]; simp)])
      clear hv hs
      go_enter Try.func14, Try.ntmps14
      go_wp2_with (first | (go_at_call 6; (with_reducible refine (valid_any _ p _ HP.out).mono ?_); rintro e w1 ⟨e1, hb1⟩; subst e1; have kx1 := fun o => (bcell hb1 _ o hlt).trans (kx o); have hz1 := hb1.size; have HB1 := Lib.hid hb1; have hlt1 := Nat.lt_of_lt_of_le hlt hz1; clear hb1) | (go_at_call 37; (with_reducible refine (cset_any _ _ p m _ (HP.out.below HB1.out) (HM.out.below HB1.out)).mono ?_); rintro e w2 ⟨e2, hb2⟩; rw [HS.out] at e2; subst e2; have kx2 := fun o => (bcell hb2 _ o hlt1).trans (kx1 o); have HB2 := Lib.hid (bon HB1.out hb2); have hlt2 := Nat.lt_of_lt_of_le hlt1 hb2.size; clear hb2))
      go_ret
      rw [HF.out]
      exact ⟨_, _, rfl, nil_bytes8 _, bon HAL.out HB2.out⟩
  · have hve : (validE p != 0) = true := by simp [hv]
    have HF : Hid (extA p m = []) := Lib.hid (by unfold extA; rw [if_neg (fun h => hv h.1)])
    clear hv
    go_enter Try.func14, Try.ntmps14
    go_wp2_with (first | (go_at_call 6; (with_reducible refine (valid_any _ p _ HP.out).mono ?_); rintro e w1 ⟨e1, hb1⟩; subst e1; have kx1 := fun o => (bcell hb1 _ o hlt).trans (kx o); have hz1 := hb1.size; have HB1 := Lib.hid hb1; have hlt1 := Nat.lt_of_lt_of_le hlt hz1; clear hb1) | (go_at_call 37; (with_reducible refine (cset_any _ _ p m _ (HP.out.below HB1.out) (HM.out.below HB1.out)).mono ?_); rintro e w2 ⟨e2, hb2⟩; rw [HS.out] at e2; subst e2; have kx2 := fun o => (bcell hb2 _ o hlt1).trans (kx1 o); have HB2 := Lib.hid (bon HB1.out hb2); have hlt2 := Nat.lt_of_lt_of_le hlt1 hb2.size; clear hb2))
    go_ret
    rw [HF.out]
    exact ⟨_, _, rfl, nil_bytes8 _, bon HAL.out HB1.out⟩

end Go.Proofs.Ytdoecchigfdilaa
