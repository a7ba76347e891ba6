/- ostlerlaw33.SourceOrder returns true and writes nothing that was there. -/
import Derived.Test.YtkjpnpkmnpofgaaAwake2
import Derived.Test.YtkjpnpkmnpofgaaAv33
import Derived.Test.YtkjpnpkmnpofgaaFew
import Derived.Test.YtkjpnpkmnpofgaaRows8
import Derived.WideLaws
namespace Go.Proofs.Ytkjpnpkmnpofgaa
open Go.RowKit

def OrdRel (s : SP) (p : GP) (W0 : World) (m : Nat) (i : Value) (wx : World) : Prop :=
  ∃ k : Nat, k ≤ m ∧ i = .int .i64 k ∧ ∃ F K clk a, Src wx.heap.size s p F K clk a wx ∧ SInv p F K clk ∧ clk ≤ 4000 * k ∧ Below W0.heap.size W0 wx

/-- Under way: the object, the map of what has been added. -/
structure OSt (s : SP) (p : GP) (W0 : World) (F K : Int → Int) (clk : Int) (a : List Int) (M bm : Nat) (G : Int → Int) (wx : World) : Prop where
  src : Src M s p F K clk a wx
  map : MapIs (Value.int .i64) wx bm (mapI G)
  below : Below W0.heap.size W0 wx
  le : W0.heap.size ≤ M ∧ M ≤ bm
  one : ∀ y, G y = 0 ∨ (G y = 1 ∧ 0 < F y)

def OR2 (s : SP) (p : GP) (W0 : World) (F K : Int → Int) (clk : Int) (a : List Int) (M bm : Nat) (i : Value) (wx : World) : Prop :=
  ∃ j : Nat, j ≤ p.n.toNat ∧ i = .int .i64 j ∧ ∃ G, OSt s p W0 F K clk a M bm G wx ∧ openC F G p.n.toNat ≤ p.n.toNat - j

def OR3 (s : SP) (p : GP) (W0 : World) (F K : Int → Int) (clk : Int) (a : List Int) (M bm : Nat) (G0 : Int → Int) (i : Value) (wx : World) : Prop :=
  ∃ x : Int, 1 ≤ x ∧ x ≤ p.n + 1 ∧ i = .int .i64 x ∧ ∃ G, OSt s p W0 F K clk a M bm G wx ∧ Round p F K G0 G x

def OR4 (p : GP) (F : Int → Int) (n i : Value) : Prop := ∃ k : Nat, k ≤ p.n.toNat ∧ i = .int .i64 ((k : Int) + 1) ∧ n = .int .i64 (cntF F k)

section
variable {s : SP} {p : GP} {W0 : World} {F K : Int → Int} {clk : Int} {a : List Int} {M bm : Nat} {G : Int → Int} {wx w' : World}

theorem OSt.on (h : OSt s p W0 F K clk a M bm G wx) (hb : Below wx.heap.size wx w') : OSt s p W0 F K clk a M bm G w' :=
  ⟨h.src.below hb, h.map.below hb, bon h.below hb, h.le, h.one⟩

theorem OSt.put (h : OSt s p W0 F K clk a M bm G wx) (x : Int) (hx : 0 < F x) (hm : MapIs (Value.int .i64) w' bm (upd (mapI G) x (some (.int .i64 1)))) (hg : wx.grownBy w' (some bm)) : OSt s p W0 F K clk a M bm (setI G x 1) w' := by
  have ht := h.src.top
  have hle := h.le
  have hbm := h.map.lt
  have hne : ∀ i, i < M → some i ≠ some bm := fun i hi e => by have := Option.some.inj e; omega
  refine ⟨h.src.keep hg.size (fun i hi => hg.block i (by omega) (hne i hi)), by rw [mapI_set (by omega)]; exact hm, h.below.trans ⟨hg.os, hg.tape, hg.output, hg.size, fun i hi => hg.block i (by omega) (hne i (by omega))⟩, h.le, fun y => ?_⟩
  by_cases e : y = x
  · subst e; rw [setI_eq]; exact .inr ⟨rfl, hx⟩
  · rw [setI_ne G _ e]; exact h.one y

theorem OSt.fit (h : OSt s p W0 F K clk a M bm G wx) (x : Int) : InI (G x) := by
  unfold InI
  rcases h.one x with e | e <;> omega
end

set_option maxHeartbeats 4000000 in
set_option maxRecDepth 100000 in
theorem order_walk (v vl : Value) (p : GP) (ls : List (List Int)) (w : World) (h : ProgIs w v p) (hl : Rows8 w vl ls) :
    Calls Try.prog 4 #[v, vl] w fun e w' => e = .returned (.bool true) ∧ Below w.heap.size w w' := by
  have h0 := h
  obtain ⟨vn, vs, vr, vm, rfl, hn, hnames, hshown, hrules, hmin⟩ := h
  obtain ⟨a0, c0, rfl, -, hl0, -⟩ := hnames.form
  obtain ⟨a1, c1, rfl, -, hl1, -, -⟩ := hrules.form
  obtain ⟨al, cl, rfl, hcl1, hcl2, hln⟩ := hl.form
  have hal := bal (Below.refl w.heap.size w) (.cells #[.int .i64 p.n, .slice a0 p.names.length c0, vs, .slice a1 p.rules.length c1, vm] 27)
  have HP := Lib.hid (h0.below hal)
  have HL := Lib.hid (hl.below hal)
  have hbk : Blk (w.alloc (.cells #[.int .i64 p.n, .slice a0 p.names.length c0, vs, .slice a1 p.rules.length c1, vm] 27)) w.heap.size [.int .i64 p.n, .slice a0 p.names.length c0, vs, .slice a1 p.rules.length c1, vm] 27 := Blk.new w _ _
  have HBK := Lib.hid hbk
  clear hbk
  clear hnames hshown hrules hmin h0 hl
  cases hfew : fewB p with
  | false =>
    go_enter Try.func4, Try.ntmps4
    go_wp2_with (first | (go_at_call 10; (with_reducible refine (few_any _ p _ HP.out).mono ?_); rintro e w1 ⟨h1, hb1⟩; rw [hfew] at h1; subst h1; have hc1 := bcell hb1; have HW1 := Lib.hid (bon hal hb1); have hz1 : w.heap.size < w1.heap.size := (by have := hb1.size; simp at this; omega)) | (go_at_call 11; (with_reducible refine (awake_any _).mono ?_); rintro e w3 ⟨rfl, hb3⟩))
    go_ret
    exact ⟨rfl, bon HW1.out hb3⟩
  | true =>
    by_cases hv : validE p = 0
    · have hve : (validE p != 0) = false := by simp [hv]
      have HV := Lib.hid hv
      clear hv
      go_enter Try.func4, Try.ntmps4
      go_upto_region 6 with (first | (go_at_call 10; (with_reducible refine (few_any _ p _ HP.out).mono ?_); rintro e w1 ⟨h1, hb1⟩; rw [hfew] at h1; subst h1; have hc1 := bcell hb1; have HW1 := Lib.hid (bon hal hb1); have hz1 : w.heap.size < w1.heap.size := (by have := hb1.size; simp at this; omega)) | (go_at_call 21; (with_reducible refine (valid_any _ p _ (HP.out.below hb1)).mono ?_); rintro e w2 ⟨rfl, hb2⟩; have hc2 := bcell hb2; have HW2 := Lib.hid (bon HW1.out hb2); have hz2 : w.heap.size < w2.heap.size := (by have := hb2.size; omega)) | (go_at_call 12; (with_reducible refine (new_valid (HP.out.below (bon hb1 hb2)) HV.out).mono ?_); rintro e w3 ⟨s, rfl, hb3, hsH, hs3⟩; have hc3 := bcell hb3; have HW3 := Lib.hid (bon HW2.out hb3); have HS3 := Lib.hid hs3; have hH : w.heap.size < s.H := (by omega)))
      obtain ⟨m, hmn, hm1, hm2⟩ : ∃ m : Nat, (if (10 : Int) < (ls.length : Int) then (10 : Int) else (ls.length : Int)) = m ∧ m ≤ ls.length ∧ m ≤ 10 := by
        by_cases h : (10 : Int) < (ls.length : Int)
        · exact ⟨10, by rw [if_pos h]; rfl, by omega, by omega⟩
        · exact ⟨ls.length, by rw [if_neg h], by omega, by omega⟩
      go_wp2_with fail
      have hV := validP HV.out
      have hpn := hV.n
      have hpr := hV.rules
      have HW03 := Lib.hid ((bon hb1 hb2).trans (hb3.mono (by have := hb1.size; have := hb2.size; omega)))
      have hHW : (w.alloc (.cells #[.int .i64 p.n, .slice a0 p.names.length c0, vs, .slice a1 p.rules.length c1, vm] 27)).heap.size ≤ s.H := by rw [hsH]; exact (bon hb1 hb2).size
      have hnW : w.heap.size < (w.alloc (.cells #[.int .i64 p.n, .slice a0 p.names.length c0, vs, .slice a1 p.rules.length c1, vm] 27)).heap.size := by simp
      clear hmn hV hc1 hc2 hc3 hb1 hb2 hb3 hs3 hsH hz1 hz2 hH HW1 HW2 HW3
      generalize w.alloc (.cells #[.int .i64 p.n, .slice a0 p.names.length c0, vs, .slice a1 p.rules.length c1, vm] 27) = W0 at *
      go_loopw [39] (fun i wx => OrdRel s p W0 m i wx) (fun i _ => m - (intOf i).toNat)
      case atStart => exact ⟨0, Nat.zero_le _, rfl, _, _, _, _, HS3.out, zero_inv p, by omega, HW03.out⟩
      case round =>
        obtain ⟨k, hk, rfl, F0, K0, clk0, a0', hs, hi, hclk, hb⟩ := hrel
        have HS := Lib.hid hs
        have HI := Lib.hid hi
        have HB := Lib.hid hb
        clear hs hi hb HS3 HW03
        by_cases hlt : k < m
        · obtain ⟨br, offr, vrow, rfl, hbr, hcr0, hrow⟩ := HL.out.at (show k < ls.length by omega)
          have hcr := (bcell HB.out _ _ hbr).trans hcr0
          obtain ⟨ar, nr, cr, rfl⟩ : ∃ ar nr cr, vrow = .slice ar nr cr := by obtain ⟨⟨x, y, e, -⟩, -⟩ := hrow; exact ⟨_, _, _, e⟩
          have HROW0 := Lib.hid hrow
          have HROW := Lib.hid (hrow.below HB.out)
          have hmm := @run_makeMap Try.prog
          have hc0 : clk0 ≤ 2305843009213693952 := by omega
          clear hrow
          go_upto_region 13 with (go_at_call 14; (with_reducible refine (find_any HS.out HI.out hc0 _ HROW.out).mono ?_); rintro e w4 ⟨hl4, F, K, clk, vo, hf4, hc4, hs4, rfl, hq4⟩; have hfb := findPost_below ⟨hl4, F, K, clk, vo, hf4, hc4, hs4, rfl, hq4⟩ hHW HS.out.lo (HB.out.size); have HF4 := Lib.hid hf4; have HS4 := Lib.hid hs4; have HB4 := Lib.hid (HB.out.trans hfb); obtain ⟨avo, nvo, cvo, rfl⟩ := hq4.form; have hz4 : w.heap.size < w4.heap.size := (by have := (HB.out.trans hfb).size; omega); have kx4 := fun o => (bcell (HB.out.trans hfb) _ o HBK.out.lt).trans (HBK.out.cell o); clear hf4 hs4 hq4 hl4 hfb)
          have hst4 : OSt s p W0 F K clk (ix8 ls k) w4.heap.size w4.heap.size (fun _ => 0) (w4.alloc (.map #[] 0)) := by
            have hb := bal (Below.refl w4.heap.size w4) (.map #[] 0)
            refine ⟨HS4.out.below hb, ?_, bon HB4.out hb, ⟨HB4.out.size, Nat.le_refl _⟩, fun _ => .inl rfl⟩
            have : mapI (fun _ => 0) = fun _ => none := by funext x; simp [mapI]
            rw [this]; exact MapIs.made w4
          have HST := Lib.hid hst4
          have hclk4 : clk ≤ 4000 * ((k + 1 : Nat) : Int) := by push_cast; omega
          obtain ⟨wo, rfl⟩ : ∃ wo : World, wo = wr := ⟨_, rfl⟩
          clear hst4 kx4 hcr hcr0
          go_loopw [49] (fun i wx => OR2 s p W0 F K clk (ix8 ls k) w4.heap.size w4.heap.size i wx) (fun i _ => p.n.toNat - (intOf i).toNat)
          case atStart => exact ⟨0, Nat.zero_le _, rfl, _, HST.out, by have := openC_le F (fun _ => 0) p.n.toNat; omega⟩
          case round =>
            obtain ⟨j, hj, rfl, G0, hst, hop⟩ := hrel
            have HST := Lib.hid hst
            have HOP := Lib.hid hop
            have hkx := fun o => (bcell hst.below _ o HBK.out.lt).trans (HBK.out.cell o)
            clear hst hop
            by_cases hltj : (j : Int) < p.n
            · go_wp2_with fail
              obtain ⟨wo2, rfl⟩ : ∃ wo : World, wo = wr := ⟨_, rfl⟩
              clear hkx
              go_loopw [11] (fun i wx => OR3 s p W0 F K clk (ix8 ls k) w4.heap.size w4.heap.size G0 i wx) (fun i _ => (p.n + 1 - intOf i).toNat)
              case atStart => exact ⟨1, by omega, by omega, rfl, G0, HST.out, Round.start HST.out.one⟩
              case round =>
                obtain ⟨x, hx1, hx2, rfl, G, hst, hrd⟩ := hrel
                have HS2 := Lib.hid hst
                have HRD := Lib.hid hrd
                have hkx := fun o => (bcell hst.below _ o HBK.out.lt).trans (HBK.out.cell o)
                clear hst hrd
                by_cases hltx : x ≤ p.n
                · have HSRC := Lib.hid (source_any HS2.out.src x (by have := HF4.out.lost.inv x; omega))
                  by_cases hF : 0 < F x
                  · obtain ⟨i, hi⟩ : ∃ i : Nat, F x = i + 1 := ⟨(F x - 1).toNat, by omega⟩
                    have hin := HF4.out.lost.inv x
                    have hil : i < p.rules.length := by
                      rcases hin with h1 | h1
                      · omega
                      · have := h1.2.2.2.1.2.1; omega
                    have hi4 : i ≤ 40000 := by omega
                    have HS : Hid (Calls Try.prog 15 #[.pointer (some ⟨s.b, 0, none⟩), .int .i64 x] wr fun e w' => e = .returned (.tuple #[.int .i64 i, .bool true]) ∧ wr = w') := Lib.hid (by
                      have := HSRC.out
                      rw [if_pos hF, decide_eq_true hF, hi, Int.add_sub_cancel] at this
                      exact this)
                    have HI := Lib.hid hi
                    have HF := Lib.hid hF
                    have hlk := mapI_look HS2.out.map x
                    clear hi hin HSRC hF
                    rcases HS2.out.one x with hG | ⟨hG, -⟩
                    · rw [hG] at hlk
                      have HG := Lib.hid hG
                      clear hG
                      cases hav : avS p (ix8 ls k) G i with
                      | true =>
                        have HAV : Hid (Calls Try.prog 22 #[.agg #[.int .i64 p.n, .slice a0 p.names.length c0, vs, .slice a1 p.rules.length c1, vm], .int .i64 i, .slice ar nr cr, .map (some w4.heap.size)] wr fun e w' => e = .returned (.bool true) ∧ Below wr.heap.size wr w') := Lib.hid (by
                          rw [← hav]; exact avail33_any _ _ p _ G _ wr (HP.out.below HS2.out.below) HV.out i hil (HROW0.out.below HS2.out.below) HS2.out.map HS2.out.fit)
                        go_wp2_with (first
                          | (go_at_call 15; (with_reducible refine (HS.out).mono ?_); rintro e w5 ⟨rfl, rfl⟩)
                          | (go_at_call 22; (with_reducible refine (HAV.out).mono ?_); rintro e w6 ⟨rfl, hb6⟩; have HS6 := Lib.hid (HS2.out.on hb6); have hlk6 := mapI_look HS6.out.map x; rw [HG.out] at hlk6; clear hb6)
                          | (at_mapUpdate; refine wpList_mput _ _ x (.int .i64 1) kvInt 48 3 3 Try.underlying48 Try.underlying3 rfl _ _ _ rfl rfl rfl rfl HS6.out.map ?_; intro w7 hm7 hg7 hs7; have HS7 := Lib.hid (HS6.out.put x HF.out hm7 hg7); clear hm7 hg7 hs7))
                        first
                          | (go_roundw
                             case rel => (exact ⟨x + 1, by omega, by omega, rfl, _, HS7.out, HRD.out.add HF.out⟩)
                             case measure => (simp [intOf]; omega))
                          | (refine ⟨?_, ?_⟩
                             · (exact ⟨x + 1, by omega, by omega, rfl, _, HS7.out, HRD.out.add HF.out⟩)
                             · (simp [intOf]; omega))
                      | false =>
                        have HAV : Hid (Calls Try.prog 22 #[.agg #[.int .i64 p.n, .slice a0 p.names.length c0, vs, .slice a1 p.rules.length c1, vm], .int .i64 i, .slice ar nr cr, .map (some w4.heap.size)] wr fun e w' => e = .returned (.bool false) ∧ Below wr.heap.size wr w') := Lib.hid (by
                          rw [← hav]; exact avail33_any _ _ p _ G _ wr (HP.out.below HS2.out.below) HV.out i hil (HROW0.out.below HS2.out.below) HS2.out.map HS2.out.fit)
                        go_wp2_with (first
                          | (go_at_call 15; (with_reducible refine (HS.out).mono ?_); rintro e w5 ⟨rfl, rfl⟩)
                          | (go_at_call 22; (with_reducible refine (HAV.out).mono ?_); rintro e w6 ⟨rfl, hb6⟩; have HS6 := Lib.hid (HS2.out.on hb6); clear hb6))
                        first
                          | (go_roundw
                             case rel => (exact ⟨x + 1, by omega, by omega, rfl, G, HS6.out, HRD.out.skip HV.out HF4.out.lost (.inr (.inr (by rw [HI.out, Int.add_sub_cancel]; exact hav)))⟩)
                             case measure => (simp [intOf]; omega))
                          | (refine ⟨?_, ?_⟩
                             · (exact ⟨x + 1, by omega, by omega, rfl, G, HS6.out, HRD.out.skip HV.out HF4.out.lost (.inr (.inr (by rw [HI.out, Int.add_sub_cancel]; exact hav)))⟩)
                             · (simp [intOf]; omega))
                    · rw [hG] at hlk
                      have HG := Lib.hid hG
                      clear hG
                      go_wp2_with (go_at_call 15; (with_reducible refine (HS.out).mono ?_); rintro e w5 ⟨rfl, rfl⟩)
                      first
                        | (go_roundw
                           case rel => (exact ⟨x + 1, by omega, by omega, rfl, G, HS2.out, HRD.out.skip HV.out HF4.out.lost (.inr (.inl (by rw [HG.out]; omega)))⟩)
                           case measure => (simp [intOf]; omega))
                        | (refine ⟨?_, ?_⟩
                           · (exact ⟨x + 1, by omega, by omega, rfl, G, HS2.out, HRD.out.skip HV.out HF4.out.lost (.inr (.inl (by rw [HG.out]; omega)))⟩)
                           · (simp [intOf]; omega))
                  · have HS : Hid (Calls Try.prog 15 #[.pointer (some ⟨s.b, 0, none⟩), .int .i64 x] wr fun e w' => e = .returned (.tuple #[.int .i64 0, .bool false]) ∧ wr = w') := Lib.hid (by
                      have := HSRC.out
                      rw [if_neg hF, decide_eq_false hF] at this
                      exact this)
                    have HF := Lib.hid hF
                    clear HSRC hF
                    go_wp2_with (go_at_call 15; (with_reducible refine (HS.out).mono ?_); rintro e w5 ⟨rfl, rfl⟩)
                    first
                      | (go_roundw
                         case rel => (exact ⟨x + 1, by omega, by omega, rfl, G, HS2.out, HRD.out.skip HV.out HF4.out.lost (.inl (by have := HF.out; omega))⟩)
                         case measure => (simp [intOf]; omega))
                      | (refine ⟨?_, ?_⟩
                         · (exact ⟨x + 1, by omega, by omega, rfl, G, HS2.out, HRD.out.skip HV.out HF4.out.lost (.inl (by have := HF.out; omega))⟩)
                         · (simp [intOf]; omega))
                · obtain rfl : x = p.n + 1 := by omega
                  have HN : Hid (openC F G p.n.toNat ≤ p.n.toNat - (j + 1)) := Lib.hid (by
                    have h1 := HOP.out
                    by_cases h0 : openC F G0 p.n.toNat = 0
                    · have := openC_mono (F := F) HRD.out.up p.n.toNat; omega
                    · have := HRD.out.finish HF4.out.lost hpn.1 h0; omega)
                  go_wp2_with fail
                  first
                    | (go_roundw
                       case rel => (exact ⟨j + 1, by omega, by go_num, G, HS2.out, HN.out⟩)
                       case measure => (simp [intOf]; omega))
                    | (refine ⟨?_, ?_⟩
                       · (exact ⟨j + 1, by omega, by go_num, G, HS2.out, HN.out⟩)
                       · (simp [intOf]; omega))
            · obtain rfl : j = p.n.toNat := by omega
              have hfull : ∀ x, 0 < F x ↔ 0 < G0 x := fun x => by
                constructor
                · intro hx
                  have := HF4.out.lost.inv x
                  exact openC_zero p.n.toNat (by have := HOP.out; omega) x (by omega) (by omega) hx
                · intro hx
                  rcases HST.out.one x with e | ⟨-, e⟩
                  · omega
                  · exact e
              obtain ⟨es, ck, hmap, hsize⟩ := map_size (n := p.n.toNat) HST.out.map (fun x => by
                have h1 := hfull x
                have h2 := HF4.out.lost.inv x
                rcases HST.out.one x with e | ⟨e, e2⟩ <;> omega)
              have hcnt : cntF G0 p.n.toNat = cntF F p.n.toNat := by
                have : ∀ n, cntF G0 n = cntF F n := fun n => by
                  induction n with
                  | zero => rfl
                  | succ n ih =>
                    unfold cntF
                    rw [ih]
                    by_cases h : 0 < F ((n : Int) + 1)
                    · rw [if_pos h, if_pos ((hfull _).1 h)]
                    · rw [if_neg h, if_neg (fun h' => h ((hfull _).2 h'))]
                exact this _
              have HFULL := Lib.hid hfull
              have HSIZE := Lib.hid (hsize.trans hcnt)
              have HMAP := Lib.hid hmap
              clear hsize hcnt hfull hmap
              have hcle := cntF_le F p.n.toNat
              go_wp2_with fail
              go_loop [10, 14] (fun n i => OR4 p F n i) (fun _ i => (p.n + 1 - intOf i).toNat)
              case atStart => exact ⟨0, Nat.zero_le _, rfl, rfl⟩
              case round =>
                obtain ⟨c, hc, rfl, rfl⟩ := hrel
                have HCN : Hid (cntF F (c + 1) = cntF F c + if 0 < F ((c : Int) + 1) then 1 else 0) := Lib.hid rfl
                have hcc := cntF_le F c
                by_cases hltc : (c : Int) + 1 ≤ p.n
                · have HSRC := Lib.hid (source_any HST.out.src ((c : Int) + 1) (by have := HF4.out.lost.inv ((c : Int) + 1); omega))
                  by_cases hF : 0 < F ((c : Int) + 1)
                  · rw [if_pos hF] at HCN
                    have hlk := mapI_look HST.out.map ((c : Int) + 1)
                    have hg : G0 ((c : Int) + 1) = 1 := by
                      have := (HFULL.out _).1 hF
                      rcases HST.out.one ((c : Int) + 1) with e | e <;> omega
                    rw [hg] at hlk
                    have HS : Hid (Calls Try.prog 15 #[.pointer (some ⟨s.b, 0, none⟩), .int .i64 ((c : Int) + 1)] wr fun e w' => e = .returned (.tuple #[.int .i64 (F ((c : Int) + 1) - 1), .bool true]) ∧ wr = w') := Lib.hid (by
                      have := HSRC.out
                      rw [if_pos hF, decide_eq_true hF] at this
                      exact this)
                    clear hF hg HSRC
                    go_wp2_with (go_at_call 15; (with_reducible refine (HS.out).mono ?_); rintro e w5 ⟨rfl, rfl⟩)
                    first
                      | (go_round
                         case rel => (exact ⟨c + 1, by omega, by go_num, by rw [HCN.out]; go_num⟩)
                         case measure => (simp [intOf]; omega))
                      | (refine ⟨?_, ?_⟩
                         · (exact ⟨c + 1, by omega, by go_num, by rw [HCN.out]; go_num⟩)
                         · (simp [intOf]; omega))
                  · rw [if_neg hF] at HCN
                    have HS : Hid (Calls Try.prog 15 #[.pointer (some ⟨s.b, 0, none⟩), .int .i64 ((c : Int) + 1)] wr fun e w' => e = .returned (.tuple #[.int .i64 0, .bool false]) ∧ wr = w') := Lib.hid (by
                      have := HSRC.out
                      rw [if_neg hF, decide_eq_false hF] at this
                      exact this)
                    clear hF HSRC
                    go_wp2_with (go_at_call 15; (with_reducible refine (HS.out).mono ?_); rintro e w5 ⟨rfl, rfl⟩)
                    first
                      | (go_round
                         case rel => (exact ⟨c + 1, by omega, by go_num, by rw [HCN.out, Nat.add_zero]⟩)
                         case measure => (simp [intOf]; omega))
                      | (refine ⟨?_, ?_⟩
                         · (exact ⟨c + 1, by omega, by go_num, by rw [HCN.out, Nat.add_zero]⟩)
                         · (simp [intOf]; omega))
                · obtain rfl : c = p.n.toNat := by omega
                  rw [← HSIZE.out]
                  have hmap : ∀ ty, (Builtin.len_ #[48] ty #[.map (some w4.heap.size)]).run Try.prog wr = .ok (.int .i64 es.size) wr := fun ty => run_len_map _ _ ty _ es _ (by kernel_rfl) HMAP.out
                  have hes : es.size ≤ 4000 := by have := HSIZE.out; omega
                  go_wp2_with fail
                  first
                    | (go_roundw
                       case rel => (exact ⟨k + 1, by omega, by go_num, F, K, clk, _, HST.out.src.mono HST.out.src.top.2 (Nat.le_refl _), HF4.out.lost.inv, hclk4, HST.out.below⟩)
                       case measure => (simp [intOf]; omega))
                    | (refine ⟨?_, ?_⟩
                       · (exact ⟨k + 1, by omega, by go_num, F, K, clk, _, HST.out.src.mono HST.out.src.top.2 (Nat.le_refl _), HF4.out.lost.inv, hclk4, HST.out.below⟩)
                       · (simp [intOf]; omega))
        · go_wp2_with (go_at_call 11; (with_reducible refine (awake_any _).mono ?_); rintro e w9 ⟨rfl, hb9⟩)
          go_ret
          exact ⟨rfl, bon (hal.trans (HB.out.mono (by omega))) hb9⟩
    · have hve : (validE p != 0) = true := by simp [hv]
      clear hv
      go_enter Try.func4, Try.ntmps4
      go_wp2_with (first | (go_at_call 10; (with_reducible refine (few_any _ p _ HP.out).mono ?_); rintro e w1 ⟨h1, hb1⟩; rw [hfew] at h1; subst h1; have hc1 := bcell hb1; have HW1 := Lib.hid (bon hal hb1); have hz1 : w.heap.size < w1.heap.size := (by have := hb1.size; simp at this; omega)) | (go_at_call 21; (with_reducible refine (valid_any _ p _ (HP.out.below hb1)).mono ?_); rintro e w2 ⟨rfl, hb2⟩; have hc2 := bcell hb2; have HW2 := Lib.hid (bon HW1.out hb2); have hz2 : w.heap.size < w2.heap.size := (by have := hb2.size; omega)) | (go_at_call 11; (with_reducible refine (awake_any _).mono ?_); rintro e w3 ⟨rfl, hb3⟩))
      go_ret
      exact ⟨rfl, bon HW2.out hb3⟩

theorem order_law {v vl : Value} {p : GP} {ls : List (List Int)} {W : World} (h : ProgIs W v p) (hl : Rows8 W vl ls) : Calls Try.prog 4 #[v, vl] W fun e w' => e = .returned (.bool true) ∧ Below W.heap.size W w' := order_walk v vl p ls W h hl

end Go.Proofs.Ytkjpnpkmnpofgaa
