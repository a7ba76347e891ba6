/- My texts Grw, merged. -/
import Derived.Test.YthclpkhaenaknaaGreatDoorM16
import Derived.Test.YthclpkhaenaknaaGreatDoorM17
import Derived.Test.YthclpkhaenaknaaGreatDoorM18
import Derived.Test.YthclpkhaenaknaaGreatDoorM19
import Derived.Test.YthclpkhaenaknaaGreatDoorM15
import Derived.Test.YthclpkhaenaknaaGreatDoorM02
import Derived.Laws.CopyOwn
import Derived.Deep.DeepMust

/- ostlerlaw27.LoopsGrow returns true and writes nothing that was there. -/
namespace Go.Proofs.YthclpkhaenaknaaGreatDoor
open Go.RowKit

def firstN (a : List Int) (n : Nat) : List Int := (List.range n).map (ix a)
theorem firstN_len (a : List Int) (n : Nat) : (firstN a n).length = n := by simp [firstN]
theorem firstN_ix (a : List Int) (n i : Nat) (hi : i < n) : ix (firstN a n) i = ix a i := by
  unfold firstN
  conv => lhs; unfold ix
  simp [List.getD_eq_getElem?_getD, hi, ix]

theorem splice_first (a : List Int) (n : Nat) : splice (List.replicate n (Value.int .i8 0)) 0 ((List.range (Nat.min a.length n)).map (fun i => Value.int .i8 (ix a i))) = (firstN a n).map (Value.int .i8) := by
  have hm : Nat.min a.length n ≤ n := Nat.min_le_right _ _
  have hm2 : Nat.min a.length n ≤ a.length := Nat.min_le_left _ _
  unfold splice
  apply List.ext_getElem?
  intro i
  simp only [List.take_zero, List.nil_append, Nat.zero_add, List.length_map, List.length_range]
  by_cases h : i < n
  · have e : ((firstN a n).map (Value.int .i8))[i]? = some (.int .i8 (ix a i)) := by simp [firstN, h]
    rw [e]
    by_cases h2 : i < Nat.min a.length n
    · rw [List.getElem?_append_left (by simpa using h2)]
      simp [h2]
    · rw [List.getElem?_append_right (by simpa using h2)]
      have h3 : ix a i = 0 := by
        have : a.length ≤ i := by rcases Nat.le_total a.length n with h4 | h4 <;> simp only [Nat.min_def] at h2 <;> split at h2 <;> omega
        unfold ix; rw [List.getD_eq_getElem?_getD, List.getElem?_eq_none this]; rfl
      rw [h3]
      simp only [List.length_map, List.length_range, List.getElem?_drop, List.getElem?_replicate]
      rw [if_pos (by omega)]
  · rw [List.getElem?_eq_none (by simp; omega), List.getElem?_eq_none (by simp [firstN]; omega)]

theorem info8' : (Tryz.prog.info? 47).map (·.size) = some 1 := by kernel_rfl

/-- What LoopsGrow leans on. -/
structure GlSt (w : World) (p : GP) (a S : List Int) (vn vs vr vm va vset : Value) (W : World) : Prop where
  box : Blk W w.heap.size [.int .i64 p.n, vn, vs, vr, vm] 27
  prog : ProgIs W (.agg #[.int .i64 p.n, vn, vs, vr, vm]) p
  asg : Bytes8 W va a
  set : Ints W vset S
  below : Below w.heap.size w W

theorem GlSt.on {w W W' : World} {p : GP} {a S : List Int} {vn vs vr vm va vset : Value} (h : GlSt w p a S vn vs vr vm va vset W) (hb : Below W.heap.size W W') : GlSt w p a S vn vs vr vm va vset W' := ⟨h.box.below hb, h.prog.below hb, h.asg.below hb, h.set.below hb, bon h.below hb⟩

/-- The assignment b. -/
def GrB (p : GP) (a S : List Int) (bb N : Nat) (wx : World) : Prop :=
  ∃ bl : List Int, bl.length = N ∧ Blk wx bb (bl.map (Value.int .i8)) 47 ∧ (∀ x ∈ bl, -128 ≤ x ∧ x ≤ 127) ∧ (unfB p a S = true → unfB p bl S = true)

theorem GrB.on {p : GP} {a S : List Int} {bb N : Nat} {W W' : World} (h : GrB p a S bb N W) (hb : Below W.heap.size W W') : GrB p a S bb N W' :=
  let ⟨bl, h1, h2, h3, h4⟩ := h; ⟨bl, h1, h2.below hb, h3, h4⟩

theorem grow_unf {p : GP} {a S bl : List Int} {N : Nat} (hN : p.n + (p.rules.length : Int) = N) (hl : bl.length = N) (h : ∀ j, j < N → j < a.length → ix a j ≠ 0 → ix bl j = ix a j) : unfB p a S = true → unfB p bl S = true := fun hu =>
  unf_more hu fun l hl0 hln ho => offB_more hl h l hl0 (by omega) ho

theorem Blk.qrow1 {W : World} {b : Nat} {x : Int} (h : Blk W b [.int .i64 x] 3) (hx : InI x) {base : Nat} (hb : base ≤ b) : QRow base W (.slice (some ⟨b, 0, none⟩) 1 1) [x] :=
  ⟨fitI (by simpa using hx), .inr ⟨b, 0, 1, _, rfl, hb, h, Nat.le_refl _, by unfold maxLen; omega, by simp, fun i hi => by
    obtain rfl : i = 0 := by simpa using hi
    simp [ix]⟩⟩

/-- What the calls of 'c, e := loops.Make(..)' leave. -/
def gmΦ (c : PBC) (i : Nat) (_ : List Value) (v : Value) (lo hi : Nat) (w : World) : Prop :=
  match i with
  | 6 => ∃ al cl ak ck, v = .tuple #[.agg #[.slice al c.lits.length cl, .slice ak c.coefs.length ck, .int .i64 c.bound], .int .i64 0] ∧ QRow 0 w (.slice al c.lits.length cl) c.lits
  | _ => v = .pointer (some ⟨lo, 0, none⟩) ∧ lo < hi ∧ Blk w lo [.slice none 0 0, .slice none 0 0, .int .i64 0] 30

theorem gmΦ_later (c : PBC) : ∀ i args v lo hi w w', gmΦ c i args v lo hi w → Below w.heap.size w w' → gmΦ c i args v lo hi w' := by
  intro i args v lo hi w w' h hb
  unfold gmΦ at *
  split at h
  · obtain ⟨al, cl, ak, ck, e, h⟩ := h; exact ⟨al, cl, ak, ck, e, h.below hb⟩
  · exact ⟨h.1, h.2.1, h.2.2.below hb⟩

theorem row3far {base : Nat} {wr : World} {v : Value} {l : List Int} (h : QRow base wr v l) {b : Nat} {d : List Value} {T : TypeId} (hb : Blk wr b d T) (hT : T ≠ 3) (x y z : Value) : QRow base (((wr.setCell ⟨b, 0, none⟩ x).setCell ⟨b, 1, none⟩ y).setCell ⟨b, 2, none⟩ z) v l :=
  h.kept fun i _ _ hi => by
    have hne : i ≠ b := fun e => h.far hb hT (e ▸ hi)
    exact ((Below.heap_setCell _ _ _ _ hne).trans (Below.heap_setCell _ _ _ _ hne)).trans (Below.heap_setCell _ _ _ _ hne)

theorem unf_pos {p : GP} {a S : List Int} (h : unfB p a S = true) : 0 < S.length ∧ 1 ≤ p.n := by
  obtain ⟨-, h2, -⟩ := unf_valid h
  have h3 : 0 < S.length := by unfold setB' at h2; rw [Bool.and_eq_true, decide_eq_true_eq] at h2; exact h2.2
  have := setB_pos h2 h3
  exact ⟨h3, by omega⟩

theorem unf_no {p : GP} {a S : List Int} (h : S.length = 0 ∨ p.n ≤ 0) : unfB p a S = false := by
  cases e : unfB p a S with
  | false => rfl
  | true => have := unf_pos e; omega

theorem BoxC.pbG {b : Nat} {vl vk : Value} {c : PBC} {W : World} (h : BoxC b vl vk c W) : PBIs W (.agg #[vl, vk, .int .i64 c.bound]) c := h.2

set_option maxHeartbeats 4000000 in
set_option maxRecDepth 100000 in
theorem grow_walk (vp va : Value) (p : GP) (a : List Int) (bits mo : Int) (w : World) (hP : ProgIs w vp p) (hA : Bytes8 w va a) (hb : 0 ≤ bits ∧ bits ≤ 65535) (hmo : 0 ≤ mo ∧ mo ≤ 65535) :
    Calls Tryz.prog 5 #[vp, va, .int .u16 bits, .int .u16 mo] w fun e w' => e = .returned (.bool true) ∧ Below w.heap.size w w' := by
  have hP0 := hP
  obtain ⟨vn, vs, vr, vm, rfl, hPS⟩ := hP
  have hpn := hPS.n
  obtain ⟨a1, c1, rfl, -, hl1, -, -⟩ := hPS.rules.form
  obtain ⟨a2, c2, rfl, -, hl2, -, -⟩ := hPS.names.form
  obtain ⟨a3, c3, rfl, -, -, -, -⟩ := hPS.shown.form
  obtain ⟨a5, c5, rfl, -, -, -, -⟩ := hPS.min.form
  have hA0 := hA
  obtain ⟨⟨a9, c9, rfl, hc9, hm9, hl9, hcell⟩, hb8⟩ := hA
  have hal : Below w.heap.size w (w.alloc (.cells #[.int .i64 p.n, .slice a2 p.names.length c2, .slice a3 p.shown.length c3, .slice a1 p.rules.length c1, .slice a5 p.min.length c5] 27)) := bal (Below.refl _ _) _
  have HS0 : Hid (GlSt w p a [] (.slice a2 p.names.length c2) (.slice a3 p.shown.length c3) (.slice a1 p.rules.length c1) (.slice a5 p.min.length c5) (.slice a9 a.length c9) nilS (w.alloc (.cells #[.int .i64 p.n, .slice a2 p.names.length c2, .slice a3 p.shown.length c3, .slice a1 p.rules.length c1, .slice a5 p.min.length c5] 27))) :=
    Lib.hid ⟨Blk.new w _ _, hP0.below hal, hA0.below hal, nil_ints _, hal⟩
  have HCA := Lib.hid hcell
  have HB8 := Lib.hid hb8
  unfold InI at hpn
  clear hP0 hPS hA0 hal hcell hb8 hm9
  cases hfw : fewB p with
  | false =>
    have HFW := Lib.hid hfw
    clear hfw
    go_enter Tryz.func5, Tryz.ntmps5
    go_upto_region 1 with fail
    have kx0 := HS0.out.box.cell
    generalize w.alloc (.cells #[.int .i64 p.n, .slice a2 p.names.length c2, .slice a3 p.shown.length c3, .slice a1 p.rules.length c1, .slice a5 p.min.length c5] 27) = W at *
    go_wp2_with (first | (go_at_call 8; (with_reducible refine (few_any _ p _ HS0.out.prog).mono ?_); rintro e w1 ⟨h1, hb1⟩; rw [HFW.out] at h1; subst h1; have HS1 := Lib.hid (HS0.out.on hb1); have kx1 := HS1.out.box.cell; clear hb1) | (go_at_call 9; (with_reducible refine (awake27_any _).mono ?_); rintro e w9 ⟨rfl, hb9⟩; have HS9 := Lib.hid (HS1.out.on hb9); have kx9 := HS9.out.box.cell; clear hb9))
    go_ret
    exact ⟨rfl, HS9.out.below⟩
  | true =>
    have HFW := Lib.hid hfw
    clear hfw
    by_cases hv : validE p = 0
    · have hve : (validE p != 0) = false := by simp [hv]
      have HV := Lib.hid hv
      have hn0 := (validP hv).n
      obtain ⟨hf10, -, hfr, -⟩ := few_len HFW.out
      obtain ⟨N, hN⟩ : ∃ N : Nat, p.n + (p.rules.length : Int) = N := ⟨(p.n + p.rules.length).toNat, by omega⟩
      have HVA : Hid (varsI p = (N : Int)) := Lib.hid (by unfold varsI; rw [if_pos hv, hN])
      have HN := Lib.hid hN
      have hN1 : N ≤ 22 := by omega
      have hsl := subL_len bits p.n.toNat
      clear hv hN
      have hmk : ∀ w : World, (Instr.makeSlice 28 (.int .i64 (N : Int)) (.int .i64 (N : Int))).run Tryz.prog w = .ok (.slice (some ⟨w.heap.size, 0, none⟩) N N) (w.alloc (.cells (madeCells #[.int .i8 0] N) 47)) := fun w => run_make_row' _ _ _ _ Tryz.underlying28 info8 rfl .i64 .i64 N (by omega) (by omega) w
      go_enter Tryz.func5, Tryz.ntmps5
      go_upto_region 1 with fail
      have kx0 := HS0.out.box.cell
      generalize w.alloc (.cells #[.int .i64 p.n, .slice a2 p.names.length c2, .slice a3 p.shown.length c3, .slice a1 p.rules.length c1, .slice a5 p.min.length c5] 27) = W at *
      go_upto_region 5 with (first
        | (go_at_call 8; (with_reducible refine (few_any _ p _ HS0.out.prog).mono ?_); rintro e w1 ⟨h1, hb1⟩; rw [HFW.out] at h1; subst h1; have HS1 := Lib.hid (HS0.out.on hb1); have kx1 := HS1.out.box.cell; clear hb1)
        | (go_at_call 17; (with_reducible refine (valid_any _ p w1 HS1.out.prog).mono ?_); rintro e w2 ⟨rfl, hb2⟩; have HS2 := Lib.hid (HS1.out.on hb2); have kx2 := HS2.out.box.cell; clear hb2 kx1)
        | (go_at_call 19; (with_reducible refine (varsI_any _ p w2 HS2.out.prog).mono ?_); rintro e w3 ⟨e3, hb3⟩; rw [HVA.out] at e3; subst e3; have HS3 := Lib.hid (HS2.out.on hb3); have kx3 := HS3.out.box.cell; clear hb3 kx2)
        | (go_at_call 20; (with_reducible refine (subset_int p.n bits (by omega) w3).mono ?_); rintro e w4 ⟨vset, rfl, hq, hb4⟩; have hi4 := hq.ints (by omega); obtain ⟨a4, c4, rfl⟩ := hq.slen; have HS4 : Hid (GlSt w p a (subL bits p.n.toNat) (.slice a2 p.names.length c2) (.slice a3 p.shown.length c3) (.slice a1 p.rules.length c1) (.slice a5 p.min.length c5) (.slice a9 a.length c9) (.slice a4 (subL bits p.n.toNat).length c4) w4) := Lib.hid ⟨HS3.out.box.below hb4, HS3.out.prog.below hb4, HS3.out.asg.below hb4, hi4, bon HS3.out.below hb4⟩; clear hb4 hq hi4 kx3))
      clear kx0
      have hS60 : (subL bits p.n.toNat).length ≤ 60 := by omega
      clear hsl
      generalize subL bits p.n.toNat = S at *
      have hbm := Blk.new w4 (List.replicate N (Value.int .i8 0)) 47
      rw [← made_row] at hbm
      have hal4 := bal (Below.refl w4.heap.size w4) (.cells (madeCells #[.int .i8 0] N) 47)
      obtain ⟨cs, hcs⟩ : ∃ cs, cs = (List.range (Nat.min a.length N)).map (fun i => Value.int .i8 (ix a i)) := ⟨_, rfl⟩
      have hcl : cs.length = Nat.min a.length N := by rw [hcs]; simp
      have hm1 : Nat.min a.length N ≤ a.length := Nat.min_le_left _ _
      have hm2 : Nat.min a.length N ≤ N := Nat.min_le_right _ _
      have hbw4 : Below w.heap.size w (w4.alloc (.cells (madeCells #[.int .i8 0] N) 47)) := bon HS4.out.below hal4
      have hpos : 0 < cs.length → some (⟨w4.heap.size, 0, none⟩ : Addr) = some ⟨w4.heap.size, 0, none⟩ ∧ ∃ ad, a9 = some ad ∧ ∀ j u, cs[j]? = some u → (w4.alloc (.cells (madeCells #[.int .i8 0] N) 47)).cell? (ad.add j) = some u := fun h0 => by
        obtain ⟨ba, offa, rfl, hba, hca⟩ := HCA.out (by omega)
        refine ⟨rfl, _, rfl, fun j u hu => ?_⟩
        have hj : j < cs.length := (List.getElem?_eq_some_iff.1 hu).1
        rw [Addr.add_lit]
        refine (bcell hbw4 _ _ hba).trans ((hca j (by omega)).trans ?_)
        rw [← hu, hcs]
        simp [show j < Nat.min a.length N by omega]
      have hone : ∀ u ∈ cs, u.oneCell' = true := fun u hu => by rw [hcs] at hu; obtain ⟨i, -, rfl⟩ := List.mem_map.1 hu; rfl
      have hfit : 0 + cs.length ≤ (List.replicate N (Value.int .i8 0)).length := by rw [List.length_replicate]; omega
      have HCS := Lib.hid hcs
      have HPOS := Lib.hid hpos
      have HONE := Lib.hid hone
      have HFIT := Lib.hid hfit
      have HBM := Lib.hid hbm
      have HAL4 := Lib.hid hal4
      have HCL := Lib.hid hcl
      clear hcs hbm hal4 hcl hbw4 hm1 hm2 hpos hone hfit
      go_upto_region 7 with ((refine wpList_copy_splice rfl _ _ 28 28 rfl 47 Tryz.underlying28 info8' _ _ _ _ _ _ rfl rfl w4.heap.size 0 (List.replicate N (.int .i8 0)) 47 HBM.out cs HCL.out HPOS.out HFIT.out HONE.out w4.heap.size w4 HAL4.out (Nat.le_refl _) ?_); intro w5 hg5 hb5; have HB5 : Hid (Blk w5 w4.heap.size ((firstN a N).map (Value.int .i8)) 47) := Lib.hid (by unfold Blk; rw [← splice_first, ← HCS.out]; exact hg5.out); have HB45 := Lib.hid hb5; have kx5 := fun o => (bcell hb5 _ o HS4.out.box.lt).trans (HS4.out.box.cell o); have hz5 : w4.heap.size < w5.heap.size := HB5.out.lt; clear hg5 hb5)
      clear HBM HAL4 HCL HCS HPOS HONE HFIT hmk
      have hz4 : w.heap.size < w4.heap.size := HS4.out.box.lt
      have kb5 := HB5.out.cell
      go_upto_if 41 with fail
      go_cut [] (fun wx => GrB p a S w4.heap.size N wx ∧ Below w4.heap.size w4 wx)
      case first =>
        have HG0 : Hid (unfB p a S = true → unfB p (firstN a N) S = true) := Lib.hid (grow_unf HN.out (firstN_len a N) fun j hj _ _ => firstN_ix a N j hj)
        have hff : ∀ x ∈ firstN a N, -128 ≤ x ∧ x ≤ 127 := fun x hx => by
          obtain ⟨i, -, rfl⟩ := List.mem_map.1 hx
          exact HB8.out i
        have HFF := Lib.hid hff
        clear hff
        by_cases hN0 : N = 0
        · go_wp2_with fail
          go_meet
          case rel => exact ⟨⟨_, firstN_len a N, HB5.out, HFF.out, HG0.out⟩, HB45.out⟩
        · obtain ⟨vv, hvv⟩ : ∃ vv : Nat, mo % (N : Int) = vv := ⟨(mo % (N : Int)).toNat, by have := Int.emod_nonneg mo (show (N : Int) ≠ 0 by omega); omega⟩
          have hvv2 : Int.tmod mo N = vv := by rw [Int.tmod_eq_emod_of_nonneg hmo.1, hvv]
          have hvN : vv < N := by have := Int.emod_lt_of_pos mo (show (0 : Int) < N by omega); omega
          have kv : w5.cell? ⟨w4.heap.size, vv, none⟩ = some (.int .i8 (ix a vv)) := (kb5 vv).trans (by simp [firstN, hvN])
          have fv := HB5.out.free vv
          clear kb5
          by_cases hav : ix a vv = 0
          · have HAV := Lib.hid hav
            go_wp2_with fail
            go_meet
            case rel =>
              refine ⟨⟨(firstN a N).set vv (mo / 256 % 2 * 2 - 1), by rw [List.length_set, firstN_len], by rw [List.map_set]; exact HB5.out.set _ _, fun x hx => ?_, grow_unf HN.out (by rw [List.length_set, firstN_len]) fun j hj hja hj0 => ?_⟩, HB45.out.setCell (p := ⟨w4.heap.size, vv, none⟩) (Nat.le_refl _) _⟩
              · rcases List.mem_or_eq_of_mem_set hx with hx | rfl
                · exact HFF.out x hx
                · omega
              · have hne : j ≠ vv := fun e => hj0 (by rw [e]; exact HAV.out)
                rw [← firstN_ix a N j hj]
                unfold ix
                rw [List.getD_eq_getElem?_getD, List.getD_eq_getElem?_getD, List.getElem?_set_ne (Ne.symm hne)]
          · have hav' : (ix a vv == 0) = false := by simp [hav]
            clear hav
            go_wp2_with fail
            go_meet
            case rel => exact ⟨⟨_, firstN_len a N, HB5.out, HFF.out, HG0.out⟩, HB45.out⟩
      case rest =>
        obtain ⟨hgb, hbc⟩ := hcut
        have HSC := Lib.hid (HS4.out.on hbc)
        have HGB := Lib.hid hgb
        have kxc := HSC.out.box.cell
        clear hgb hbc kb5 kx5 HB5 HB45
        go_upto_region 11 with fail
        generalize hwc : wc = wd at *
        go_cut [70] (fun s wx => s = .bool false ∧ GlSt w p a S (.slice a2 p.names.length c2) (.slice a3 p.shown.length c3) (.slice a1 p.rules.length c1) (.slice a5 p.min.length c5) (.slice a9 a.length c9) (.slice a4 S.length c4) wx)
        case first =>
          cases hu : unfB p a S with
          | false =>
            have HU := Lib.hid hu
            clear hu
            go_wp2_with (go_at_call 12; (with_reducible refine (unfounded_any _ _ _ p a S wd HSC.out.prog HSC.out.asg HSC.out.set).mono ?_); rintro e w6 ⟨e1, hb6⟩; rw [HU.out] at e1; subst e1; have HS6 := Lib.hid (HSC.out.on hb6); clear hb6)
            go_meet
            case rel => exact ⟨rfl, HS6.out⟩
          | true =>
            obtain ⟨bl, hbl, hbk, hbf, hbu⟩ := HGB.out
            have HU := Lib.hid hu
            have HU2 := Lib.hid (hbu hu)
            have hby := hbk.bytes8 (fit8 hbf) (by omega)
            rw [hbl] at hby
            have HBY := Lib.hid hby
            clear hu hbu hbk hbf hby
            go_wp2_with (first
              | (go_at_call 12; (with_reducible refine (unfounded_any _ _ _ p bl S w6 HS6.out.prog (HBY.out.below HB6.out) HS6.out.set).mono ?_); rintro e w7 ⟨e1, hb7⟩; rw [HU2.out] at e1; subst e1; have HS7 := Lib.hid (HS6.out.on hb7); clear hb7)
              | (go_at_call 12; (with_reducible refine (unfounded_any _ _ _ p a S wd HSC.out.prog HSC.out.asg HSC.out.set).mono ?_); rintro e w6 ⟨e1, hb6⟩; rw [HU.out] at e1; subst e1; have HS6 := Lib.hid (HSC.out.on hb6); have HB6 := Lib.hid hb6; have kx6 := HS6.out.box.cell; clear hb6))
            go_meet
            case rel => exact ⟨rfl, HS7.out⟩
        case rest =>
          clear kxc HSC HGB
          obtain ⟨rfl, hs⟩ := hcut
          have HSC := Lib.hid hs
          have kxc := hs.box.cell
          clear hs
          go_upto_region 13 with fail
          generalize hwe : wc = we at *
          go_cut [83] (fun s wx => s = .bool (unfB p a S) ∧ GlSt w p a S (.slice a2 p.names.length c2) (.slice a3 p.shown.length c3) (.slice a1 p.rules.length c1) (.slice a5 p.min.length c5) (.slice a9 a.length c9) (.slice a4 S.length c4) wx)
          case first =>
            by_cases h0 : 0 < S.length
            · by_cases h1 : 0 < N
              · go_wp2_with (go_at_call 12; (with_reducible refine (unfounded_any _ _ _ p a S we HSC.out.prog HSC.out.asg HSC.out.set).mono ?_); rintro e w6 ⟨rfl, hb6⟩; have HS6 := Lib.hid (HSC.out.on hb6); clear hb6)
                go_meet
                case rel => exact ⟨rfl, HS6.out⟩
              · have HU : Hid (unfB p a S = false) := Lib.hid (unf_no (.inr (by have := HN.out; omega)))
                go_wp2_with fail
                go_meet
                case rel => exact ⟨by rw [HU.out], HSC.out⟩
            · have HU : Hid (unfB p a S = false) := Lib.hid (unf_no (.inl (by omega)))
              go_wp2_with fail
              go_meet
              case rel => exact ⟨by rw [HU.out], HSC.out⟩
          case rest =>
            clear kxc HSC
            obtain ⟨rfl, hs⟩ := hcut
            have HSC := Lib.hid hs
            have kxc := hs.box.cell
            clear hs
            go_upto_if 83 with fail
            generalize hwf : wc = wf at *
            go_cut [] (fun wx => GlSt w p a S (.slice a2 p.names.length c2) (.slice a3 p.shown.length c3) (.slice a1 p.rules.length c1) (.slice a5 p.min.length c5) (.slice a9 a.length c9) (.slice a4 S.length c4) wx)
            case first =>
              cases hu : unfB p a S with
              | false =>
                clear hu
                go_wp2_with fail
                go_meet
                case rel => exact HSC.out
              | true =>
                obtain ⟨hu0, hu1⟩ := unf_pos hu
                have HU := Lib.hid hu
                have HM : Hid (ix S 0 ∈ S) := Lib.hid (ix_mem hu0)
                have hNp : 0 < N := by have := HN.out; omega
                obtain ⟨vv, hvv⟩ : ∃ vv : Nat, mo % (N : Int) = vv := ⟨(mo % (N : Int)).toNat, by have := Int.emod_nonneg mo (show (N : Int) ≠ 0 by omega); omega⟩
                have hvv2 : Int.tmod mo N = vv := by rw [Int.tmod_eq_emod_of_nonneg hmo.1, hvv]
                have hvN : vv < N := by have := Int.emod_lt_of_pos mo (show (0 : Int) < N by omega); omega
                obtain ⟨c, hmk, -, hlen, -⟩ : ∃ c, makeP p a S (ix S 0) = (c, 0) ∧ True ∧ c.lits.length ≤ 253 ∧ True := by
                  obtain ⟨c, h1, -, -, h4, -⟩ := make_good HFW.out hu HM.out
                  exact ⟨c, h1, trivial, h4, trivial⟩
                obtain ⟨hg0, hg1⟩ := grow_valid (x := 1 + (vv : Int)) (c := c) HFW.out hu HM.out (by omega) (by rw [hmk])
                obtain ⟨d, hd⟩ : ∃ d, clauseP ([1 + (vv : Int)] ++ c.lits) = (d, 0) := ⟨_, Prod.ext rfl hg0⟩
                rw [hd] at hg1
                have HMK := Lib.hid hmk
                have HD := Lib.hid hd
                have HG1 : Hid (d.bound = 1 → validC p S d = true) := Lib.hid hg1
                obtain ⟨bS, oS, rfl, hbS, hcS⟩ := HSC.out.set.at hu0
                have ks : ∀ e : Ext wf, e.world.cell? ⟨bS, oS, none⟩ = some (.int .i64 (ix S 0)) := fun e => (bcell e.below _ _ hbS).trans hcS
                have kp : ∀ e : Ext wf, ∀ o, e.world.cell? ⟨w.heap.size, o, none⟩ = _ := fun e o => (bcell e.below _ o HSC.out.box.lt).trans (kxc o)
                clear hu hmk hd hg0 hg1 hcS
                go_upto_region 14 with fail
                refine wp_region_tail' 11 (fun _ => True) (gmΦ c) (fun i => i == 6 || i == 10) (by kernel_rfl) (by kernel_rfl) (by kernel_rfl) (fun _ _ => trivial) (gmΦ_later c) ?_
                simp only [List.take_succ_cons, List.take_zero, List.drop_succ_cons, List.drop_zero]
                iterate 6 (refine walkP_head (by kernel_rfl) rfl rfl rfl (fun K hK => ?_); go_big_quiet_op; refine hK _ ?_; clear hK K)
                refine walkP_mem rfl rfl (fun wa hba hFa => ?_) (fun v6 lo6 hi6 l6 g6 h6 => ?_)
                · go_simp
                  refine (make_any _ _ _ p a S (ix S 0) wa (HSC.out.on hba).prog (HSC.out.on hba).asg (HSC.out.on hba).set (HSC.out.set.2 0)).mono (fun e w2 ⟨vc, h1, h2, h3⟩ => ?_)
                  rw [HMK.out] at h1 h2
                  obtain ⟨vl, vk, rfl, hq1, hq2, -⟩ := h2
                  obtain ⟨al, cl, rfl⟩ := hq1.slen
                  obtain ⟨ak, ck, rfl⟩ := hq2.slen
                  exact ⟨_, h1, h3, al, cl, ak, ck, rfl, hq1.mono (Nat.zero_le _)⟩
                obtain ⟨_, al, cl, ak, ck, rfl, -⟩ := h6
                simp only [Act.put, List.setIfInBounds_toArray, List.set_cons_succ, List.set_cons_zero]
                iterate 2 (refine walkP_head (by kernel_rfl) rfl rfl rfl (fun K hK => ?_); go_big_quiet_op; refine hK _ ?_; clear hK K)
                iterate 1 (refine walkP_late (by kernel_rfl) rfl rfl rfl (fun K hK => ?_); go_big_quiet_op; refine hK _ ?_; clear hK K)
                refine walkP_mem rfl rfl (fun wa hba hFa => ?_) (fun v10 lo hi l10 g10 h10 => ?_)
                · go_simp
                  exact ⟨bal (Below.refl _ _) _, rfl, by simp, Blk.new _ _ _⟩
                obtain ⟨_, rfl, -, -⟩ := h10
                simp only [Act.put, List.setIfInBounds_toArray, List.set_cons_succ, List.set_cons_zero]
                intro wx hbx hF hI hP
                obtain ⟨-, -, f10⟩ := hF _ (.head _)
                obtain ⟨_, _, _, _, e6, f6⟩ := hF _ (.tail _ (.head _))
                simp only [Value.tuple.injEq, Array.mk.injEq, List.cons.injEq, Value.agg.injEq, Value.slice.injEq, and_true, true_and] at e6
                obtain ⟨⟨rfl, rfl⟩, rfl, rfl⟩ := e6
                have kf10 := f10.free
                have kc10 := f10.cell
                have HF10 := Lib.hid f10
                have HF6 := Lib.hid f6
                have HBX := Lib.hid hbx
                clear hF hI hP f10 f6 hbx kxc kp ks
                iterate 2 (refine ⟨rfl, rfl, ?_⟩; go_simp)
                simp only [tailW]
                have HS8 := Lib.hid (HSC.out.on (below3 HBX.out lo l10 (.slice al c.lits.length cl) (.slice ak c.coefs.length ck) (.int .i64 c.bound)))
                have HQ8 := Lib.hid (row3far HF6.out HF10.out (by decide) (.slice al c.lits.length cl) (.slice ak c.coefs.length ck) (.int .i64 c.bound))
                have HC8 := Lib.hid (((HF10.out.set 0 (.slice al c.lits.length cl)).set 1 (.slice ak c.coefs.length ck)).set 2 (.int .i64 c.bound))
                clear HF10 HF6 HBX kf10 kc10
                generalize ((wx.setCell ⟨lo, 0, none⟩ (.slice al c.lits.length cl)).setCell ⟨lo, 1, none⟩ (.slice ak c.coefs.length ck)).setCell ⟨lo, 2, none⟩ (.int .i64 c.bound) = w8 at *
                have kc8 := HC8.out.cell
                simp only [List.set_cons_zero, List.set_cons_succ] at kc8
                have hlc8 := HC8.out.lt
                have hxI : InI (1 + (vv : Int)) := by unfold InI; omega
                have HE : Hid (QRow w8.heap.size (w8.alloc (.cells #[.int .i64 (1 + (vv : Int))] 3)) (.slice (some ⟨w8.heap.size, 0, none⟩) 1 1) [1 + (vv : Int)]) := Lib.hid ((Blk.new w8 [.int .i64 (1 + (vv : Int))] 3).qrow1 hxI (Nat.le_refl _))
                have HIE : Hid (Ints (w8.alloc (.cells #[.int .i64 (1 + (vv : Int))] 3)) (.slice al c.lits.length cl) c.lits) := Lib.hid ((HQ8.out.below (bal (Below.refl w8.heap.size w8) _)).ints (by omega))
                have hap : ([1 + (vv : Int)].length + c.lits.length) * 8 ≤ 140737488351232 := by simp; omega
                have hap2 : ([1 + (vv : Int)] ++ c.lits).length * 8 ≤ 140737488351232 := by simp; omega
                have HL9 : Hid (([1 + (vv : Int)] ++ c.lits).length = c.lits.length + 1) := Lib.hid (by simp)
                clear hxI
                go_upto_region 17 with (first
                  | (at_builtin; go_must (refine wpList_appendQs rfl _ _ rfl w8.heap.size _ _ [1 + (vv : Int)] c.lits rfl rfl HE.out HIE.out hap (by simp) ?_); intro v9 w9 hq9 hg9 _; have hi9 := hq9.ints hap2; obtain ⟨av9, cv9, e9⟩ := hq9.slen; rw [HL9.out] at e9; subst e9; have hb9 := below_grown (Below.refl w8.heap.size w8) (fun g e => by cases e; exact Nat.le_refl _) hg9; have HS9 := Lib.hid (HS8.out.on hb9); have HI9 := Lib.hid hi9; clear hq9 hg9 hi9 hb9)
                  | (go_at_call 21; (with_reducible refine (clause_any _ ([1 + (vv : Int)] ++ c.lits) w9 HI9.out).mono ?_); rintro e w10 ⟨vp, e1, hq, hb10⟩; rw [HD.out] at e1 hq; subst e1; obtain ⟨vl, vk, rfl, hq1, hq2, hq3⟩ := hq; obtain ⟨al2, cl2, rfl⟩ := hq1.slen; obtain ⟨ak2, ck2, rfl⟩ := hq2.slen; have hd10 := BoxC.new hq1 hq2 hq3; have hs10 := HS9.out.on hb10; clear hq1 hq2 hq3 hb10))
                have hal10 := bal (Below.refl w10.heap.size w10) (.cells #[.slice al2 d.lits.length cl2, .slice ak2 d.coefs.length ck2, .int .i64 d.bound] 30)
                have HS11 := Lib.hid (hs10.on hal10)
                have HD11 := Lib.hid hd10
                have kd11 := hd10.1.cell
                have kx11 := HS11.out.box.cell
                clear hal10 hs10 hd10 kc8
                generalize w10.alloc (.cells #[.slice al2 d.lits.length cl2, .slice ak2 d.coefs.length ck2, .int .i64 d.bound] 30) = w11 at *
                by_cases hdb : d.bound = 1
                · have hdb2 : (d.bound == 1) = true := by simp [hdb]
                  have HVD := Lib.hid (HG1.out hdb)
                  clear hdb
                  go_wp2_with (go_at_call 14; (with_reducible refine (lval_any _ _ _ p S d w11 HS11.out.prog HS11.out.set HD11.out.pbG).mono ?_); rintro e w12 ⟨e1, hb12⟩; rw [HVD.out] at e1; subst e1; have HS12 := Lib.hid (HS11.out.on hb12); clear hb12)
                  go_meet
                  case rel => exact HS12.out
                · have hdb2 : (d.bound == 1) = false := by simp [hdb]
                  clear hdb
                  go_wp2_with fail
                  go_meet
                  case rel => exact HS11.out
            case rest =>
              clear kxc HSC
              have HSC := Lib.hid hcut
              have kxc := hcut.box.cell
              have hzc := hcut.box.lt
              clear hcut
              have hal := bal (Below.refl wc.heap.size wc) (.cells #[.int .i64 p.n, .slice a2 p.names.length c2, .slice a3 p.shown.length c3, .slice a1 p.rules.length c1, .slice a5 p.min.length c5] 27)
              go_upto_region 21 with fail
              clear hal
              have hal := bal (Below.refl wc.heap.size wc) (.cells #[.int .i64 (p.n + 1), .slice a2 p.names.length c2, .slice a3 p.shown.length c3, .slice a1 p.rules.length c1, .slice a5 p.min.length c5] 27)
              have hbk := Blk.new wc [.int .i64 (p.n + 1), .slice a2 p.names.length c2, .slice a3 p.shown.length c3, .slice a1 p.rules.length c1, .slice a5 p.min.length c5] 27
              have HSG := Lib.hid (HSC.out.on hal)
              have HBG := Lib.hid hbk
              have kxg := HSG.out.box.cell
              have hzg : wc.heap.size < (wc.alloc (.cells #[.int .i64 (p.n + 1), .slice a2 p.names.length c2, .slice a3 p.shown.length c3, .slice a1 p.rules.length c1, .slice a5 p.min.length c5] 27)).heap.size := hbk.lt
              have HBWC := Lib.hid hal
              clear hal hbk kxc
              generalize wc.alloc (.cells #[.int .i64 (p.n + 1), .slice a2 p.names.length c2, .slice a3 p.shown.length c3, .slice a1 p.rules.length c1, .slice a5 p.min.length c5] 27) = wg at *
              have hzw : w.heap.size < wg.heap.size := HSG.out.box.lt
              obtain ⟨vn', vs', vr', vm', eag, hPG⟩ := HSG.out.prog
              simp only [Value.agg.injEq, Array.mk.injEq, List.cons.injEq, and_true, true_and] at eag
              obtain ⟨rfl, rfl, rfl, rfl⟩ := eag
              obtain ⟨iS, hiS, hzS, hsS, hbS⟩ := info_parts infoS
              have hnl : p.names.length ≤ 10 := (few_len HFW.out).2.1
              have hg0 : (wg.alloc (.cells #[] 9)).heap[wg.heap.size]? = some (.cells #[] 9 (0, 0)) := heap_alloc_new wg _
              have hsx : Sl (wg.alloc (.cells #[] 9)) (.slice a2 p.names.length c2) iS.bytes p.names.length (fun i => .string (ixS p.names i)) := by rw [hbS]; exact hPG.names.1.below (bal (Below.refl _ _) _)
              have HG0 := Lib.hid hg0
              have HSX := Lib.hid hsx
              have HPG := Lib.hid hPG
              clear hPG hg0 hsx
              go_upto_region 22 with (first
                | (at_builtin; refine wpList_append0 rfl _ _ rfl Tryz.underlying22 hiS hzS hsS rfl wg.heap.size HG0.out _ p.names.length (fun i => .string (ixS p.names i)) rfl rfl HSX.out (fun _ => rfl) ?_; intro ad2 cd2 w2 hown2 hb2; have HO2 := Lib.hid hown2; have HB2 := Lib.hid (bon (bal (Below.refl wg.heap.size wg) _) hb2); have hz2 : wg.heap.size < w2.heap.size := (by have := hb2.size; simp at this; omega); clear hown2 hb2)
                | (at_builtin; refine wpList_append_own _ rfl _ _ 22 rfl wg.heap.size 9 iS (.string ⟨#[]⟩) 1 16 Tryz.underlying22 hiS hzS hsS hbS rfl (by decide) _ _ _ rfl (HO2.out.alloc _) ⟨w2.heap.size, 0, none⟩ 1 1 [.string ⟨#[]⟩] rfl rfl (cell_one_new _ _ _) (by simp [Value.oneCell']) (by unfold maxLen; omega) (by omega) (by simp; omega) ?_; intro v3 w3 hown3 hg3 _; obtain ⟨g3, cap3, rfl⟩ := ownsRow_succ hown3; have hb3 := below_grown HB2.out (ownsRow_base HO2.out) hg3; have HB3 := Lib.hid hb3; have HO3 := Lib.hid hown3; have kb3 := (HBG.out.below hb3).cell; have fb3 := (HBG.out.below hb3).free; clear hown3 hg3 hb3))
              have hos := strs_push HO3.out (by omega) (fun i => HPG.out.names.2 i) (show (⟨#[]⟩ : ByteArray).size ≤ 140737488351232 by decide)
              have hap := hos.1.apart hzg
              have hb4 : Below wc.heap.size wg (w3.setCell ⟨wc.heap.size, 1, none⟩ (.slice (some ⟨g3, 0, none⟩) (p.names.length + 1) cap3)) := (HB3.out.mono (Nat.le_of_lt hzg)).setCell (p := ⟨wc.heap.size, 1, none⟩) (Nat.le_refl _) _
              have hst4 : Strs (w3.setCell ⟨wc.heap.size, 1, none⟩ (.slice (some ⟨g3, 0, none⟩) (p.names.length + 1) cap3)) (.slice (some ⟨g3, 0, none⟩) (p.names.length + 1) cap3) (p.names ++ [⟨#[]⟩]) := ⟨hos.strs.1.setCell 1 _ hap, hos.strs.2⟩
              have hbk4 := (HBG.out.below HB3.out).set 1 (.slice (some ⟨g3, 0, none⟩) (p.names.length + 1) cap3)
              simp only [List.set_cons_zero, List.set_cons_succ] at hbk4
              have HBW : Hid (Below wc.heap.size wc (w3.setCell ⟨wc.heap.size, 1, none⟩ (.slice (some ⟨g3, 0, none⟩) (p.names.length + 1) cap3))) := Lib.hid (HBWC.out.trans hb4)
              have HS4' := Lib.hid (HSC.out.on HBW.out)
              have HST := Lib.hid hst4
              have kx4 := HS4'.out.box.cell
              have HBK := Lib.hid hbk4
              have kb4 := hbk4.cell
              clear hos hap hb4 hst4 hbk4 kb3 fb3 kxg HO2 HO3 HB2 HB3 HG0 HSX HSG HPG HBG
              generalize w3.setCell ⟨wc.heap.size, 1, none⟩ (.slice (some ⟨g3, 0, none⟩) (p.names.length + 1) cap3) = wh at *
              have hzh : w.heap.size < wh.heap.size := HS4'.out.box.lt
              have hzh2 : wc.heap.size < wh.heap.size := HBK.out.lt
              have hmore : ProgIs (wh.alloc (.cells #[.int .i64 (p.n + 1)] 3)) (.agg #[.int .i64 (p.n + 1), .slice (some ⟨g3, 0, none⟩) (p.names.length + 1) cap3, .slice a3 p.shown.length c3, .slice a1 p.rules.length c1, .slice a5 p.min.length c5]) p.more := by
                obtain ⟨vn', vs', vr', vm', eag, hPG⟩ := (HS4'.out.on (bal (Below.refl wh.heap.size wh) (.cells #[.int .i64 (p.n + 1)] 3))).prog
                simp only [Value.agg.injEq, Array.mk.injEq, List.cons.injEq, and_true, true_and] at eag
                obtain ⟨rfl, rfl, rfl, rfl⟩ := eag
                exact ⟨_, _, _, _, rfl, show InI (p.n + 1) by (unfold InI; omega), HST.out.below (bal (Below.refl _ _) _), hPG.shown, hPG.rules, hPG.min⟩
              have HMO := Lib.hid hmore
              have HIN : Hid (Ints (wh.alloc (.cells #[.int .i64 (p.n + 1)] 3)) (.slice (some ⟨wh.heap.size, 0, none⟩) 1 1) [p.n + 1]) := Lib.hid ((Blk.new wh [.int .i64 (p.n + 1)] 3).ints1 (by unfold InI; omega))
              have HAU := Lib.hid (alone_unf HV.out (by omega))
              clear hmore
              go_wp2_with (first
                | (go_at_call 12; (with_reducible refine (unfounded_any _ _ _ p.more [] [p.n + 1] _ HMO.out (nil_bytes8 _) HIN.out).mono ?_); rintro e w6 ⟨e1, hb6⟩; rw [HAU.out] at e1; subst e1; have HB6 := Lib.hid (bon (bal (Below.refl wh.heap.size wh) _) hb6); clear hb6)
                | (go_at_call 9; (with_reducible refine (awake27_any _).mono ?_); rintro e w9 ⟨rfl, hb9⟩; have HS9 := Lib.hid (HS4'.out.on (bon HB6.out hb9)); clear hb9))
              go_ret
              exact ⟨rfl, HS9.out.below⟩
    · have hve : (validE p != 0) = true := by simp [hv]
      clear hv
      go_enter Tryz.func5, Tryz.ntmps5
      go_upto_region 1 with fail
      have kx0 := HS0.out.box.cell
      generalize w.alloc (.cells #[.int .i64 p.n, .slice a2 p.names.length c2, .slice a3 p.shown.length c3, .slice a1 p.rules.length c1, .slice a5 p.min.length c5] 27) = W at *
      go_wp2_with (first
        | (go_at_call 8; (with_reducible refine (few_any _ p _ HS0.out.prog).mono ?_); rintro e w1 ⟨h1, hb1⟩; rw [HFW.out] at h1; subst h1; have HS1 := Lib.hid (HS0.out.on hb1); have kx1 := HS1.out.box.cell; clear hb1)
        | (go_at_call 17; (with_reducible refine (valid_any _ p w1 HS1.out.prog).mono ?_); rintro e w2 ⟨rfl, hb2⟩; have HS2 := Lib.hid (HS1.out.on hb2); have kx2 := HS2.out.box.cell; clear hb2)
        | (go_at_call 9; (with_reducible refine (awake27_any _).mono ?_); rintro e w9 ⟨rfl, hb9⟩; have HS9 := Lib.hid (HS2.out.on hb9); have kx9 := HS9.out.box.cell; clear hb9))
      go_ret
      exact ⟨rfl, HS9.out.below⟩

theorem grow_law {W : World} {vp va : Value} {p : GP} {a : List Int} (hP : ProgIs W vp p) (hA : Bytes8 W va a) (x : Int) (hx : (Lit.int .u16 x).wf = true) (y : Int) (hy : (Lit.int .u16 y).wf = true) :
    Calls Tryz.prog 5 #[vp, va, .int .u16 x, .int .u16 y] W fun e w' => e = .returned (.bool true) ∧ Below W.heap.size W w' :=
  grow_walk vp va p a x y W hP hA (bounds_u16 hx) (bounds_u16 hy)

end Go.Proofs.YthclpkhaenaknaaGreatDoor
