/- My texts Rf26s, merged. -/
import Derived.Test.YtfhpfbakoiekpaaGreatDoorM22
import Derived.Test.YtfhpfbakoiekpaaGreatDoorM23

/- ostlerref26.rule: the walk (the drawn regions printed by gen/r26.py). -/
namespace Go.Proofs.YtfhpfbakoiekpaaGreatDoor
open Go.RowKit

def RlRel (r : GR) (bI : Int) (w4 : World) (o n s i : Value) (wx : World) : Prop :=
  ∃ (k : Nat) (L : List CQ), k ≤ r.body.length ∧ i = .int .i64 k ∧ s = .int .i64 (if r.sum then sumTo r.w k else 0) ∧ RU w4.heap.size o n L (negL (r.body.take k)) wx ∧ L.map (·.1) = (if r.sum then [] else (r.body.take k).map fun l => (refClause [-bI, l]).1) ∧ Below w4.heap.size w4 wx

theorem RU.alloc' {B : Nat} {vo vn : Value} {L : List CQ} {N : List Int} {wx : World} (h : RU B vo vn L N wx) (o : Obj) : RU B vo vn L N (wx.alloc o) := h.on (bal (Below.refl wx.heap.size wx) o)

theorem negL_next {l : List Int} {k : Nat} (h : k < l.length) : negL (l.take (k + 1)) = negL (l.take k) ++ [-(ix l k)] := by
  unfold negL
  rw [List.take_succ_eq_append_getElem h, List.map_append, ix_get h]
  rfl

theorem take_mapC {α : Type} (f : Int → α) {l : List Int} {j : Nat} (hj : j < l.length) : (l.take (j + 1)).map f = (l.take j).map f ++ [f (ix l j)] := by
  rw [List.take_add_one, List.getElem?_eq_getElem hj, List.map_append, ix_get hj]
  rfl

theorem MineC.mono {B B' : Nat} {v : Value} {L : List CQ} {wx : World} (h : MineC B v L wx) (hb : B' ≤ B) : MineC B' v L wx :=
  ⟨row_mono h.row hb, fun q hq => let ⟨h1, h2, h3⟩ := h.each q hq; ⟨h1.mono hb, h2.mono hb, h3⟩⟩

theorem RU.form {B : Nat} {vo vn : Value} {L : List CQ} {N : List Int} {wx : World} (h : RU B vo vn L N wx) : ∃ a n c, vo = .slice a n c := by
  rcases h.row.row.2 with ⟨rfl, _⟩ | ⟨g, cap, cur, rfl, _⟩ <;> exact ⟨_, _, _, rfl⟩

theorem runNorm26 (args : Array Value) (w : World) : (callFunc 108 args).run Tryz.prog w = .ok (.enter 108 args) w := by kernel_rfl

def rpv (vo : Value) (lo : Nat) (v4 v5 : Value) (b bd : Int) : Nat → Option Value
  | 0 => some vo
  | 2 => some (.pointer (some ⟨lo, 4, none⟩))
  | 3 => some v4
  | 5 => some (.int .i64 b)
  | 6 => some (.int .i64 (-b))
  | 10 => some (.pointer (some ⟨lo, 5, none⟩))
  | 11 => some v5
  | 13 => some (.pointer (some ⟨lo, 3, none⟩))
  | 14 => some (.int .i64 bd)
  | 17 => some (.pointer (some ⟨lo, 3, none⟩))
  | 18 => some (.int .i64 bd)
  | _ => none
def rqv (vo : Value) (lo : Nat) (vn v5 : Value) (b rest : Int) : Nat → Option Value
  | 0 => some vo
  | 2 => some vn
  | 4 => some (.int .i64 b)
  | 8 => some (.pointer (some ⟨lo, 5, none⟩))
  | 9 => some v5
  | 11 => some (.int .i64 rest)
  | 14 => some (.int .i64 rest)
  | _ => none

theorem rH_len (r : GR) (b : Int) : (rH r b).length ≤ r.body.length + 2 := by
  unfold rH
  split <;> simp

/-- The rows behind a part of the body of rule. -/
def RlM (w4 : World) (r : GR) (vn : Value) (l : List PBC) (o : Value) (wx : World) : Prop :=
  ∃ a n c L, o = .slice a n c ∧ RU w4.heap.size o vn L (negL r.body) wx ∧ L.map (·.1) = l ∧ Below w4.heap.size w4 wx

set_option maxHeartbeats 16000000 in
set_option maxRecDepth 100000 in
theorem rfrule_any (v : Value) (p : GP) (u : Nat) (w : World) (h : ProgIs w v p) (hv : validE p = 0) (hu : u < p.rules.length) :
    Calls Tryz.prog 61 #[v, .int .i64 u] w fun e w' => ∃ vo L, e = .returned vo ∧ MineC w.heap.size vo L w' ∧ L.map (·.1) = rR (ixR p.rules u) (p.n + 1 + u) ∧ Below w.heap.size w w' := by
  obtain ⟨vn, vs, vr, vmn, rfl, hn, -, -, hrules, -⟩ := h
  obtain ⟨a1, c1, rfl, -, hl1, -, hcell⟩ := hrules.form
  have hal := bal (Below.refl w.heap.size w) (.cells #[.int .i64 p.n, vn, vs, .slice a1 p.rules.length c1, vmn] 27)
  have HAL := Lib.hid hal
  have HBK := Lib.hid (Blk.new w [.int .i64 p.n, vn, vs, .slice a1 p.rules.length c1, vmn] 27)
  have hv0 := validP hv
  have hn4 := hv0.n
  have hr4 := hv0.rules
  have HV := Lib.hid hv
  obtain ⟨b, off, rfl, hbl, hc⟩ := hcell (by omega)
  obtain ⟨vh, vb, vw, hcc, hsl⟩ := hc u hu
  obtain ⟨a3, c3, rfl, -, hl3, -, -⟩ := hsl.head.form
  obtain ⟨a4, c4, rfl, -, hl4, -, -⟩ := hsl.body.form
  obtain ⟨a5, c5, rfl, -, hl5, -, -⟩ := hsl.wts.form
  have HSL := Lib.hid (hsl.below hal)
  have HCC := Lib.hid (hcc.below hal hbl)
  have hz2 := HBK.out.lt
  clear hc hcell hrules hsl hcc hal hv hv0
  go_enter Tryz.func61, Tryz.ntmps61
  go_upto_region 1 with fail
  generalize w.alloc (.cells #[.int .i64 p.n, vn, vs, .slice (some ⟨b, off, none⟩) p.rules.length c1, vmn] 27) = w2 at *
  obtain ⟨q0, q1, q2, q3, q4, q5⟩ := HCC.out
  generalize hr : ixR p.rules u = r at *
  have kx2 := HBK.out.cell
  have hbl2 : b < w2.heap.size := by omega
  have kp : ∀ e : Ext w2, ∀ o, e.world.cell? ⟨w.heap.size, o, none⟩ = _ := fun e o => (bcell e.below _ o hz2).trans (HBK.out.cell o)
  have kq : ∀ e : Ext w2, ∀ o, e.world.cell? ⟨b, o, none⟩ = w2.cell? ⟨b, o, none⟩ := fun e o => bcell e.below _ o hbl2
  refine wp_region_tail' 11 (fun w' => ∃ e : Ext w2, w' = e.world) mo4Φ (fun i => i == 10) (by kernel_rfl) (by kernel_rfl) (by kernel_rfl) (fun w' hb => ⟨⟨w', hb⟩, rfl⟩) mo4Φ_later ?_
  simp only [List.take_succ_cons, List.take_zero, List.drop_succ_cons, List.drop_zero]
  iterate 5 (refine walkP_head (by kernel_rfl) rfl rfl rfl (fun K hK => ?_); go_big_quiet_op; refine hK _ ?_; clear hK K)
  iterate 5 (refine walkP_late (by kernel_rfl) rfl rfl rfl (fun K hK => ?_); go_big_quiet_op; refine hK _ ?_; clear hK K)
  refine walkP_mem rfl rfl (fun wa hba hFa => ?_) (fun v10 lo hi l10 g10 h10 => ?_)
  · go_simp
    exact ⟨bal (Below.refl _ _) _, rfl, rfl, by simp, Blk.new _ _ _⟩
  obtain ⟨_, -, rfl, -, -⟩ := h10
  simp only [Act.put, List.setIfInBounds_toArray, List.set_cons_succ, List.set_cons_zero]
  intro wx hbx hF hI hP
  obtain ⟨-, -, -, f10⟩ := hF _ (.head _)
  have kf10 := f10.free
  have kc10 := f10.cell
  have HF10 := Lib.hid f10
  have HBX := Lib.hid hbx
  clear hF hI hP f10 hbx kx2 kp kq q0 q1 q2 q3 q4 q5
  iterate 1 (refine ⟨rfl, rfl, ?_⟩; go_simp)
  simp only [tailW]
  have hb4 := (((((HBX.out.setCell (p := ⟨lo, 0, none⟩) l10 (.bool r.choice)).setCell (p := ⟨lo, 1, none⟩) l10 (.slice a3 r.head.length c3)).setCell (p := ⟨lo, 2, none⟩) l10 (.bool r.sum)).setCell (p := ⟨lo, 3, none⟩) l10 (.int .i64 r.bound)).setCell (p := ⟨lo, 4, none⟩) l10 (.slice a4 r.body.length c4)).setCell (p := ⟨lo, 5, none⟩) l10 (.slice a5 r.w.length c5)
  have hk4 := (((((HF10.out.set 0 (.bool r.choice)).set 1 (.slice a3 r.head.length c3)).set 2 (.bool r.sum)).set 3 (.int .i64 r.bound)).set 4 (.slice a4 r.body.length c4)).set 5 (.slice a5 r.w.length c5)
  refine ⟨⟨⟨_, hb4⟩, rfl⟩, rfl, ?_⟩
  have HB4 := Lib.hid hb4
  have HK4 : Hid (Blk _ lo [.bool r.choice, .slice a3 r.head.length c3, .bool r.sum, .int .i64 r.bound, .slice a4 r.body.length c4, .slice a5 r.w.length c5] 54) := Lib.hid hk4
  clear hb4 hk4
  generalize World.setCell _ ⟨lo, 5, none⟩ (.slice a5 r.w.length c5) = w4 at *
  go_simp
  refine ⟨rfl, ⟨⟨_, HB4.out⟩, rfl⟩, ?_⟩
  have HBW := Lib.hid (HAL.out.trans (HB4.out.mono (Nat.le_of_lt hz2)))
  have HLO := Lib.hid HK4.out.lt
  clear HF10 HBX kf10 kc10
  go_upto_region 6 with fail
  have hbI : 1 ≤ p.n + 1 + (u : Int) ∧ p.n + 1 + (u : Int) ≤ 44001 := by omega
  have hbl4 := (bodyOk_valid HV.out hu).len
  rw [hr] at hbl4
  have HOK : Hid (BodyOk r) := Lib.hid (by rw [← hr]; exact bodyOk_valid HV.out hu)
  have HLT : Hid (∀ x ∈ r.body, x ≠ 0 ∧ -p.n ≤ x ∧ x ≤ p.n) := Lib.hid (fun x hx => ordered_lit ((validP HV.out).body u hu) (by rw [hr]; exact hx))
  have HR := Lib.hid hr
  clear hr
  have HRV : Hid (RuleV r p.n) := Lib.hid (by rw [← HR.out]; exact (compV_valid HV.out).rule u hu)
  have HSB : Hid (r.sum = true → ∀ k, k ≤ r.w.length → 0 ≤ sumTo r.w k ∧ sumTo r.w k ≤ 1048576) := Lib.hid (fun hs k hk => by
    obtain ⟨-, g2, g3, -⟩ := HRV.out.sum hs
    have h1 := sumTo_mono g2 r.w.length k hk (Nat.le_refl _)
    have h2 := (sumTo_ge g2 k hk).1
    omega)
  generalize hbe : p.n + 1 + (u : Int) = bI at *
  have HBE := Lib.hid hbe
  clear hbe
  generalize Value.agg #[.bool r.choice, .slice a3 r.head.length c3, .bool r.sum, .int .i64 r.bound, .slice a4 r.body.length c4, .slice a5 r.w.length c5] = ag16
  have hwn : IntKind.i64.wrap (-bI) = -bI := by rw [IntKind.wrap_i64]; omega
  have HNB : Hid (InI (-bI)) := Lib.hid (by unfold InI; omega)
  have HPB : Hid (InI bI) := Lib.hid (by unfold InI; omega)
  have HLB : Hid (r.body.length ≤ 8000) := Lib.hid HRV.out.len.1
  have HLH : Hid (r.head.length ≤ 8000) := Lib.hid HRV.out.len.2
  go_loopw [7, 8, 9, 10] (fun o n s i wx => RlRel r bI w4 o n s i wx) (fun _ _ _ i _ => r.body.length - (intOf i).toNat)
  case atStart =>
    refine ⟨0, [], Nat.zero_le _, rfl, ?_, RU.start _ _, ?_, Below.refl _ _⟩
    · cases r.sum <;> rfl
    · cases r.sum <;> rfl
  case round =>
    obtain ⟨k, L, hk, rfl, rfl, hru, hL, hb⟩ := hrel
    have HL := Lib.hid hL
    have HB := Lib.hid hb
    have hbr := HB4.out.trans (hb.mono HB4.out.size)
    have kx := (HK4.out.below hb).cell
    have hlo4 := HLO.out
    have hzr := hb.size
    obtain ⟨an, cn, rfl⟩ := hru.neg.slen
    obtain ⟨ao, no, co, rfl⟩ := hru.form
    have HRU := Lib.hid hru
    have hnl : (negL (r.body.take k)).length ≤ 8000 := by simp [negL]; omega
    have HNL := Lib.hid hnl
    have HLL : Hid (L.length ≤ 8000) := Lib.hid (by
      have e := congrArg List.length hL
      rw [List.length_map] at e
      rw [e]
      split
      · simp
      · simp only [List.length_map, List.length_take]
        omega)
    clear hnl
    by_cases hlt : k < r.body.length
    · obtain ⟨bb, ob, rfl, hbb, hk0⟩ := HSL.out.body.at hlt
      have hkb := (bcell hbr _ _ hbb).trans hk0
      have hxl := HLT.out _ (ix_mem hlt)
      have HNX := Lib.hid (negL_next hlt)
      have HXI : Hid (InI (-(ix r.body k))) := Lib.hid (by unfold InI; omega)
      have HXJ : Hid (InI (ix r.body k)) := Lib.hid (by unfold InI; omega)
      clear hru hL hb
      go_upto_region 9 with (at_builtin; go_must (refine wpList_appendQ rfl _ _ 23 Tryz.underlying23 rfl w4.heap.size _ (negL (r.body.take k)) (-(ix r.body k)) rfl (HRU.out.alloc' (.cells #[.int .i64 (-(ix r.body k))] 3)).neg wr.heap.size 1 rfl (Blk.new wr [.int .i64 (-(ix r.body k))] _) HXI.out (by have := HNL.out; omega) (by simp; omega) ?_; intro v5 w5 hq5 hg5 ho5; have HR5 := Lib.hid ((HRU.out.alloc' _).grow hq5 hg5 ho5); have HB5 := Lib.hid (below_grown HB.out (fun g e => (HRU.out.neg.base e).1) hg5); obtain ⟨a5n, n5, c5n, rfl⟩ := hq5.form; clear hq5 hg5 ho5))
      rw [← HNX.out] at HR5
      have hbr5 := HB4.out.trans (HB5.out.mono HB4.out.size)
      have kx5 := (HK4.out.below HB5.out).cell
      have hz5 := HB5.out.size
      clear kx
      cases hs : r.sum with
      | true =>
        rw [hs] at HL kx5
        obtain ⟨b6, o6, rfl, hb6, hk6⟩ := (HSL.out.wts.below hbr5).at (show k < r.w.length by rw [HOK.out.wlen hs]; exact hlt)
        have hlw : k < r.w.length := by rw [HOK.out.wlen hs]; exact hlt
        have hw6 := HOK.out.w hs k hlw
        have hsm := HSB.out hs k (by rw [HOK.out.wlen hs]; exact hk)
        have HSN : Hid (sumTo r.w (k + 1) = sumTo r.w k + ix r.w k) := Lib.hid rfl
        rw [if_pos rfl]
        rw [if_pos rfl] at HL
        clear hkb
        go_wp2
        go_roundw
        case rel =>
          exact ⟨k + 1, L, hlt, by go_num, by rw [hs, if_pos rfl, HSN.out], HR5.out, by rw [hs, if_pos rfl]; exact HL.out, HB5.out⟩
        case measure => (simp [intOf]; omega)
      | false =>
        rw [hs] at HL kx5
        have hkb5 := (bcell hbr5 _ _ hbb).trans hk0
        rw [if_neg Bool.false_ne_true]
        rw [if_neg Bool.false_ne_true] at HL
        obtain ⟨c, hc⟩ : ∃ c, (refClause [-bI, ix r.body k]).1 = c := ⟨_, rfl⟩
        have HCN : Hid (∀ v w, Ints w v [-bI, ix r.body k] → _) := Lib.hid (fun v w h => hc ▸ rfclause_any v _ w h (by simp))
        have HCE := Lib.hid hc
        have hal5 := bal (Below.refl w5.heap.size w5) (.cells #[.int .i64 (-bI), .int .i64 (ix r.body k)] 3)
        have HI6 : Hid (Ints (w5.alloc (.cells #[.int .i64 (-bI), .int .i64 (ix r.body k)] 3)) (.slice (some ⟨w5.heap.size, 0, none⟩) 2 2) [-bI, ix r.body k]) :=
          Lib.hid (Blk.ints (l := [-bI, ix r.body k]) (Blk.new w5 [.int .i64 (-bI), .int .i64 (ix r.body k)] _) (fitI (by simp only [List.mem_cons, List.not_mem_nil, or_false]; rintro x (rfl | rfl); exact HNB.out; exact HXJ.out)) (by simp))
        have HR6 := Lib.hid (HR5.out.on hal5)
        have HB6 := Lib.hid (bon HB5.out hal5)
        have HTM := Lib.hid (take_mapC (fun l => (refClause [-bI, l]).1) hlt)
        clear hc hal5 hkb
        go_wp2_with (first
          | (at_builtin; refine wpList_pushC rfl _ _ rfl w4.heap.size _ L rfl HR8.out.row.row al ak _ cl _ ck _ w7.heap.size 1 rfl HN8.out (by have := HLL.out; omega) (by have := HB8.out.size; omega) ?_; intro g9 cap9 w9 hown9 hg9; obtain ⟨L9, l1, l2, l3⟩ := HR8.out.pushed HQ8.out.1 HQ8.out.2.1 HB6.out.size (fun g e => HR6.out.lt g e) HQ8.out.2.2 hown9 hg9; have HB9 := Lib.hid (HR8.out.kept HB8.out (Nat.le_refl _) hg9); have HR9 := Lib.hid l3; have HL9 := Lib.hid l2; clear hown9 hg9 l1 l2 l3)
          | (go_at_call 62; (with_reducible refine (HCN.out _ _ HI6.out).mono ?_); rintro e w7 ⟨vp, rfl, ⟨ul, uk, rfl, hq1, hq2, hq3⟩, hb7⟩; obtain ⟨al, cl, rfl⟩ := hq1.slen; obtain ⟨ak, ck, rfl⟩ := hq2.slen; have hal8 := bal (Below.refl w7.heap.size w7) (.cells #[.slice al c.lits.length cl, .slice ak c.coefs.length ck, .int .i64 c.bound] 30); have HR8 := Lib.hid (HR6.out.on (bon hb7 hal8)); have HB8 := Lib.hid (bon (bon HB6.out hb7) hal8); have HQ8 := Lib.hid (And.intro (hq1.below hal8) (And.intro (hq2.below hal8) hq3)); have HN8 := Lib.hid (Blk.new w7 [.slice al c.lits.length cl, .slice ak c.coefs.length ck, .int .i64 c.bound] 30); clear hq1 hq2 hq3 hb7 hal8))
        go_roundw
        case rel =>
          exact ⟨k + 1, L9, hlt, by go_num, by rw [hs]; rfl, HR9.out, by rw [hs, if_neg Bool.false_ne_true, HTM.out, HL9.out, HL.out, HCE.out], HB9.out⟩
        case measure => (simp [intOf]; omega)
    · obtain rfl : k = r.body.length := by omega
      have hL0 := HL.out
      have hru0 := HRU.out
      rw [List.take_length] at hL0 hru0
      have hnn : (negL (r.body.take r.body.length)).length = (negL r.body).length := by rw [List.take_length]
      rw [hnn]
      clear HRU HL hru hL
      have HRU := Lib.hid hru0
      have HL := Lib.hid hL0
      have HIN := Lib.hid (hru0.neg.ints (by rw [negL_len]; have := HLB.out; omega))
      have HIB := Lib.hid (HSL.out.body.below hbr)
      have HIW := Lib.hid (HSL.out.wts.below hbr)
      have HLK := Lib.hid (HK4.out.below hb)
      have HBS := Lib.hid hb
      clear hru0 hL0 hnn
      obtain ⟨S0, hS0⟩ : ∃ q, (if r.sum = true then sumTo r.w r.body.length else 0) = q := ⟨_, rfl⟩
      rw [hS0]
      have HS0 := Lib.hid hS0
      clear hS0
      go_upto_if 60 with fail
      go_cut [7, 11] (fun o _ wx => RlM w4 r (.slice an (negL r.body).length cn) (rH r bI) o wx)
      case first =>
        cases hs : r.sum with
        | true =>
          rw [hs] at kx HL HS0
          rw [if_pos rfl] at HL HS0
          obtain ⟨g1, g2, g3, g4, g5⟩ := HRV.out.sum hs
          have HLW : Hid (r.w.length ≤ 8000) := Lib.hid (by have := HLB.out; omega)
          have HBD : Hid (InI r.bound) := Lib.hid (by unfold InI; omega)
          have HLN : Hid (L.length ≤ 8001) := Lib.hid (by have := HLL.out; omega)
          have hsm := HSB.out hs r.w.length (Nat.le_refl _)
          have hS0 := HS0.out
          rw [g1] at hS0
          have HRE : Hid (S0 - r.bound + 1 = restI r) := Lib.hid (by unfold restI; omega)
          rw [hS0] at hsm
          have HSS := Lib.hid hs
          clear g1 g2 hS0 hs
          go_upto_region 13 with fail
          refine wp_region_invK (RrP.J wr (rpv (.slice ao no co) lo (.slice a4 r.body.length c4) (.slice a5 r.w.length c5) bI r.bound) r.body r.w (-bI) r.bound (normP (r.body ++ [-bI]) (r.w ++ [r.bound]) r.bound).1 (fun v wy => ∃ g cap L', v = .slice (some ⟨g, 0, none⟩) (L.length + 1) cap ∧ L'.length = L.length + 1 ∧ L'.map (·.1) = L.map (·.1) ++ [(normP (r.body ++ [-bI]) (r.w ++ [r.bound]) r.bound).1] ∧ RU w4.heap.size v (.slice an (negL r.body).length cn) L' (negL r.body) wy ∧ Below w4.heap.size w4 wy)) (by kernel_rfl) (by kernel_rfl) RrP.start0 ?step ?fin
          case step =>
            intro i hi18 vals Lf wx hL hdep hcl hW
            have h18 : i < 23 := hi18
            rcases (by omega : i = 0 ∨ i = 1 ∨ i = 2 ∨ i = 3 ∨ i = 4 ∨ i = 5 ∨ i = 6 ∨ i = 7 ∨ i = 8 ∨ i = 9 ∨ i = 10 ∨ i = 11 ∨ i = 12 ∨ i = 13 ∨ i = 14 ∨ i = 15 ∨ i = 16 ∨ i = 17 ∨ i = 18 ∨ i = 19 ∨ i = 20 ∨ i = 21 ∨ i = 22) with rfl | rfl | rfl | rfl | rfl | rfl | rfl | rfl | rfl | rfl | rfl | rfl | rfl | rfl | rfl | rfl | rfl | rfl | rfl | rfl | rfl | rfl | rfl
            · have hz : Lf 21 = false := (by
                cases e : Lf 21 with
                | false => rfl
                | true => rw [hcl 21 (by decide) e 0 (by decide) (by kernel_rfl)] at hL; cases hL)
              have HW := Lib.hid (RrP.J.out hz hW)
              clear hW
              refine StepK.of rfl rfl (fun K' hK => ?_)
              simp only [opAt, List.getD_cons_zero, Afr, fr, Act.put, List.setIfInBounds_toArray, List.set_cons_succ, List.set_cons_zero] at hK ⊢
              go_simp
              exact hK _ _ (RrP.J.on hz (by decide) (HW.out.quiet (by omega) rfl))
            · have hz : Lf 21 = false := (by
                cases e : Lf 21 with
                | false => rfl
                | true => rw [hcl 21 (by decide) e 1 (by decide) (by kernel_rfl)] at hL; cases hL)
              have HW := Lib.hid (RrP.J.out hz hW)
              clear hW
              have h19 : Lf 19 = false := (by
                cases e : Lf 19 with
                | false => rfl
                | true => rw [hcl 19 (by decide) e 1 (by decide) (by kernel_rfl)] at hL; cases hL)
              have h20 : Lf 20 = false := (by
                cases e : Lf 20 with
                | false => rfl
                | true => rw [hcl 20 (by decide) e 1 (by decide) (by kernel_rfl)] at hL; cases hL)
              refine StepK.of rfl rfl (fun K' hK => ?_)
              simp only [opAt, List.getD_cons_zero, List.getD_cons_succ, Afr, fr, dstOf, if_true, List.getElem?_toArray, List.getElem?_cons_zero, Option.bind_some, Act.put, List.setIfInBounds_toArray, List.set_cons_succ, List.set_cons_zero] at hK ⊢
              go_simp
              have hal := bal (Below.refl wx.heap.size wx) (.cells #[] 3)
              exact hK _ _ (RrP.J.on hz (by decide) (HW.out.step rfl (by decide) h19 h20 (bon HW.out.below hal) (HW.out.rows.new hal (qrow_zero wx) HW.out.below.size RrP.z1)))
            · have hz : Lf 21 = false := (by
                cases e : Lf 21 with
                | false => rfl
                | true => rw [hcl 21 (by decide) e 2 (by decide) (by kernel_rfl)] at hL; cases hL)
              have HW := Lib.hid (RrP.J.out hz hW)
              clear hW
              refine StepK.of rfl rfl (fun K' hK => ?_)
              simp only [opAt, List.getD_cons_zero, List.getD_cons_succ, Afr, fr, dstOf, if_true, List.getElem?_toArray, List.getElem?_cons_zero, List.getElem?_cons_succ, Option.bind_some, Act.put, List.setIfInBounds_toArray, List.set_cons_succ, List.set_cons_zero] at hK ⊢
              go_simp
              exact hK _ _ (RrP.J.on hz (by decide) (HW.out.quiet (by omega) rfl))
            · have hz : Lf 21 = false := (by
                cases e : Lf 21 with
                | false => rfl
                | true => rw [hcl 21 (by decide) e 3 (by decide) (by kernel_rfl)] at hL; cases hL)
              have HW := Lib.hid (RrP.J.out hz hW)
              clear hW
              have v2 := HW.out.q 2 _ rfl (hdep 2 (by decide) (by kernel_rfl))
              have hc := (HLK.out.below HW.out.below).cell 4
              simp only [List.getElem?_cons_zero, List.getElem?_cons_succ] at hc
              refine StepK.of rfl rfl (fun K' hK => ?_)
              simp only [v2, opAt, List.getD_cons_zero, List.getD_cons_succ, Afr, fr, dstOf, if_true, List.getElem?_toArray, List.getElem?_cons_zero, List.getElem?_cons_succ, Option.bind_some, Act.put, List.setIfInBounds_toArray, List.set_cons_succ, List.set_cons_zero] at hK ⊢
              go_simp
              exact hK _ _ (RrP.J.on hz (by decide) (HW.out.quiet (by omega) rfl))
            · have hz : Lf 21 = false := (by
                cases e : Lf 21 with
                | false => rfl
                | true => rw [hcl 21 (by decide) e 4 (by decide) (by kernel_rfl)] at hL; cases hL)
              have HW := Lib.hid (RrP.J.out hz hW)
              clear hW
              have v3 := HW.out.q 3 _ rfl (hdep 3 (by decide) (by kernel_rfl))
              have h19 : Lf 19 = false := (by
                cases e : Lf 19 with
                | false => rfl
                | true => rw [hcl 19 (by decide) e 4 (by decide) (by kernel_rfl)] at hL; cases hL)
              have h20 : Lf 20 = false := (by
                cases e : Lf 20 with
                | false => rfl
                | true => rw [hcl 20 (by decide) e 4 (by decide) (by kernel_rfl)] at hL; cases hL)
              have hzz := (hdep 1 (by decide) (by kernel_rfl))
              have hlv : RrP.live (r.body) (r.w) (-bI) (r.bound) Lf 1 = some [] := by simp [RrP.live, hL, hzz]
              refine StepK.of rfl rfl (fun K' hK => ?_)
              simp only [v3, opAt, List.getD_cons_zero, List.getD_cons_succ, Afr, fr, dstOf, if_true, List.getElem?_toArray, List.getElem?_cons_zero, List.getElem?_cons_succ, Option.bind_some, Act.put, List.setIfInBounds_toArray, List.set_cons_succ, List.set_cons_zero] at hK ⊢
              refine wp_appendQs (.tmp 62) (.tmp 64) rfl wr.heap.size _ _ [] (r.body) rfl rfl (HW.out.rows.row 1 _ hlv) (HIB.out.below HW.out.below) (by simp only [List.length_nil]; have := HLB.out; have := HLW.out; omega) HW.out.below.size ?_
              intro v9 w9 hq9 hg9 ho9
              rw [List.nil_append] at hq9
              exact hK _ _ (RrP.J.on hz (by decide) (HW.out.step rfl (by decide) h19 h20 (HW.out.rows.below hlv HW.out.below (Nat.le_refl _) hg9) (HW.out.rows.app hlv hq9 hg9 ho9 RrP.s1)))
            · have hz : Lf 21 = false := (by
                cases e : Lf 21 with
                | false => rfl
                | true => rw [hcl 21 (by decide) e 5 (by decide) (by kernel_rfl)] at hL; cases hL)
              have HW := Lib.hid (RrP.J.out hz hW)
              clear hW
              refine StepK.of rfl rfl (fun K' hK => ?_)
              simp only [opAt, List.getD_cons_zero, List.getD_cons_succ, Afr, fr, dstOf, if_true, List.getElem?_toArray, List.getElem?_cons_zero, List.getElem?_cons_succ, Option.bind_some, Act.put, List.setIfInBounds_toArray, List.set_cons_succ, List.set_cons_zero] at hK ⊢
              go_simp
              exact hK _ _ (RrP.J.on hz (by decide) (HW.out.quiet (by omega) rfl))
            · have hz : Lf 21 = false := (by
                cases e : Lf 21 with
                | false => rfl
                | true => rw [hcl 21 (by decide) e 6 (by decide) (by kernel_rfl)] at hL; cases hL)
              have HW := Lib.hid (RrP.J.out hz hW)
              clear hW
              have v5 := HW.out.q 5 _ rfl (hdep 5 (by decide) (by kernel_rfl))
              refine StepK.of rfl rfl (fun K' hK => ?_)
              simp only [v5, opAt, List.getD_cons_zero, List.getD_cons_succ, Afr, fr, dstOf, if_true, List.getElem?_toArray, List.getElem?_cons_zero, List.getElem?_cons_succ, Option.bind_some, Act.put, List.setIfInBounds_toArray, List.set_cons_succ, List.set_cons_zero] at hK ⊢
              go_simp
              exact hK _ _ (RrP.J.on hz (by decide) (HW.out.quiet (by omega) rfl))
            · have hz : Lf 21 = false := (by
                cases e : Lf 21 with
                | false => rfl
                | true => rw [hcl 21 (by decide) e 7 (by decide) (by kernel_rfl)] at hL; cases hL)
              have HW := Lib.hid (RrP.J.out hz hW)
              clear hW
              have v6 := HW.out.q 6 _ rfl (hdep 6 (by decide) (by kernel_rfl))
              have h19 : Lf 19 = false := (by
                cases e : Lf 19 with
                | false => rfl
                | true => rw [hcl 19 (by decide) e 7 (by decide) (by kernel_rfl)] at hL; cases hL)
              have h20 : Lf 20 = false := (by
                cases e : Lf 20 with
                | false => rfl
                | true => rw [hcl 20 (by decide) e 7 (by decide) (by kernel_rfl)] at hL; cases hL)
              refine StepK.of rfl rfl (fun K' hK => ?_)
              simp only [v6, opAt, List.getD_cons_zero, List.getD_cons_succ, Afr, fr, dstOf, if_true, List.getElem?_toArray, List.getElem?_cons_zero, List.getElem?_cons_succ, Option.bind_some, Act.put, List.setIfInBounds_toArray, List.set_cons_succ, List.set_cons_zero] at hK ⊢
              go_simp
              have hal := bal (Below.refl wx.heap.size wx) (.cells #[.int .i64 (-bI)] 3)
              exact hK _ _ (RrP.J.on hz (by decide) (HW.out.step rfl (by decide) h19 h20 (bon HW.out.below hal) (HW.out.rows.new hal (qrow_box HNB.out wx) HW.out.below.size RrP.b1)))
            · have hz : Lf 21 = false := (by
                cases e : Lf 21 with
                | false => rfl
                | true => rw [hcl 21 (by decide) e 8 (by decide) (by kernel_rfl)] at hL; cases hL)
              have HW := Lib.hid (RrP.J.out hz hW)
              clear hW
              have h19 : Lf 19 = false := (by
                cases e : Lf 19 with
                | false => rfl
                | true => rw [hcl 19 (by decide) e 8 (by decide) (by kernel_rfl)] at hL; cases hL)
              have h20 : Lf 20 = false := (by
                cases e : Lf 20 with
                | false => rfl
                | true => rw [hcl 20 (by decide) e 8 (by decide) (by kernel_rfl)] at hL; cases hL)
              have hzz := (hdep 4 (by decide) (by kernel_rfl))
              have hbb := (hdep 7 (by decide) (by kernel_rfl))
              have hlv : RrP.live (r.body) (r.w) (-bI) (r.bound) Lf 4 = some (r.body) := by simp [RrP.live, hL, hzz]
              have hlb : RrP.live (r.body) (r.w) (-bI) (r.bound) Lf 7 = some [-bI] := by simp [RrP.live, hL, hbb]
              refine StepK.of rfl rfl (fun K' hK => ?_)
              simp only [opAt, List.getD_cons_zero, List.getD_cons_succ, Afr, fr, dstOf, if_true, List.getElem?_toArray, List.getElem?_cons_zero, List.getElem?_cons_succ, Option.bind_some, Act.put, List.setIfInBounds_toArray, List.set_cons_succ, List.set_cons_zero] at hK ⊢
              refine wp_appendQs (.tmp 65) (.tmp 68) rfl wr.heap.size _ _ (r.body) [-bI] rfl rfl (HW.out.rows.row 4 _ hlv) ((HW.out.rows.row 7 _ hlb).ints (by simp)) (by simp only [List.length_singleton]; have := HLB.out; have := HLW.out; omega) HW.out.below.size ?_
              intro v9 w9 hq9 hg9 ho9
              exact hK _ _ (RrP.J.on hz (by decide) (HW.out.step rfl (by decide) h19 h20 (HW.out.rows.below hlv HW.out.below (Nat.le_refl _) hg9) (HW.out.rows.app hlv hq9 hg9 ho9 RrP.a1)))
            · have hz : Lf 21 = false := (by
                cases e : Lf 21 with
                | false => rfl
                | true => rw [hcl 21 (by decide) e 9 (by decide) (by kernel_rfl)] at hL; cases hL)
              have HW := Lib.hid (RrP.J.out hz hW)
              clear hW
              have h19 : Lf 19 = false := (by
                cases e : Lf 19 with
                | false => rfl
                | true => rw [hcl 19 (by decide) e 9 (by decide) (by kernel_rfl)] at hL; cases hL)
              have h20 : Lf 20 = false := (by
                cases e : Lf 20 with
                | false => rfl
                | true => rw [hcl 20 (by decide) e 9 (by decide) (by kernel_rfl)] at hL; cases hL)
              refine StepK.of rfl rfl (fun K' hK => ?_)
              simp only [opAt, List.getD_cons_zero, List.getD_cons_succ, Afr, fr, dstOf, if_true, List.getElem?_toArray, List.getElem?_cons_zero, List.getElem?_cons_succ, Option.bind_some, Act.put, List.setIfInBounds_toArray, List.set_cons_succ, List.set_cons_zero] at hK ⊢
              go_simp
              have hal := bal (Below.refl wx.heap.size wx) (.cells #[] 3)
              exact hK _ _ (RrP.J.on hz (by decide) (HW.out.step rfl (by decide) h19 h20 (bon HW.out.below hal) (HW.out.rows.new hal (qrow_zero wx) HW.out.below.size RrP.z2)))
            · have hz : Lf 21 = false := (by
                cases e : Lf 21 with
                | false => rfl
                | true => rw [hcl 21 (by decide) e 10 (by decide) (by kernel_rfl)] at hL; cases hL)
              have HW := Lib.hid (RrP.J.out hz hW)
              clear hW
              refine StepK.of rfl rfl (fun K' hK => ?_)
              simp only [opAt, List.getD_cons_zero, List.getD_cons_succ, Afr, fr, dstOf, if_true, List.getElem?_toArray, List.getElem?_cons_zero, List.getElem?_cons_succ, Option.bind_some, Act.put, List.setIfInBounds_toArray, List.set_cons_succ, List.set_cons_zero] at hK ⊢
              go_simp
              exact hK _ _ (RrP.J.on hz (by decide) (HW.out.quiet (by omega) rfl))
            · have hz : Lf 21 = false := (by
                cases e : Lf 21 with
                | false => rfl
                | true => rw [hcl 21 (by decide) e 11 (by decide) (by kernel_rfl)] at hL; cases hL)
              have HW := Lib.hid (RrP.J.out hz hW)
              clear hW
              have v10 := HW.out.q 10 _ rfl (hdep 10 (by decide) (by kernel_rfl))
              have hc := (HLK.out.below HW.out.below).cell 5
              simp only [List.getElem?_cons_zero, List.getElem?_cons_succ] at hc
              refine StepK.of rfl rfl (fun K' hK => ?_)
              simp only [v10, opAt, List.getD_cons_zero, List.getD_cons_succ, Afr, fr, dstOf, if_true, List.getElem?_toArray, List.getElem?_cons_zero, List.getElem?_cons_succ, Option.bind_some, Act.put, List.setIfInBounds_toArray, List.set_cons_succ, List.set_cons_zero] at hK ⊢
              go_simp
              exact hK _ _ (RrP.J.on hz (by decide) (HW.out.quiet (by omega) rfl))
            · have hz : Lf 21 = false := (by
                cases e : Lf 21 with
                | false => rfl
                | true => rw [hcl 21 (by decide) e 12 (by decide) (by kernel_rfl)] at hL; cases hL)
              have HW := Lib.hid (RrP.J.out hz hW)
              clear hW
              have v11 := HW.out.q 11 _ rfl (hdep 11 (by decide) (by kernel_rfl))
              have h19 : Lf 19 = false := (by
                cases e : Lf 19 with
                | false => rfl
                | true => rw [hcl 19 (by decide) e 12 (by decide) (by kernel_rfl)] at hL; cases hL)
              have h20 : Lf 20 = false := (by
                cases e : Lf 20 with
                | false => rfl
                | true => rw [hcl 20 (by decide) e 12 (by decide) (by kernel_rfl)] at hL; cases hL)
              have hzz := (hdep 9 (by decide) (by kernel_rfl))
              have hlv : RrP.live (r.body) (r.w) (-bI) (r.bound) Lf 9 = some [] := by simp [RrP.live, hL, hzz]
              refine StepK.of rfl rfl (fun K' hK => ?_)
              simp only [v11, opAt, List.getD_cons_zero, List.getD_cons_succ, Afr, fr, dstOf, if_true, List.getElem?_toArray, List.getElem?_cons_zero, List.getElem?_cons_succ, Option.bind_some, Act.put, List.setIfInBounds_toArray, List.set_cons_succ, List.set_cons_zero] at hK ⊢
              refine wp_appendQs (.tmp 70) (.tmp 72) rfl wr.heap.size _ _ [] (r.w) rfl rfl (HW.out.rows.row 9 _ hlv) (HIW.out.below HW.out.below) (by simp only [List.length_nil]; have := HLB.out; have := HLW.out; omega) HW.out.below.size ?_
              intro v9 w9 hq9 hg9 ho9
              rw [List.nil_append] at hq9
              exact hK _ _ (RrP.J.on hz (by decide) (HW.out.step rfl (by decide) h19 h20 (HW.out.rows.below hlv HW.out.below (Nat.le_refl _) hg9) (HW.out.rows.app hlv hq9 hg9 ho9 RrP.s2)))
            · have hz : Lf 21 = false := (by
                cases e : Lf 21 with
                | false => rfl
                | true => rw [hcl 21 (by decide) e 13 (by decide) (by kernel_rfl)] at hL; cases hL)
              have HW := Lib.hid (RrP.J.out hz hW)
              clear hW
              refine StepK.of rfl rfl (fun K' hK => ?_)
              simp only [opAt, List.getD_cons_zero, List.getD_cons_succ, Afr, fr, dstOf, if_true, List.getElem?_toArray, List.getElem?_cons_zero, List.getElem?_cons_succ, Option.bind_some, Act.put, List.setIfInBounds_toArray, List.set_cons_succ, List.set_cons_zero] at hK ⊢
              go_simp
              exact hK _ _ (RrP.J.on hz (by decide) (HW.out.quiet (by omega) rfl))
            · have hz : Lf 21 = false := (by
                cases e : Lf 21 with
                | false => rfl
                | true => rw [hcl 21 (by decide) e 14 (by decide) (by kernel_rfl)] at hL; cases hL)
              have HW := Lib.hid (RrP.J.out hz hW)
              clear hW
              have v13 := HW.out.q 13 _ rfl (hdep 13 (by decide) (by kernel_rfl))
              have hc := (HLK.out.below HW.out.below).cell 3
              simp only [List.getElem?_cons_zero, List.getElem?_cons_succ] at hc
              refine StepK.of rfl rfl (fun K' hK => ?_)
              simp only [v13, opAt, List.getD_cons_zero, List.getD_cons_succ, Afr, fr, dstOf, if_true, List.getElem?_toArray, List.getElem?_cons_zero, List.getElem?_cons_succ, Option.bind_some, Act.put, List.setIfInBounds_toArray, List.set_cons_succ, List.set_cons_zero] at hK ⊢
              go_simp
              exact hK _ _ (RrP.J.on hz (by decide) (HW.out.quiet (by omega) rfl))
            · have hz : Lf 21 = false := (by
                cases e : Lf 21 with
                | false => rfl
                | true => rw [hcl 21 (by decide) e 15 (by decide) (by kernel_rfl)] at hL; cases hL)
              have HW := Lib.hid (RrP.J.out hz hW)
              clear hW
              have v14 := HW.out.q 14 _ rfl (hdep 14 (by decide) (by kernel_rfl))
              have h19 : Lf 19 = false := (by
                cases e : Lf 19 with
                | false => rfl
                | true => rw [hcl 19 (by decide) e 15 (by decide) (by kernel_rfl)] at hL; cases hL)
              have h20 : Lf 20 = false := (by
                cases e : Lf 20 with
                | false => rfl
                | true => rw [hcl 20 (by decide) e 15 (by decide) (by kernel_rfl)] at hL; cases hL)
              refine StepK.of rfl rfl (fun K' hK => ?_)
              simp only [v14, opAt, List.getD_cons_zero, List.getD_cons_succ, Afr, fr, dstOf, if_true, List.getElem?_toArray, List.getElem?_cons_zero, List.getElem?_cons_succ, Option.bind_some, Act.put, List.setIfInBounds_toArray, List.set_cons_succ, List.set_cons_zero] at hK ⊢
              go_simp
              have hal := bal (Below.refl wx.heap.size wx) (.cells #[.int .i64 (r.bound)] 3)
              exact hK _ _ (RrP.J.on hz (by decide) (HW.out.step rfl (by decide) h19 h20 (bon HW.out.below hal) (HW.out.rows.new hal (qrow_box HBD.out wx) HW.out.below.size RrP.b2)))
            · have hz : Lf 21 = false := (by
                cases e : Lf 21 with
                | false => rfl
                | true => rw [hcl 21 (by decide) e 16 (by decide) (by kernel_rfl)] at hL; cases hL)
              have HW := Lib.hid (RrP.J.out hz hW)
              clear hW
              have h19 : Lf 19 = false := (by
                cases e : Lf 19 with
                | false => rfl
                | true => rw [hcl 19 (by decide) e 16 (by decide) (by kernel_rfl)] at hL; cases hL)
              have h20 : Lf 20 = false := (by
                cases e : Lf 20 with
                | false => rfl
                | true => rw [hcl 20 (by decide) e 16 (by decide) (by kernel_rfl)] at hL; cases hL)
              have hzz := (hdep 12 (by decide) (by kernel_rfl))
              have hbb := (hdep 15 (by decide) (by kernel_rfl))
              have hlv : RrP.live (r.body) (r.w) (-bI) (r.bound) Lf 12 = some (r.w) := by simp [RrP.live, hL, hzz]
              have hlb : RrP.live (r.body) (r.w) (-bI) (r.bound) Lf 15 = some [r.bound] := by simp [RrP.live, hL, hbb]
              refine StepK.of rfl rfl (fun K' hK => ?_)
              simp only [opAt, List.getD_cons_zero, List.getD_cons_succ, Afr, fr, dstOf, if_true, List.getElem?_toArray, List.getElem?_cons_zero, List.getElem?_cons_succ, Option.bind_some, Act.put, List.setIfInBounds_toArray, List.set_cons_succ, List.set_cons_zero] at hK ⊢
              refine wp_appendQs (.tmp 73) (.tmp 76) rfl wr.heap.size _ _ (r.w) [r.bound] rfl rfl (HW.out.rows.row 12 _ hlv) ((HW.out.rows.row 15 _ hlb).ints (by simp)) (by simp only [List.length_singleton]; have := HLB.out; have := HLW.out; omega) HW.out.below.size ?_
              intro v9 w9 hq9 hg9 ho9
              exact hK _ _ (RrP.J.on hz (by decide) (HW.out.step rfl (by decide) h19 h20 (HW.out.rows.below hlv HW.out.below (Nat.le_refl _) hg9) (HW.out.rows.app hlv hq9 hg9 ho9 RrP.a2)))
            · have hz : Lf 21 = false := (by
                cases e : Lf 21 with
                | false => rfl
                | true => rw [hcl 21 (by decide) e 17 (by decide) (by kernel_rfl)] at hL; cases hL)
              have HW := Lib.hid (RrP.J.out hz hW)
              clear hW
              refine StepK.of rfl rfl (fun K' hK => ?_)
              simp only [opAt, List.getD_cons_zero, List.getD_cons_succ, Afr, fr, dstOf, if_true, List.getElem?_toArray, List.getElem?_cons_zero, List.getElem?_cons_succ, Option.bind_some, Act.put, List.setIfInBounds_toArray, List.set_cons_succ, List.set_cons_zero] at hK ⊢
              go_simp
              exact hK _ _ (RrP.J.on hz (by decide) (HW.out.quiet (by omega) rfl))
            · have hz : Lf 21 = false := (by
                cases e : Lf 21 with
                | false => rfl
                | true => rw [hcl 21 (by decide) e 18 (by decide) (by kernel_rfl)] at hL; cases hL)
              have HW := Lib.hid (RrP.J.out hz hW)
              clear hW
              have v17 := HW.out.q 17 _ rfl (hdep 17 (by decide) (by kernel_rfl))
              have hc := (HLK.out.below HW.out.below).cell 3
              simp only [List.getElem?_cons_zero, List.getElem?_cons_succ] at hc
              refine StepK.of rfl rfl (fun K' hK => ?_)
              simp only [v17, opAt, List.getD_cons_zero, List.getD_cons_succ, Afr, fr, dstOf, if_true, List.getElem?_toArray, List.getElem?_cons_zero, List.getElem?_cons_succ, Option.bind_some, Act.put, List.setIfInBounds_toArray, List.set_cons_succ, List.set_cons_zero] at hK ⊢
              go_simp
              exact hK _ _ (RrP.J.on hz (by decide) (HW.out.quiet (by omega) rfl))
            · have hz : Lf 21 = false := (by
                cases e : Lf 21 with
                | false => rfl
                | true => rw [hcl 21 (by decide) e 19 (by decide) (by kernel_rfl)] at hL; cases hL)
              have HW := Lib.hid (RrP.J.out hz hW)
              clear hW
              have v18 := HW.out.q 18 _ rfl (hdep 18 (by decide) (by kernel_rfl))
              have h20 : Lf 20 = false := (by
                cases e : Lf 20 with
                | false => rfl
                | true => rw [hcl 20 (by decide) e 19 (by decide) (by kernel_rfl)] at hL; cases hL)
              have ha := (hdep 8 (by decide) (by kernel_rfl))
              have hb := (hdep 16 (by decide) (by kernel_rfl))
              have hla : RrP.live (r.body) (r.w) (-bI) (r.bound) Lf 8 = some (r.body ++ [-bI]) := by simp [RrP.live, ha]
              have hlb : RrP.live (r.body) (r.w) (-bI) (r.bound) Lf 16 = some (r.w ++ [r.bound]) := by simp [RrP.live, hb]
              have hia := (HW.out.rows.row _ _ hla).ints (by simp only [List.length_append, List.length_singleton]; have := HLB.out; have := HLW.out; omega)
              have hib := (HW.out.rows.row _ _ hlb).ints (by simp only [List.length_append, List.length_singleton]; have := HLB.out; have := HLW.out; omega)
              refine StepK.call rfl ⟨_, _, _, runNorm26 _ _⟩ (fun K' hK => ?_)
              simp only [v18, opAt, List.getD_cons_zero, List.getD_cons_succ, Afr, fr, dstOf, if_true, List.getElem?_toArray, List.getElem?_cons_zero, List.getElem?_cons_succ, Option.bind_some, Act.put, List.setIfInBounds_toArray, List.set_cons_succ, List.set_cons_zero] at hK ⊢
              go_simp
              refine (rfnorm_any _ _ _ _ (r.bound) wx hia hib HBD.out).mono ?_
              rintro e w9 ⟨vp, rfl, hp9, hb9⟩
              exact hK _ _ (RrP.J.on hz (by decide) (HW.out.call rfl h20 hb9 hp9))
            · have hz : Lf 21 = false := (by
                cases e : Lf 21 with
                | false => rfl
                | true => rw [hcl 21 (by decide) e 20 (by decide) (by kernel_rfl)] at hL; cases hL)
              have HW := Lib.hid (RrP.J.out hz hW)
              clear hW
              obtain ⟨al, cl, ak, ck, vc, hp⟩ := HW.out.pb (hdep 19 (by decide) (by kernel_rfl))
              refine StepK.of rfl rfl (fun K' hK => ?_)
              simp only [vc, opAt, List.getD_cons_zero, List.getD_cons_succ, Afr, fr, dstOf, if_true, List.getElem?_toArray, List.getElem?_cons_zero, List.getElem?_cons_succ, Option.bind_some, Act.put, List.setIfInBounds_toArray, List.set_cons_succ, List.set_cons_zero] at hK ⊢
              go_simp
              exact hK _ _ (RrP.J.on hz (by decide) (HW.out.box rfl vc hp))
            · have hz : Lf 21 = false := hL
              have HW := Lib.hid (RrP.J.out hz hW)
              clear hW
              have v0 := HW.out.q 0 _ rfl (hdep 0 (by decide) (by kernel_rfl))
              have h22 : Lf 22 = false := (by
                cases e : Lf 22 with
                | false => rfl
                | true => rw [hcl 22 (by decide) e 21 (by decide) (by kernel_rfl)] at hL; cases hL)
              obtain ⟨g8, al, cl, ak, ck, vx, hbk, hp1, hp2, hp3⟩ := HW.out.bx (hdep 20 (by decide) (by kernel_rfl))
              have hru := HRU.out.on HW.out.below
              refine StepK.of rfl rfl (fun K' hK => ?_)
              simp only [v0, vx, opAt, List.getD_cons_zero, List.getD_cons_succ, Afr, fr, dstOf, if_true, List.getElem?_toArray, List.getElem?_cons_zero, List.getElem?_cons_succ, Option.bind_some, Act.put, List.setIfInBounds_toArray, List.set_cons_succ, List.set_cons_zero] at hK ⊢
              refine wp_pushC (.tmp 61) (.tmp 81) rfl w4.heap.size _ _ rfl hru.row.row al ak _ cl _ ck _ g8 1 rfl hbk (by have := HLN.out; omega) (by have := HW.out.below.size; have := HBS.out.size; omega) ?_
              intro g9 cap9 w9 hown9 hg9
              obtain ⟨L9, l1, l2, l3⟩ := hru.pushed hp1 hp2 HBS.out.size (fun g e => HRU.out.lt g e) hp3 hown9 hg9
              exact hK _ _ (RrP.J.end h22 ⟨g9, cap9, L9, rfl, l1, l2, l3, hru.kept (bon HBS.out HW.out.below) (Nat.le_refl _) hg9⟩)
            · have hz : Lf 21 = true := (hdep 21 (by decide) (by kernel_rfl))
              obtain ⟨⟨g9, cap9, L9, v9, -⟩, -⟩ := RrP.J.fin hz hW
              refine StepK.of rfl rfl (fun K' hK => ?_)
              simp only [v9, opAt, List.getD_cons_zero, List.getD_cons_succ, Afr, fr, dstOf, if_true, List.getElem?_toArray, List.getElem?_cons_zero, List.getElem?_cons_succ, Option.bind_some, Act.put, List.setIfInBounds_toArray, List.set_cons_succ, List.set_cons_zero] at hK ⊢
              go_simp
              exact hK _ _ (RrP.J.last hz v9 hW)
          case fin =>
            intro vals Lf W5 hall hW
            obtain ⟨⟨g9, cap9, L9, v9, l1, l2, l3, l4⟩, v10⟩ := RrP.J.fin (hall 21 (by decide)) hW
            have v10 := (v10 (hall 22 (by decide))).trans v9
            rw [v9] at l3
            clear hW hall
            simp only [Afr, List.length_cons, List.length_nil, Nat.reduceAdd, fr, dstOf, if_true, List.getElem?_toArray, List.getElem?_cons_zero, List.getElem?_cons_succ, Option.bind_some, Act.put, List.setIfInBounds_toArray, List.set_cons_succ, List.set_cons_zero, v10]
            have HR5 := Lib.hid l3
            have HL5 := Lib.hid l2
            have HB5 := Lib.hid l4
            have HLN5 : Hid (L9.length ≤ 8002) := Lib.hid (by have := HLN.out; omega)
            have kx5 := (HK4.out.below l4).cell
            have HLK5 := Lib.hid (HK4.out.below l4)
            have HIN5 := Lib.hid (l3.neg.ints (by rw [negL_len]; have := HLB.out; omega))
            have HIW5 := Lib.hid (HSL.out.wts.below (HB4.out.trans (l4.mono HB4.out.size)))
            have hz5 := l4.size
            clear l1 l2 l3 l4 v9 v10 kx
            obtain ⟨rest, hrest⟩ : ∃ q, S0 - r.bound + 1 = q := ⟨_, rfl⟩
            go_upto_region 15 with fail
            rw [hrest] at HRE
            have HRI : Hid (InI rest) := Lib.hid (by unfold InI; omega)
            clear hrest hsm
            by_cases h0 : 0 < rest
            · go_upto_region 16 with fail
              refine wp_region_invK (RrQ.J W5 (rqv (.slice (some ⟨g9, 0, none⟩) (L.length + 1) cap9) lo (.slice an (negL r.body).length cn) (.slice a5 r.w.length c5) bI rest) (negL r.body) r.w bI rest (normP (negL r.body ++ [bI]) (r.w ++ [rest]) rest).1 (fun v wy => ∃ g cap L', v = .slice (some ⟨g, 0, none⟩) (L9.length + 1) cap ∧ L'.length = L9.length + 1 ∧ L'.map (·.1) = L9.map (·.1) ++ [(normP (negL r.body ++ [bI]) (r.w ++ [rest]) rest).1] ∧ RU w4.heap.size v (.slice an (negL r.body).length cn) L' (negL r.body) wy ∧ Below w4.heap.size w4 wy)) (by kernel_rfl) (by kernel_rfl) RrQ.start0 ?step ?fin
              case step =>
                intro i hi18 vals Lf wx hL hdep hcl hW
                have h18 : i < 19 := hi18
                rcases (by omega : i = 0 ∨ i = 1 ∨ i = 2 ∨ i = 3 ∨ i = 4 ∨ i = 5 ∨ i = 6 ∨ i = 7 ∨ i = 8 ∨ i = 9 ∨ i = 10 ∨ i = 11 ∨ i = 12 ∨ i = 13 ∨ i = 14 ∨ i = 15 ∨ i = 16 ∨ i = 17 ∨ i = 18) with rfl | rfl | rfl | rfl | rfl | rfl | rfl | rfl | rfl | rfl | rfl | rfl | rfl | rfl | rfl | rfl | rfl | rfl | rfl
                · have hz : Lf 17 = false := (by
                    cases e : Lf 17 with
                    | false => rfl
                    | true => rw [hcl 17 (by decide) e 0 (by decide) (by kernel_rfl)] at hL; cases hL)
                  have HW := Lib.hid (RrQ.J.out hz hW)
                  clear hW
                  refine StepK.of rfl rfl (fun K' hK => ?_)
                  simp only [opAt, List.getD_cons_zero, Afr, fr, Act.put, List.setIfInBounds_toArray, List.set_cons_succ, List.set_cons_zero] at hK ⊢
                  go_simp
                  exact hK _ _ (RrQ.J.on hz (by decide) (HW.out.quiet (by omega) rfl))
                · have hz : Lf 17 = false := (by
                    cases e : Lf 17 with
                    | false => rfl
                    | true => rw [hcl 17 (by decide) e 1 (by decide) (by kernel_rfl)] at hL; cases hL)
                  have HW := Lib.hid (RrQ.J.out hz hW)
                  clear hW
                  have h19 : Lf 15 = false := (by
                    cases e : Lf 15 with
                    | false => rfl
                    | true => rw [hcl 15 (by decide) e 1 (by decide) (by kernel_rfl)] at hL; cases hL)
                  have h20 : Lf 16 = false := (by
                    cases e : Lf 16 with
                    | false => rfl
                    | true => rw [hcl 16 (by decide) e 1 (by decide) (by kernel_rfl)] at hL; cases hL)
                  refine StepK.of rfl rfl (fun K' hK => ?_)
                  simp only [opAt, List.getD_cons_zero, List.getD_cons_succ, Afr, fr, dstOf, if_true, List.getElem?_toArray, List.getElem?_cons_zero, Option.bind_some, Act.put, List.setIfInBounds_toArray, List.set_cons_succ, List.set_cons_zero] at hK ⊢
                  go_simp
                  have hal := bal (Below.refl wx.heap.size wx) (.cells #[] 3)
                  exact hK _ _ (RrQ.J.on hz (by decide) (HW.out.step rfl (by decide) h19 h20 (bon HW.out.below hal) (HW.out.rows.new hal (qrow_zero wx) HW.out.below.size RrQ.z1)))
                · have hz : Lf 17 = false := (by
                    cases e : Lf 17 with
                    | false => rfl
                    | true => rw [hcl 17 (by decide) e 2 (by decide) (by kernel_rfl)] at hL; cases hL)
                  have HW := Lib.hid (RrQ.J.out hz hW)
                  clear hW
                  refine StepK.of rfl rfl (fun K' hK => ?_)
                  simp only [opAt, List.getD_cons_zero, List.getD_cons_succ, Afr, fr, dstOf, if_true, List.getElem?_toArray, List.getElem?_cons_zero, List.getElem?_cons_succ, Option.bind_some, Act.put, List.setIfInBounds_toArray, List.set_cons_succ, List.set_cons_zero] at hK ⊢
                  go_simp
                  exact hK _ _ (RrQ.J.on hz (by decide) (HW.out.quiet (by omega) rfl))
                · have hz : Lf 17 = false := (by
                    cases e : Lf 17 with
                    | false => rfl
                    | true => rw [hcl 17 (by decide) e 3 (by decide) (by kernel_rfl)] at hL; cases hL)
                  have HW := Lib.hid (RrQ.J.out hz hW)
                  clear hW
                  have v2 := HW.out.q 2 _ rfl (hdep 2 (by decide) (by kernel_rfl))
                  have h19 : Lf 15 = false := (by
                    cases e : Lf 15 with
                    | false => rfl
                    | true => rw [hcl 15 (by decide) e 3 (by decide) (by kernel_rfl)] at hL; cases hL)
                  have h20 : Lf 16 = false := (by
                    cases e : Lf 16 with
                    | false => rfl
                    | true => rw [hcl 16 (by decide) e 3 (by decide) (by kernel_rfl)] at hL; cases hL)
                  have hzz := (hdep 1 (by decide) (by kernel_rfl))
                  have hlv : RrQ.live (negL r.body) (r.w) (bI) (rest) Lf 1 = some [] := by simp [RrQ.live, hL, hzz]
                  refine StepK.of rfl rfl (fun K' hK => ?_)
                  simp only [v2, opAt, List.getD_cons_zero, List.getD_cons_succ, Afr, fr, dstOf, if_true, List.getElem?_toArray, List.getElem?_cons_zero, List.getElem?_cons_succ, Option.bind_some, Act.put, List.setIfInBounds_toArray, List.set_cons_succ, List.set_cons_zero] at hK ⊢
                  refine wp_appendQs (.tmp 91) (.tmp 92) rfl W5.heap.size _ _ [] (negL r.body) rfl rfl (HW.out.rows.row 1 _ hlv) (HIN5.out.below HW.out.below) (by simp only [List.length_nil]; have := HLB.out; have := HLW.out; have := negL_len r.body; omega) HW.out.below.size ?_
                  intro v9 w9 hq9 hg9 ho9
                  rw [List.nil_append] at hq9
                  exact hK _ _ (RrQ.J.on hz (by decide) (HW.out.step rfl (by decide) h19 h20 (HW.out.rows.below hlv HW.out.below (Nat.le_refl _) hg9) (HW.out.rows.app hlv hq9 hg9 ho9 RrQ.s1)))
                · have hz : Lf 17 = false := (by
                    cases e : Lf 17 with
                    | false => rfl
                    | true => rw [hcl 17 (by decide) e 4 (by decide) (by kernel_rfl)] at hL; cases hL)
                  have HW := Lib.hid (RrQ.J.out hz hW)
                  clear hW
                  refine StepK.of rfl rfl (fun K' hK => ?_)
                  simp only [opAt, List.getD_cons_zero, List.getD_cons_succ, Afr, fr, dstOf, if_true, List.getElem?_toArray, List.getElem?_cons_zero, List.getElem?_cons_succ, Option.bind_some, Act.put, List.setIfInBounds_toArray, List.set_cons_succ, List.set_cons_zero] at hK ⊢
                  go_simp
                  exact hK _ _ (RrQ.J.on hz (by decide) (HW.out.quiet (by omega) rfl))
                · have hz : Lf 17 = false := (by
                    cases e : Lf 17 with
                    | false => rfl
                    | true => rw [hcl 17 (by decide) e 5 (by decide) (by kernel_rfl)] at hL; cases hL)
                  have HW := Lib.hid (RrQ.J.out hz hW)
                  clear hW
                  have v4 := HW.out.q 4 _ rfl (hdep 4 (by decide) (by kernel_rfl))
                  have h19 : Lf 15 = false := (by
                    cases e : Lf 15 with
                    | false => rfl
                    | true => rw [hcl 15 (by decide) e 5 (by decide) (by kernel_rfl)] at hL; cases hL)
                  have h20 : Lf 16 = false := (by
                    cases e : Lf 16 with
                    | false => rfl
                    | true => rw [hcl 16 (by decide) e 5 (by decide) (by kernel_rfl)] at hL; cases hL)
                  refine StepK.of rfl rfl (fun K' hK => ?_)
                  simp only [v4, opAt, List.getD_cons_zero, List.getD_cons_succ, Afr, fr, dstOf, if_true, List.getElem?_toArray, List.getElem?_cons_zero, List.getElem?_cons_succ, Option.bind_some, Act.put, List.setIfInBounds_toArray, List.set_cons_succ, List.set_cons_zero] at hK ⊢
                  go_simp
                  have hal := bal (Below.refl wx.heap.size wx) (.cells #[.int .i64 (bI)] 3)
                  exact hK _ _ (RrQ.J.on hz (by decide) (HW.out.step rfl (by decide) h19 h20 (bon HW.out.below hal) (HW.out.rows.new hal (qrow_box HPB.out wx) HW.out.below.size RrQ.b1)))
                · have hz : Lf 17 = false := (by
                    cases e : Lf 17 with
                    | false => rfl
                    | true => rw [hcl 17 (by decide) e 6 (by decide) (by kernel_rfl)] at hL; cases hL)
                  have HW := Lib.hid (RrQ.J.out hz hW)
                  clear hW
                  have h19 : Lf 15 = false := (by
                    cases e : Lf 15 with
                    | false => rfl
                    | true => rw [hcl 15 (by decide) e 6 (by decide) (by kernel_rfl)] at hL; cases hL)
                  have h20 : Lf 16 = false := (by
                    cases e : Lf 16 with
                    | false => rfl
                    | true => rw [hcl 16 (by decide) e 6 (by decide) (by kernel_rfl)] at hL; cases hL)
                  have hzz := (hdep 3 (by decide) (by kernel_rfl))
                  have hbb := (hdep 5 (by decide) (by kernel_rfl))
                  have hlv : RrQ.live (negL r.body) (r.w) (bI) (rest) Lf 3 = some (negL r.body) := by simp [RrQ.live, hL, hzz]
                  have hlb : RrQ.live (negL r.body) (r.w) (bI) (rest) Lf 5 = some [bI] := by simp [RrQ.live, hL, hbb]
                  refine StepK.of rfl rfl (fun K' hK => ?_)
                  simp only [opAt, List.getD_cons_zero, List.getD_cons_succ, Afr, fr, dstOf, if_true, List.getElem?_toArray, List.getElem?_cons_zero, List.getElem?_cons_succ, Option.bind_some, Act.put, List.setIfInBounds_toArray, List.set_cons_succ, List.set_cons_zero] at hK ⊢
                  refine wp_appendQs (.tmp 93) (.tmp 95) rfl W5.heap.size _ _ (negL r.body) [bI] rfl rfl (HW.out.rows.row 3 _ hlv) ((HW.out.rows.row 5 _ hlb).ints (by simp)) (by simp only [List.length_singleton]; have := HLB.out; have := HLW.out; have := negL_len r.body; omega) HW.out.below.size ?_
                  intro v9 w9 hq9 hg9 ho9
                  exact hK _ _ (RrQ.J.on hz (by decide) (HW.out.step rfl (by decide) h19 h20 (HW.out.rows.below hlv HW.out.below (Nat.le_refl _) hg9) (HW.out.rows.app hlv hq9 hg9 ho9 RrQ.a1)))
                · have hz : Lf 17 = false := (by
                    cases e : Lf 17 with
                    | false => rfl
                    | true => rw [hcl 17 (by decide) e 7 (by decide) (by kernel_rfl)] at hL; cases hL)
                  have HW := Lib.hid (RrQ.J.out hz hW)
                  clear hW
                  have h19 : Lf 15 = false := (by
                    cases e : Lf 15 with
                    | false => rfl
                    | true => rw [hcl 15 (by decide) e 7 (by decide) (by kernel_rfl)] at hL; cases hL)
                  have h20 : Lf 16 = false := (by
                    cases e : Lf 16 with
                    | false => rfl
                    | true => rw [hcl 16 (by decide) e 7 (by decide) (by kernel_rfl)] at hL; cases hL)
                  refine StepK.of rfl rfl (fun K' hK => ?_)
                  simp only [opAt, List.getD_cons_zero, List.getD_cons_succ, Afr, fr, dstOf, if_true, List.getElem?_toArray, List.getElem?_cons_zero, List.getElem?_cons_succ, Option.bind_some, Act.put, List.setIfInBounds_toArray, List.set_cons_succ, List.set_cons_zero] at hK ⊢
                  go_simp
                  have hal := bal (Below.refl wx.heap.size wx) (.cells #[] 3)
                  exact hK _ _ (RrQ.J.on hz (by decide) (HW.out.step rfl (by decide) h19 h20 (bon HW.out.below hal) (HW.out.rows.new hal (qrow_zero wx) HW.out.below.size RrQ.z2)))
                · have hz : Lf 17 = false := (by
                    cases e : Lf 17 with
                    | false => rfl
                    | true => rw [hcl 17 (by decide) e 8 (by decide) (by kernel_rfl)] at hL; cases hL)
                  have HW := Lib.hid (RrQ.J.out hz hW)
                  clear hW
                  refine StepK.of rfl rfl (fun K' hK => ?_)
                  simp only [opAt, List.getD_cons_zero, List.getD_cons_succ, Afr, fr, dstOf, if_true, List.getElem?_toArray, List.getElem?_cons_zero, List.getElem?_cons_succ, Option.bind_some, Act.put, List.setIfInBounds_toArray, List.set_cons_succ, List.set_cons_zero] at hK ⊢
                  go_simp
                  exact hK _ _ (RrQ.J.on hz (by decide) (HW.out.quiet (by omega) rfl))
                · have hz : Lf 17 = false := (by
                    cases e : Lf 17 with
                    | false => rfl
                    | true => rw [hcl 17 (by decide) e 9 (by decide) (by kernel_rfl)] at hL; cases hL)
                  have HW := Lib.hid (RrQ.J.out hz hW)
                  clear hW
                  have v8 := HW.out.q 8 _ rfl (hdep 8 (by decide) (by kernel_rfl))
                  have hc := (HLK5.out.below HW.out.below).cell 5
                  simp only [List.getElem?_cons_zero, List.getElem?_cons_succ] at hc
                  refine StepK.of rfl rfl (fun K' hK => ?_)
                  simp only [v8, opAt, List.getD_cons_zero, List.getD_cons_succ, Afr, fr, dstOf, if_true, List.getElem?_toArray, List.getElem?_cons_zero, List.getElem?_cons_succ, Option.bind_some, Act.put, List.setIfInBounds_toArray, List.set_cons_succ, List.set_cons_zero] at hK ⊢
                  go_simp
                  exact hK _ _ (RrQ.J.on hz (by decide) (HW.out.quiet (by omega) rfl))
                · have hz : Lf 17 = false := (by
                    cases e : Lf 17 with
                    | false => rfl
                    | true => rw [hcl 17 (by decide) e 10 (by decide) (by kernel_rfl)] at hL; cases hL)
                  have HW := Lib.hid (RrQ.J.out hz hW)
                  clear hW
                  have v9 := HW.out.q 9 _ rfl (hdep 9 (by decide) (by kernel_rfl))
                  have h19 : Lf 15 = false := (by
                    cases e : Lf 15 with
                    | false => rfl
                    | true => rw [hcl 15 (by decide) e 10 (by decide) (by kernel_rfl)] at hL; cases hL)
                  have h20 : Lf 16 = false := (by
                    cases e : Lf 16 with
                    | false => rfl
                    | true => rw [hcl 16 (by decide) e 10 (by decide) (by kernel_rfl)] at hL; cases hL)
                  have hzz := (hdep 7 (by decide) (by kernel_rfl))
                  have hlv : RrQ.live (negL r.body) (r.w) (bI) (rest) Lf 7 = some [] := by simp [RrQ.live, hL, hzz]
                  refine StepK.of rfl rfl (fun K' hK => ?_)
                  simp only [v9, opAt, List.getD_cons_zero, List.getD_cons_succ, Afr, fr, dstOf, if_true, List.getElem?_toArray, List.getElem?_cons_zero, List.getElem?_cons_succ, Option.bind_some, Act.put, List.setIfInBounds_toArray, List.set_cons_succ, List.set_cons_zero] at hK ⊢
                  refine wp_appendQs (.tmp 97) (.tmp 99) rfl W5.heap.size _ _ [] (r.w) rfl rfl (HW.out.rows.row 7 _ hlv) (HIW5.out.below HW.out.below) (by simp only [List.length_nil]; have := HLB.out; have := HLW.out; have := negL_len r.body; omega) HW.out.below.size ?_
                  intro v9 w9 hq9 hg9 ho9
                  rw [List.nil_append] at hq9
                  exact hK _ _ (RrQ.J.on hz (by decide) (HW.out.step rfl (by decide) h19 h20 (HW.out.rows.below hlv HW.out.below (Nat.le_refl _) hg9) (HW.out.rows.app hlv hq9 hg9 ho9 RrQ.s2)))
                · have hz : Lf 17 = false := (by
                    cases e : Lf 17 with
                    | false => rfl
                    | true => rw [hcl 17 (by decide) e 11 (by decide) (by kernel_rfl)] at hL; cases hL)
                  have HW := Lib.hid (RrQ.J.out hz hW)
                  clear hW
                  refine StepK.of rfl rfl (fun K' hK => ?_)
                  simp only [opAt, List.getD_cons_zero, List.getD_cons_succ, Afr, fr, dstOf, if_true, List.getElem?_toArray, List.getElem?_cons_zero, List.getElem?_cons_succ, Option.bind_some, Act.put, List.setIfInBounds_toArray, List.set_cons_succ, List.set_cons_zero] at hK ⊢
                  go_simp
                  exact hK _ _ (RrQ.J.on hz (by decide) (HW.out.quiet (by omega) rfl))
                · have hz : Lf 17 = false := (by
                    cases e : Lf 17 with
                    | false => rfl
                    | true => rw [hcl 17 (by decide) e 12 (by decide) (by kernel_rfl)] at hL; cases hL)
                  have HW := Lib.hid (RrQ.J.out hz hW)
                  clear hW
                  have v11 := HW.out.q 11 _ rfl (hdep 11 (by decide) (by kernel_rfl))
                  have h19 : Lf 15 = false := (by
                    cases e : Lf 15 with
                    | false => rfl
                    | true => rw [hcl 15 (by decide) e 12 (by decide) (by kernel_rfl)] at hL; cases hL)
                  have h20 : Lf 16 = false := (by
                    cases e : Lf 16 with
                    | false => rfl
                    | true => rw [hcl 16 (by decide) e 12 (by decide) (by kernel_rfl)] at hL; cases hL)
                  refine StepK.of rfl rfl (fun K' hK => ?_)
                  simp only [v11, opAt, List.getD_cons_zero, List.getD_cons_succ, Afr, fr, dstOf, if_true, List.getElem?_toArray, List.getElem?_cons_zero, List.getElem?_cons_succ, Option.bind_some, Act.put, List.setIfInBounds_toArray, List.set_cons_succ, List.set_cons_zero] at hK ⊢
                  go_simp
                  have hal := bal (Below.refl wx.heap.size wx) (.cells #[.int .i64 (rest)] 3)
                  exact hK _ _ (RrQ.J.on hz (by decide) (HW.out.step rfl (by decide) h19 h20 (bon HW.out.below hal) (HW.out.rows.new hal (qrow_box HRI.out wx) HW.out.below.size RrQ.b2)))
                · have hz : Lf 17 = false := (by
                    cases e : Lf 17 with
                    | false => rfl
                    | true => rw [hcl 17 (by decide) e 13 (by decide) (by kernel_rfl)] at hL; cases hL)
                  have HW := Lib.hid (RrQ.J.out hz hW)
                  clear hW
                  have h19 : Lf 15 = false := (by
                    cases e : Lf 15 with
                    | false => rfl
                    | true => rw [hcl 15 (by decide) e 13 (by decide) (by kernel_rfl)] at hL; cases hL)
                  have h20 : Lf 16 = false := (by
                    cases e : Lf 16 with
                    | false => rfl
                    | true => rw [hcl 16 (by decide) e 13 (by decide) (by kernel_rfl)] at hL; cases hL)
                  have hzz := (hdep 10 (by decide) (by kernel_rfl))
                  have hbb := (hdep 12 (by decide) (by kernel_rfl))
                  have hlv : RrQ.live (negL r.body) (r.w) (bI) (rest) Lf 10 = some (r.w) := by simp [RrQ.live, hL, hzz]
                  have hlb : RrQ.live (negL r.body) (r.w) (bI) (rest) Lf 12 = some [rest] := by simp [RrQ.live, hL, hbb]
                  refine StepK.of rfl rfl (fun K' hK => ?_)
                  simp only [opAt, List.getD_cons_zero, List.getD_cons_succ, Afr, fr, dstOf, if_true, List.getElem?_toArray, List.getElem?_cons_zero, List.getElem?_cons_succ, Option.bind_some, Act.put, List.setIfInBounds_toArray, List.set_cons_succ, List.set_cons_zero] at hK ⊢
                  refine wp_appendQs (.tmp 100) (.tmp 102) rfl W5.heap.size _ _ (r.w) [rest] rfl rfl (HW.out.rows.row 10 _ hlv) ((HW.out.rows.row 12 _ hlb).ints (by simp)) (by simp only [List.length_singleton]; have := HLB.out; have := HLW.out; have := negL_len r.body; omega) HW.out.below.size ?_
                  intro v9 w9 hq9 hg9 ho9
                  exact hK _ _ (RrQ.J.on hz (by decide) (HW.out.step rfl (by decide) h19 h20 (HW.out.rows.below hlv HW.out.below (Nat.le_refl _) hg9) (HW.out.rows.app hlv hq9 hg9 ho9 RrQ.a2)))
                · have hz : Lf 17 = false := (by
                    cases e : Lf 17 with
                    | false => rfl
                    | true => rw [hcl 17 (by decide) e 14 (by decide) (by kernel_rfl)] at hL; cases hL)
                  have HW := Lib.hid (RrQ.J.out hz hW)
                  clear hW
                  refine StepK.of rfl rfl (fun K' hK => ?_)
                  simp only [opAt, List.getD_cons_zero, List.getD_cons_succ, Afr, fr, dstOf, if_true, List.getElem?_toArray, List.getElem?_cons_zero, List.getElem?_cons_succ, Option.bind_some, Act.put, List.setIfInBounds_toArray, List.set_cons_succ, List.set_cons_zero] at hK ⊢
                  go_simp
                  exact hK _ _ (RrQ.J.on hz (by decide) (HW.out.quiet (by omega) rfl))
                · have hz : Lf 17 = false := (by
                    cases e : Lf 17 with
                    | false => rfl
                    | true => rw [hcl 17 (by decide) e 15 (by decide) (by kernel_rfl)] at hL; cases hL)
                  have HW := Lib.hid (RrQ.J.out hz hW)
                  clear hW
                  have v14 := HW.out.q 14 _ rfl (hdep 14 (by decide) (by kernel_rfl))
                  have h20 : Lf 16 = false := (by
                    cases e : Lf 16 with
                    | false => rfl
                    | true => rw [hcl 16 (by decide) e 15 (by decide) (by kernel_rfl)] at hL; cases hL)
                  have ha := (hdep 6 (by decide) (by kernel_rfl))
                  have hb := (hdep 13 (by decide) (by kernel_rfl))
                  have hla : RrQ.live (negL r.body) (r.w) (bI) (rest) Lf 6 = some (negL r.body ++ [bI]) := by simp [RrQ.live, ha]
                  have hlb : RrQ.live (negL r.body) (r.w) (bI) (rest) Lf 13 = some (r.w ++ [rest]) := by simp [RrQ.live, hb]
                  have hia := (HW.out.rows.row _ _ hla).ints (by simp only [List.length_append, List.length_singleton]; have := HLB.out; have := HLW.out; have := negL_len r.body; omega)
                  have hib := (HW.out.rows.row _ _ hlb).ints (by simp only [List.length_append, List.length_singleton]; have := HLB.out; have := HLW.out; have := negL_len r.body; omega)
                  refine StepK.call rfl ⟨_, _, _, runNorm26 _ _⟩ (fun K' hK => ?_)
                  simp only [v14, opAt, List.getD_cons_zero, List.getD_cons_succ, Afr, fr, dstOf, if_true, List.getElem?_toArray, List.getElem?_cons_zero, List.getElem?_cons_succ, Option.bind_some, Act.put, List.setIfInBounds_toArray, List.set_cons_succ, List.set_cons_zero] at hK ⊢
                  go_simp
                  refine (rfnorm_any _ _ _ _ (rest) wx hia hib HRI.out).mono ?_
                  rintro e w9 ⟨vp, rfl, hp9, hb9⟩
                  exact hK _ _ (RrQ.J.on hz (by decide) (HW.out.call rfl h20 hb9 hp9))
                · have hz : Lf 17 = false := (by
                    cases e : Lf 17 with
                    | false => rfl
                    | true => rw [hcl 17 (by decide) e 16 (by decide) (by kernel_rfl)] at hL; cases hL)
                  have HW := Lib.hid (RrQ.J.out hz hW)
                  clear hW
                  obtain ⟨al, cl, ak, ck, vc, hp⟩ := HW.out.pb (hdep 15 (by decide) (by kernel_rfl))
                  refine StepK.of rfl rfl (fun K' hK => ?_)
                  simp only [vc, opAt, List.getD_cons_zero, List.getD_cons_succ, Afr, fr, dstOf, if_true, List.getElem?_toArray, List.getElem?_cons_zero, List.getElem?_cons_succ, Option.bind_some, Act.put, List.setIfInBounds_toArray, List.set_cons_succ, List.set_cons_zero] at hK ⊢
                  go_simp
                  exact hK _ _ (RrQ.J.on hz (by decide) (HW.out.box rfl vc hp))
                · have hz : Lf 17 = false := hL
                  have HW := Lib.hid (RrQ.J.out hz hW)
                  clear hW
                  have v0 := HW.out.q 0 _ rfl (hdep 0 (by decide) (by kernel_rfl))
                  have h22 : Lf 18 = false := (by
                    cases e : Lf 18 with
                    | false => rfl
                    | true => rw [hcl 18 (by decide) e 17 (by decide) (by kernel_rfl)] at hL; cases hL)
                  obtain ⟨g8, al, cl, ak, ck, vx, hbk, hp1, hp2, hp3⟩ := HW.out.bx (hdep 16 (by decide) (by kernel_rfl))
                  have hru := HR5.out.on HW.out.below
                  refine StepK.of rfl rfl (fun K' hK => ?_)
                  simp only [v0, vx, opAt, List.getD_cons_zero, List.getD_cons_succ, Afr, fr, dstOf, if_true, List.getElem?_toArray, List.getElem?_cons_zero, List.getElem?_cons_succ, Option.bind_some, Act.put, List.setIfInBounds_toArray, List.set_cons_succ, List.set_cons_zero] at hK ⊢
                  refine wp_pushC (.tmp 90) (.tmp 106) rfl w4.heap.size _ _ rfl hru.row.row al ak _ cl _ ck _ g8 1 rfl hbk (by have := HLN5.out; omega) (by have := HW.out.below.size; have := HB5.out.size; omega) ?_
                  intro g7 cap7 w9 hown9 hg9
                  obtain ⟨L8, l1, l2, l3⟩ := hru.pushed hp1 hp2 HB5.out.size (fun g e => HR5.out.lt g e) hp3 hown9 hg9
                  exact hK _ _ (RrQ.J.end h22 ⟨g7, cap7, L8, rfl, l1, l2, l3, hru.kept (bon HB5.out HW.out.below) (Nat.le_refl _) hg9⟩)
                · have hz : Lf 17 = true := (hdep 17 (by decide) (by kernel_rfl))
                  obtain ⟨⟨g7, cap7, L8, v9, -⟩, -⟩ := RrQ.J.fin hz hW
                  refine StepK.of rfl rfl (fun K' hK => ?_)
                  simp only [v9, opAt, List.getD_cons_zero, List.getD_cons_succ, Afr, fr, dstOf, if_true, List.getElem?_toArray, List.getElem?_cons_zero, List.getElem?_cons_succ, Option.bind_some, Act.put, List.setIfInBounds_toArray, List.set_cons_succ, List.set_cons_zero] at hK ⊢
                  go_simp
                  exact hK _ _ (RrQ.J.last hz v9 hW)
              case fin =>
                intro vals Lf W6 hall hW
                obtain ⟨⟨g7, cap7, L8, v9, l1, l2, l3, l4⟩, v10⟩ := RrQ.J.fin (hall 17 (by decide)) hW
                have v10 := (v10 (hall 18 (by decide))).trans v9
                rw [v9] at l3
                clear hW hall
                simp only [Afr, List.length_cons, List.length_nil, Nat.reduceAdd, fr, dstOf, if_true, List.getElem?_toArray, List.getElem?_cons_zero, List.getElem?_cons_succ, Option.bind_some, Act.put, List.setIfInBounds_toArray, List.set_cons_succ, List.set_cons_zero, v10]
                have HR6 := Lib.hid l3
                have HL6 := Lib.hid l2
                have HB6 := Lib.hid l4
                clear l1 l2 l3 l4 v9 v10 kx5
                go_wp2_with fail
                go_meet
                case rel =>
                  refine ⟨_, _, _, L8, rfl, HR6.out, ?_, HB6.out⟩
                  unfold rH
                  rw [HSS.out, if_pos rfl, ← HRE.out, if_pos h0, HL6.out, HL5.out, HL.out]
                  rfl
            · have hal5 := bal (Below.refl W5.heap.size W5) (.cells #[.slice none 0 0, .slice none 0 0, .int .i64 0] 30)
              have HR8 := Lib.hid (HR5.out.on hal5)
              have HB8 := Lib.hid (bon HB5.out hal5)
              clear hal5
              go_wp2_with (at_builtin; refine wpList_pushC rfl _ _ rfl w4.heap.size _ L9 rfl HR8.out.row.row none none 0 0 0 0 0 W5.heap.size 1 rfl (Blk.new W5 [.slice none 0 0, .slice none 0 0, .int .i64 0] _) (by have := HLN5.out; omega) (by have := HB8.out.size; omega) ?_; intro g7 cap7 w7 hown7 hg7; obtain ⟨L8, l1, l2, l3⟩ := HR8.out.pushed (c := ⟨[], [], 0⟩) (QRow.nil W5.heap.size _) (QRow.nil _ _) HB5.out.size (fun g e => HR5.out.lt g e) ⟨by unfold InI; decide, by simp, by simp⟩ hown7 hg7; have HB9 := Lib.hid (HR8.out.kept HB8.out (Nat.le_refl _) hg7); have HR9 := Lib.hid l3; have HL9 := Lib.hid l2; clear hown7 hg7 l1 l2 l3)
              go_meet
              case rel =>
                refine ⟨_, _, _, L8, rfl, HR9.out, ?_, HB9.out⟩
                unfold rH
                rw [HSS.out, if_pos rfl, ← HRE.out, if_neg (by omega), HL9.out, HL5.out, HL.out]
                rfl
        | false =>
          rw [hs] at kx HL
          rw [if_neg Bool.false_ne_true] at HL
          have HSS := Lib.hid hs
          clear hs
          obtain ⟨c, hc⟩ : ∃ c, (refClause (negL r.body ++ [bI])).1 = c := ⟨_, rfl⟩
          have HCN : Hid (∀ v w, Ints w v (negL r.body ++ [bI]) → _) := Lib.hid (fun v w h => hc ▸ rfclause_any v _ w h (by have := HLB.out; have := HLH.out; simp only [List.length_append, List.length_singleton]; first | omega | (rw [negL_len]; omega)))
          have HCE := Lib.hid hc
          have HI1 := Lib.hid (HIN.out.below (bal (Below.refl wr.heap.size wr) (.cells #[] 3)))
          clear hc
          go_wp2_with (first
            | (at_builtin; refine wpList_pushC rfl _ _ rfl w4.heap.size _ L rfl HR8.out.row.row al ak _ cl _ ck _ w7.heap.size 1 rfl HN8.out (by have := HLL.out; omega) (by have := HB8.out.size; omega) ?_; intro g9 cap9 w9 hown9 hg9; obtain ⟨L9, l1, l2, l3⟩ := HR8.out.pushed HQ8.out.1 HQ8.out.2.1 HB6.out.size (fun g e => HR6.out.lt g e) HQ8.out.2.2 hown9 hg9; have HB9 := Lib.hid (HR8.out.kept HB8.out (Nat.le_refl _) hg9); have HR9 := Lib.hid l3; have HL9 := Lib.hid l2; clear hown9 hg9 l1 l2 l3)
            | (go_at_call 62; (with_reducible refine (HCN.out _ _ HI6.out).mono ?_); rintro e w7 ⟨vp, rfl, ⟨ul, uk, rfl, hq1, hq2, hq3⟩, hb7⟩; obtain ⟨al, cl, rfl⟩ := hq1.slen; obtain ⟨ak, ck, rfl⟩ := hq2.slen; have hal8 := bal (Below.refl w7.heap.size w7) (.cells #[.slice al c.lits.length cl, .slice ak c.coefs.length ck, .int .i64 c.bound] 30); have HR8 := Lib.hid (HR6.out.on (bon hb7 hal8)); have HB8 := Lib.hid (bon (bon HB6.out hb7) hal8); have HQ8 := Lib.hid (And.intro (hq1.below hal8) (And.intro (hq2.below hal8) hq3)); have HN8 := Lib.hid (Blk.new w7 [.slice al c.lits.length cl, .slice ak c.coefs.length ck, .int .i64 c.bound] 30); clear hq1 hq2 hq3 hb7 hal8)
            | (at_builtin; refine wpList_appendQ rfl _ _ 23 Tryz.underlying23 rfl wr.heap.size _ (negL r.body) (bI) rfl HQ5.out w5.heap.size 1 rfl (Blk.new w5 [.int .i64 (bI)] _) HPB.out (by have := HLB.out; have := HLH.out; first | omega | (rw [negL_len]; omega)) (by have := HB5.out.size; simp; omega) ?_; intro v6 w6 hq6 hg6 ho6; have hb6 := below_grown HB5.out (fun g e => (HQ5.out.base e).1) hg6; have HI6 := Lib.hid (hq6.ints (by have := HLB.out; have := HLH.out; simp only [List.length_append, List.length_singleton]; first | omega | (rw [negL_len]; omega))); have HR6 := Lib.hid (HRU.out.on hb6); have HB6 := Lib.hid (bon HBS.out hb6); obtain ⟨a6, n6, c6, rfl⟩ := hq6.form; clear hq6 hg6 ho6 hb6)
            | (at_builtin; refine wpList_appendQs rfl _ _ rfl wr.heap.size _ _ [] (negL r.body) rfl rfl (qrow_zero wr) HI1.out (by have := HLB.out; have := HLH.out; simp only [List.length_nil]; first | omega | (rw [negL_len]; omega)) (by simp) ?_; intro v5 w5 hq5 hg5 ho5; rw [List.nil_append] at hq5; obtain ⟨a5, n5, c5, rfl⟩ := hq5.form; have HB5 := Lib.hid (below_grown (Below.refl wr.heap.size wr) (fun g e => ((qrow_zero wr).base e).1) hg5); have HQ5 := Lib.hid (hq5.below (bal (Below.refl w5.heap.size w5) (.cells #[.int .i64 (bI)] 3))); clear hq5 hg5 ho5))
          go_meet
          case rel =>
            exact ⟨_, _, _, L9, rfl, HR9.out, by unfold rH; rw [HSS.out, if_neg Bool.false_ne_true, HL9.out, HL.out, HCE.out], HB9.out⟩
      case rest =>
        obtain ⟨ao', no', co', L', rfl, hru', hL', hb'⟩ := hcut
        have HRU' := Lib.hid hru'
        have hlz : lo < wc.heap.size := Nat.lt_of_lt_of_le HLO.out hb'.size
        have HL' := Lib.hid hL'
        have HBS' := Lib.hid hb'
        have HBW' := Lib.hid (HBW.out.trans (hb'.mono HBW.out.size))
        have HIH' := Lib.hid (HSL.out.head.below (HB4.out.trans (hb'.mono HB4.out.size)))
        have kc := (HK4.out.below hb').cell
        have HLL : Hid (L'.length ≤ 9000) := Lib.hid (by
          have e := congrArg List.length hL'
          have e2 := rH_len r bI
          have := HLB.out
          simp only [List.length_map] at e
          omega)
        clear hru' hL' hb' HRU HL HBS HIN HIB HIW HLK kx
        cases hc : r.choice with
        | true =>
          rw [hc] at kc
          go_wp2_with fail
          go_ret
          exact ⟨_, L', rfl, HRU'.out.row.mono HBW.out.size, by rw [HR.out, HBE.out]; unfold rR; rw [HL'.out, hc, if_pos rfl, List.append_nil], HBW'.out⟩
        | false =>
          rw [hc] at kc
          obtain ⟨c, hc⟩ : ∃ c, (refClause (r.head ++ [-bI])).1 = c := ⟨_, rfl⟩
          have HCN : Hid (∀ v w, Ints w v (r.head ++ [-bI]) → _) := Lib.hid (fun v w h => hc ▸ rfclause_any v _ w h (by have := HLB.out; have := HLH.out; simp only [List.length_append, List.length_singleton]; first | omega | (rw [negL_len]; omega)))
          have HCE := Lib.hid hc
          have HI1 := Lib.hid (HIH'.out.below (bal (Below.refl wc.heap.size wc) (.cells #[] 3)))
          clear hc
          go_wp2_with (first
            | (at_builtin; refine wpList_pushC rfl _ _ rfl w4.heap.size _ L' rfl HR8.out.row.row al ak _ cl _ ck _ w7.heap.size 1 rfl HN8.out (by have := HLL.out; omega) (by have := HB8.out.size; omega) ?_; intro g9 cap9 w9 hown9 hg9; obtain ⟨L9, l1, l2, l3⟩ := HR8.out.pushed HQ8.out.1 HQ8.out.2.1 HB6.out.size (fun g e => HR6.out.lt g e) HQ8.out.2.2 hown9 hg9; have HB9 := Lib.hid (HR8.out.kept HB8.out (Nat.le_refl _) hg9); have HR9 := Lib.hid l3; have HL9 := Lib.hid l2; clear hown9 hg9 l1 l2 l3)
            | (go_at_call 62; (with_reducible refine (HCN.out _ _ HI6.out).mono ?_); rintro e w7 ⟨vp, rfl, ⟨ul, uk, rfl, hq1, hq2, hq3⟩, hb7⟩; obtain ⟨al, cl, rfl⟩ := hq1.slen; obtain ⟨ak, ck, rfl⟩ := hq2.slen; have hal8 := bal (Below.refl w7.heap.size w7) (.cells #[.slice al c.lits.length cl, .slice ak c.coefs.length ck, .int .i64 c.bound] 30); have HR8 := Lib.hid (HR6.out.on (bon hb7 hal8)); have HB8 := Lib.hid (bon (bon HB6.out hb7) hal8); have HQ8 := Lib.hid (And.intro (hq1.below hal8) (And.intro (hq2.below hal8) hq3)); have HN8 := Lib.hid (Blk.new w7 [.slice al c.lits.length cl, .slice ak c.coefs.length ck, .int .i64 c.bound] 30); clear hq1 hq2 hq3 hb7 hal8)
            | (at_builtin; refine wpList_appendQ rfl _ _ 23 Tryz.underlying23 rfl wc.heap.size _ (r.head) (-bI) rfl HQ5.out w5.heap.size 1 rfl (Blk.new w5 [.int .i64 (-bI)] _) HNB.out (by have := HLB.out; have := HLH.out; first | omega | (rw [negL_len]; omega)) (by have := HB5.out.size; simp; omega) ?_; intro v6 w6 hq6 hg6 ho6; have hb6 := below_grown HB5.out (fun g e => (HQ5.out.base e).1) hg6; have HI6 := Lib.hid (hq6.ints (by have := HLB.out; have := HLH.out; simp only [List.length_append, List.length_singleton]; first | omega | (rw [negL_len]; omega))); have HR6 := Lib.hid (HRU'.out.on hb6); have HB6 := Lib.hid (bon HBS'.out hb6); obtain ⟨a6, n6, c6, rfl⟩ := hq6.form; clear hq6 hg6 ho6 hb6)
            | (at_builtin; refine wpList_appendQs rfl _ _ rfl wc.heap.size _ _ [] (r.head) rfl rfl (qrow_zero wc) HI1.out (by have := HLB.out; have := HLH.out; simp only [List.length_nil]; first | omega | (rw [negL_len]; omega)) (by simp) ?_; intro v5 w5 hq5 hg5 ho5; rw [List.nil_append] at hq5; obtain ⟨a5, n5, c5, rfl⟩ := hq5.form; have HB5 := Lib.hid (below_grown (Below.refl wc.heap.size wc) (fun g e => ((qrow_zero wc).base e).1) hg5); have HQ5 := Lib.hid (hq5.below (bal (Below.refl w5.heap.size w5) (.cells #[.int .i64 (-bI)] 3))); clear hq5 hg5 ho5))
          go_ret
          have hfin : MineC w.heap.size (.slice (some ⟨g9, 0, none⟩) (L'.length + 1) cap9) L9 w9 ∧ L9.map (·.1) = rR (ixR p.rules u) (p.n + 1 + (u : Int)) ∧ Below w.heap.size w w9 := ⟨HR9.out.row.mono HBW.out.size, by rw [HR.out, HBE.out]; unfold rR; rw [HL9.out, HL'.out, hc, if_neg Bool.false_ne_true, HCE.out], HBW.out.trans (HB9.out.mono HBW.out.size)⟩
          first | exact ⟨_, rfl, L9, hfin⟩ | exact ⟨_, L9, rfl, hfin⟩

end Go.Proofs.YtfhpfbakoiekpaaGreatDoor
