/- My texts Rf26v, Rf26w, Tl26, Frame, FrameB, merged. -/
import Derived.Test.YtfhpfbakoiekpaaGreatDoorM22
import Derived.Test.YtfhpfbakoiekpaaGreatDoorM24
import Derived.Test.YtfhpfbakoiekpaaGreatDoorM18
import Derived.Test.YtfhpfbakoiekpaaGreatDoorM17
import Derived.Test.YtfhpfbakoiekpaaGreatDoorM16
import Derived.Test.YtfhpfbakoiekpaaGreatDoorM19
import Derived.Test.YtfhpfbakoiekpaaGreatDoorM02
import Derived.Test.YtfhpfbakoiekpaaGreatDoorM08

/- Many constraints at once upon a row of constraints; a row of ints begun beside it. -/
namespace Go.Proofs.YtfhpfbakoiekpaaGreatDoor
open Go.RowKit

/-- A row of constraints is appended to another. -/
theorem wpList_appendC {ops : Array Oper} {rest : List Oper} {o : Oper} {a : Act} {w : World} {Q : Exit → Act → World → Prop} (hgd : o.guard = none) (s x : Operand)
    (ho : o.op = .call { callee := .builtin .append, args := #[s, x], argTypes := #[43, 43] }) (B b0 : Nat) (v y : Value) (L M : List CQ) (hs : a.eval s = v) (hx : a.eval x = y) (h : MineC B v L w) (hy : MineC b0 y M w) (hB0 : B ≤ b0) (hM : 0 < M.length)
    (hlen : L.length + M.length ≤ 1000000000) (hbase : B ≤ w.heap.size)
    (hK : ∀ g cap w', MineC B (.slice (some ⟨g, 0, none⟩) (L.length + M.length) cap) (L ++ M) w' → w.grownBy w' v.ownBlock → wpList Tryz.prog ops Q rest (a.put o.dst (.slice (some ⟨g, 0, none⟩) (L.length + M.length) cap)) w') : wpList Tryz.prog ops Q (o :: rest) a w := by
  obtain ⟨i0, hi, hz0, hz1, hz2⟩ := info_parts infoC
  rcases hy.row.2 with ⟨-, h0⟩ | ⟨g, cap, cur, rfl, hb, hg, hn, hm, hsz, hcl⟩
  · omega
  refine wpList_append_own w hgd s x _ ho B 30 i0 _ 3 56 Tryz.underlying43 hi hz0 hz1 hz2 rfl (by decide) _ L.length (L.flatMap cells3) hs h.row ⟨g, 0, none⟩ M.length cap (M.flatMap cells3) hx (by rw [hy.row.1]) (fun j u hu => ?_) (fun u hu => ?_) (by unfold maxLen; omega) (by omega) hbase (fun v' w' h1 h2 _ => ?_)
  · have hj : j < M.length * 3 := by have := (List.getElem?_eq_some_iff.1 hu).1; rw [hy.row.1] at this; exact this
    rw [Addr.add_lit, Nat.zero_add, cell_of_row w g j cur _ (0, 0) hg]
    rw [← hcl, List.getElem?_take_of_lt hj] at hu
    rw [← hu]; simp
  · obtain ⟨q, hqm, hq⟩ := List.mem_flatMap.1 hu
    obtain ⟨h3, h4, -⟩ := hy.each q hqm
    obtain ⟨a3, c3, e3⟩ := h3.slen
    obtain ⟨a4, c4, e4⟩ := h4.slen
    simp only [cells3, List.mem_cons, List.not_mem_nil, or_false, e3, e4] at hq
    rcases hq with rfl | rfl | rfl <;> rfl
  · have hne : ∃ g2 cap2, v' = .slice (some ⟨g2, 0, none⟩) (L.length + M.length) cap2 := by
      rcases h1.2 with ⟨-, h0⟩ | ⟨g2, cap2, cur2, rfl, _⟩
      · omega
      · exact ⟨g2, cap2, rfl⟩
    obtain ⟨g2, cap2, rfl⟩ := hne
    refine hK g2 cap2 w' ⟨by simpa using h1, fun q hq => ?_⟩ h2
    rcases List.mem_append.1 hq with hq | hq
    · obtain ⟨h3, h4, h5⟩ := h.each q hq
      exact ⟨h3.rowKeptC h.row h2, h4.rowKeptC h.row h2, h5⟩
    · obtain ⟨h3, h4, h5⟩ := hy.each q hq
      exact ⟨(h3.rowKeptC h.row h2).mono hB0, (h4.rowKeptC h.row h2).mono hB0, h5⟩

/-- A row of ints begins beside the constraints. -/
theorem RU.begin {B : Nat} {vo : Value} {L : List CQ} {wx : World} {x : Int} (h : MineC B vo L wx) (hx : InI x) (hB : B ≤ wx.heap.size) : RU B vo (.slice (some ⟨wx.heap.size, 0, none⟩) 1 1) L [x] (wx.alloc (.cells #[.int .i64 x] 3)) := by
  have hal := bal (Below.refl wx.heap.size wx) (.cells #[.int .i64 x] 3)
  refine ⟨h.below hal, (qrow_box hx wx).mono hB, fun q hq g e => ?_⟩
  have : g = wx.heap.size := by simpa [Value.ownBlock] using e.symm
  subst this
  exact ⟨fun e2 => absurd (h.base hq (.inl e2)) (Nat.lt_irrefl _), fun e2 => absurd (h.base hq (.inr e2)) (Nat.lt_irrefl _)⟩

end Go.Proofs.YtfhpfbakoiekpaaGreatDoor

/- ostlerref26.Completion: its contract. -/
namespace Go.Proofs.YtfhpfbakoiekpaaGreatDoor
open Go.RowKit

theorem rR_len (r : GR) (b : Int) : (rR r b).length ≤ r.body.length + 3 ∧ 0 < (rR r b).length := by
  have h1 := rH_len r b
  have h2 : 0 < (rH r b).length := by
    unfold rH
    split <;> simp
  unfold rR
  rw [List.length_append]
  split
  · simp only [List.length_nil]; omega
  · simp only [List.length_singleton]; omega

theorem rTo_len {p : GP} (h : CompV p) : ∀ k, k ≤ p.rules.length → (rTo p k).length ≤ 8003 * k
  | 0, _ => by simp [rTo]
  | k + 1, hk => by
    have ih := rTo_len h k (by omega)
    have h1 := (h.rule k (by omega)).len
    have h2 := rR_len (ixR p.rules k) (p.n + 1 + k)
    unfold rTo
    rw [List.length_append]
    omega
theorem rAtomTo_len (p : GP) : ∀ k, (rAtomTo p k).length = k
  | 0 => rfl
  | k + 1 => by unfold rAtomTo; rw [List.length_append, rAtomTo_len p k]; rfl

/-- Between two rules, or two atoms: the constraints so far. -/
def RcS (w2 : World) (l : List PBC) (o : Value) (wx : World) : Prop :=
  ∃ a n c L, o = .slice a n c ∧ MineC w2.heap.size o L wx ∧ L.map (·.1) = l ∧ Below w2.heap.size w2 wx
def RcRel1 (p : GP) (w2 : World) (o i : Value) (wx : World) : Prop := ∃ k : Nat, k ≤ p.rules.length ∧ i = .int .i64 k ∧ RcS w2 (rTo p k) o wx
def RcRel2 (p : GP) (w2 : World) (o i : Value) (wx : World) : Prop := ∃ k : Nat, (k : Int) ≤ p.n ∧ i = .int .i64 ((k : Int) + 1) ∧ RcS w2 (rTo p p.rules.length ++ rAtomTo p k) o wx
def RcRel3 (p : GP) (w2 : World) (x : Int) (o : Value) (L : List CQ) (s i : Value) (wx : World) : Prop :=
  ∃ k : Nat, k ≤ p.rules.length ∧ i = .int .i64 k ∧ (∃ a n c, s = .slice a n c) ∧ RU w2.heap.size o s L (-x :: supAt' p x k) wx ∧ Below w2.heap.size w2 wx

theorem MineC.form {B : Nat} {v : Value} {L : List CQ} {wx : World} (h : MineC B v L wx) : ∃ a n c, v = .slice a n c := by
  rcases h.row.2 with ⟨rfl, _⟩ | ⟨g, cap, cur, rfl, _⟩ <;> exact ⟨_, _, _, rfl⟩

set_option maxHeartbeats 16000000 in
set_option maxRecDepth 100000 in
theorem rcomp_any (v : Value) (p : GP) (w : World) (h : ProgIs w v p) :
    Calls Tryz.prog 17 #[v] w fun e w' => ∃ a n c, e = .returned (.tuple #[.slice a n c, .int .i64 (if validE p = 0 then 0 else 2)]) ∧ PBsIs w' (.slice a n c) (if validE p = 0 then rL p else []) ∧ Below w.heap.size w w' := by
  have h0 := h
  obtain ⟨vn, vs, vr, vm, rfl, hPS⟩ := h
  have hpn := hPS.n
  obtain ⟨a1, c1, rfl, -, hl1, -, hcellR⟩ := hPS.rules.form
  have hal := bal (Below.refl w.heap.size w) (.cells #[.int .i64 p.n, vn, vs, .slice a1 p.rules.length c1, vm] 27)
  have HP := Lib.hid (h0.below hal)
  have HBX := Lib.hid (Blk.new w [.int .i64 p.n, vn, vs, .slice a1 p.rules.length c1, vm] 27)
  have HAL := Lib.hid hal
  have HCR := Lib.hid hcellR
  unfold InI at hpn
  clear h0 hPS hal hcellR
  by_cases hv : validE p = 0
  case neg =>
    have hve : (validE p != 0) = true := by simp [hv]
    rw [if_neg hv, if_neg hv]
    have HV : Hid (validE p = validE p) := Lib.hid rfl
    clear hv
    go_enter Tryz.func17, Tryz.ntmps17
    go_upto_region 1 with fail
    have kx := HBX.out.cell
    generalize w.alloc (.cells #[.int .i64 p.n, vn, vs, .slice a1 p.rules.length c1, vm] 27) = W0 at *
    go_wp2_with (go_at_call 15; (with_reducible refine (valid_ref _ p _ HP.out).mono ?_); rintro e w1 ⟨rfl, hb1⟩; have HB1 := Lib.hid hb1; clear hb1)
    refine bodyPost_ret (v := .tuple #[.slice none 0 0, .int .i64 2]) ?_ rfl ⟨_, _, _, rfl, nil_pbs _, bon HAL.out HB1.out⟩
    simp [results, Tryz.f17, go_sem]
  have hve : (validE p != 0) = false := by simp [hv]
  have HV := Lib.hid hv
  have HCV := Lib.hid (compV_valid hv)
  have hn0 := (validP hv).n
  have hn1 := (validP hv).rules
  rw [if_pos hv, if_pos hv]
  clear hv
  go_enter Tryz.func17, Tryz.ntmps17
  go_upto_region 1 with fail
  have kx := HBX.out.cell
  generalize w.alloc (.cells #[.int .i64 p.n, vn, vs, .slice a1 p.rules.length c1, vm] 27) = W0 at *
  go_upto_region 5 with (go_at_call 15; (with_reducible refine (valid_ref _ p _ HP.out).mono ?_); rintro e w2 ⟨rfl, hb1⟩; have HB1 := Lib.hid hb1; clear hb1)
  have HX2 := Lib.hid (HBX.out.below HB1.out)
  have HP2 := Lib.hid (HP.out.below HB1.out)
  have HB2 := Lib.hid (bon HAL.out HB1.out)
  have HC2 : Hid (0 < p.rules.length → _) := Lib.hid (fun hp => HCR.out hp)
  have hz2 := HX2.out.lt
  clear kx
  go_loopw [4, 5] (fun o i wx => RcRel1 p w2 o i wx) (fun _ i _ => p.rules.length - (intOf i).toNat)
  case atStart => exact ⟨0, Nat.zero_le _, rfl, _, _, _, [], rfl, MineC.nil _ _, rfl, Below.refl _ _⟩
  case round =>
    obtain ⟨k, hk, rfl, ao, no, co, L, rfl, hm, hL, hb⟩ := hrel
    have kx := (HX2.out.below hb).cell
    have hzr := hb.size
    have hll : L.length ≤ 8003 * k := by have := congrArg List.length hL; have h2 := rTo_len HCV.out k hk; simp only [List.length_map] at this; omega
    by_cases hlt : k < p.rules.length
    · have HL := Lib.hid hL
      have HB := Lib.hid hb
      have HM := Lib.hid hm
      have HR := Lib.hid (rfrule_any _ p k wr (HP2.out.below hb) HV.out hlt)
      have HRL := Lib.hid (rR_len (ixR p.rules k) (p.n + 1 + k))
      have HRB := Lib.hid ((HCV.out.rule k hlt).len)
      have HTN : Hid (rTo p (k + 1) = rTo p k ++ rR (ixR p.rules k) (p.n + 1 + k)) := Lib.hid rfl
      clear hL hb hm
      go_wp2_with (first
        | (at_builtin; refine wpList_appendC rfl _ _ rfl w2.heap.size wr.heap.size _ _ L M rfl rfl (HM.out.below HB4.out) HM4.out hzr (by have := HL4.out; have := HRL.out; omega) (by have := HL4.out; have := HRL.out; have := HRB.out; omega) (by have := HB4.out.size; omega) ?_; intro g9 cap9 w9 hm9 hg9; have HM9 := Lib.hid hm9; have HB9 := Lib.hid ((bon HB.out HB4.out).trans (below_row hg9 (by have := HB4.out.size; omega) fun g e => (rowC_isC HM.out.row g e).1)); clear hm9 hg9)
        | (go_at_call 61; (with_reducible refine (HR.out).mono ?_); rintro e w4 ⟨vo, M, rfl, hm4, hL4, hb4⟩; have HE4 := Lib.hid hL4; have HM4 := Lib.hid hm4; have HB4 := Lib.hid hb4; have HL4 : Hid (M.length = (rR (ixR p.rules k) (p.n + 1 + k)).length) := Lib.hid (by rw [← hL4, List.length_map]); obtain ⟨a4, n4, c4, rfl⟩ := hm4.form; clear hm4 hL4 hb4))
      go_roundw
      case rel => exact ⟨k + 1, hlt, by go_num, _, _, _, L ++ M, rfl, HM9.out, by rw [List.map_append, HL.out, HE4.out, HTN.out], HB9.out⟩
      case measure => (simp [intOf]; omega)
    · obtain rfl : k = p.rules.length := by omega
      have HL := Lib.hid hL
      have HB := Lib.hid hb
      have HM := Lib.hid hm
      clear hL hb hm
      go_upto_region 9 with fail
      generalize wr = wq at *
      clear kx
      go_loopw [4, 6] (fun o i wx => RcRel2 p w2 o i wx) (fun _ i _ => (p.n + 1 - intOf i).toNat)
      case atStart => exact ⟨0, hn0.1, rfl, _, _, _, L, rfl, HM.out, by rw [HL.out]; simp [rAtomTo], HB.out⟩
      case round =>
        obtain ⟨j, hj, rfl, ao', no', co', M, rfl, hm, hL, hb⟩ := hrel
        have kx := (HX2.out.below hb).cell
        have hzj := hb.size
        have hll2 : M.length ≤ 8003 * p.rules.length + j := by have := congrArg List.length hL; have h2 := rTo_len HCV.out p.rules.length (Nat.le_refl _); simp only [List.length_map, List.length_append, rAtomTo_len] at this; omega
        have HLL : Hid (M.length ≤ 900000000) := Lib.hid (by omega)
        have HL2 := Lib.hid hL
        have HB3 := Lib.hid hb
        have HM3 := Lib.hid hm
        clear hL hb hm
        by_cases hjl : (j : Int) + 1 ≤ p.n
        · obtain ⟨x, hx⟩ : ∃ x, (j : Int) + 1 = x := ⟨_, rfl⟩
          have hxr : 1 ≤ x ∧ x ≤ 4000 := by omega
          have hxn : x ≤ p.n := by omega
          have HXI : Hid (InI (-x)) := Lib.hid (by unfold InI; omega)
          have hwn : IntKind.i64.wrap (-x) = -x := by rw [IntKind.wrap_i64]; omega
          have HAT : Hid (rAtomTo p (j + 1) = rAtomTo p j ++ [rAtom p x]) := Lib.hid (by simp only [rAtomTo, hx])
          rw [hx]
          have HX := Lib.hid hx
          go_upto_region 13 with fail
          have hru0 : RU w2.heap.size (.slice ao' no' co') (.slice (some ⟨wr.heap.size, 0, none⟩) 1 1) M (-x :: supAt' p x 0) (wr.alloc (.cells #[.int .i64 (-x)] 3)) := RU.begin HM3.out HXI.out hzj
          have hb0 := bal HB3.out (.cells #[.int .i64 (-x)] 3)
          have HRU0 := Lib.hid hru0
          have HB0 := Lib.hid hb0
          clear hru0 hb0 kx
          generalize wr.alloc (.cells #[.int .i64 (-x)] 3) = ws at *
          generalize wr.heap.size = nb at *
          generalize wr = wq2 at *
          go_loopw [7, 8] (fun s i wx => RcRel3 p w2 x (.slice ao' no' co') M s i wx) (fun _ i _ => p.rules.length - (intOf i).toNat)
          case atStart => exact ⟨0, Nat.zero_le _, rfl, ⟨_, _, _, rfl⟩, HRU0.out, HB0.out⟩
          case round =>
            obtain ⟨t, ht, rfl, ⟨as', ns, cs, rfl⟩, hru, hb⟩ := hrel
            have kx := (HX2.out.below hb).cell
            have hzt := hb.size
            have HRU := Lib.hid hru
            have HB4 := Lib.hid hb
            have hsl := supAt_len p x t
            by_cases htl : t < p.rules.length
            · obtain ⟨bR, oR, rfl, hbR, hcR⟩ := HCR.out (by omega)
              have hbW := bon HB2.out hb
              obtain ⟨vh, vb, vw, ⟨q0, q1, q2, q3, q4, q5⟩, hsl⟩ := hcR t htl
              obtain ⟨x1, y1, rfl, -, -, -, -⟩ := hsl.head.form
              have hk1 := (bcell hbW _ _ hbR).trans q1
              have HIN := Lib.hid (in_any _ _ wr (hsl.head.below hbW) x)
              have HBI : Hid (InI (p.n + 1 + (t : Int))) := Lib.hid (by unfold InI; omega)
              have hsn : supAt' p x (t + 1) = supAt' p x t ++ (if x ∈ (ixR p.rules t).head then [p.n + 1 + (t : Int)] else []) := rfl
              by_cases hin : x ∈ (ixR p.rules t).head
              · rw [if_pos hin] at hsn
                rw [decide_eq_true hin] at HIN
                have HSN := Lib.hid hsn
                clear hcR q0 q1 q2 q3 q4 q5 hsl hbW hsn hin hru hb
                go_wp2_with (first
                  | (at_builtin; refine wpList_appendQ rfl _ _ 23 Tryz.underlying23 rfl w2.heap.size _ (-x :: supAt' p x t) (p.n + 1 + (t : Int)) rfl (HRU.out.alloc' (.cells #[.int .i64 (p.n + 1 + (t : Int))] 3)).neg wr.heap.size 1 rfl (Blk.new wr [.int .i64 (p.n + 1 + (t : Int))] _) HBI.out (by simp only [List.length_cons]; omega) (by simp; omega) ?_; intro v5 w5 hq5 hg5 ho5; have HR5 := Lib.hid ((HRU.out.alloc' _).grow hq5 hg5 ho5); have HB5 := Lib.hid (below_grown HB4.out (fun g e => (HRU.out.neg.base e).1) hg5); obtain ⟨a5, n5, c5, rfl⟩ := hq5.form; clear hq5 hg5 ho5)
                  | (go_at_call 31; (with_reducible refine (HIN.out).mono ?_); rintro e w4 ⟨rfl, rfl⟩))
                go_roundw
                case rel => exact ⟨t + 1, htl, by go_num, ⟨_, _, _, rfl⟩, by rw [HSN.out]; exact HR5.out, HB5.out⟩
                case measure => (simp [intOf]; omega)
              · rw [if_neg hin, List.append_nil] at hsn
                rw [decide_eq_false hin] at HIN
                have HSN := Lib.hid hsn
                clear hcR q0 q1 q2 q3 q4 q5 hsl hbW hsn hin hru hb
                go_wp2_with (go_at_call 31; (with_reducible refine (HIN.out).mono ?_); rintro e w4 ⟨rfl, rfl⟩)
                go_roundw
                case rel => exact ⟨t + 1, htl, by go_num, ⟨_, _, _, rfl⟩, by rw [HSN.out]; exact HRU.out, HB4.out⟩
                case measure => (simp [intOf]; omega)
            · obtain rfl : t = p.rules.length := by omega
              obtain ⟨c, hc⟩ : ∃ c, (refClause (-x :: supAt' p x p.rules.length)).1 = c := ⟨_, rfl⟩
              have HCN : Hid (∀ v w, Ints w v (-x :: supAt' p x p.rules.length) → _) := Lib.hid (fun v w h => hc ▸ rfclause_any v _ w h (by simp only [List.length_cons]; omega))
              have HCE : Hid (rAtom p x = c) := Lib.hid hc
              have HI6 := Lib.hid (hru.neg.ints (by simp only [List.length_cons]; omega))
              clear hc hru hb
              go_wp2_with (first
                | (at_builtin; refine wpList_pushC rfl _ _ rfl w2.heap.size _ M rfl HR8.out.row.row al ak _ cl _ ck _ w7.heap.size 1 rfl HN8.out (by have := HLL.out; omega) (by have := HB8.out.size; omega) ?_; intro g9 cap9 w9 hown9 hg9; obtain ⟨L9, l1, l2, l3⟩ := HR8.out.pushed HQ8.out.1 HQ8.out.2.1 HB4.out.size (fun g e => HRU.out.lt g e) HQ8.out.2.2 hown9 hg9; have HB9 := Lib.hid (HR8.out.kept HB8.out (Nat.le_refl _) hg9); have HR9 := Lib.hid l3; have HL9 := Lib.hid l2; clear hown9 hg9 l1 l2 l3)
                | (go_at_call 62; (with_reducible refine (HCN.out _ _ HI6.out).mono ?_); rintro e w7 ⟨vp, rfl, ⟨ul, uk, rfl, hq1, hq2, hq3⟩, hb7⟩; obtain ⟨al, cl, rfl⟩ := hq1.slen; obtain ⟨ak, ck, rfl⟩ := hq2.slen; have hal8 := bal (Below.refl w7.heap.size w7) (.cells #[.slice al c.lits.length cl, .slice ak c.coefs.length ck, .int .i64 c.bound] 30); have HR8 := Lib.hid (HRU.out.on (bon hb7 hal8)); have HB8 := Lib.hid (bon (bon HB4.out hb7) hal8); have HQ8 := Lib.hid (And.intro (hq1.below hal8) (And.intro (hq2.below hal8) hq3)); have HN8 := Lib.hid (Blk.new w7 [.slice al c.lits.length cl, .slice ak c.coefs.length ck, .int .i64 c.bound] 30); clear hq1 hq2 hq3 hb7 hal8))
              go_roundw
              case rel => exact ⟨j + 1, by (have := HX.out; omega), by (rw [← HX.out]; push_cast; rfl), _, _, _, L9, rfl, HR9.out.row, by rw [HL9.out, HL2.out, HAT.out, HCE.out, List.append_assoc], HB9.out⟩
              case measure => (have := HX.out; simp [intOf]; omega)
        · have hjn : j = p.n.toNat := by omega
          have hpb : PBsIs wr (.slice ao' no' co') (rL p) := HM3.out.pbs _ (by rw [HL2.out, hjn]; rfl) (by omega)
          have HPB := Lib.hid hpb
          clear hpb hjn
          go_wp2_with fail
          refine bodyPost_ret (v := .tuple #[.slice ao' no' co', .int .i64 0]) ?_ rfl ⟨_, _, _, rfl, HPB.out, HB2.out.trans (HB3.out.mono HB2.out.size)⟩
          simp [results, Tryz.f17, go_sem]

end Go.Proofs.YtfhpfbakoiekpaaGreatDoor

/- ostlerlaw26.CompleteTells returns true and writes nothing that was there. -/
namespace Go.Proofs.YtfhpfbakoiekpaaGreatDoor
open Go.RowKit

def tlE (p : GP) : Int := if validE p = 0 then 0 else 2
def tlL (p : GP) : List PBC := if validE p = 0 then compL p else []

theorem tl_comp (p : GP) (v : Value) (w : World) (h : ProgIs w v p) :
    Calls Tryz.prog 16 #[v] w fun e w' => ∃ a c, e = .returned (.tuple #[.slice a (tlL p).length c, .int .i64 (tlE p)]) ∧ PBsIs w' (.slice a (tlL p).length c) (tlL p) ∧ Below w.heap.size w w' :=
  (compl_any v p w h).mono fun e w' ⟨vo, h1, h2, h3⟩ => by
    have h2 : PBsIs w' vo (tlL p) := h2
    obtain ⟨a, c, rfl, -⟩ := h2.form
    exact ⟨a, c, h1, h2, h3⟩
theorem tl_rcomp (p : GP) (v : Value) (w : World) (h : ProgIs w v p) :
    Calls Tryz.prog 17 #[v] w fun e w' => ∃ a c, e = .returned (.tuple #[.slice a (tlL p).length c, .int .i64 (tlE p)]) ∧ PBsIs w' (.slice a (tlL p).length c) (tlL p) ∧ Below w.heap.size w w' :=
  (rcomp_any v p w h).mono fun e w' ⟨a, n, c, h1, h2, h3⟩ => by
    have e0 : (if validE p = 0 then rL p else []) = tlL p := by
      unfold tlL
      split
      · rename_i hv; exact rL_is hv
      · rfl
    rw [e0] at h2
    obtain ⟨a', c', e1, -⟩ := h2.form
    rw [e1] at h1 h2
    exact ⟨a', c', h1, h2, h3⟩

theorem tl_sup (p : GP) (m : List Int) : (decide (validE p = 0) && (setQ p.n m && suppB p m)) = rsupB p m := by
  unfold rsupB
  rw [Bool.and_assoc]

/-- What the calls of the last comparison leave. -/
def tl26Φ (E : List Int) (sb : Bool) (i : Nat) (_ : List Value) (v : Value) (_ _ : Nat) (w : World) : Prop :=
  match i with
  | 2 => (∃ a n c, v = .slice a n c) ∧ Bytes8 w v E
  | 5 => (∃ a n c, v = .slice a n c) ∧ Bytes8 w v E
  | 10 => v = .bool sb
  | 13 => v = .bool sb
  | _ => v = .bool true
theorem tl26Φ_later (E : List Int) (sb : Bool) : ∀ i args v lo hi w w', tl26Φ E sb i args v lo hi w → Below w.heap.size w w' → tl26Φ E sb i args v lo hi w' := by
  intro i args v lo hi w w' h hb
  unfold tl26Φ at *
  split at h <;> first | exact h | exact ⟨h.1, h.2.below hb⟩


def TlCut (p : GP) (x : Int) (w2 : World) (a b : Value) (wx : World) : Prop := a = .int .i64 (varsI p) ∧ b = .int .i64 (bodyI p x) ∧ wx = w2
def TlRel (p : GP) (w W : World) (vn vs vr vm : Value) (i : Value) (wx : World) : Prop :=
  ∃ k : Nat, k ≤ (tlL p).length ∧ i = .int .i64 k ∧ LwSt w p vn vs vr vm wx ∧ Below W.heap.size W wx

set_option maxHeartbeats 8000000 in
set_option maxRecDepth 100000 in
theorem tl26_walk (vp vs0 : Value) (p : GP) (x : Int) (m : List Int) (w : World) (hP : ProgIs w vp p) (hx : InI x) (hM : Ints w vs0 m) :
    Calls Tryz.prog 4 #[vp, .int .i64 x, vs0] w fun e w' => e = .returned (.bool true) ∧ Below w.heap.size w w' := by
  have hP0 := hP
  obtain ⟨vn, vs, vr, vm, rfl, hPS⟩ := hP
  have hpn := hPS.n
  unfold InI at hpn
  have HX := Lib.hid hx
  unfold InI at hx
  obtain ⟨ar, cr, rfl, -, hlr, -, -⟩ := hPS.rules.form
  obtain ⟨am, cm, rfl, -, hlm, -, -⟩ := hM.form
  have HM := Lib.hid hM
  have HS0 := Lib.hid (LwSt.start hP0)
  clear hP0 hPS hM
  go_enter Tryz.func4, Tryz.ntmps4
  go_upto_region 1 with fail
  have kx0 := HS0.out.box.cell
  generalize w.alloc (.cells #[.int .i64 p.n, vn, vs, .slice ar p.rules.length cr, vm] 27) = W at *
  cases hfw : fewB p with
  | false =>
    have HFW := Lib.hid hfw
    clear hfw
    go_wp2_with (first | (go_at_call 5; (with_reducible refine (few_any _ p _ HS0.out.prog).mono ?_); rintro e w1 ⟨h1, hb1⟩; rw [HFW.out] at h1; subst h1; have HS1 := Lib.hid (HS0.out.on hb1); have kx1 := HS1.out.box.cell; clear hb1) | (go_at_call 14; (with_reducible refine (awake26_any _).mono ?_); rintro e w9 ⟨rfl, hb9⟩; have HS9 := Lib.hid (HS1.out.on hb9); have kx9 := HS9.out.box.cell; clear hb9))
    go_ret
    exact ⟨rfl, HS9.out.below⟩
  | true =>
    have HFW := Lib.hid hfw
    have hn10 : p.n ≤ 10 ∧ p.rules.length ≤ 12 := by
      unfold fewB at hfw
      simp only [Bool.and_eq_true, decide_eq_true_eq] at hfw
      omega
    clear hfw
    by_cases h20 : m.length ≤ 20
    case neg =>
      go_wp2_with (first | (go_at_call 5; (with_reducible refine (few_any _ p _ HS0.out.prog).mono ?_); rintro e w1 ⟨h1, hb1⟩; rw [HFW.out] at h1; subst h1; have HS1 := Lib.hid (HS0.out.on hb1); have kx1 := HS1.out.box.cell; clear hb1) | (go_at_call 14; (with_reducible refine (awake26_any _).mono ?_); rintro e w9 ⟨rfl, hb9⟩; have HS9 := Lib.hid (HS1.out.on hb9); have kx9 := HS9.out.box.cell; clear hb9))
      go_ret
      exact ⟨rfl, HS9.out.below⟩
    go_upto_if 27 with (first
      | (go_at_call 5; (with_reducible refine (few_any _ p _ HS0.out.prog).mono ?_); rintro e w1 ⟨h1, hb1⟩; rw [HFW.out] at h1; subst h1; have HS1 := Lib.hid (HS0.out.on hb1); have kx1 := HS1.out.box.cell; clear hb1)
      | (go_at_call 15; (with_reducible refine (valid_ref _ p _ HS1.out.prog).mono ?_); rintro e w2 ⟨rfl, hb2⟩; have HS2 := Lib.hid (HS1.out.on hb2); have kx2 := HS2.out.box.cell; clear hb2))
    go_cut [7, 8, 9, 26, 27] (fun _ a b _ _ wx => TlCut p x w2 a b wx)
    case first =>
      by_cases hv : validE p = 0
      · have hve : (validE p == 0) = true := by simp [hv]
        have HVA : Hid (varsI p = p.n + (p.rules.length : Int)) := Lib.hid (by unfold varsI; rw [if_pos hv])
        have hp0 := (validP hv).n
        by_cases h0 : 0 ≤ x
        · by_cases h1 : x < p.rules.length
          · have HB : Hid (bodyI p x = p.n + 1 + x) := Lib.hid (by unfold bodyI; rw [if_neg (by omega)])
            clear hv
            go_wp2_with fail
            go_meet
            case rel => exact ⟨by rw [HVA.out], by rw [HB.out], rfl⟩
          · have HB : Hid (bodyI p x = 0) := Lib.hid (by unfold bodyI; rw [if_pos (by omega)])
            clear hv
            go_wp2_with fail
            go_meet
            case rel => exact ⟨by rw [HVA.out], by rw [HB.out], rfl⟩
        · have HB : Hid (bodyI p x = 0) := Lib.hid (by unfold bodyI; rw [if_pos (by omega)])
          clear hv
          go_wp2_with fail
          go_meet
          case rel => exact ⟨by rw [HVA.out], by rw [HB.out], rfl⟩
      · have hve : (validE p == 0) = false := by simp [hv]
        have HVA : Hid (varsI p = 0) := Lib.hid (by unfold varsI; rw [if_neg hv])
        have HB : Hid (bodyI p x = 0) := Lib.hid (by unfold bodyI; rw [if_pos (.inr (.inr hv))])
        clear hv
        go_wp2_with fail
        go_meet
        case rel => exact ⟨by rw [HVA.out], by rw [HB.out], rfl⟩
    case rest =>
      obtain ⟨rfl, rfl, rfl⟩ := hcut
      have HC3 := Lib.hid (tl_comp p _ _ HS2.out.prog)
      obtain ⟨V, hV⟩ : ∃ V, varsI p = V := ⟨_, rfl⟩
      obtain ⟨Y, hY⟩ : ∃ Y, bodyI p x = Y := ⟨_, rfl⟩
      obtain ⟨E, hE⟩ : ∃ E, tlE p = E := ⟨_, rfl⟩
      obtain ⟨T, hT⟩ : ∃ T, tlL p = T := ⟨_, rfl⟩
      have HV := Lib.hid hV
      have HY := Lib.hid hY
      have HE := Lib.hid hE
      have HT := Lib.hid hT
      have HC4 : Hid (∀ v w, ProgIs w v p → Calls Tryz.prog 17 #[v] w fun e w' => ∃ a c, e = .returned (.tuple #[.slice a T.length c, .int .i64 E]) ∧ PBsIs w' (.slice a T.length c) T ∧ Below w.heap.size w w') := Lib.hid (by rw [← hT, ← hE]; exact tl_rcomp p)
      rw [hT, hE] at HC3
      rw [hV, hY]
      have hVV : (V != V) = false := by simp
      have hYY : (Y != Y) = false := by simp
      have hEE : (E != E) = false := by simp
      have hTT : ((T.length : Int) != (T.length : Int)) = false := by simp
      clear hV hY hE hT kx0 kx1
      generalize wc = w2 at *
      go_upto_if 80 with (first
        | (go_at_call 19; (with_reducible refine (body_any _ p w5 HS5.out.prog x HX.out).mono ?_); rintro e w6 ⟨e6, hb6⟩; rw [HY.out] at e6; subst e6; have HS6 := Lib.hid (HS5.out.on hb6); have kx6 := HS6.out.box.cell; have HO6 := Lib.hid (HO5.out.below hb6); have HU6 := Lib.hid (HU5.out.below hb6); clear hb6)
        | (go_at_call 18; (with_reducible refine (varsI_any _ p w4 HS4.out.prog).mono ?_); rintro e w5 ⟨e5, hb5⟩; rw [HV.out] at e5; subst e5; have HS5 := Lib.hid (HS4.out.on hb5); have kx5 := HS5.out.box.cell; have HO5 := Lib.hid (HO4.out.below hb5); have HU5 := Lib.hid (HU4.out.below hb5); clear hb5)
        | (go_at_call 17; (with_reducible refine (HC4.out _ w3 HS3.out.prog).mono ?_); rintro e w4 ⟨au, cu, rfl, hu, hb4⟩; have HS4 := Lib.hid (HS3.out.on hb4); have kx4 := HS4.out.box.cell; have HU4 := Lib.hid hu; have HO4 := Lib.hid (HO3.out.below hb4); clear hu hb4)
        | (go_at_call 16; (with_reducible refine (HC3.out).mono ?_); rintro e w3 ⟨ao, co, rfl, ho, hb3⟩; have HS3 := Lib.hid (HS2.out.on hb3); have kx3 := HS3.out.box.cell; have HO3 := Lib.hid ho; clear ho hb3))
      go_upto_region 14 with fail
      clear kx2 kx3 kx4 kx5 kx6 HC3 HC4 HO3 HO4 HO5 HU4 HU5
      have HLT : Hid (T.length ≤ 1000000000000000) := Lib.hid (by obtain ⟨_, _, _, _, h, -⟩ := HO6.out.form; exact h)
      have hTl := HLT.out
      go_loopw [83] (fun i wx => TlRel p w w6 vn vs (.slice ar p.rules.length cr) vm i wx) (fun i _ => T.length - (intOf i).toNat)
      case atStart => exact ⟨0, Nat.zero_le _, rfl, HS6.out, Below.refl _ _⟩
      case round =>
        obtain ⟨k, hk, rfl, hst, hb⟩ := hrel
        rw [HT.out] at hk
        have HST := Lib.hid hst
        have HB := Lib.hid hb
        clear hst
        by_cases hlt : k < T.length
        · obtain ⟨a1, c1, e1, -, -, -, hc1⟩ := HO6.out.form
          obtain ⟨b1, o1, ea1, hbl1, hcc1⟩ := hc1 (by omega)
          obtain ⟨a2, c2, e2, -, -, -, hc2⟩ := HU6.out.form
          obtain ⟨b2, o2, ea2, hbl2, hcc2⟩ := hc2 (by omega)
          simp only [Value.slice.injEq] at e1 e2
          obtain ⟨rfl, -, rfl⟩ := e1
          obtain ⟨rfl, -, rfl⟩ := e2
          subst ea1 ea2
          obtain ⟨v1, u1, q1, s1⟩ := hcc1 k hlt
          obtain ⟨v2, u2, q2, s2⟩ := hcc2 k hlt
          obtain ⟨f0, f1, f2⟩ := q1.below hb hbl1
          obtain ⟨g0, g1, g2⟩ := q2.below hb hbl2
          obtain ⟨x1, y1, rfl, -⟩ := s1.lits.form
          obtain ⟨x2, y2, rfl, -⟩ := s1.coefs.form
          obtain ⟨x3, y3, rfl, -⟩ := s2.lits.form
          obtain ⟨x4, y4, rfl, -⟩ := s2.coefs.form
          have hz1 : b1 < wr.heap.size := by have := hb.size; omega
          have hz2 : b2 < wr.heap.size := by have := hb.size; omega
          have p0 : ∀ e : Ext wr, e.world.cell? _ = _ := fun e => (bcell e.below _ _ hz1).trans f0
          have p1 : ∀ e : Ext wr, e.world.cell? _ = _ := fun e => (bcell e.below _ _ hz1).trans f1
          have p2 : ∀ e : Ext wr, e.world.cell? _ = _ := fun e => (bcell e.below _ _ hz1).trans f2
          have r0 : ∀ e : Ext wr, e.world.cell? _ = _ := fun e => (bcell e.below _ _ hz2).trans g0
          have r1 : ∀ e : Ext wr, e.world.cell? _ = _ := fun e => (bcell e.below _ _ hz2).trans g1
          have r2 : ∀ e : Ext wr, e.world.cell? _ = _ := fun e => (bcell e.below _ _ hz2).trans g2
          have HQ : Hid (∀ e : Ext wr, Calls Tryz.prog 13 #[.agg #[.slice x1 (ixC T k).lits.length y1, .slice x2 (ixC T k).coefs.length y2, .int .i64 (ixC T k).bound], .agg #[.slice x3 (ixC T k).lits.length y3, .slice x4 (ixC T k).coefs.length y4, .int .i64 (ixC T k).bound]] e.world fun e' w' => e' = .returned (.bool true) ∧ Below e.world.heap.size e.world w') := Lib.hid (fun e => (requal_any _ _ (ixC T k) (ixC T k) _ (s1.is.below (bon hb e.below)) (s2.is.below (bon hb e.below))).mono fun e' w' ⟨h1, h2⟩ => ⟨h1.trans (by simp), h2⟩)
          clear hc1 hc2 hcc1 hcc2 q1 q2 s1 s2 f0 f1 f2 g0 g1 g2 hb
          go_wp2
          refine wp_region_ext (by kernel_rfl) (by kernel_rfl) ?_
          repeat (go_big_quiet_step ((go_at_call 13; exact Calls.ext_of (HQ.out _))))
          refine wpQuiet_nil ?_
          intro w9 hw'
          obtain ⟨e9, he9⟩ := hw'
          have hb9 := e9.below
          rw [← he9] at hb9
          clear he9 e9
          try dsimp only
          go_wp2
          first
            | (go_roundw
               case rel => (exact ⟨k + 1, by (rw [HT.out]; exact hlt), by go_num, HST.out.on hb9, bon HB.out hb9⟩)
               case measure => (simp [intOf]; omega))
            | (refine ⟨?_, ?_⟩
               · (exact ⟨k + 1, by (rw [HT.out]; exact hlt), by go_num, HST.out.on hb9, bon HB.out hb9⟩)
               · (simp [intOf]; omega))
        · obtain rfl : k = T.length := by omega
          have HM7 := Lib.hid (HM.out.below HST.out.below)
          have kx := HST.out.box.cell
          have hz := HST.out.box.lt
          have kxe : ∀ e : Ext wr, ∀ o, e.world.cell? ⟨w.heap.size, o, none⟩ = _ := fun e o => (bcell e.below _ o hz).trans (HST.out.box.cell o)
          obtain ⟨sb, hsb⟩ : ∃ sb, rsupB p m = sb := ⟨_, rfl⟩
          have HSB := Lib.hid hsb
          have hss : (sb == sb) = true := by simp
          clear hsb hb
          go_upto_region 19 with fail
          refine wp_region_perm' (tl26Φ (extA p m) sb) (fun i => i == 2 || i == 5 || i == 6 || i == 10 || i == 13 || i == 17) (by kernel_rfl) (by kernel_rfl) (by kernel_rfl) (tl26Φ_later _ _) ?_
          iterate 2 (refine walkP_calm rfl rfl rfl (fun K hK => ?_); go_big_quiet_op; refine hK _ ?_; clear hK K)
          refine walkP_mem rfl rfl (fun wa hba hFa => ?_) (fun v lo hi l g h => ?_)
          · go_simp
            exact (extend_any _ _ p m _ (HST.out.prog.below hba) (HM7.out.below hba)).mono (fun e w2 ⟨a, c, h1, h2, h3⟩ => ⟨_, h1, h3, ⟨_, _, _, rfl⟩, h2⟩)
          obtain ⟨_, ⟨_, _, _, rfl⟩, -⟩ := h
          simp only [Act.put, List.setIfInBounds_toArray, List.set_cons_succ, List.set_cons_zero]
          iterate 2 (refine walkP_calm rfl rfl rfl (fun K hK => ?_); go_big_quiet_op; refine hK _ ?_; clear hK K)
          refine walkP_mem rfl rfl (fun wa hba hFa => ?_) (fun v lo hi l g h => ?_)
          · go_simp
            exact (rextend_any _ _ p m _ (HST.out.prog.below hba) (HM7.out.below hba)).mono (fun e w2 ⟨a, c, h1, h2, h3⟩ => ⟨_, h1, h3, ⟨_, _, _, rfl⟩, h2⟩)
          obtain ⟨_, ⟨_, _, _, rfl⟩, -⟩ := h
          simp only [Act.put, List.setIfInBounds_toArray, List.set_cons_succ, List.set_cons_zero]
          refine walkP_mem rfl rfl (fun wa hba hFa => ?_) (fun v lo hi l g h => ?_)
          · have f5 := hFa _ (.head _) (by kernel_rfl)
            have f2 := hFa _ (.tail _ (.head _)) (by kernel_rfl)
            obtain ⟨-, f5⟩ := f5
            obtain ⟨-, f2⟩ := f2
            go_simp
            exact (bits_any _ _ (extA p m) (extA p m) _ f2 f5).mono (fun e w2 ⟨h1, h2⟩ => ⟨_, h1.trans (by simp), h2, rfl⟩)
          obtain ⟨_, rfl⟩ := h
          simp only [Act.put, List.setIfInBounds_toArray, List.set_cons_succ, List.set_cons_zero]
          iterate 3 (refine walkP_calm rfl rfl rfl (fun K hK => ?_); go_big_quiet_op; refine hK _ ?_; clear hK K)
          refine walkP_mem rfl rfl (fun wa hba hFa => ?_) (fun v lo hi l g h => ?_)
          · go_simp
            exact (supported_any _ _ p m _ (HST.out.prog.below hba) (HM7.out.below hba)).mono (fun e w2 ⟨h1, h2⟩ => ⟨_, h1.trans (by rw [tl_sup, HSB.out]), h2, rfl⟩)
          obtain ⟨_, rfl⟩ := h
          simp only [Act.put, List.setIfInBounds_toArray, List.set_cons_succ, List.set_cons_zero]
          iterate 2 (refine walkP_calm rfl rfl rfl (fun K hK => ?_); go_big_quiet_op; refine hK _ ?_; clear hK K)
          refine walkP_mem rfl rfl (fun wa hba hFa => ?_) (fun v lo hi l g h => ?_)
          · go_simp
            exact (rsupp_any _ _ p m _ (HST.out.prog.below hba) (HM7.out.below hba)).mono (fun e w2 ⟨h1, h2⟩ => ⟨_, h1.trans (by rw [HSB.out]), h2, rfl⟩)
          obtain ⟨_, rfl⟩ := h
          simp only [Act.put, List.setIfInBounds_toArray, List.set_cons_succ, List.set_cons_zero]
          iterate 3 (refine walkP_calm rfl rfl rfl (fun K hK => ?_); go_big_quiet_op; refine hK _ ?_; clear hK K)
          refine walkP_mem rfl rfl (fun wa hba hFa => ?_) (fun v lo hi l g h => ?_)
          · go_simp
            exact (awake26_any _).mono (fun e w2 ⟨h1, h2⟩ => ⟨_, h1, h2, rfl⟩)
          obtain ⟨_, rfl⟩ := h
          simp only [Act.put, List.setIfInBounds_toArray, List.set_cons_succ, List.set_cons_zero]
          iterate 2 (refine walkP_calm rfl rfl rfl (fun K hK => ?_); go_big_quiet_op; refine hK _ ?_; clear hK K)
          intro wx hbx hF hI hP
          have HBX := Lib.hid hbx
          clear hF hI hP hbx
          go_wp2_with fail
          go_ret
          exact ⟨rfl, (HST.out.on HBX.out).below⟩

theorem tells26_law {W : World} {vp vm : Value} {p : GP} {m : List Int} (hP : ProgIs W vp p) (x : Int) (hx : (Lit.int .i64 x).wf = true) (hM : Ints W vm m) :
    Calls Tryz.prog 4 #[vp, .int .i64 x, vm] W fun e W' => e = .returned (.bool true) ∧ Below W.heap.size W W' :=
  tl26_walk vp vm p x m W hP (by unfold InI; exact wf_i64 hx) hM

end Go.Proofs.YtfhpfbakoiekpaaGreatDoor

/- The arguments of a statement, opened. -/
namespace Go.Proofs.YtfhpfbakoiekpaaGreatDoor
open Go.RowKit Go.WideShapes

section
variable {H : Type} {enc : TypeId × Value → H} {w : World} {r : Reach} {b0 : Nat} {v : Value} {d : DataW H} {q : List MemPlace}

theorem arg_reads {P : Program} {t : TypeId} (h : DataW.Trod enc P w 0 (fun _ => true) true t v d q) (hw : ∀ m ∈ d.weights P t, m ≤ reachBytes) : Reads enc P w t v.cells.toList := by
  obtain ⟨fuel, hf⟩ := h
  exact ⟨fuel, _, hf, hw⟩

set_option maxRecDepth 100000 in
theorem arg_Prog (hv : Value.okWide Tryz.prog w r b0 27 v) (h : DataW.Trod enc Tryz.prog w 0 (fun _ => true) true 27 v d q) (hw : ∀ m ∈ d.weights Tryz.prog 27, m ≤ reachBytes) : ∃ p, ProgIs w v p := by
  obtain ⟨cs, rfl, -⟩ := okWide_struct Tryz.underlying27 hv
  have hr := arg_reads h hw
  obtain ⟨p, vn, vs, vr, vm, he, hp⟩ := open_Prog hr
  refine ⟨p, vn, vs, vr, vm, ?_, hp⟩
  have : cs.toList = [.int .i64 p.n, vn, vs, vr, vm] := by simpa [Value.cells] using he
  congr 1
  exact Array.toList_inj.1 this

end

end Go.Proofs.YtfhpfbakoiekpaaGreatDoor

/- More arguments of a statement, opened: a list of ints, a constraint. -/
namespace Go.Proofs.YtfhpfbakoiekpaaGreatDoor
open Go.RowKit Go.WideShapes

section
variable {H : Type} {enc : TypeId × Value → H} {w : World} {r : Reach} {b0 : Nat} {v : Value} {d : DataW H} {q : List MemPlace}

set_option maxRecDepth 100000 in
theorem arg_Ints (hv : Value.okWide Tryz.prog w r b0 23 v) (h : DataW.Trod enc Tryz.prog w 0 (fun _ => true) true 23 v d q) (hw : ∀ m ∈ d.weights Tryz.prog 23, m ≤ reachBytes) : ∃ l, Ints w v l := by
  obtain ⟨a, n, c, rfl⟩ := okWide_slice Tryz.underlying23 hv
  have hr := arg_reads h hw
  obtain ⟨v', l, he, hp⟩ := open_Ints hr
  have : Value.slice a n c = v' := by simpa [Value.cells] using he
  subst this
  exact ⟨l, hp⟩
end

end Go.Proofs.YtfhpfbakoiekpaaGreatDoor
