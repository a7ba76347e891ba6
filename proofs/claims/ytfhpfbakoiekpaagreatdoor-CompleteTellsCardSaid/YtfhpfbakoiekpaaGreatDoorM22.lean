/- My texts Rc1, Rf26e, Rf26p, Rf26r, RowK, Rf26t, merged. -/
import Derived.Test.YtfhpfbakoiekpaaGreatDoorM21
import Derived.Test.YtfhpfbakoiekpaaGreatDoorM05
import Derived.Test.YtfhpfbakoiekpaaGreatDoorM14
import Derived.Test.YtfhpfbakoiekpaaGreatDoorM06
import Derived.Test.YtfhpfbakoiekpaaGreatDoorM13

/- ostlerref24.Clause: its contract. -/
namespace Go.Proofs.YtfhpfbakoiekpaaGreatDoor
open Go.RowKit

/-! ### Membership by steps -/
def memTo (T : List Int) (x : Int) : Nat → Bool
  | 0 => false
  | j + 1 => memTo T x j || decide (ix T j = x)

theorem memTo_iff {T : List Int} {x : Int} : ∀ j : Nat, j ≤ T.length → (memTo T x j = true ↔ ∃ i, i < j ∧ ix T i = x)
  | 0, _ => by simp [memTo]
  | j + 1, hj => by
    have ih := memTo_iff (T := T) (x := x) j (by omega)
    unfold memTo
    rw [Bool.or_eq_true, ih, decide_eq_true_eq]
    constructor
    · rintro (⟨i, h1, h2⟩ | h)
      · exact ⟨i, by omega, h2⟩
      · exact ⟨j, by omega, h⟩
    · rintro ⟨i, h1, h2⟩
      by_cases e : i = j
      · exact .inr (e ▸ h2)
      · exact .inl ⟨i, by omega, h2⟩

theorem memTo_all (T : List Int) (x : Int) : memTo T x T.length = decide (x ∈ T) := by
  have h := memTo_iff (T := T) (x := x) T.length (Nat.le_refl _)
  rw [← mem_ix_iff] at h
  by_cases hx : x ∈ T
  · rw [decide_eq_true hx]; exact h.2 hx
  · rw [decide_eq_false hx]
    cases e : memTo T x T.length with
    | false => rfl
    | true => exact absurd (h.1 e) hx

theorem ones_snoc (n : Nat) : ones n ++ [1] = ones (n + 1) := by
  unfold ones
  rw [List.replicate_succ']
theorem ones_len (n : Nat) : (ones n).length = n := by simp [ones]

/-! ### Two rows that grow side by side -/
structure RD (w : World) (vo vn : Value) (T U : List Int) (wx : World) : Prop where
  ro : QRow (w.heap.size + 1) wx vo T
  rn : QRow (w.heap.size + 1) wx vn U
  far : Far vo vn
  box : Blk wx w.heap.size pbZ 30
  below : Below w.heap.size w wx

section
variable {w wx wy : World} {vo vn vo' vn' : Value} {T U T' U' : List Int}
theorem RD.on (h : RD w vo vn T U wx) (hb : Below wx.heap.size wx wy) : RD w vo vn T U wy :=
  ⟨h.ro.below hb, h.rn.below hb, h.far, h.box.below hb, bon h.below hb⟩
theorem RD.alloc (h : RD w vo vn T U wx) (o : Obj) : RD w vo vn T U (wx.alloc o) := h.on (bal (Below.refl wx.heap.size wx) o)
theorem RD.app1 (h : RD w vo vn T U wx) (hq : QRow (w.heap.size + 1) wy vo' T') (hg : wx.grownBy wy vo.ownBlock) (ho : vo'.ownBlock = vo.ownBlock ∨ vo'.ownBlock = some wx.heap.size) : RD w vo' vn T' U wy := by
  have hlt := h.box.lt
  refine ⟨hq, h.rn.kept fun i h1 h2 h3 => hg.block i h2 (fun e => h.far i e.symm h3), fun g e e2 => ?_, h.box.same (hg.block _ hlt (fun e => by have := (h.ro.base e.symm).1; omega)), h.below.trans (below_row hg (by omega) (fun g e => by have := (h.ro.base e).1; omega))⟩
  rcases ho with h1 | h1
  · exact h.far g (h1 ▸ e) e2
  · rw [h1] at e
    have := (h.rn.base e2).2
    have := Option.some.inj e
    omega
theorem RD.app2 (h : RD w vo vn T U wx) (hq : QRow (w.heap.size + 1) wy vn' U') (hg : wx.grownBy wy vn.ownBlock) (ho : vn'.ownBlock = vn.ownBlock ∨ vn'.ownBlock = some wx.heap.size) : RD w vo vn' T U' wy := by
  have hlt := h.box.lt
  refine ⟨h.ro.kept fun i h1 h2 h3 => hg.block i h2 (fun e => h.far i h3 e.symm), hq, fun g e e2 => ?_, h.box.same (hg.block _ hlt (fun e => by have := (h.rn.base e.symm).1; omega)), h.below.trans (below_row hg (by omega) (fun g e => by have := (h.rn.base e).1; omega))⟩
  rcases ho with h1 | h1
  · exact h.far g e (h1 ▸ e2)
  · rw [h1] at e2
    have := (h.ro.base e).2
    have := Option.some.inj e2
    omega
end

def Rc1Rel (L : List Int) (w : World) (vo vn i : Value) (wx : World) : Prop :=
  ∃ k : Nat, k ≤ L.length ∧ i = .int .i64 k ∧ RD w vo vn (onceTo L k) (ones (onceTo L k).length) wx
def Rc2Rel (T U : List Int) (x : Int) (w : World) (vo vn : Value) (m j : Value) (wx : World) : Prop :=
  ∃ i : Nat, i ≤ T.length ∧ j = .int .i64 i ∧ m = .bool (memTo T x i) ∧ RD w vo vn T U wx

set_option maxHeartbeats 4000000 in
set_option maxRecDepth 100000 in
theorem rclause_any (v : Value) (L : List Int) (w : World) (h : Ints w v L) (hl : L.length ≤ 65536) :
    Calls Tryz.prog 35 #[v] w fun e w' => ∃ vp, e = .returned (.tuple #[vp, .int .i64 (refClause L).2]) ∧ PBQ w.heap.size w' vp (refClause L).1 ∧ Below w.heap.size w w' := by
  have HI := Lib.hid h
  obtain ⟨a1, c1, rfl, -, hl1, -, hcell⟩ := h.form
  have HC := Lib.hid hcell
  have hS0 : RD w (.slice none 0 0) (.slice none 0 0) (onceTo L 0) (ones (onceTo L 0).length) (w.alloc (.cells #[.slice none 0 0, .slice none 0 0, .int .i64 0] 30)) := ⟨QRow.nil _ _, QRow.nil _ _, fun g e => by (cases e), Blk.new w pbZ _, bal (Below.refl w.heap.size w) _⟩
  have HS0 := Lib.hid hS0
  clear h hcell hS0
  go_enter Tryz.func35, Tryz.ntmps35
  go_upto_region 3 with fail
  generalize w.alloc (.cells #[.slice none 0 0, .slice none 0 0, .int .i64 0] 30) = W0 at *
  go_loopw [4, 5, 6] (fun o n i wx => Rc1Rel L w o n i wx) (fun _ _ i _ => L.length - (intOf i).toNat)
  case atStart => exact ⟨0, Nat.zero_le _, rfl, HS0.out⟩
  case round =>
    obtain ⟨k, hk, rfl, hst⟩ := hrel
    have HS := Lib.hid hst
    have hTl := onceTo_len L k
    obtain ⟨ao, co, rfl⟩ := hst.ro.slen
    obtain ⟨an, cn, rfl⟩ := hst.rn.slen
    have HON : Hid (onceTo L (k + 1) = if ix L k ∈ onceTo L k then onceTo L k else onceTo L k ++ [ix L k]) := Lib.hid rfl
    have HFI : Hid (k = L.length → refClause L = normP (onceTo L k) (ones (onceTo L k).length) 1) := Lib.hid (fun e => by rw [e]; rfl)
    have HUL := Lib.hid (ones_len (onceTo L k).length)
    clear hst
    by_cases hlt : k < L.length
    · obtain ⟨b1, o1, rfl, hb1', hc1⟩ := HC.out (by omega)
      have HCK := Lib.hid (hc1 k hlt)
      have HXI : Hid (InI (ix L k)) := Lib.hid (HI.out.2 k)
      clear hc1 HFI
      generalize onceTo L k = T at *
      generalize hU : ones T.length = U at *
      have HU := Lib.hid hU
      clear hU
      go_upto_region 7 with fail
      have HS5 := Lib.hid HS.out
      clear HS
      generalize wr = wq at *
      go_loopw [7, 8] (fun m j wx => Rc2Rel T U (ix L k) w (.slice ao T.length co) (.slice an U.length cn) m j wx) (fun _ j _ => T.length - (intOf j).toNat)
      case atStart => exact ⟨0, Nat.zero_le _, rfl, rfl, HS5.out⟩
      case round =>
        obtain ⟨j, hj, rfl, rfl, hst⟩ := hrel
        have HS := Lib.hid hst
        have hbl := hst.below
        have hzz := hst.box.lt
        have HM := Lib.hid (show memTo T (ix L k) (j + 1) = (memTo T (ix L k) j || decide (ix T j = ix L k)) from rfl)
        have HMA : Hid (j = T.length → memTo T (ix L k) j = decide (ix L k ∈ T)) := Lib.hid (fun e => by rw [e, memTo_all])
        by_cases hjl : j < T.length
        · obtain ⟨b0, o0, rfl, hb0, hk0⟩ := (hst.ro.ints (by omega)).at hjl
          have hl1' : b1 < wr.heap.size := by omega
          have hk1 := (bcell hbl _ _ hb1').trans HCK.out
          have q1 : ∀ e : Ext wr, e.world.cell? ⟨b0, o0 + j, none⟩ = some (.int .i64 (ix T j)) := fun e => (bcell e.below _ _ hb0).trans hk0
          have q2 : ∀ e : Ext wr, e.world.cell? ⟨b1, o1 + k, none⟩ = some (.int .i64 (ix L k)) := fun e => (bcell e.below _ _ hl1').trans hk1
          clear hst hbl hk0 hk1
          cases hm : memTo T (ix L k) j with
          | true =>
            rw [hm] at HM
            clear hm HMA
            go_wp2
            refine wp_region_ext (by kernel_rfl) (by kernel_rfl) ?_
            repeat (go_big_quiet_step (fail))
            refine wpQuiet_nil ?_
            intro w9 hw'
            obtain ⟨e9, he9⟩ := hw'
            have hb9 := e9.below
            rw [← he9] at hb9
            clear he9 e9
            try dsimp only
            go_wp2
            first
              | (go_roundw
                 case rel => (exact ⟨j + 1, hjl, by go_num, by rw [HM.out]; rfl, HS.out.on hb9⟩)
                 case measure => (simp [intOf]; omega))
              | (refine ⟨?_, ?_⟩
                 · (exact ⟨j + 1, hjl, by go_num, by rw [HM.out]; rfl, HS.out.on hb9⟩)
                 · (simp [intOf]; omega))
          | false =>
            rw [hm] at HM
            clear hm HMA
            by_cases g1 : ix T j = ix L k
            · rw [decide_eq_true g1] at HM
              go_wp2
              refine wp_region_ext (by kernel_rfl) (by kernel_rfl) ?_
              repeat (go_big_quiet_step (fail))
              refine wpQuiet_nil ?_
              intro w9 hw'
              obtain ⟨e9, he9⟩ := hw'
              have hb9 := e9.below
              rw [← he9] at hb9
              clear he9 e9
              try dsimp only
              go_wp2
              first
                | (go_roundw
                   case rel => (exact ⟨j + 1, hjl, by go_num, by rw [HM.out]; rfl, HS.out.on hb9⟩)
                   case measure => (simp [intOf]; omega))
                | (refine ⟨?_, ?_⟩
                   · (exact ⟨j + 1, hjl, by go_num, by rw [HM.out]; rfl, HS.out.on hb9⟩)
                   · (simp [intOf]; omega))
            · rw [decide_eq_false g1] at HM
              go_wp2
              refine wp_region_ext (by kernel_rfl) (by kernel_rfl) ?_
              repeat (go_big_quiet_step (fail))
              refine wpQuiet_nil ?_
              intro w9 hw'
              obtain ⟨e9, he9⟩ := hw'
              have hb9 := e9.below
              rw [← he9] at hb9
              clear he9 e9
              try dsimp only
              go_wp2
              first
                | (go_roundw
                   case rel => (exact ⟨j + 1, hjl, by go_num, by simp [HM.out, g1], HS.out.on hb9⟩)
                   case measure => (simp [intOf]; omega))
                | (refine ⟨?_, ?_⟩
                   · (exact ⟨j + 1, hjl, by go_num, by simp [HM.out, g1], HS.out.on hb9⟩)
                   · (simp [intOf]; omega))
        · obtain rfl : j = T.length := by omega
          rw [HMA.out rfl]
          have hk1 := (bcell hbl _ _ hb1').trans HCK.out
          clear hst hbl HMA HM
          by_cases hin : ix L k ∈ T
          · rw [decide_eq_true hin]
            have HN : Hid (onceTo L (k + 1) = T) := Lib.hid (by rw [HON.out, if_pos hin])
            clear hin HON
            go_wp2
            first
              | (go_roundw
                 case rel => (exact ⟨k + 1, hlt, by go_num, by rw [HN.out, HU.out]; exact HS.out⟩)
                 case measure => (simp [intOf]; omega))
              | (refine ⟨?_, ?_⟩
                 · (exact ⟨k + 1, hlt, by go_num, by rw [HN.out, HU.out]; exact HS.out⟩)
                 · (simp [intOf]; omega))
          · rw [decide_eq_false hin]
            have HN : Hid (onceTo L (k + 1) = T ++ [ix L k]) := Lib.hid (by rw [HON.out, if_neg hin])
            have HN2 : Hid (ones (T ++ [ix L k]).length = U ++ [1]) := Lib.hid (by rw [← HU.out, ones_snoc, List.length_append]; rfl)
            have h1I : InI 1 := by unfold InI; omega
            have HA := Lib.hid (HS.out.alloc (.cells #[.int .i64 (ix L k)] 3))
            clear hin HON
            go_wp2_with (first
              | (at_builtin; refine wpList_appendQ rfl _ _ 23 Tryz.underlying23 rfl (w.heap.size + 1) _ U 1 rfl HA5.out.rn w4.heap.size 1 rfl (Blk.new w4 [.int .i64 1] _) h1I (by have := HUL.out; omega) (by simp; omega) ?_; intro v5 w5 hq5 hg5 ho5; have HS5 := Lib.hid (HA5.out.app2 hq5 hg5 ho5); obtain ⟨av5, nv5, cv5, rfl⟩ := hq5.form; clear hq5 hg5 ho5)
              | (at_builtin; refine wpList_appendQ rfl _ _ 23 Tryz.underlying23 rfl (w.heap.size + 1) _ T (ix L k) rfl HA.out.ro wr.heap.size 1 rfl (Blk.new wr [.int .i64 (ix L k)] _) HXI.out (by omega) (by simp; omega) ?_; intro v4 w4 hq4 hg4 ho4; have HS4 := Lib.hid (HA.out.app1 hq4 hg4 ho4); have hz4 := HS4.out.below.size; have HA5 := Lib.hid (HS4.out.alloc (.cells #[.int .i64 1] 3)); have hz5 := HS4.out.box.lt; obtain ⟨av4, nv4, cv4, rfl⟩ := hq4.form; clear hq4 hg4 ho4))
            first
              | (go_roundw
                 case rel => (exact ⟨k + 1, hlt, by go_num, by rw [HN.out, HN2.out]; exact HS5.out⟩)
                 case measure => (simp [intOf]; omega))
              | (refine ⟨?_, ?_⟩
                 · (exact ⟨k + 1, hlt, by go_num, by rw [HN.out, HN2.out]; exact HS5.out⟩)
                 · (simp [intOf]; omega))
    · obtain rfl : k = L.length := by omega
      have HF := Lib.hid (HFI.out rfl)
      have HS2 := Lib.hid HS.out
      have kx := HS.out.box.cell
      have kf := HS.out.box.free
      have hz := HS.out.box.lt
      have HIO := HS.out.ro.ints (by omega)
      have HIN := HS.out.rn.ints (by have := HUL.out; omega)
      have HR := Lib.hid (rnorm_any _ _ _ _ 1 wr HIO HIN (by unfold InI; omega))
      rw [← HF.out] at HR
      clear HIO HIN HS HFI HON
      clear kx kf HUL
      go_wp2_with (go_at_call 94; (with_reducible refine (HR.out).mono ?_); rintro e w1 ⟨vp, rfl, ⟨ul, uk, rfl, hq1, hq2, hq3, hq4, hq5⟩, hb1⟩; have HB1 := Lib.hid (bon HS2.out.below hb1); have HBX := Lib.hid (HS2.out.box.below hb1); have kx := HBX.out.cell; have kf := HBX.out.free; have HQ1 := Lib.hid hq1; have HQ2 := Lib.hid hq2; have HQ3 := Lib.hid hq3; have HQ4 := Lib.hid hq4; have HQ5 := Lib.hid hq5; obtain ⟨au, cu, rfl⟩ := hq1.slen; obtain ⟨at', ct, rfl⟩ := hq2.slen; clear hq1 hq2 hq3 hq4 hq5 hb1)
      have hQ1 := HQ1.out
      have hQ2 := HQ2.out
      refine bodyPost_ret (v := .tuple #[.agg #[.slice au (refClause L).1.lits.length cu, .slice at' (refClause L).1.coefs.length ct, .int .i64 (refClause L).1.bound], .int .i64 (refClause L).2]) (by simp [results, Tryz.f35, go_sem, *]) rfl ⟨_, rfl, ⟨_, _, rfl, (row3 hQ1 w.heap.size (by omega) _ _ _).mono (by omega), (row3 hQ2 w.heap.size (by omega) _ _ _).mono (by omega), HQ3.out, HQ4.out, HQ5.out⟩, below3 HB1.out _ (Nat.le_refl _) _ _ _⟩

end Go.Proofs.YtfhpfbakoiekpaaGreatDoor

/- ostlerref26: clause, norm. -/
namespace Go.Proofs.YtfhpfbakoiekpaaGreatDoor
open Go.RowKit

set_option maxHeartbeats 4000000 in
set_option maxRecDepth 100000 in
theorem rfclause_any (v : Value) (L : List Int) (w : World) (h : Ints w v L) (hl : L.length ≤ 65536) :
    Calls Tryz.prog 62 #[v] w fun e w' => ∃ vp, e = .returned vp ∧ PBQ w.heap.size w' vp (refClause L).1 ∧ Below w.heap.size w w' := by
  obtain ⟨a1, c1, rfl, -⟩ := h.form
  have hal := bal (Below.refl w.heap.size w) (.cells #[.slice none 0 0, .slice none 0 0, .int .i64 0] 30)
  have HAL := Lib.hid hal
  have HBK := Lib.hid (Blk.new w pbZ 30)
  have HC := Lib.hid (rclause_any _ L _ (h.below hal) hl)
  have hz0 := HBK.out.lt
  clear h hal
  generalize refClause L = RE at *
  obtain ⟨R, E⟩ := RE
  dsimp only at HC ⊢
  go_enter Tryz.func62, Tryz.ntmps62
  go_upto_region 1 with fail
  generalize w.alloc (.cells #[.slice none 0 0, .slice none 0 0, .int .i64 0] 30) = W0 at *
  go_upto_region 2 with (go_at_call 35; (with_reducible refine (HC.out).mono ?_); rintro e w1 ⟨vp, rfl, ⟨ul, uk, rfl, hq1, hq2, hq3, hq4, hq5⟩, hb1⟩; have HB1 := Lib.hid (bon HAL.out hb1); have HX1 := Lib.hid (HBK.out.below hb1); have HQ1 := Lib.hid hq1; have HQ2 := Lib.hid hq2; have HQ3 := Lib.hid hq3; have HQ4 := Lib.hid hq4; have HQ5 := Lib.hid hq5; obtain ⟨au, cu, rfl⟩ := hq1.slen; obtain ⟨ak, ck, rfl⟩ := hq2.slen; have hz1 := HX1.out.lt; clear hq1 hq2 hq3 hq4 hq5 hb1)
  have hal2 := bal (Below.refl w1.heap.size w1) (.cells #[.slice au R.lits.length cu, .slice ak R.coefs.length ck, .int .i64 R.bound] 30)
  have HQ1b := Lib.hid (HQ1.out.below hal2)
  have HQ2b := Lib.hid (HQ2.out.below hal2)
  have HBKb := Lib.hid (Blk.new w1 [.slice au R.lits.length cu, .slice ak R.coefs.length ck, .int .i64 R.bound] 30)
  have HX2 := Lib.hid (HX1.out.below hal2)
  have HB2 := Lib.hid (bon HB1.out hal2)
  generalize w1.alloc (.cells #[.slice au R.lits.length cu, .slice ak R.coefs.length ck, .int .i64 R.bound] 30) = w2 at *
  clear hal2
  have kx2 := HX2.out.cell
  have kf2 := HX2.out.free
  have kb2 := HBKb.out.cell
  go_wp2
  have hQ1 := HQ1b.out
  have hQ2 := HQ2b.out
  have hB2 := HB2.out
  refine bodyPost_ret (v := .agg #[.slice au R.lits.length cu, .slice ak R.coefs.length ck, .int .i64 R.bound]) (by simp [results, Tryz.f62, go_sem, *]) rfl ⟨_, rfl, ⟨_, _, rfl, (row3 hQ1 w.heap.size (by omega) _ _ _).mono (by omega), (row3 hQ2 w.heap.size (by omega) _ _ _).mono (by omega), HQ3.out, HQ4.out, HQ5.out⟩, below3 hB2 _ (Nat.le_refl _) _ _ _⟩

set_option maxHeartbeats 4000000 in
set_option maxRecDepth 100000 in
theorem rfnorm_any (v1 v2 : Value) (L K : List Int) (B : Int) (w : World) (h1 : Ints w v1 L) (h2 : Ints w v2 K) (hB : InI B) :
    Calls Tryz.prog 108 #[v1, v2, .int .i64 B] w fun e w' => ∃ vp, e = .returned vp ∧ PBQ w.heap.size w' vp (normP L K B).1 ∧ Below w.heap.size w w' := by
  obtain ⟨a1, c1, rfl, -⟩ := h1.form
  obtain ⟨a2, c2, rfl, -⟩ := h2.form
  have hal := bal (Below.refl w.heap.size w) (.cells #[.slice none 0 0, .slice none 0 0, .int .i64 0] 30)
  have HAL := Lib.hid hal
  have HBK := Lib.hid (Blk.new w pbZ 30)
  have HC := Lib.hid (rnorm_any _ _ L K B _ (h1.below hal) (h2.below hal) hB)
  have hz0 := HBK.out.lt
  clear h1 h2 hal
  generalize normP L K B = RE at *
  obtain ⟨R, E⟩ := RE
  dsimp only at HC ⊢
  go_enter Tryz.func108, Tryz.ntmps108
  go_upto_region 1 with fail
  generalize w.alloc (.cells #[.slice none 0 0, .slice none 0 0, .int .i64 0] 30) = W0 at *
  go_upto_region 2 with (go_at_call 94; (with_reducible refine (HC.out).mono ?_); rintro e w1 ⟨vp, rfl, ⟨ul, uk, rfl, hq1, hq2, hq3, hq4, hq5⟩, hb1⟩; have HB1 := Lib.hid (bon HAL.out hb1); have HX1 := Lib.hid (HBK.out.below hb1); have HQ1 := Lib.hid hq1; have HQ2 := Lib.hid hq2; have HQ3 := Lib.hid hq3; have HQ4 := Lib.hid hq4; have HQ5 := Lib.hid hq5; obtain ⟨au, cu, rfl⟩ := hq1.slen; obtain ⟨ak, ck, rfl⟩ := hq2.slen; have hz1 := HX1.out.lt; clear hq1 hq2 hq3 hq4 hq5 hb1)
  have hal2 := bal (Below.refl w1.heap.size w1) (.cells #[.slice au R.lits.length cu, .slice ak R.coefs.length ck, .int .i64 R.bound] 30)
  have HQ1b := Lib.hid (HQ1.out.below hal2)
  have HQ2b := Lib.hid (HQ2.out.below hal2)
  have HBKb := Lib.hid (Blk.new w1 [.slice au R.lits.length cu, .slice ak R.coefs.length ck, .int .i64 R.bound] 30)
  have HX2 := Lib.hid (HX1.out.below hal2)
  have HB2 := Lib.hid (bon HB1.out hal2)
  generalize w1.alloc (.cells #[.slice au R.lits.length cu, .slice ak R.coefs.length ck, .int .i64 R.bound] 30) = w2 at *
  clear hal2
  have kx2 := HX2.out.cell
  have kf2 := HX2.out.free
  have kb2 := HBKb.out.cell
  go_wp2
  have hQ1 := HQ1b.out
  have hQ2 := HQ2b.out
  have hB2 := HB2.out
  refine bodyPost_ret (v := .agg #[.slice au R.lits.length cu, .slice ak R.coefs.length ck, .int .i64 R.bound]) (by simp [results, Tryz.f108, go_sem, *]) rfl ⟨_, rfl, ⟨_, _, rfl, (row3 hQ1 w.heap.size (by omega) _ _ _).mono (by omega), (row3 hQ2 w.heap.size (by omega) _ _ _).mono (by omega), HQ3.out, HQ4.out, HQ5.out⟩, below3 hB2 _ (Nat.le_refl _) _ _ _⟩

end Go.Proofs.YtfhpfbakoiekpaaGreatDoor

/- The reference's constraints are the program's: plain law. -/
namespace Go.Proofs.YtfhpfbakoiekpaaGreatDoor
open Go.RowKit

theorem byTo_low {L K : List Int} {v : Int} : ∀ j : Nat, (∀ i, i < j → 0 ≤ ix K i) → 0 ≤ nTo L K v j ∧ -(nTo L K v j) ≤ byTo L K v j
  | 0, _ => by simp [nTo, byTo]
  | j + 1, h => by
    have ih := byTo_low (L := L) (K := K) (v := v) j fun i hi => h i (by omega)
    have hk := h j (by omega)
    rw [byTo_succ]
    unfold nTo
    by_cases h1 : ix L j = v <;> by_cases h2 : ix L j = -v <;> simp [h1, h2] <;> (try split) <;> omega

theorem bndTo_le {L K : List Int} {B : Int} {V : List Int} (hK : ∀ i, i < L.length → 0 ≤ ix K i) : ∀ i : Nat, bndTo L K B V i ≤ B
  | 0 => by simp [bndTo]
  | i + 1 => by
    have ih := bndTo_le (B := B) (V := V) hK i
    have h1 := byTo_low (L := L) (v := ix V i) L.length hK
    rw [bndTo_next]
    unfold bIn lowI
    split <;> omega

theorem ix_nonneg {K : List Int} (h : ∀ x ∈ K, 0 ≤ x) (j : Nat) : 0 ≤ ix K j := by
  unfold ix
  rw [List.getD_eq_getElem?_getD]
  cases e : K[j]? with
  | none => simp
  | some x => exact h x (List.mem_of_getElem? e)

theorem normP_nonpos {L K : List Int} {B : Int} (hB : B ≤ 0) (hK : ∀ x ∈ K, 0 ≤ x) : (normP L K B).1 = ⟨[], [], 0⟩ := by
  unfold normP
  split
  · rfl
  · split
    · rfl
    · rename_i h1 h2
      have h2 : allR L.length (pokAt L K) = true := by
        cases e : allR L.length (pokAt L K) with
        | false => exact absurd e h2
        | true => rfl
      rw [← bndTo_all fun j hj => (pok_at (allR_get h2 j hj)).1]
      unfold normC
      rw [if_pos (Int.le_trans (bndTo_le (fun i _ => ix_nonneg hK i) _) hB)]

/-! ### The reference's constraints -/
def rH (r : GR) (b : Int) : List PBC :=
  if r.sum then [(normP (r.body ++ [-b]) (r.w ++ [r.bound]) r.bound).1, if 0 < restI r then (normP (negL r.body ++ [b]) (r.w ++ [restI r]) (restI r)).1 else ⟨[], [], 0⟩]
  else (r.body.map fun l => (refClause [-b, l]).1) ++ [(refClause (negL r.body ++ [b])).1]
def rR (r : GR) (b : Int) : List PBC := rH r b ++ (if r.choice then [] else [(refClause (r.head ++ [-b])).1])
def rAtom (p : GP) (a : Int) : PBC := (refClause (-a :: supAt' p a p.rules.length)).1
def rTo (p : GP) : Nat → List PBC
  | 0 => []
  | k + 1 => rTo p k ++ rR (ixR p.rules k) (p.n + 1 + k)
def rAtomTo (p : GP) : Nat → List PBC
  | 0 => []
  | k + 1 => rAtomTo p k ++ [rAtom p ((k : Int) + 1)]
def rL (p : GP) : List PBC := rTo p p.rules.length ++ rAtomTo p p.n.toNat

theorem plit_neg {x : Int} (h : plitB x = true) : plitB (-x) = true := by
  unfold plitB at h ⊢
  rw [decide_eq_true_eq] at h ⊢
  omega

theorem rH_is {r : GR} {b : Int} (hb : plitB b = true) (hbody : ∀ x ∈ r.body, plitB x = true) (hw : r.sum = true → ∀ x ∈ r.w, 0 ≤ x) : rH r b = compH r b := by
  unfold rH compH
  cases hs : r.sum with
  | true =>
    rw [if_pos rfl, if_pos rfl]
    by_cases hr : 0 < restI r
    · rw [if_pos hr, Int.max_eq_left (by omega)]
    · rw [if_neg hr, normP_nonpos (K := r.w ++ [max (restI r) 0]) (by omega) fun x hx => by
        rcases List.mem_append.1 hx with h | h
        · exact hw hs x h
        · obtain rfl : x = max (restI r) 0 := by simpa using h
          omega]
  | false =>
    rw [if_neg (by simp), if_neg (by simp)]
    congr 1
    · refine List.map_congr_left fun x hx => ?_
      rw [refClause_is fun y hy => ?_]
      rcases List.mem_cons.1 hy with rfl | hy
      · exact plit_neg hb
      · obtain rfl : y = x := by simpa using hy
        exact hbody _ hx
    · rw [refClause_is fun y hy => ?_]
      rcases List.mem_append.1 hy with h | h
      · obtain ⟨x, hx, rfl⟩ := List.mem_map.1 h
        exact plit_neg (hbody x hx)
      · obtain rfl : y = b := by simpa using h
        exact hb

theorem rR_is {r : GR} {b : Int} (hb : plitB b = true) (hbody : ∀ x ∈ r.body, plitB x = true) (hhead : ∀ x ∈ r.head, plitB x = true) (hw : r.sum = true → ∀ x ∈ r.w, 0 ≤ x) : rR r b = compR r b := by
  unfold rR compR
  rw [rH_is hb hbody hw]
  cases r.choice with
  | true => rfl
  | false =>
    rw [if_neg (by simp), if_neg (by simp), refClause_is fun y hy => ?_]
    rcases List.mem_append.1 hy with h | h
    · exact hhead y h
    · obtain rfl : y = -b := by simpa using h
      exact plit_neg hb

theorem inc_mem {l : List Int} {n : Int} (h : increasingB l n = true) {x : Int} (hx : x ∈ l) : 1 ≤ x ∧ x ≤ n := by
  unfold increasingB at h
  rw [Bool.and_eq_true] at h
  have h2 := ordered_lit h.1 hx
  obtain ⟨k, hk, rfl⟩ := mem_ix.1 hx
  have h1 := allR_get h.2 k hk
  rw [decide_eq_true_eq] at h1
  omega

theorem rTo_is {p : GP} (hv : validE p = 0) : ∀ k : Nat, k ≤ p.rules.length → rTo p k = compTo p k
  | 0, _ => rfl
  | k + 1, hk => by
    have h0 := validP hv
    have h1 := h0.n
    have h2 := h0.rules
    have hlt : k < p.rules.length := by omega
    have hpl : ∀ {x : Int}, (x ≠ 0 ∧ -65536 ≤ x ∧ x ≤ 65536) → plitB x = true := fun h => decide_eq_true h
    unfold rTo compTo
    rw [rTo_is hv k (by omega), rR_is (hpl (by omega)) (fun x hx => hpl (by have := ordered_lit (h0.body k hlt) hx; omega)) (fun x hx => hpl (by have := inc_mem (h0.head k hlt) hx; omega)) (fun hs x hx => by
      obtain ⟨j, hj, rfl⟩ := mem_ix.1 hx
      exact ((bodyOk_valid hv hlt).w hs j hj).1)]

theorem rAtomTo_is {p : GP} (hv : validE p = 0) : ∀ k : Nat, k ≤ p.n.toNat → rAtomTo p k = atomTo p k
  | 0, _ => rfl
  | k + 1, hk => by
    have h0 := validP hv
    have h1 := h0.n
    have h2 := h0.rules
    have hpl : ∀ {x : Int}, (x ≠ 0 ∧ -65536 ≤ x ∧ x ≤ 65536) → plitB x = true := fun h => decide_eq_true h
    unfold rAtomTo atomTo
    rw [rAtomTo_is hv k (by omega)]
    congr 2
    unfold rAtom atomC
    have e : clauseP (-((k : Int) + 1) :: supAt' p ((k : Int) + 1) p.rules.length) = clauseP (supAt' p ((k : Int) + 1) p.rules.length ++ [-((k : Int) + 1)]) := clauseP_set fun x => by
      rw [List.mem_append, List.mem_singleton, List.mem_cons]
      exact Or.comm
    rw [refClause_is fun x hx => ?_, e]
    · rcases List.mem_cons.1 hx with rfl | h
      · exact hpl (by omega)
      · obtain ⟨i, hi, -, rfl⟩ := (mem_supAt _).1 h
        exact hpl (by omega)

theorem rL_is {p : GP} (hv : validE p = 0) : rL p = compL p := by
  unfold rL compL
  rw [rTo_is hv _ (Nat.le_refl _), rAtomTo_is hv _ (Nat.le_refl _)]

end Go.Proofs.YtfhpfbakoiekpaaGreatDoor

/- ostlerref26.rule: the rows under way. -/
namespace Go.Proofs.YtfhpfbakoiekpaaGreatDoor
open Go.RowKit

/-- The constraints (L, row vo) and the negated literals (N, row vn). -/
structure RU (B : Nat) (vo vn : Value) (L : List CQ) (N : List Int) (wx : World) : Prop where
  row : MineC B vo L wx
  neg : QRow B wx vn N
  far : ∀ q ∈ L, ∀ g, vn.ownBlock = some g → q.2.1.ownBlock ≠ some g ∧ q.2.2.ownBlock ≠ some g

section
variable {B : Nat} {vo vn vn' : Value} {L : List CQ} {N N' : List Int} {wx wy : World}

theorem RU.start (B : Nat) (wx : World) : RU B (.slice none 0 0) (.slice none 0 0) [] [] wx := ⟨MineC.nil B wx, QRow.nil _ _, fun q hq => by simp at hq⟩
theorem RU.on (h : RU B vo vn L N wx) (hb : Below wx.heap.size wx wy) : RU B vo vn L N wy := ⟨h.row.below hb, h.neg.below hb, h.far⟩

theorem MineC.base {v : Value} (h : MineC B v L wx) {q : CQ} (hq : q ∈ L) {g : Nat} (e : q.2.1.ownBlock = some g ∨ q.2.2.ownBlock = some g) : g < wx.heap.size := by
  obtain ⟨h1, h2, -⟩ := h.each q hq
  rcases e with e | e
  · exact (h1.base e).2
  · exact (h2.base e).2

/-- A row of constraints and a row of ints lie in different blocks. -/
theorem rowC_ne (h : wx.ownsRow B 30 3 vo L.length (L.flatMap cells3)) (hn : QRow B wx vn N) : vo.ownBlock = none ∨ vo.ownBlock ≠ vn.ownBlock := by
  rcases h.2 with ⟨rfl, _⟩ | ⟨g, cap, cur, rfl, _, hg, _⟩
  · exact .inl rfl
  · exact .inr fun e => hn.far (b := g) (c := cur.toList) (T := 30) (by unfold Blk; rw [hg]) (by decide) e.symm

/-- The negated literals grow. -/
theorem RU.grow (h : RU B vo vn L N wx) (hq : QRow B wy vn' N') (hg : wx.grownBy wy vn.ownBlock) (ho : vn'.ownBlock = vn.ownBlock ∨ vn'.ownBlock = some wx.heap.size) : RU B vo vn' L N' wy := by
  refine ⟨⟨h.row.row.kept hg (rowC_ne h.row.row h.neg), fun q hm => ?_⟩, hq, fun q hm g e => ?_⟩
  · obtain ⟨h1, h2, h3⟩ := h.row.each q hm
    exact ⟨h1.kept fun i _ hi hv => hg.block i hi fun e => (h.far q hm i e.symm).1 hv, h2.kept fun i _ hi hv => hg.block i hi fun e => (h.far q hm i e.symm).2 hv, h3⟩
  · rcases ho with h1 | h1
    · exact h.far q hm g (h1 ▸ e)
    · rw [h1] at e
      obtain rfl := Option.some.inj e
      exact ⟨fun e2 => absurd (h.row.base hm (.inl e2)) (Nat.lt_irrefl _), fun e2 => absurd (h.row.base hm (.inr e2)) (Nat.lt_irrefl _)⟩

/-- A constraint whose rows are younger than the negated literals' is pushed. -/
theorem RU.push {g cap : Nat} {q : CQ} (h : RU B vo vn L N wx) (hq : QRow B wx q.2.1 q.1.lits ∧ QRow B wx q.2.2 q.1.coefs ∧ InI q.1.bound ∧ q.1.lits.length ≤ 65536 ∧ q.1.coefs.length ≤ 65536)
    (hf : ∀ g, vn.ownBlock = some g → q.2.1.ownBlock ≠ some g ∧ q.2.2.ownBlock ≠ some g)
    (hown : wy.ownsRow B 30 3 (.slice (some ⟨g, 0, none⟩) (L.length + 1) cap) (L.length + 1) (L.flatMap cells3 ++ cells3 q)) (hg : wx.grownBy wy vo.ownBlock) :
    RU B (.slice (some ⟨g, 0, none⟩) (L.length + 1) cap) vn (L ++ [q]) N wy := by
  refine ⟨h.row.push hq hown hg, h.neg.rowKeptC h.row.row hg, fun q' hm => ?_⟩
  rcases List.mem_append.1 hm with hm | hm
  · exact h.far q' hm
  · obtain rfl : q' = q := by simpa using hm
    exact hf

end

end Go.Proofs.YtfhpfbakoiekpaaGreatDoor

/- Rows of ints of the call's own, side by side in a drawn region; pushing a constraint. -/
namespace Go.Proofs.YtfhpfbakoiekpaaGreatDoor
open Go.RowKit

theorem wp_appendQs {o : Oper} {a : Act} {w : World} {K : Act → World → Prop} {Q : Exit → Act → World → Prop} (s x : Operand)
    (ho : o.op = .call { callee := .builtin .append, args := #[s, x], argTypes := #[23, 23] }) (base : Nat) (v y : Value) (l m : List Int) (hs : a.eval s = v) (hx : a.eval x = y) (h : QRow base w v l) (hy : Ints w y m)
    (hlen : (l.length + m.length) * 8 ≤ 140737488351232) (hbase : base ≤ w.heap.size)
    (hK : ∀ v' w', QRow base w' v' (l ++ m) → w.grownBy w' v.ownBlock → (v'.ownBlock = v.ownBlock ∨ v'.ownBlock = some w.heap.size) → K (a.put o.dst v') w') : o.wp Tryz.prog a w K Q := by
  obtain ⟨v', w', hr, h2, h3, h4⟩ := run_appendQs base 23 o.type Tryz.underlying23 rfl w v l h y m hy hlen hbase
  unfold Oper.wp execOp
  simp only [ho, resolve, invoke, builtin, Sem.run_bind, Sem.run_pure, Result.andThen_ok, List.map_toArray, List.map_cons, List.map_nil, hs, hx, hr]
  exact hK v' w' h2 h3 h4

/-- A constraint in a block of its own is pushed upon a row of constraints. -/
theorem wp_pushC {o : Oper} {a : Act} {w : World} {K : Act → World → Prop} {Q : Exit → Act → World → Prop} (s x : Operand)
    (ho : o.op = .call { callee := .builtin .append, args := #[s, x], argTypes := #[43, 43] }) (B : Nat) (v : Value) (L : List CQ) (hs : a.eval s = v) (h : w.ownsRow B 30 3 v L.length (L.flatMap cells3))
    (al ak : Option Addr) (nl cl nk ck : Nat) (bd : Int) (g0 c : Nat) (hx : a.eval x = .slice (some ⟨g0, 0, none⟩) 1 c) (hb : Blk w g0 [.slice al nl cl, .slice ak nk ck, .int .i64 bd] 30) (hlen : L.length ≤ 1000000000) (hbase : B ≤ w.heap.size)
    (hK : ∀ g cap w', w'.ownsRow B 30 3 (.slice (some ⟨g, 0, none⟩) (L.length + 1) cap) (L.length + 1) (L.flatMap cells3 ++ [.slice al nl cl, .slice ak nk ck, .int .i64 bd]) → w.grownBy w' v.ownBlock → K (a.put o.dst (.slice (some ⟨g, 0, none⟩) (L.length + 1) cap)) w') : o.wp Tryz.prog a w K Q := by
  obtain ⟨i0, hi, hz0, hz1, hz2⟩ := info_parts infoC
  refine wp_append_own w s x _ ho B 30 i0 _ 3 56 Tryz.underlying43 hi hz0 hz1 hz2 rfl (by decide) _ L.length (L.flatMap cells3) hs h ⟨g0, 0, none⟩ 1 c [.slice al nl cl, .slice ak nk ck, .int .i64 bd] hx rfl (fun j u hu => ?_) (fun u hu => ?_) (by unfold maxLen; omega) (by omega) hbase (fun v' w' h1 h2 _ => ?_)
  · rw [Addr.add_lit, Nat.zero_add]; exact (hb.cell j).trans hu
  · simp only [List.mem_cons, List.not_mem_nil, or_false] at hu
    rcases hu with rfl | rfl | rfl <;> rfl
  · obtain ⟨g, cap, rfl⟩ := ownsRow_succ h1
    exact hK g cap w' h1 h2

theorem wpList_pushC {ops : Array Oper} {rest : List Oper} {o : Oper} {a : Act} {w : World} {Q : Exit → Act → World → Prop} (hgd : o.guard = none) (s x : Operand)
    (ho : o.op = .call { callee := .builtin .append, args := #[s, x], argTypes := #[43, 43] }) (B : Nat) (v : Value) (L : List CQ) (hs : a.eval s = v) (h : w.ownsRow B 30 3 v L.length (L.flatMap cells3))
    (al ak : Option Addr) (nl cl nk ck : Nat) (bd : Int) (g0 c : Nat) (hx : a.eval x = .slice (some ⟨g0, 0, none⟩) 1 c) (hb : Blk w g0 [.slice al nl cl, .slice ak nk ck, .int .i64 bd] 30) (hlen : L.length ≤ 1000000000) (hbase : B ≤ w.heap.size)
    (hK : ∀ g cap w', w'.ownsRow B 30 3 (.slice (some ⟨g, 0, none⟩) (L.length + 1) cap) (L.length + 1) (L.flatMap cells3 ++ [.slice al nl cl, .slice ak nk ck, .int .i64 bd]) → w.grownBy w' v.ownBlock → wpList Tryz.prog ops Q rest (a.put o.dst (.slice (some ⟨g, 0, none⟩) (L.length + 1) cap)) w') : wpList Tryz.prog ops Q (o :: rest) a w :=
  wpList_plain hgd fun _ hK' => wp_pushC s x ho B v L hs h al ak nl cl nk ck bd g0 c hx hb hlen hbase fun g cap w' h1 h2 => hK' _ _ (hK g cap w' h1 h2)

/-- What a push leaves of the rows under way. -/
theorem RU.pushed {B b0 : Nat} {vo vn : Value} {L : List CQ} {N : List Int} {wx wy : World} {al ak : Option Addr} {cl ck g cap : Nat} {c : PBC} (h : RU B vo vn L N wx) (h1 : QRow b0 wx (.slice al c.lits.length cl) c.lits) (h2 : QRow b0 wx (.slice ak c.coefs.length ck) c.coefs) (hB : B ≤ b0)
    (hn : ∀ g, vn.ownBlock = some g → g < b0) (h3 : InI c.bound ∧ c.lits.length ≤ 65536 ∧ c.coefs.length ≤ 65536)
    (hown : wy.ownsRow B 30 3 (.slice (some ⟨g, 0, none⟩) (L.length + 1) cap) (L.length + 1) (L.flatMap cells3 ++ [.slice al c.lits.length cl, .slice ak c.coefs.length ck, .int .i64 c.bound])) (hg : wx.grownBy wy vo.ownBlock) :
    ∃ L', L'.length = L.length + 1 ∧ L'.map (·.1) = L.map (·.1) ++ [c] ∧ RU B (.slice (some ⟨g, 0, none⟩) (L.length + 1) cap) vn L' N wy := by
  refine ⟨L ++ [(c, .slice al c.lits.length cl, .slice ak c.coefs.length ck)], by simp, by simp, h.push (q := (c, .slice al c.lits.length cl, .slice ak c.coefs.length ck)) ⟨h1.mono hB, h2.mono hB, h3⟩ (fun g e => ?_) hown hg⟩
  have := hn g e
  exact ⟨fun e2 => by have := (h1.base e2).1; omega, fun e2 => by have := (h2.base e2).1; omega⟩

theorem RU.lt {B : Nat} {vo vn : Value} {L : List CQ} {N : List Int} {wx : World} (h : RU B vo vn L N wx) : ∀ g, vn.ownBlock = some g → g < wx.heap.size := fun _ e => (h.neg.base e).2

/-- Only the row of constraints and what lies above has turned. -/
theorem RU.kept {B : Nat} {vo vn : Value} {L : List CQ} {N : List Int} {W wx wy : World} (h : RU B vo vn L N wx) (hb : Below W.heap.size W wx) (hB : W.heap.size ≤ B) (hg : wx.grownBy wy vo.ownBlock) : Below W.heap.size W wy :=
  hb.trans (below_row hg hb.size fun g e => Nat.le_trans hB (rowC_isC h.row.row g e).1)

/-! ### Rows side by side -/
structure RowsK (B : Nat) (live : Nat → Option (List Int)) (vals : Nat → Value) (wx : World) : Prop where
  row : ∀ i l, live i = some l → QRow B wx (vals i) l
  far : ∀ i j l m, live i = some l → live j = some m → i ≠ j → ∀ g, (vals i).ownBlock = some g → (vals j).ownBlock ≠ some g

section
variable {B k x : Nat} {live live' : Nat → Option (List Int)} {vals : Nat → Value} {wx wy : World} {v : Value} {l lx : List Int}

theorem RowsK.start (B : Nat) (vals : Nat → Value) (wx : World) (h : ∀ i l, live i ≠ some l) : RowsK B live vals wx := ⟨fun i l e => absurd e (h i l), fun i _ l _ e => absurd e (h i l)⟩
theorem RowsK.on (h : RowsK B live vals wx) (hb : Below wx.heap.size wx wy) : RowsK B live vals wy := ⟨fun i l e => (h.row i l e).below hb, h.far⟩
theorem RowsK.old (h : RowsK B live vals wx) (hl : ∀ i m, live' i = some m → live i = some m ∧ i ≠ k) : RowsK B live' (updN vals k v) wx := by
  have e : ∀ i m, live' i = some m → updN vals k v i = vals i := fun i m hi => by simp only [updN]; rw [if_neg (hl i m hi).2]
  refine ⟨fun i m hi => ?_, fun i j m n hi hj hij => ?_⟩
  · rw [e i m hi]; exact h.row i m (hl i m hi).1
  · rw [e i m hi, e j n hj]; exact h.far i j m n (hl i m hi).1 (hl j n hj).1 hij

theorem RowsK.new (h : RowsK B live vals wx) (hb : Below wx.heap.size wx wy) (hq : QRow wx.heap.size wy v l) (hB : B ≤ wx.heap.size) (hl : ∀ i m, live' i = some m → i = k ∧ m = l ∨ i ≠ k ∧ live i = some m) : RowsK B live' (updN vals k v) wy := by
  have e : ∀ i, i ≠ k → updN vals k v i = vals i := fun i hi => by simp only [updN]; rw [if_neg hi]
  have e0 : updN vals k v k = v := by simp [updN]
  have hlt : ∀ i m, live i = some m → ∀ g, (vals i).ownBlock = some g → g < wx.heap.size := fun i m hi g hg => ((h.row i m hi).base hg).2
  refine ⟨fun i m hi => ?_, fun i j m n hi hj hij g hg hg2 => ?_⟩
  · rcases hl i m hi with ⟨rfl, rfl⟩ | ⟨h1, h2⟩
    · rw [e0]; exact hq.mono hB
    · rw [e i h1]; exact (h.row i m h2).below hb
  · rcases hl i m hi with ⟨rfl, rfl⟩ | ⟨h1, h2⟩ <;> rcases hl j n hj with ⟨rfl, rfl⟩ | ⟨h3, h4⟩
    · exact hij rfl
    · rw [e0] at hg; rw [e j h3] at hg2
      have := (hq.base hg).1; have := hlt j n h4 g hg2; omega
    · rw [e0] at hg2; rw [e i h1] at hg
      have := (hq.base hg2).1; have := hlt i m h2 g hg; omega
    · rw [e i h1] at hg; rw [e j h3] at hg2
      exact h.far i j m n h2 h4 hij g hg hg2

theorem RowsK.app (h : RowsK B live vals wx) (hx : live x = some lx) (hq : QRow B wy v l) (hg : wx.grownBy wy (vals x).ownBlock) (ho : v.ownBlock = (vals x).ownBlock ∨ v.ownBlock = some wx.heap.size)
    (hl : ∀ i m, live' i = some m → i = k ∧ m = l ∨ i ≠ k ∧ i ≠ x ∧ live i = some m) : RowsK B live' (updN vals k v) wy := by
  have e : ∀ i, i ≠ k → updN vals k v i = vals i := fun i hi => by simp only [updN]; rw [if_neg hi]
  have e0 : updN vals k v k = v := by simp [updN]
  have hlt : ∀ i m, live i = some m → ∀ g, (vals i).ownBlock = some g → g < wx.heap.size := fun i m hi g hg => ((h.row i m hi).base hg).2
  have hnew : ∀ i m, live i = some m → i ≠ x → ∀ g, (vals i).ownBlock = some g → v.ownBlock ≠ some g := fun i m hi hix g e1 e2 => by
    rcases ho with ho | ho
    · rw [ho] at e2; exact h.far i x m lx hi hx hix g e1 e2
    · rw [ho] at e2; have := hlt i m hi g e1; have := Option.some.inj e2; omega
  refine ⟨fun i m hi => ?_, fun i j m n hi hj hij g hg1 hg2 => ?_⟩
  · rcases hl i m hi with ⟨rfl, rfl⟩ | ⟨h1, h1b, h2⟩
    · rw [e0]; exact hq
    · rw [e i h1]
      exact (h.row i m h2).kept fun b _ hb hv => hg.block b hb fun e3 => h.far i x m lx h2 hx h1b b hv e3.symm
  · rcases hl i m hi with ⟨rfl, rfl⟩ | ⟨h1, h1b, h2⟩ <;> rcases hl j n hj with ⟨rfl, rfl⟩ | ⟨h3, h3b, h4⟩
    · exact hij rfl
    · rw [e0] at hg1; rw [e j h3] at hg2; exact hnew j n h4 h3b g hg2 hg1
    · rw [e0] at hg2; rw [e i h1] at hg1; exact hnew i m h2 h1b g hg1 hg2
    · rw [e i h1] at hg1; rw [e j h3] at hg2
      exact h.far i j m n h2 h4 hij g hg1 hg2

theorem RowsK.below (h : RowsK B live vals wx) (hx : live x = some lx) {W : World} (hW : Below W.heap.size W wx) (hB : W.heap.size ≤ B) (hg : wx.grownBy wy (vals x).ownBlock) : Below W.heap.size W wy :=
  hW.trans (below_row hg hW.size fun _ e => Nat.le_trans hB ((h.row x lx hx).base e).1)

theorem qrow_box {y : Int} (hy : InI y) (wx : World) : QRow wx.heap.size (wx.alloc (.cells #[.int .i64 y] 3)) (.slice (some ⟨wx.heap.size, 0, none⟩) 1 1) [y] :=
  ⟨fitI (by simpa using hy), .inr ⟨_, 0, 1, #[.int .i64 y], rfl, Nat.le_refl _, heap_alloc_new wx _, by simp, by unfold maxLen; omega, by simp, fun i hi => by
    obtain rfl : i = 0 := by simpa using hi
    rfl⟩⟩
theorem qrow_zero (wx : World) : QRow wx.heap.size (wx.alloc (.cells #[] 3)) (.slice (some ⟨wx.heap.size, 0, none⟩) 0 0) [] := QRow.empty (heap_alloc_new wx _) (Nat.le_refl _)
end

end Go.Proofs.YtfhpfbakoiekpaaGreatDoor

/- ostlerref26.rule: what holds within its two drawn regions (printed by gen/r26.py). -/
namespace Go.Proofs.YtfhpfbakoiekpaaGreatDoor
open Go.RowKit

/-! ### The region RrP -/
def RrP.live (la lb : List Int) (x y : Int) (L : Nat → Bool) : Nat → Option (List Int)
  | 1 => if L 1 && !L 4 then some [] else none
  | 4 => if L 4 && !L 8 then some la else none
  | 7 => if L 7 && !L 8 then some [x] else none
  | 8 => if L 8 then some (la ++ [x]) else none
  | 9 => if L 9 && !L 12 then some [] else none
  | 12 => if L 12 && !L 16 then some lb else none
  | 15 => if L 15 && !L 16 then some [y] else none
  | 16 => if L 16 then some (lb ++ [y]) else none
  | _ => none

structure RrP (w : World) (qv : Nat → Option Value) (la lb : List Int) (x y : Int) (c : PBC) (vals : Nat → Value) (L : Nat → Bool) (wx : World) : Prop where
  below : Below w.heap.size w wx
  q : ∀ i v, qv i = some v → L i = true → vals i = v
  rows : RowsK w.heap.size (RrP.live la lb x y L) vals wx
  pb : L 19 = true → ∃ al cl ak ck, vals 19 = .agg #[.slice al c.lits.length cl, .slice ak c.coefs.length ck, .int .i64 c.bound] ∧ QRow w.heap.size wx (.slice al c.lits.length cl) c.lits ∧ QRow w.heap.size wx (.slice ak c.coefs.length ck) c.coefs ∧ InI c.bound ∧ c.lits.length ≤ 65536 ∧ c.coefs.length ≤ 65536
  bx : L 20 = true → ∃ g al cl ak ck, vals 20 = .slice (some ⟨g, 0, none⟩) 1 1 ∧ Blk wx g [.slice al c.lits.length cl, .slice ak c.coefs.length ck, .int .i64 c.bound] 30 ∧ QRow w.heap.size wx (.slice al c.lits.length cl) c.lits ∧ QRow w.heap.size wx (.slice ak c.coefs.length ck) c.coefs ∧ InI c.bound ∧ c.lits.length ≤ 65536 ∧ c.coefs.length ≤ 65536

section
variable {w : World} {qv : Nat → Option Value} {la lb : List Int} {x y : Int} {c : PBC} {vals : Nat → Value} {L : Nat → Bool} {wx wy : World} {v : Value} {k : Nat}

theorem RrP.start : RrP w qv la lb x y c (fun _ => undef) (fun _ => false) w.drew := by
  constructor
  · exact (Below.refl _ _).drew
  · intro i v _ h; cases h
  · refine RowsK.start _ _ _ fun i l => ?_
    unfold RrP.live
    split <;> simp
  · intro h; cases h
  · intro h; cases h

theorem RrP.ups (h : ∀ i v, qv i = some v → L i = true → vals i = v) (hk : ∀ u, qv k = some u → u = v) : ∀ i u, qv i = some u → updN L k true i = true → updN vals k v i = u := fun i u e1 e2 => by
  by_cases e : i = k
  · subst e; simp only [updN, if_true]; exact (hk u e1).symm
  · simp only [updN] at e2 ⊢; rw [if_neg e] at e2 ⊢; exact h i u e1 e2

theorem RrP.quiet (h : RrP w qv la lb x y c vals L wx) (hi : k = 0 ∨ k = 2 ∨ k = 3 ∨ k = 5 ∨ k = 6 ∨ k = 10 ∨ k = 11 ∨ k = 13 ∨ k = 14 ∨ k = 17 ∨ k = 18) (hq : qv k = some v) : RrP w qv la lb x y c (updN vals k v) (updN L k true) wx := by
  refine ⟨h.below, RrP.ups h.q (fun u e => by rw [hq] at e; exact (Option.some.inj e).symm), h.rows.old (fun j m hj => ?_), fun e => ?_, fun e => ?_⟩
  · rcases hi with rfl | rfl | rfl | rfl | rfl | rfl | rfl | rfl | rfl | rfl | rfl <;> (unfold RrP.live at *; split at hj <;> simp_all [updN])
  · have hc : 19 ≠ k := by omega
    simp only [updN] at e ⊢; rw [if_neg hc] at e ⊢; exact h.pb e
  · have hc : 20 ≠ k := by omega
    simp only [updN] at e ⊢; rw [if_neg hc] at e ⊢; exact h.bx e

theorem RrP.step (h : RrP w qv la lb x y c vals L wx) (hk : qv k = none) (hk2 : 19 ≠ k ∧ 20 ≠ k) (h19 : L 19 = false) (h20 : L 20 = false) (hb : Below w.heap.size w wy) (hr : RowsK w.heap.size (RrP.live la lb x y (updN L k true)) (updN vals k v) wy) : RrP w qv la lb x y c (updN vals k v) (updN L k true) wy := by
  refine ⟨hb, RrP.ups h.q (fun u e => by rw [hk] at e; cases e), hr, fun e => ?_, fun e => ?_⟩
  · simp only [updN] at e; rw [if_neg hk2.1, h19] at e; cases e
  · simp only [updN] at e; rw [if_neg hk2.2, h20] at e; cases e

theorem RrP.call (h : RrP w qv la lb x y c vals L wx) (hk : qv 19 = none) (h20 : L 20 = false) (hb : Below wx.heap.size wx wy) (hp : PBQ wx.heap.size wy v c) : RrP w qv la lb x y c (updN vals 19 v) (updN L 19 true) wy := by
  refine ⟨bon h.below hb, RrP.ups h.q (fun u e => by rw [hk] at e; cases e), (h.rows.on hb).old (fun j m hj => ?_), fun e => ?_, fun e => ?_⟩
  · unfold RrP.live at *; split at hj <;> simp_all [updN]
  · obtain ⟨ul, uk, rfl, hq1, hq2, hq3⟩ := hp
    obtain ⟨al, cl, rfl⟩ := hq1.slen
    obtain ⟨ak, ck, rfl⟩ := hq2.slen
    exact ⟨al, cl, ak, ck, by simp [updN], hq1.mono h.below.size, hq2.mono h.below.size, hq3⟩
  · simp [updN, h20] at e

theorem RrP.box {al ak : Option Addr} {cl ck : Nat} (h : RrP w qv la lb x y c vals L wx) (hk : qv 20 = none) (hv : vals 19 = .agg #[.slice al c.lits.length cl, .slice ak c.coefs.length ck, .int .i64 c.bound]) (hp : QRow w.heap.size wx (.slice al c.lits.length cl) c.lits ∧ QRow w.heap.size wx (.slice ak c.coefs.length ck) c.coefs ∧ InI c.bound ∧ c.lits.length ≤ 65536 ∧ c.coefs.length ≤ 65536) :
    RrP w qv la lb x y c (updN vals 20 (.slice (some ⟨wx.heap.size, 0, none⟩) 1 1)) (updN L 20 true) (wx.alloc (.cells #[.slice al c.lits.length cl, .slice ak c.coefs.length ck, .int .i64 c.bound] 30)) := by
  have hb := bal (Below.refl wx.heap.size wx) (.cells #[.slice al c.lits.length cl, .slice ak c.coefs.length ck, .int .i64 c.bound] 30)
  refine ⟨bon h.below hb, RrP.ups h.q (fun u e => by rw [hk] at e; cases e), (h.rows.on hb).old (fun j m hj => ?_), fun e => ?_, fun e => ?_⟩
  · unfold RrP.live at *; split at hj <;> simp_all [updN]
  · exact ⟨al, cl, ak, ck, by simpa [updN] using hv, hp.1.below hb, hp.2.1.below hb, hp.2.2⟩
  · exact ⟨_, al, cl, ak, ck, by simp [updN], Blk.new wx [.slice al c.lits.length cl, .slice ak c.coefs.length ck, .int .i64 c.bound] _, hp.1.below hb, hp.2.1.below hb, hp.2.2⟩

theorem RrP.z1 : ∀ i m, RrP.live la lb x y (updN L 1 true) i = some m → i = 1 ∧ m = [] ∨ i ≠ 1 ∧ RrP.live la lb x y L i = some m := by
  intro i m h
  unfold RrP.live at *
  split at h <;> simp_all [updN]
theorem RrP.b1 : ∀ i m, RrP.live la lb x y (updN L 7 true) i = some m → i = 7 ∧ m = [x] ∨ i ≠ 7 ∧ RrP.live la lb x y L i = some m := by
  intro i m h
  unfold RrP.live at *
  split at h <;> simp_all [updN]
theorem RrP.z2 : ∀ i m, RrP.live la lb x y (updN L 9 true) i = some m → i = 9 ∧ m = [] ∨ i ≠ 9 ∧ RrP.live la lb x y L i = some m := by
  intro i m h
  unfold RrP.live at *
  split at h <;> simp_all [updN]
theorem RrP.b2 : ∀ i m, RrP.live la lb x y (updN L 15 true) i = some m → i = 15 ∧ m = [y] ∨ i ≠ 15 ∧ RrP.live la lb x y L i = some m := by
  intro i m h
  unfold RrP.live at *
  split at h <;> simp_all [updN]
theorem RrP.s1 : ∀ i m, RrP.live la lb x y (updN L 4 true) i = some m → i = 4 ∧ m = la ∨ i ≠ 4 ∧ i ≠ 1 ∧ RrP.live la lb x y L i = some m := by
  intro i m h
  unfold RrP.live at *
  split at h <;> simp_all [updN]
theorem RrP.a1 : ∀ i m, RrP.live la lb x y (updN L 8 true) i = some m → i = 8 ∧ m = la ++ [x] ∨ i ≠ 8 ∧ i ≠ 4 ∧ RrP.live la lb x y L i = some m := by
  intro i m h
  unfold RrP.live at *
  split at h <;> simp_all [updN]
theorem RrP.s2 : ∀ i m, RrP.live la lb x y (updN L 12 true) i = some m → i = 12 ∧ m = lb ∨ i ≠ 12 ∧ i ≠ 9 ∧ RrP.live la lb x y L i = some m := by
  intro i m h
  unfold RrP.live at *
  split at h <;> simp_all [updN]
theorem RrP.a2 : ∀ i m, RrP.live la lb x y (updN L 16 true) i = some m → i = 16 ∧ m = lb ++ [y] ∨ i ≠ 16 ∧ i ≠ 12 ∧ RrP.live la lb x y L i = some m := by
  intro i m h
  unfold RrP.live at *
  split at h <;> simp_all [updN]

/-- The same, with the last append. -/
def RrP.J (w : World) (qv : Nat → Option Value) (la lb : List Int) (x y : Int) (c : PBC) (Fin : Value → World → Prop) (vals : Nat → Value) (L : Nat → Bool) (wx : World) : Prop := if L 21 then Fin (vals 21) wx ∧ (L 22 = true → vals 22 = vals 21) else RrP w qv la lb x y c vals L wx

variable {Fin : Value → World → Prop} {i : Nat}
theorem RrP.start0 : RrP.J w qv la lb x y c Fin (fun _ => undef) (fun _ => false) w.drew := RrP.start
theorem RrP.J.out (hz : L 21 = false) (h : RrP.J w qv la lb x y c Fin vals L wx) : RrP w qv la lb x y c vals L wx := by unfold RrP.J at h; rw [hz] at h; exact h
theorem RrP.J.on (hz : L 21 = false) (hi : i ≠ 21) (h : RrP w qv la lb x y c (updN vals i v) (updN L i true) wx) : RrP.J w qv la lb x y c Fin (updN vals i v) (updN L i true) wx := by
  have e : updN L i true 21 = false := by simp only [updN]; rw [if_neg (Ne.symm hi)]; exact hz
  unfold RrP.J; rw [e]; exact h
theorem RrP.J.end (he : L 22 = false) (h : Fin v wx) : RrP.J w qv la lb x y c Fin (updN vals 21 v) (updN L 21 true) wx := by
  have e : updN L 21 true 21 = true := by simp [updN]
  unfold RrP.J; rw [e]
  refine ⟨by simpa [updN] using h, fun h2 => ?_⟩
  simp [updN, he] at h2
theorem RrP.J.fin (hz : L 21 = true) (h : RrP.J w qv la lb x y c Fin vals L wx) : Fin (vals 21) wx ∧ (L 22 = true → vals 22 = vals 21) := by unfold RrP.J at h; rw [hz] at h; exact h
theorem RrP.J.last (hz : L 21 = true) (hv : vals 21 = v) (h : RrP.J w qv la lb x y c Fin vals L wx) : RrP.J w qv la lb x y c Fin (updN vals 22 v) (updN L 22 true) wx := by
  have h1 := (h.fin hz).1
  have e : updN L 22 true 21 = true := by simp [updN, hz]
  unfold RrP.J; rw [e]
  refine ⟨by simpa [updN] using h1, fun _ => ?_⟩
  simpa [updN] using hv.symm
end

/-! ### The region RrQ -/
def RrQ.live (la lb : List Int) (x y : Int) (L : Nat → Bool) : Nat → Option (List Int)
  | 1 => if L 1 && !L 3 then some [] else none
  | 3 => if L 3 && !L 6 then some la else none
  | 5 => if L 5 && !L 6 then some [x] else none
  | 6 => if L 6 then some (la ++ [x]) else none
  | 7 => if L 7 && !L 10 then some [] else none
  | 10 => if L 10 && !L 13 then some lb else none
  | 12 => if L 12 && !L 13 then some [y] else none
  | 13 => if L 13 then some (lb ++ [y]) else none
  | _ => none

structure RrQ (w : World) (qv : Nat → Option Value) (la lb : List Int) (x y : Int) (c : PBC) (vals : Nat → Value) (L : Nat → Bool) (wx : World) : Prop where
  below : Below w.heap.size w wx
  q : ∀ i v, qv i = some v → L i = true → vals i = v
  rows : RowsK w.heap.size (RrQ.live la lb x y L) vals wx
  pb : L 15 = true → ∃ al cl ak ck, vals 15 = .agg #[.slice al c.lits.length cl, .slice ak c.coefs.length ck, .int .i64 c.bound] ∧ QRow w.heap.size wx (.slice al c.lits.length cl) c.lits ∧ QRow w.heap.size wx (.slice ak c.coefs.length ck) c.coefs ∧ InI c.bound ∧ c.lits.length ≤ 65536 ∧ c.coefs.length ≤ 65536
  bx : L 16 = true → ∃ g al cl ak ck, vals 16 = .slice (some ⟨g, 0, none⟩) 1 1 ∧ Blk wx g [.slice al c.lits.length cl, .slice ak c.coefs.length ck, .int .i64 c.bound] 30 ∧ QRow w.heap.size wx (.slice al c.lits.length cl) c.lits ∧ QRow w.heap.size wx (.slice ak c.coefs.length ck) c.coefs ∧ InI c.bound ∧ c.lits.length ≤ 65536 ∧ c.coefs.length ≤ 65536

section
variable {w : World} {qv : Nat → Option Value} {la lb : List Int} {x y : Int} {c : PBC} {vals : Nat → Value} {L : Nat → Bool} {wx wy : World} {v : Value} {k : Nat}

theorem RrQ.start : RrQ w qv la lb x y c (fun _ => undef) (fun _ => false) w.drew := by
  constructor
  · exact (Below.refl _ _).drew
  · intro i v _ h; cases h
  · refine RowsK.start _ _ _ fun i l => ?_
    unfold RrQ.live
    split <;> simp
  · intro h; cases h
  · intro h; cases h

theorem RrQ.ups (h : ∀ i v, qv i = some v → L i = true → vals i = v) (hk : ∀ u, qv k = some u → u = v) : ∀ i u, qv i = some u → updN L k true i = true → updN vals k v i = u := fun i u e1 e2 => by
  by_cases e : i = k
  · subst e; simp only [updN, if_true]; exact (hk u e1).symm
  · simp only [updN] at e2 ⊢; rw [if_neg e] at e2 ⊢; exact h i u e1 e2

theorem RrQ.quiet (h : RrQ w qv la lb x y c vals L wx) (hi : k = 0 ∨ k = 2 ∨ k = 4 ∨ k = 8 ∨ k = 9 ∨ k = 11 ∨ k = 14) (hq : qv k = some v) : RrQ w qv la lb x y c (updN vals k v) (updN L k true) wx := by
  refine ⟨h.below, RrQ.ups h.q (fun u e => by rw [hq] at e; exact (Option.some.inj e).symm), h.rows.old (fun j m hj => ?_), fun e => ?_, fun e => ?_⟩
  · rcases hi with rfl | rfl | rfl | rfl | rfl | rfl | rfl <;> (unfold RrQ.live at *; split at hj <;> simp_all [updN])
  · have hc : 15 ≠ k := by omega
    simp only [updN] at e ⊢; rw [if_neg hc] at e ⊢; exact h.pb e
  · have hc : 16 ≠ k := by omega
    simp only [updN] at e ⊢; rw [if_neg hc] at e ⊢; exact h.bx e

theorem RrQ.step (h : RrQ w qv la lb x y c vals L wx) (hk : qv k = none) (hk2 : 15 ≠ k ∧ 16 ≠ k) (h19 : L 15 = false) (h20 : L 16 = false) (hb : Below w.heap.size w wy) (hr : RowsK w.heap.size (RrQ.live la lb x y (updN L k true)) (updN vals k v) wy) : RrQ w qv la lb x y c (updN vals k v) (updN L k true) wy := by
  refine ⟨hb, RrQ.ups h.q (fun u e => by rw [hk] at e; cases e), hr, fun e => ?_, fun e => ?_⟩
  · simp only [updN] at e; rw [if_neg hk2.1, h19] at e; cases e
  · simp only [updN] at e; rw [if_neg hk2.2, h20] at e; cases e

theorem RrQ.call (h : RrQ w qv la lb x y c vals L wx) (hk : qv 15 = none) (h20 : L 16 = false) (hb : Below wx.heap.size wx wy) (hp : PBQ wx.heap.size wy v c) : RrQ w qv la lb x y c (updN vals 15 v) (updN L 15 true) wy := by
  refine ⟨bon h.below hb, RrQ.ups h.q (fun u e => by rw [hk] at e; cases e), (h.rows.on hb).old (fun j m hj => ?_), fun e => ?_, fun e => ?_⟩
  · unfold RrQ.live at *; split at hj <;> simp_all [updN]
  · obtain ⟨ul, uk, rfl, hq1, hq2, hq3⟩ := hp
    obtain ⟨al, cl, rfl⟩ := hq1.slen
    obtain ⟨ak, ck, rfl⟩ := hq2.slen
    exact ⟨al, cl, ak, ck, by simp [updN], hq1.mono h.below.size, hq2.mono h.below.size, hq3⟩
  · simp [updN, h20] at e

theorem RrQ.box {al ak : Option Addr} {cl ck : Nat} (h : RrQ w qv la lb x y c vals L wx) (hk : qv 16 = none) (hv : vals 15 = .agg #[.slice al c.lits.length cl, .slice ak c.coefs.length ck, .int .i64 c.bound]) (hp : QRow w.heap.size wx (.slice al c.lits.length cl) c.lits ∧ QRow w.heap.size wx (.slice ak c.coefs.length ck) c.coefs ∧ InI c.bound ∧ c.lits.length ≤ 65536 ∧ c.coefs.length ≤ 65536) :
    RrQ w qv la lb x y c (updN vals 16 (.slice (some ⟨wx.heap.size, 0, none⟩) 1 1)) (updN L 16 true) (wx.alloc (.cells #[.slice al c.lits.length cl, .slice ak c.coefs.length ck, .int .i64 c.bound] 30)) := by
  have hb := bal (Below.refl wx.heap.size wx) (.cells #[.slice al c.lits.length cl, .slice ak c.coefs.length ck, .int .i64 c.bound] 30)
  refine ⟨bon h.below hb, RrQ.ups h.q (fun u e => by rw [hk] at e; cases e), (h.rows.on hb).old (fun j m hj => ?_), fun e => ?_, fun e => ?_⟩
  · unfold RrQ.live at *; split at hj <;> simp_all [updN]
  · exact ⟨al, cl, ak, ck, by simpa [updN] using hv, hp.1.below hb, hp.2.1.below hb, hp.2.2⟩
  · exact ⟨_, al, cl, ak, ck, by simp [updN], Blk.new wx [.slice al c.lits.length cl, .slice ak c.coefs.length ck, .int .i64 c.bound] _, hp.1.below hb, hp.2.1.below hb, hp.2.2⟩

theorem RrQ.z1 : ∀ i m, RrQ.live la lb x y (updN L 1 true) i = some m → i = 1 ∧ m = [] ∨ i ≠ 1 ∧ RrQ.live la lb x y L i = some m := by
  intro i m h
  unfold RrQ.live at *
  split at h <;> simp_all [updN]
theorem RrQ.b1 : ∀ i m, RrQ.live la lb x y (updN L 5 true) i = some m → i = 5 ∧ m = [x] ∨ i ≠ 5 ∧ RrQ.live la lb x y L i = some m := by
  intro i m h
  unfold RrQ.live at *
  split at h <;> simp_all [updN]
theorem RrQ.z2 : ∀ i m, RrQ.live la lb x y (updN L 7 true) i = some m → i = 7 ∧ m = [] ∨ i ≠ 7 ∧ RrQ.live la lb x y L i = some m := by
  intro i m h
  unfold RrQ.live at *
  split at h <;> simp_all [updN]
theorem RrQ.b2 : ∀ i m, RrQ.live la lb x y (updN L 12 true) i = some m → i = 12 ∧ m = [y] ∨ i ≠ 12 ∧ RrQ.live la lb x y L i = some m := by
  intro i m h
  unfold RrQ.live at *
  split at h <;> simp_all [updN]
theorem RrQ.s1 : ∀ i m, RrQ.live la lb x y (updN L 3 true) i = some m → i = 3 ∧ m = la ∨ i ≠ 3 ∧ i ≠ 1 ∧ RrQ.live la lb x y L i = some m := by
  intro i m h
  unfold RrQ.live at *
  split at h <;> simp_all [updN]
theorem RrQ.a1 : ∀ i m, RrQ.live la lb x y (updN L 6 true) i = some m → i = 6 ∧ m = la ++ [x] ∨ i ≠ 6 ∧ i ≠ 3 ∧ RrQ.live la lb x y L i = some m := by
  intro i m h
  unfold RrQ.live at *
  split at h <;> simp_all [updN]
theorem RrQ.s2 : ∀ i m, RrQ.live la lb x y (updN L 10 true) i = some m → i = 10 ∧ m = lb ∨ i ≠ 10 ∧ i ≠ 7 ∧ RrQ.live la lb x y L i = some m := by
  intro i m h
  unfold RrQ.live at *
  split at h <;> simp_all [updN]
theorem RrQ.a2 : ∀ i m, RrQ.live la lb x y (updN L 13 true) i = some m → i = 13 ∧ m = lb ++ [y] ∨ i ≠ 13 ∧ i ≠ 10 ∧ RrQ.live la lb x y L i = some m := by
  intro i m h
  unfold RrQ.live at *
  split at h <;> simp_all [updN]

/-- The same, with the last append. -/
def RrQ.J (w : World) (qv : Nat → Option Value) (la lb : List Int) (x y : Int) (c : PBC) (Fin : Value → World → Prop) (vals : Nat → Value) (L : Nat → Bool) (wx : World) : Prop := if L 17 then Fin (vals 17) wx ∧ (L 18 = true → vals 18 = vals 17) else RrQ w qv la lb x y c vals L wx

variable {Fin : Value → World → Prop} {i : Nat}
theorem RrQ.start0 : RrQ.J w qv la lb x y c Fin (fun _ => undef) (fun _ => false) w.drew := RrQ.start
theorem RrQ.J.out (hz : L 17 = false) (h : RrQ.J w qv la lb x y c Fin vals L wx) : RrQ w qv la lb x y c vals L wx := by unfold RrQ.J at h; rw [hz] at h; exact h
theorem RrQ.J.on (hz : L 17 = false) (hi : i ≠ 17) (h : RrQ w qv la lb x y c (updN vals i v) (updN L i true) wx) : RrQ.J w qv la lb x y c Fin (updN vals i v) (updN L i true) wx := by
  have e : updN L i true 17 = false := by simp only [updN]; rw [if_neg (Ne.symm hi)]; exact hz
  unfold RrQ.J; rw [e]; exact h
theorem RrQ.J.end (he : L 18 = false) (h : Fin v wx) : RrQ.J w qv la lb x y c Fin (updN vals 17 v) (updN L 17 true) wx := by
  have e : updN L 17 true 17 = true := by simp [updN]
  unfold RrQ.J; rw [e]
  refine ⟨by simpa [updN] using h, fun h2 => ?_⟩
  simp [updN, he] at h2
theorem RrQ.J.fin (hz : L 17 = true) (h : RrQ.J w qv la lb x y c Fin vals L wx) : Fin (vals 17) wx ∧ (L 18 = true → vals 18 = vals 17) := by unfold RrQ.J at h; rw [hz] at h; exact h
theorem RrQ.J.last (hz : L 17 = true) (hv : vals 17 = v) (h : RrQ.J w qv la lb x y c Fin vals L wx) : RrQ.J w qv la lb x y c Fin (updN vals 18 v) (updN L 18 true) wx := by
  have h1 := (h.fin hz).1
  have e : updN L 18 true 17 = true := by simp [updN, hz]
  unfold RrQ.J; rw [e]
  refine ⟨by simpa [updN] using h1, fun _ => ?_⟩
  simpa [updN] using hv.symm
end

end Go.Proofs.YtfhpfbakoiekpaaGreatDoor
