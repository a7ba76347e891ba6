/- My texts Rn2, merged. -/
import Derived.Test.YtfhpfbakoiekpaaGreatDoorM12
import Derived.Test.YtfhpfbakoiekpaaGreatDoorM11

/- ostlerref24.Norm: its contract (regions printed by gen/two.py). -/
namespace Go.Proofs.YtfhpfbakoiekpaaGreatDoor
open Go.RowKit

/-! ### Where the bound stands -/
/-- The bound in the midst of variable v's round. -/
def bIn (L K : List Int) (B : Int) (V : List Int) (i k : Nat) : Int := bndTo L K B V i - nTo L K (ix V i) k

theorem bIn_zero (L K : List Int) (B : Int) (V : List Int) (i : Nat) : bIn L K B V i 0 = bndTo L K B V i := by simp [bIn, nTo]
theorem bIn_next (L K : List Int) (B : Int) (V : List Int) (i k : Nat) : bIn L K B V i (k + 1) = bIn L K B V i k - (if ix L k = -(ix V i) then ix K k else 0) := by
  unfold bIn
  show _ - (nTo L K (ix V i) k + _) = _
  omega
theorem bndTo_next (L K : List Int) (B : Int) (V : List Int) (i : Nat) : bndTo L K B V (i + 1) = bIn L K B V i L.length - lowI (byTo L K (ix V i) L.length) := rfl

theorem bndTo_small {L K : List Int} {B : Int} {V : List Int} (hB : -1099511627776 ≤ B ∧ B ≤ 1099511627776) (hL : L.length ≤ 65536) (hK : ∀ j, j < L.length → -16777216 ≤ ix K j ∧ ix K j ≤ 16777216) : ∀ i : Nat, i ≤ 65536 → -(1099511627776 + 2199023255552 * (i : Int)) ≤ bndTo L K B V i ∧ bndTo L K B V i ≤ 1099511627776 + 2199023255552 * (i : Int)
  | 0, _ => by simp [bndTo]; omega
  | i + 1, hi => by
    have ih := bndTo_small (V := V) hB hL hK i (by omega)
    have h1 := nTo_bound (L := L) (K := K) (v := ix V i) L.length hK
    have h2 := byTo_bound (L := L) (K := K) (v := ix V i) L.length hK
    unfold bndTo lowI
    push_cast
    split <;> omega

theorem bIn_small {L K : List Int} {B : Int} {V : List Int} (hB : -1099511627776 ≤ B ∧ B ≤ 1099511627776) (hL : L.length ≤ 65536) (hK : ∀ j, j < L.length → -16777216 ≤ ix K j ∧ ix K j ≤ 16777216) {i k : Nat} (hi : i ≤ 65536) (hk : k ≤ L.length) : -1000000000000000000 ≤ bIn L K B V i k ∧ bIn L K B V i k ≤ 1000000000000000000 := by
  have h1 := bndTo_small (V := V) hB hL hK i hi
  have h2 := nTo_bound (L := L) (K := K) (v := ix V i) k fun j hj => hK j (by omega)
  unfold bIn
  omega

/-! ### What stands in out -/
def rlits (L K V : List Int) (i : Nat) : List Int := (fltTo L K V i).map (litOf fun v => byTo L K v L.length)
def rcoefs (L K V : List Int) (i : Nat) : List Int := (fltTo L K V i).map fun v => absI (byTo L K v L.length)

theorem rl_next {L K V : List Int} {i : Nat} (h : i < V.length) (h0 : byTo L K (ix V i) L.length ≠ 0) : rlits L K V (i + 1) = rlits L K V i ++ [litOf (fun v => byTo L K v L.length) (ix V i)] ∧ rcoefs L K V (i + 1) = rcoefs L K V i ++ [absI (byTo L K (ix V i) L.length)] := by
  unfold rlits rcoefs
  rw [fltTo_succ h, if_neg h0]
  simp
theorem rl_skip {L K V : List Int} {i : Nat} (h : i < V.length) (h0 : byTo L K (ix V i) L.length = 0) : rlits L K V (i + 1) = rlits L K V i ∧ rcoefs L K V (i + 1) = rcoefs L K V i := by
  unfold rlits rcoefs
  rw [fltTo_succ h, if_pos h0]
  simp
theorem flt_len (L K V : List Int) (i : Nat) : (fltTo L K V i).length ≤ i := by
  have := List.length_filter_le (fun v => byTo L K v L.length != 0) (V.take i)
  unfold fltTo
  simp only [List.length_take] at this
  omega

structure RN3 (w2 : World) (ob : Nat) (vl vk : Value) (ll lk : List Int) (wx : World) : Prop where
  out : Blk wx ob [vl, vk, .int .i64 0] 30
  rl : QRow (ob + 1) wx vl ll
  rk : QRow (ob + 1) wx vk lk
  far : Far vl vk
  below : Below ob w2 wx

theorem RN3.on {w2 : World} {ob : Nat} {vl vk : Value} {ll lk : List Int} {wx wy : World} (h : RN3 w2 ob vl vk ll lk wx) (hb : Below wx.heap.size wx wy) : RN3 w2 ob vl vk ll lk wy :=
  ⟨h.out.below hb, h.rl.below hb, h.rk.below hb, h.far, h.below.trans (hb.mono (Nat.le_of_lt h.out.lt))⟩

theorem RN3.next {w2 : World} {ob : Nat} {vl vk vl' vk' : Value} {ll lk ll' lk' : List Int} {wx wy : World} (h : RN3 w2 ob vl vk ll lk wx) (hb : Below ob wx wy) (ho : Blk wy ob [vl', vk', .int .i64 0] 30) (h1 : QRow (ob + 1) wy vl' ll') (h2 : QRow (ob + 1) wy vk' lk') (hf : Far vl' vk') : RN3 w2 ob vl' vk' ll' lk' wy :=
  ⟨ho, h1, h2, hf, h.below.trans hb⟩

def RN3Rel (L K : List Int) (B : Int) (V : List Int) (w2 : World) (ob : Nat) (b i : Value) (wx : World) : Prop :=
  ∃ (k : Nat) (vl vk : Value), k ≤ V.length ∧ i = .int .i64 k ∧ b = .int .i64 (bndTo L K B V k) ∧ RN3 w2 ob vl vk (rlits L K V k) (rcoefs L K V k) wx

def RN4Rel (L K : List Int) (B : Int) (V : List Int) (i : Nat) (w2 : World) (ob : Nat) (vl vk : Value) (b c k : Value) (wx : World) : Prop :=
  ∃ j : Nat, j ≤ L.length ∧ k = .int .i64 j ∧ c = .int .i64 (byTo L K (ix V i) j) ∧ b = .int .i64 (bIn L K B V i j) ∧ RN3 w2 ob vl vk (rlits L K V i) (rcoefs L K V i) wx

/-- The variables under way. -/
def RN2Rel (L : List Int) (w : World) (vs i : Value) (wx : World) : Prop :=
  ∃ k : Nat, k ≤ L.length ∧ i = .int .i64 k ∧ QRow w.heap.size wx vs (varsTo L k) ∧ Blk wx w.heap.size pbZ 30 ∧ Below w.heap.size w wx

/-! ### The capped coefficients -/
def capTo (C : List Int) (bd : Int) (k : Nat) : List Int := (C.take k).map (fun x => minI x bd) ++ C.drop k
def capS (C : List Int) (bd : Int) (k : Nat) : Int := sumI (fun x => minI x bd) (C.take k)

theorem capTo_len (C : List Int) (bd : Int) (k : Nat) : (capTo C bd k).length = C.length := by simp [capTo]; omega
theorem capTo_ix {C : List Int} {bd : Int} {k : Nat} (h : k < C.length) : ix (capTo C bd k) k = ix C k := by
  unfold ix capTo
  rw [List.getD_eq_getElem?_getD, List.getD_eq_getElem?_getD, List.getElem?_append_right (by simp; omega)]
  simp [Nat.min_eq_left (Nat.le_of_lt h)]
theorem capTo_next {C : List Int} {bd : Int} {k : Nat} (h : k < C.length) : capTo C bd (k + 1) = (capTo C bd k).set k (minI (ix C k) bd) := by
  refine List.ext_getElem? fun i => ?_
  unfold capTo
  rw [List.getElem?_set]
  by_cases e : k = i
  · subst e
    rw [if_pos rfl, if_pos (by simp; omega), List.getElem?_append_left (by simp; omega)]
    simp [ix, List.getD_eq_getElem?_getD, h]
  · rw [if_neg e]
    rcases Nat.lt_or_ge i k with h1 | h1
    · rw [List.getElem?_append_left (by simp; omega), List.getElem?_append_left (by simp; omega)]
      simp only [List.getElem?_map, List.getElem?_take_of_lt (show i < k + 1 by omega), List.getElem?_take_of_lt h1]
    · rw [List.getElem?_append_right (by simp; omega), List.getElem?_append_right (by simp; omega)]
      simp only [List.length_map, List.length_take, List.getElem?_drop]
      congr 1
      omega
theorem capTo_same {C : List Int} {bd : Int} {k : Nat} (h : k < C.length) (hm : ix C k ≤ bd) : capTo C bd (k + 1) = capTo C bd k := by
  rw [capTo_next h]
  have h1 : k < (capTo C bd k).length := by rw [capTo_len]; exact h
  have e : minI (ix C k) bd = (capTo C bd k)[k] := by
    rw [← ix_get h1, capTo_ix h]
    unfold minI; rw [if_pos hm]
  rw [e, List.set_getElem_self]
theorem capTo_all (C : List Int) (bd : Int) : capTo C bd C.length = C.map fun x => minI x bd := by simp [capTo]
theorem capS_next {C : List Int} {bd : Int} {k : Nat} (h : k < C.length) : capS C bd (k + 1) = capS C bd k + minI (ix C k) bd := by
  unfold capS
  rw [List.take_succ_eq_append_getElem h, sumI_snoc, ix_get h]
theorem sumI_map (f g : Int → Int) : ∀ V : List Int, sumI f (V.map g) = sumI (fun v => f (g v)) V
  | [] => rfl
  | x :: V => by simp only [List.map_cons, sumI, sumI_map f g V]

def RN5Rel (C : List Int) (bd : Int) (w2 : World) (ob : Nat) (vl vk : Value) (ll : List Int) (s i : Value) (wx : World) : Prop :=
  ∃ k : Nat, k ≤ C.length ∧ i = .int .i64 k ∧ s = .int .i64 (capS C bd k) ∧ RN3 w2 ob vl vk ll (capTo C bd k) wx

theorem RN3.cap {w2 : World} {ob g off n cap : Nat} {vl : Value} {ll lk : List Int} {wx : World} (h : RN3 w2 ob vl (.slice (some ⟨g, off, none⟩) n cap) ll lk wx) {i : Nat} (hi : i < lk.length) {x : Int} (hx : InI x) :
    RN3 w2 ob vl (.slice (some ⟨g, off, none⟩) n cap) ll (lk.set i x) (wx.setCell ⟨g, off + i, none⟩ (.int .i64 x)) ∧ wx.frozen? ⟨g, off + i, none⟩ = false ∧ wx.cell? ⟨g, off + i, none⟩ = some (.int .i64 (ix lk i)) := by
  obtain ⟨h1, h2, h3⟩ := h.rk.setAt hi hx
  have hg := (h.rk.base (g := g) rfl).1
  refine ⟨⟨h.out.setOther _ _ (by omega), h.rl.kept fun j hj _ hv => Below.heap_setCell _ _ _ _ fun e => h.far j hv (congrArg some e.symm), h1, h.far, h.below.setCell (p := ⟨g, off + i, none⟩) (by show ob ≤ g; omega) _⟩, h2, h3⟩

theorem capS_small {C : List Int} {bd : Int} (hC : ∀ x ∈ C, 0 ≤ x ∧ x ≤ 1099511627776) (hb : 0 < bd) : ∀ k : Nat, k ≤ C.length → 0 ≤ capS C bd k ∧ capS C bd k ≤ 1099511627776 * (k : Int)
  | 0, _ => by simp [capS, sumI]
  | k + 1, hk => by
    have ih := capS_small hC hb k (by omega)
    have h1 := hC (ix C k) (ix_mem (by omega))
    rw [capS_next (by omega)]
    unfold minI
    push_cast
    split <;> omega

theorem rcoef_small {L K V : List Int} (hL : L.length ≤ 65536) (hK : ∀ j, j < L.length → -16777216 ≤ ix K j ∧ ix K j ≤ 16777216) (i : Nat) : ∀ x ∈ rcoefs L K V i, 0 ≤ x ∧ x ≤ 1099511627776 := fun x hx => by
  obtain ⟨v, -, rfl⟩ := List.mem_map.1 hx
  have h1 := byTo_bound (L := L) (K := K) (v := v) L.length hK
  show 0 ≤ absI _ ∧ absI _ ≤ _
  unfold absI
  split <;> omega

set_option maxHeartbeats 16000000 in
set_option maxRecDepth 100000 in
theorem rnorm_any (v1 v2 : Value) (L K : List Int) (B : Int) (w : World) (h1 : Ints w v1 L) (h2 : Ints w v2 K) (hB : InI B) :
    Calls Tryz.prog 94 #[v1, v2, .int .i64 B] w fun e w' => ∃ vp, e = .returned (.tuple #[vp, .int .i64 (normP L K B).2]) ∧ PBQ w.heap.size w' vp (normP L K B).1 ∧ Below w.heap.size w w' := by
  obtain ⟨a1, c1, rfl, -, hl1, -, hcell1⟩ := h1.form
  obtain ⟨a2, c2, rfl, -, hl2, -, hcell2⟩ := h2.form
  have HI1 := Lib.hid h1
  have HI2 := Lib.hid h2
  unfold InI at hB
  clear h1 h2
  have hal0 := bal (Below.refl w.heap.size w) (.cells #[.slice none 0 0, .slice none 0 0, .int .i64 0] 30)
  have HAL := Lib.hid hal0
  have hB0 := Blk.new w pbZ 30
  have HB0 := Lib.hid hB0
  clear hal0
  have HERR : Hid ((L.length ≠ K.length ∨ 65536 < L.length ∨ B < -1099511627776 ∨ 1099511627776 < B) → normP L K B = (⟨[], [], 0⟩, 2)) := Lib.hid (fun h => by unfold normP; rw [if_pos h])
  by_cases hlen : L.length = K.length
  · have e1 : ((L.length : Int) != (K.length : Int)) = false := by simp [hlen]
    have hlen2 : L.length ≤ K.length ∧ K.length ≤ L.length := by omega
    clear hlen
    by_cases hbig : 65536 < L.length
    · have HF := Lib.hid (HERR.out (.inr (.inl hbig)))
      have kx := hB0.cell
      go_enter Tryz.func94, Tryz.ntmps94
      go_wp2
      refine bodyPost_ret (v := .tuple #[.agg #[.slice none 0 0, .slice none 0 0, .int .i64 0], .int .i64 2]) (by simp [results, Tryz.f94, go_sem, *]) rfl ⟨_, by rw [HF.out], by rw [HF.out]; exact ⟨_, _, rfl, QRow.nil _ _, QRow.nil _ _, show InI (0 : Int) from (by unfold InI; omega), Nat.zero_le _, Nat.zero_le _⟩, HAL.out⟩
    · by_cases hb1 : B < -1099511627776
      · have HF := Lib.hid (HERR.out (.inr (.inr (.inl hb1))))
        have kx := hB0.cell
        go_enter Tryz.func94, Tryz.ntmps94
        go_wp2
        refine bodyPost_ret (v := .tuple #[.agg #[.slice none 0 0, .slice none 0 0, .int .i64 0], .int .i64 2]) (by simp [results, Tryz.f94, go_sem, *]) rfl ⟨_, by rw [HF.out], by rw [HF.out]; exact ⟨_, _, rfl, QRow.nil _ _, QRow.nil _ _, show InI (0 : Int) from (by unfold InI; omega), Nat.zero_le _, Nat.zero_le _⟩, HAL.out⟩
      · by_cases hb2 : 1099511627776 < B
        · have HF := Lib.hid (HERR.out (.inr (.inr (.inr hb2))))
          have kx := hB0.cell
          go_enter Tryz.func94, Tryz.ntmps94
          go_wp2
          refine bodyPost_ret (v := .tuple #[.agg #[.slice none 0 0, .slice none 0 0, .int .i64 0], .int .i64 2]) (by simp [results, Tryz.f94, go_sem, *]) rfl ⟨_, by rw [HF.out], by rw [HF.out]; exact ⟨_, _, rfl, QRow.nil _ _, QRow.nil _ _, show InI (0 : Int) from (by unfold InI; omega), Nat.zero_le _, Nat.zero_le _⟩, HAL.out⟩
        · have hno : ¬ (L.length ≠ K.length ∨ 65536 < L.length ∨ B < -1099511627776 ∨ 1099511627776 < B) := by omega
          have HNO := Lib.hid hno
          clear hno
          go_enter Tryz.func94, Tryz.ntmps94
          go_upto_region 4 with fail
          have kx := hB0.cell
          have kf := hB0.free
          have hz0 : w.heap.size < (w.alloc (.cells #[.slice none 0 0, .slice none 0 0, .int .i64 0] 30)).heap.size := by simp
          have KW : Hid (∀ b o, b < w.heap.size → (w.alloc (.cells #[.slice none 0 0, .slice none 0 0, .int .i64 0] 30)).cell? ⟨b, o, none⟩ = w.cell? ⟨b, o, none⟩) := Lib.hid fun b o h => bcell HAL.out b o h
          generalize w.alloc (.cells #[.slice none 0 0, .slice none 0 0, .int .i64 0] 30) = W0 at *
          go_loop [8] (fun i => ∃ k : Nat, k ≤ L.length ∧ i = .int .i64 k ∧ Hid (∀ j, j < k → pokAt L K j = true)) (fun i => L.length - (intOf i).toNat)
          case atStart => exact ⟨0, Nat.zero_le _, rfl, Lib.hid (fun j hj => absurd hj (Nat.not_lt_zero _))⟩
          case round =>
            obtain ⟨k, hk, rfl, HA⟩ := hrel
            by_cases hlt : k < L.length
            · obtain ⟨b1, o1, rfl, hb1', hc1⟩ := hcell1 (by omega)
              obtain ⟨b2, o2, rfl, hb2', hc2⟩ := hcell2 (by omega)
              have hlt2 : k < K.length := by omega
              have hk1 := (KW.out _ _ hb1').trans (hc1 k hlt)
              have hk2 := (KW.out _ _ hb2').trans (hc2 k hlt2)
              have HX1 : Hid (InI (ix L k)) := Lib.hid (HI1.out.2 k)
              have HPD : Hid (pokAt L K k = (plitB (ix L k) && decide (-16777216 ≤ ix K k ∧ ix K k ≤ 16777216))) := Lib.hid rfl
              clear hc1 hc2 hcell1 hcell2
              cases hp : plitB (ix L k) with
              | false =>
                have HLB := Lib.hid hp
                have HF := Lib.hid (pok_fail HNO.out hlt (by rw [HPD.out, hp]; rfl))
                clear hp
                go_wp2_with (go_at_call 103; (with_reducible refine (rlit_any _ _ HX1.out).mono ?_); rintro e w1 ⟨e1', rfl⟩; rw [HLB.out] at e1'; subst e1')
                refine bodyPost_ret (v := .tuple #[.agg #[.slice none 0 0, .slice none 0 0, .int .i64 0], .int .i64 2]) (by simp [results, Tryz.f94, go_sem, *]) rfl ⟨_, by rw [HF.out], by rw [HF.out]; exact ⟨_, _, rfl, QRow.nil _ _, QRow.nil _ _, show InI (0 : Int) from (by unfold InI; omega), Nat.zero_le _, Nat.zero_le _⟩, below3 HAL.out _ (Nat.le_refl _) _ _ _⟩
              | true =>
                have HLB := Lib.hid hp
                rw [hp, Bool.true_and] at HPD
                clear hp
                by_cases g1 : ix K k < -16777216
                · have HF := Lib.hid (pok_fail HNO.out hlt (by rw [HPD.out]; exact decide_eq_false (by omega)))
                  go_wp2_with (go_at_call 103; (with_reducible refine (rlit_any _ _ HX1.out).mono ?_); rintro e w1 ⟨e1', rfl⟩; rw [HLB.out] at e1'; subst e1')
                  refine bodyPost_ret (v := .tuple #[.agg #[.slice none 0 0, .slice none 0 0, .int .i64 0], .int .i64 2]) (by simp [results, Tryz.f94, go_sem, *]) rfl ⟨_, by rw [HF.out], by rw [HF.out]; exact ⟨_, _, rfl, QRow.nil _ _, QRow.nil _ _, show InI (0 : Int) from (by unfold InI; omega), Nat.zero_le _, Nat.zero_le _⟩, below3 HAL.out _ (Nat.le_refl _) _ _ _⟩
                · by_cases g2 : 16777216 < ix K k
                  · have HF := Lib.hid (pok_fail HNO.out hlt (by rw [HPD.out]; exact decide_eq_false (by omega)))
                    go_wp2_with (go_at_call 103; (with_reducible refine (rlit_any _ _ HX1.out).mono ?_); rintro e w1 ⟨e1', rfl⟩; rw [HLB.out] at e1'; subst e1')
                    refine bodyPost_ret (v := .tuple #[.agg #[.slice none 0 0, .slice none 0 0, .int .i64 0], .int .i64 2]) (by simp [results, Tryz.f94, go_sem, *]) rfl ⟨_, by rw [HF.out], by rw [HF.out]; exact ⟨_, _, rfl, QRow.nil _ _, QRow.nil _ _, show InI (0 : Int) from (by unfold InI; omega), Nat.zero_le _, Nat.zero_le _⟩, below3 HAL.out _ (Nat.le_refl _) _ _ _⟩
                  · have HN := Lib.hid (lt_succ_all HA.out (show pokAt L K k = true by rw [HPD.out]; exact decide_eq_true (by omega)))
                    go_wp2_with (go_at_call 103; (with_reducible refine (rlit_any _ _ HX1.out).mono ?_); rintro e w1 ⟨e1', rfl⟩; rw [HLB.out] at e1'; subst e1')
                    first
                      | (go_round
                         case rel => (exact ⟨k + 1, hlt, by go_num, HN⟩)
                         case measure => (simp [intOf]; omega))
                      | (refine ⟨?_, ?_⟩
                         · (exact ⟨k + 1, hlt, by go_num, HN⟩)
                         · (simp [intOf]; omega))
            · obtain rfl : k = L.length := by omega
              have HPK : Hid (∀ j, j < L.length → plitB (ix L j) = true ∧ -16777216 ≤ ix K j ∧ ix K j ≤ 16777216) := Lib.hid (fun j hj => by
                have := HA.out j hj
                unfold pokAt at this
                rwa [Bool.and_eq_true, decide_eq_true_eq] at this)
              have HNZ : Hid (∀ j, j < L.length → ix L j ≠ 0 ∧ -65536 ≤ ix L j ∧ ix L j ≤ 65536) := Lib.hid (fun j hj => by
                have := (HPK.out j hj).1
                unfold plitB at this
                rwa [decide_eq_true_eq] at this)
              go_upto_region 10 with fail
              clear kx kf
              go_loopw [9, 10] (fun vs i wx => RN2Rel L w vs i wx) (fun _ i _ => L.length - (intOf i).toNat)
              case atStart => exact ⟨0, Nat.zero_le _, rfl, QRow.nil _ _, HB0.out, HAL.out⟩
              case round =>
                obtain ⟨k, hk, rfl, hq, hbx, hb⟩ := hrel
                have HQ := Lib.hid hq
                have HBX := Lib.hid hbx
                have HB := Lib.hid hb
                have hlen9 := varsTo_len L k
                obtain ⟨av, cv, rfl⟩ := hq.slen
                clear hq hbx
                by_cases hlt : k < L.length
                · obtain ⟨b1, o1, rfl, hb1', hc1⟩ := hcell1 (by omega)
                  have hk1 := (bcell hb _ _ hb1').trans (hc1 k hlt)
                  have hx := HNZ.out k hlt
                  have HIV := Lib.hid (HQ.out.ints (by omega))
                  have HIR : Hid (insR (varsTo L k) ((ix L k).natAbs : Int) = varsTo L (k + 1)) := Lib.hid (insR_is (varsTo_sorted L k) _)
                  have hxx : -9223372036854775808 < ix L k ∧ ix L k ≤ 9223372036854775807 := by omega
                  have hnn : InI ((ix L k).natAbs : Int) := by unfold InI; omega
                  clear hc1 hcell1 hcell2 hb
                  go_wp2_with (first
                    | (go_at_call 122; (with_reducible refine (insert_any _ _ _ _ HIV.out hnn (by omega)).mono ?_); rintro e w1 ⟨v1', rfl, hq1, hb1⟩; rw [HIR.out] at hq1; have HQ1 := Lib.hid (hq1.mono HB.out.size); have HB1 := Lib.hid (bon HB.out hb1); have HBX1 := Lib.hid (HBX.out.below hb1); clear hq1 hb1)
                    | (go_at_call 104; (with_reducible refine (rvar_any _ _ hxx).mono ?_); rintro e w1 ⟨rfl, rfl⟩))
                  first
                    | (go_roundw
                       case rel => (exact ⟨k + 1, hlt, by go_num, HQ1.out, HBX1.out, HB1.out⟩)
                       case measure => (simp [intOf]; omega))
                    | (refine ⟨?_, ?_⟩
                       · (exact ⟨k + 1, hlt, by go_num, HQ1.out, HBX1.out, HB1.out⟩)
                       · (simp [intOf]; omega))
                · obtain rfl : k = L.length := by omega
                  rw [varsTo_keys] at HQ hlen9
                  have HVK : Hid (keysOf L = varsTo L L.length) := Lib.hid (varsTo_keys L).symm
                  rw [varsTo_keys]
                  have HKP : Hid (∀ v ∈ keysOf L, 0 < v ∧ v ≤ 65536) := Lib.hid (fun v hv => by
                    obtain ⟨l, hl, e⟩ := mem_keys.1 hv
                    obtain ⟨j, hj, rfl⟩ := mem_ix_iff.1 hl
                    have := HNZ.out j hj
                    omega)
                  have HBA : Hid (bndTo L K B (keysOf L) (keysOf L).length = B - negTo L K L.length - sumI (fun v => lowI (byTo L K v L.length)) (keysOf L)) := Lib.hid (bndTo_all fun j hj => (HNZ.out j hj).1)
                  have HNP : Hid (normP L K B = normC (fun v => byTo L K v L.length) (fltTo L K (keysOf L) (keysOf L).length) (bndTo L K B (keysOf L) (keysOf L).length)) := Lib.hid (by
                    unfold normP
                    rw [if_neg HNO.out, allR_true fun j hj => HA.out j hj, if_neg (by simp), HBA.out]
                    unfold fltTo
                    rw [List.take_length])
                  clear HVK HBA
                  generalize hV : keysOf L = V at *
                  clear hV
                  go_upto_region 15 with fail
                  have HIV := HQ.out.ints (by omega)
                  obtain ⟨aV, cV, eV, -, hlV, -, hcellV⟩ := HIV.form
                  simp only [Value.slice.injEq] at eV
                  obtain ⟨rfl, -, rfl⟩ := eV
                  have HCV := Lib.hid hcellV
                  have hsz : w.heap.size < wr.heap.size := HBX.out.lt
                  have hR0 : RN3 wr wr.heap.size (.slice none 0 0) (.slice none 0 0) (rlits L K V 0) (rcoefs L K V 0) (wr.alloc (.cells #[.slice none 0 0, .slice none 0 0, .int .i64 0] 30)) := ⟨Blk.new wr pbZ _, QRow.nil _ _, QRow.nil _ _, fun g e => by (cases e), bal (Below.refl wr.heap.size wr) _⟩
                  have HR0 := Lib.hid hR0
                  clear hR0 hcellV HIV hz0 hB0 HAL KW HERR hk hlt HA HQ
                  generalize wr.alloc (.cells #[.slice none 0 0, .slice none 0 0, .int .i64 0] 30) = W3 at *
                  generalize wr = w2 at *
                  generalize w2.heap.size = ob at *
                  go_loopw [2, 12] (fun b i wx => RN3Rel L K B V w2 ob b i wx) (fun _ i _ => V.length - (intOf i).toNat)
                  case atStart => exact ⟨0, _, _, Nat.zero_le _, rfl, rfl, HR0.out⟩
                  case round =>
                    obtain ⟨k, vl, vk, hk, rfl, rfl, hst⟩ := hrel
                    have HS4 := Lib.hid hst
                    have hup := hst.below
                    have hbw := HB.out.trans (hup.mono (Nat.le_of_lt hsz))
                    have HUP := Lib.hid hup
                    have HBW := Lib.hid hbw
                    have hbnd := bndTo_small (V := V) ⟨hb1, hb2⟩ (by omega) (fun j hj => (HPK.out j hj).2) k (by omega)
                    clear hst hb
                    by_cases hlt : k < V.length
                    · obtain ⟨bV, oV, rfl, hbV, hcV⟩ := HCV.out (by omega)
                      have HBV := Lib.hid hbV
                      have HCK := Lib.hid (hcV k hlt)
                      have hv := HKP.out _ (ix_mem hlt)
                      have HLL : Hid ((rlits L K V k).length ≤ 65536) := Lib.hid (by have := flt_len L K V k; simp only [rlits, List.length_map]; omega)
                      have HLK : Hid ((rcoefs L K V k).length ≤ 65536) := Lib.hid (by have := flt_len L K V k; simp only [rcoefs, List.length_map]; omega)
                      clear hcV hbV hup hbw HUP HBW
                      go_upto_region 19 with fail
                      have HS5 := Lib.hid HS4.out
                      clear HS4
                      generalize wr = wq at *
                      go_loopw [2, 13, 14] (fun b c i wx => RN4Rel L K B V k w2 ob vl vk b c i wx) (fun _ _ i _ => L.length - (intOf i).toNat)
                      case atStart => exact ⟨0, Nat.zero_le _, rfl, rfl, by rw [bIn_zero], HS5.out⟩
                      case round =>
                        obtain ⟨j, hj, rfl, rfl, rfl, hst⟩ := hrel
                        have HS4 := Lib.hid hst
                        have hup := hst.below
                        have hbw := HB.out.trans (hup.mono (Nat.le_of_lt hsz))
                        have hkV := (hup.cell (p := ⟨bV, oV + k, none⟩) HBV.out).trans HCK.out
                        have hoblt := hst.out.lt
                        have HKV : Hid (wr.cell? ⟨bV, oV + k, none⟩ = some (.int .i64 (ix V k))) := Lib.hid hkV
                        clear hst
                        have hby := byTo_bound (L := L) (K := K) (v := ix V k) j (fun i hi => (HPK.out i (by omega)).2)
                        have hbi := bIn_small (V := V) ⟨hb1, hb2⟩ (by omega) (fun i hi => (HPK.out i hi).2) (show k ≤ 65536 by omega) hj
                        by_cases hjl : j < L.length
                        · obtain ⟨b1, o1, rfl, hb1', hc1⟩ := hcell1 (by omega)
                          obtain ⟨b2, o2, rfl, hb2', hc2⟩ := hcell2 (by omega)
                          have hjl2 : j < K.length := by omega
                          have hk1 := (bcell hbw _ _ hb1').trans (hc1 j hjl)
                          have hk2 := (bcell hbw _ _ hb2').trans (hc2 j hjl2)
                          have hx := HNZ.out j hjl
                          have hy := (HPK.out j hjl).2
                          have HYS := Lib.hid (byTo_succ L K (ix V k) j)
                          have HBI := Lib.hid (bIn_next L K B V k j)
                          have hl1 : b1 < wr.heap.size := Nat.lt_of_lt_of_le hb1' hbw.size
                          have hl2 : b2 < wr.heap.size := Nat.lt_of_lt_of_le hb2' hbw.size
                          have hlV : bV < wr.heap.size := Nat.lt_trans HBV.out hoblt
                          have q1 : ∀ e : Ext wr, e.world.cell? ⟨b1, o1 + j, none⟩ = some (.int .i64 (ix L j)) := fun e => (bcell e.below _ _ hl1).trans hk1
                          have q3 : ∀ e : Ext wr, e.world.cell? ⟨bV, oV + k, none⟩ = some (.int .i64 (ix V k)) := fun e => (bcell e.below _ _ hlV).trans hkV
                          have HK1 := Lib.hid hk1
                          have HK2 := Lib.hid hk2
                          clear hc1 hc2 hcell1 hcell2 hbw hup hkV hk1 hk2
                          by_cases g1 : ix L j = ix V k
                          · have g2 : ¬ ix L j = -(ix V k) := by omega
                            rw [if_pos g1] at HYS
                            rw [if_neg g2] at HBI
                            go_wp2
                            refine wp_region_ext (by kernel_rfl) (by kernel_rfl) ?_
                            repeat (go_big_quiet_step (fail))
                            refine wpQuiet_nil ?_
                            intro w9 hw'
                            obtain ⟨e9, he9⟩ := hw'
                            have hb9 := e9.below
                            rw [← he9] at hb9
                            clear he9 e9
                            try dsimp only
                            generalize w9 = w8 at *
                            have HB8 := Lib.hid hb9
                            have HK1b := Lib.hid ((bcell hb9 _ _ hl1).trans HK1.out)
                            have HK2b := Lib.hid ((bcell hb9 _ _ hl2).trans HK2.out)
                            have HKVb := Lib.hid ((bcell hb9 _ _ hlV).trans HKV.out)
                            have hl1b := Nat.lt_of_lt_of_le hl1 hb9.size
                            have hl2b := Nat.lt_of_lt_of_le hl2 hb9.size
                            have hlVb := Nat.lt_of_lt_of_le hlV hb9.size
                            have q1b : ∀ e : Ext w8, e.world.cell? ⟨b1, o1 + j, none⟩ = some (.int .i64 (ix L j)) := fun e => (bcell e.below _ _ hl1b).trans HK1b.out
                            have q3b : ∀ e : Ext w8, e.world.cell? ⟨bV, oV + k, none⟩ = some (.int .i64 (ix V k)) := fun e => (bcell e.below _ _ hlVb).trans HKVb.out
                            have hk2b := HK2b.out
                            clear hb9 q1 q3
                            go_wp2
                            refine wp_region_ext (by kernel_rfl) (by kernel_rfl) ?_
                            repeat (go_big_quiet_step (fail))
                            refine wpQuiet_nil ?_
                            intro w9 hw'
                            obtain ⟨e9, he9⟩ := hw'
                            have hb9 := e9.below
                            rw [← he9] at hb9
                            clear he9 e9
                            try dsimp only
                            have hk2 := (bcell hb9 _ _ hl2b).trans HK2b.out
                            go_wp2
                            first
                              | (go_roundw
                                 case rel => (exact ⟨j + 1, hjl, by go_num, by rw [HYS.out], by rw [HBI.out]; simp, (HS4.out.on HB8.out).on hb9⟩)
                                 case measure => (simp [intOf]; omega))
                              | (refine ⟨?_, ?_⟩
                                 · (exact ⟨j + 1, hjl, by go_num, by rw [HYS.out], by rw [HBI.out]; simp, (HS4.out.on HB8.out).on hb9⟩)
                                 · (simp [intOf]; omega))
                          · by_cases g2 : ix L j = -(ix V k)
                            · rw [if_neg g1, if_pos g2] at HYS
                              rw [if_pos g2] at HBI
                              go_wp2
                              refine wp_region_ext (by kernel_rfl) (by kernel_rfl) ?_
                              repeat (go_big_quiet_step (fail))
                              refine wpQuiet_nil ?_
                              intro w9 hw'
                              obtain ⟨e9, he9⟩ := hw'
                              have hb9 := e9.below
                              rw [← he9] at hb9
                              clear he9 e9
                              try dsimp only
                              generalize w9 = w8 at *
                              have HB8 := Lib.hid hb9
                              have HK1b := Lib.hid ((bcell hb9 _ _ hl1).trans HK1.out)
                              have HK2b := Lib.hid ((bcell hb9 _ _ hl2).trans HK2.out)
                              have HKVb := Lib.hid ((bcell hb9 _ _ hlV).trans HKV.out)
                              have hl1b := Nat.lt_of_lt_of_le hl1 hb9.size
                              have hl2b := Nat.lt_of_lt_of_le hl2 hb9.size
                              have hlVb := Nat.lt_of_lt_of_le hlV hb9.size
                              have q1b : ∀ e : Ext w8, e.world.cell? ⟨b1, o1 + j, none⟩ = some (.int .i64 (ix L j)) := fun e => (bcell e.below _ _ hl1b).trans HK1b.out
                              have q3b : ∀ e : Ext w8, e.world.cell? ⟨bV, oV + k, none⟩ = some (.int .i64 (ix V k)) := fun e => (bcell e.below _ _ hlVb).trans HKVb.out
                              clear hb9 q1 q3
                              go_wp2
                              refine wp_region_ext (by kernel_rfl) (by kernel_rfl) ?_
                              repeat (go_big_quiet_step (fail))
                              refine wpQuiet_nil ?_
                              intro w9 hw'
                              obtain ⟨e9, he9⟩ := hw'
                              have hb9 := e9.below
                              rw [← he9] at hb9
                              clear he9 e9
                              try dsimp only
                              have hk2 := (bcell hb9 _ _ hl2b).trans HK2b.out
                              go_wp2
                              first
                                | (go_roundw
                                   case rel => (exact ⟨j + 1, hjl, by go_num, by rw [HYS.out]; go_num, by rw [HBI.out], (HS4.out.on HB8.out).on hb9⟩)
                                   case measure => (simp [intOf]; omega))
                                | (refine ⟨?_, ?_⟩
                                   · (exact ⟨j + 1, hjl, by go_num, by rw [HYS.out]; go_num, by rw [HBI.out], (HS4.out.on HB8.out).on hb9⟩)
                                   · (simp [intOf]; omega))
                            · rw [if_neg g1, if_neg g2] at HYS
                              rw [if_neg g2] at HBI
                              go_wp2
                              refine wp_region_ext (by kernel_rfl) (by kernel_rfl) ?_
                              repeat (go_big_quiet_step (fail))
                              refine wpQuiet_nil ?_
                              intro w9 hw'
                              obtain ⟨e9, he9⟩ := hw'
                              have hb9 := e9.below
                              rw [← he9] at hb9
                              clear he9 e9
                              try dsimp only
                              generalize w9 = w8 at *
                              have HB8 := Lib.hid hb9
                              have HK1b := Lib.hid ((bcell hb9 _ _ hl1).trans HK1.out)
                              have HK2b := Lib.hid ((bcell hb9 _ _ hl2).trans HK2.out)
                              have HKVb := Lib.hid ((bcell hb9 _ _ hlV).trans HKV.out)
                              have hl1b := Nat.lt_of_lt_of_le hl1 hb9.size
                              have hl2b := Nat.lt_of_lt_of_le hl2 hb9.size
                              have hlVb := Nat.lt_of_lt_of_le hlV hb9.size
                              have q1b : ∀ e : Ext w8, e.world.cell? ⟨b1, o1 + j, none⟩ = some (.int .i64 (ix L j)) := fun e => (bcell e.below _ _ hl1b).trans HK1b.out
                              have q3b : ∀ e : Ext w8, e.world.cell? ⟨bV, oV + k, none⟩ = some (.int .i64 (ix V k)) := fun e => (bcell e.below _ _ hlVb).trans HKVb.out
                              clear hb9 q1 q3
                              go_wp2
                              refine wp_region_ext (by kernel_rfl) (by kernel_rfl) ?_
                              repeat (go_big_quiet_step (fail))
                              refine wpQuiet_nil ?_
                              intro w9 hw'
                              obtain ⟨e9, he9⟩ := hw'
                              have hb9 := e9.below
                              rw [← he9] at hb9
                              clear he9 e9
                              try dsimp only
                              have hk2 := (bcell hb9 _ _ hl2b).trans HK2b.out
                              go_wp2
                              first
                                | (go_roundw
                                   case rel => (exact ⟨j + 1, hjl, by go_num, by rw [HYS.out]; simp, by rw [HBI.out]; simp, (HS4.out.on HB8.out).on hb9⟩)
                                   case measure => (simp [intOf]; omega))
                                | (refine ⟨?_, ?_⟩
                                   · (exact ⟨j + 1, hjl, by go_num, by rw [HYS.out]; simp, by rw [HBI.out]; simp, (HS4.out.on HB8.out).on hb9⟩)
                                   · (simp [intOf]; omega))
                        · obtain rfl : j = L.length := by omega
                          have HBN := Lib.hid (bndTo_next L K B V k)
                          clear hkV hbw hup hcell1 hcell2
                          by_cases g0 : 0 < byTo L K (ix V k) L.length
                          · obtain ⟨hex, hey⟩ := rl_next hlt (show byTo L K (ix V k) L.length ≠ 0 by omega)
                            have HEX : Hid (rlits L K V (k + 1) = rlits L K V k ++ [ix V k]) := Lib.hid (by rw [hex]; unfold litOf; rw [if_neg (show ¬ byTo L K (ix V k) L.length < 0 by omega)])
                            have HEY : Hid (rcoefs L K V (k + 1) = rcoefs L K V k ++ [byTo L K (ix V k) L.length]) := Lib.hid (by rw [hey]; unfold absI; rw [if_neg (show ¬ byTo L K (ix V k) L.length < 0 by omega)])
                            have HXI : Hid (InI (ix V k)) := Lib.hid (by unfold InI; omega)
                            have HYI : Hid (InI (byTo L K (ix V k) L.length)) := Lib.hid (by unfold InI; omega)
                            have HLW : Hid (lowI (byTo L K (ix V k) L.length) = 0) := Lib.hid (by unfold lowI; rw [if_neg (show ¬ byTo L K (ix V k) L.length < 0 by omega)])
                            clear hex hey
                            go_upto_region 27 with fail
                            have ok : okB [0, 1, 5, 6, 7, 8, 9, 10, 11, 12, 13, 14, 15, 16] [2, 3, 4] = true := by decide
                            refine wp_region_inv (TS [0, 1, 5, 6, 7, 8, 9, 10, 11, 12, 13, 14, 15, 16] [2, 3, 4] (fun i => match i with | 2 => .slice (some ⟨bV, oV, none⟩) V.length cv | 3 => .int .i64 (k : Int) | 4 => .pointer (some ⟨bV, oV + k, none⟩) | _ => undef) wr ob vl vk (.int .i64 0) (rlits L K V k) (rcoefs L K V k) (ix V k) (byTo L K (ix V k) L.length)) (by kernel_rfl) (by kernel_rfl) (by kernel_rfl) (TS.start HS4.out.out HS4.out.rl HS4.out.rk HS4.out.far) ?step ?fin
                            case step =>
                              intro i hin vals Lf wx hL hdep hcl hW
                              have h17 : i < 17 := hin
                              have HW := Lib.hid hW
                              clear hW
                              rcases (by omega : i = 0 ∨ i = 1 ∨ i = 2 ∨ i = 3 ∨ i = 4 ∨ i = 5 ∨ i = 6 ∨ i = 7 ∨ i = 8 ∨ i = 9 ∨ i = 10 ∨ i = 11 ∨ i = 12 ∨ i = 13 ∨ i = 14 ∨ i = 15 ∨ i = 16) with rfl | rfl | rfl | rfl | rfl | rfl | rfl | rfl | rfl | rfl | rfl | rfl | rfl | rfl | rfl | rfl | rfl
                              · refine StepJ.of rfl (fun K' hK => ?_)
                                simp only [opAt, List.getD_cons_zero, Afr, fr, Act.put, List.setIfInBounds_toArray, List.set_cons_succ, List.set_cons_zero] at hK ⊢
                                go_simp
                                exact hK _ _ (HW.out.quiet ok 0 (by omega))
                              · have hn : Lf 14 = false := (by
                                  cases e : Lf 14 with
                                  | false => rfl
                                  | true => rw [hcl 14 (by decide) e 1 (by decide) (by kernel_rfl)] at hL; cases hL)
                                have hc : wx.cell? ⟨ob, 0, none⟩ = some (vl) := by
                                  have h := HW.out.t.out.cell 0
                                  have hn2 : Lf (sg [0, 1, 5, 6, 7, 8, 9, 10, 11, 12, 13, 14, 15, 16] 11) = false := hn
                                  rw [hn2] at h
                                  exact h
                                have v0 : vals 0 = .pointer (some ⟨ob, 0, none⟩) := HW.out.t.t0 (hdep 0 (by decide) (by kernel_rfl))
                                refine StepJ.of rfl (fun K' hK => ?_)
                                simp only [v0, opAt, List.getD_cons_zero, List.getD_cons_succ, Afr, fr, dstOf, if_true, List.getElem?_toArray, List.getElem?_cons_zero, Option.bind_some, Act.put, List.setIfInBounds_toArray, List.set_cons_succ, List.set_cons_zero] at hK ⊢
                                go_simp
                                exact hK _ _ (HW.out.quiet ok 1 (by omega))
                              · refine StepJ.of rfl (fun K' hK => ?_)
                                simp only [opAt, List.getD_cons_zero, List.getD_cons_succ, Afr, fr, dstOf, if_true, List.getElem?_toArray, List.getElem?_cons_zero, List.getElem?_cons_succ, Option.bind_some, Act.put, List.setIfInBounds_toArray, List.set_cons_succ, List.set_cons_zero] at hK ⊢
                                go_simp
                                exact hK _ _ (HW.out.extra ok 2 (by decide))
                              · refine StepJ.of rfl (fun K' hK => ?_)
                                simp only [opAt, List.getD_cons_zero, List.getD_cons_succ, Afr, fr, dstOf, if_true, List.getElem?_toArray, List.getElem?_cons_zero, List.getElem?_cons_succ, Option.bind_some, Act.put, List.setIfInBounds_toArray, List.set_cons_succ, List.set_cons_zero] at hK ⊢
                                go_simp
                                exact hK _ _ (HW.out.extra ok 3 (by decide))
                              · have v2 : vals 2 = .slice (some ⟨bV, oV, none⟩) V.length cv := HW.out.q 2 (by decide) (hdep 2 (by decide) (by kernel_rfl))
                                have v3 : vals 3 = .int .i64 (k : Int) := HW.out.q 3 (by decide) (hdep 3 (by decide) (by kernel_rfl))
                                refine StepJ.of rfl (fun K' hK => ?_)
                                simp only [v2, v3, opAt, List.getD_cons_zero, List.getD_cons_succ, Afr, fr, dstOf, if_true, List.getElem?_toArray, List.getElem?_cons_zero, List.getElem?_cons_succ, Option.bind_some, Act.put, List.setIfInBounds_toArray, List.set_cons_succ, List.set_cons_zero] at hK ⊢
                                go_simp
                                exact hK _ _ (HW.out.extra ok 4 (by decide))
                              · have v4 : vals 4 = .pointer (some ⟨bV, oV + k, none⟩) := HW.out.q 4 (by decide) (hdep 4 (by decide) (by kernel_rfl))
                                have kv : wx.cell? ⟨bV, oV + k, none⟩ = some (.int .i64 (ix V k)) := (HW.out.t.below.cell (p := ⟨bV, _, none⟩) HBV.out).trans (HKV.out)
                                refine StepJ.of rfl (fun K' hK => ?_)
                                simp only [v4, opAt, List.getD_cons_zero, List.getD_cons_succ, Afr, fr, dstOf, if_true, List.getElem?_toArray, List.getElem?_cons_zero, List.getElem?_cons_succ, Option.bind_some, Act.put, List.setIfInBounds_toArray, List.set_cons_succ, List.set_cons_zero] at hK ⊢
                                go_simp
                                exact hK _ _ (HW.out.quiet ok 2 (by omega))
                              · have v5 : vals 5 = .int .i64 (ix V k) := HW.out.t.t2 (hdep 5 (by decide) (by kernel_rfl))
                                refine StepJ.of rfl (fun K' hK => ?_)
                                simp only [v5, opAt, List.getD_cons_zero, List.getD_cons_succ, Afr, fr, dstOf, if_true, List.getElem?_toArray, List.getElem?_cons_zero, List.getElem?_cons_succ, Option.bind_some, Act.put, List.setIfInBounds_toArray, List.set_cons_succ, List.set_cons_zero] at hK ⊢
                                go_simp
                                exact hK _ _ (HW.out.build3 ok)
                              · have h9 : Lf 12 = false := (by
                                  cases e : Lf 12 with
                                  | false => rfl
                                  | true => rw [hcl 12 (by decide) e 7 (by decide) (by kernel_rfl)] at hL; cases hL)
                                have h11 : Lf 14 = false := (by
                                  cases e : Lf 14 with
                                  | false => rfl
                                  | true => rw [hcl 14 (by decide) e 7 (by decide) (by kernel_rfl)] at hL; cases hL)
                                have v1 : vals 1 = vl := HW.out.t.t1 (hdep 1 (by decide) (by kernel_rfl))
                                obtain ⟨b8, v6, hb8⟩ := HW.out.t.t3 (hdep 6 (by decide) (by kernel_rfl)) hL
                                replace v6 : vals 6 = .slice (some ⟨b8, 0, none⟩) 1 1 := v6
                                have hq : QRow (ob + 1) wx (vl) (rlits L K V k) := by
                                  have h := HW.out.t.r1
                                  have hL2 : Lf (sg [0, 1, 5, 6, 7, 8, 9, 10, 11, 12, 13, 14, 15, 16] 4) = false := hL
                                  rw [hL2] at h
                                  exact h
                                have hob := HW.out.t.out.lt
                                refine StepJ.of rfl (fun K' hK => ?_)
                                simp only [v1, v6, opAt, List.getD_cons_zero, List.getD_cons_succ, Afr, fr, dstOf, if_true, List.getElem?_toArray, List.getElem?_cons_zero, List.getElem?_cons_succ, Option.bind_some, Act.put, List.setIfInBounds_toArray, List.set_cons_succ, List.set_cons_zero] at hK ⊢
                                refine wp_appendQ (.tmp 128) (.tmp 133) 23 Tryz.underlying23 rfl (ob + 1) (vl) (rlits L K V k) _ rfl hq b8 1 rfl hb8 HXI.out (by have := HLL.out; omega) (by omega) ?_
                                intro v' w' hq' hg' ho'
                                exact hK _ _ (HW.out.app4 ok hL h9 h11 hq' hg' ho')
                              · refine StepJ.of rfl (fun K' hK => ?_)
                                simp only [opAt, List.getD_cons_zero, List.getD_cons_succ, Afr, fr, dstOf, if_true, List.getElem?_toArray, List.getElem?_cons_zero, List.getElem?_cons_succ, Option.bind_some, Act.put, List.setIfInBounds_toArray, List.set_cons_succ, List.set_cons_zero] at hK ⊢
                                go_simp
                                exact hK _ _ (HW.out.quiet ok 5 (by omega))
                              · have hn : Lf 16 = false := (by
                                  cases e : Lf 16 with
                                  | false => rfl
                                  | true => rw [hcl 16 (by decide) e 9 (by decide) (by kernel_rfl)] at hL; cases hL)
                                have hc : wx.cell? ⟨ob, 1, none⟩ = some (vk) := by
                                  have h := HW.out.t.out.cell 1
                                  have hn2 : Lf (sg [0, 1, 5, 6, 7, 8, 9, 10, 11, 12, 13, 14, 15, 16] 13) = false := hn
                                  rw [hn2] at h
                                  exact h
                                have v8 : vals 8 = .pointer (some ⟨ob, 1, none⟩) := HW.out.t.t5 (hdep 8 (by decide) (by kernel_rfl))
                                refine StepJ.of rfl (fun K' hK => ?_)
                                simp only [v8, opAt, List.getD_cons_zero, List.getD_cons_succ, Afr, fr, dstOf, if_true, List.getElem?_toArray, List.getElem?_cons_zero, List.getElem?_cons_succ, Option.bind_some, Act.put, List.setIfInBounds_toArray, List.set_cons_succ, List.set_cons_zero] at hK ⊢
                                go_simp
                                exact hK _ _ (HW.out.quiet ok 6 (by omega))
                              · refine StepJ.of rfl (fun K' hK => ?_)
                                simp only [opAt, List.getD_cons_zero, List.getD_cons_succ, Afr, fr, dstOf, if_true, List.getElem?_toArray, List.getElem?_cons_zero, List.getElem?_cons_succ, Option.bind_some, Act.put, List.setIfInBounds_toArray, List.set_cons_succ, List.set_cons_zero] at hK ⊢
                                go_simp
                                exact hK _ _ (HW.out.quiet ok 7 (by omega))
                              · have v10 : vals 10 = .int .i64 (byTo L K (ix V k) L.length) := HW.out.t.t7 (hdep 10 (by decide) (by kernel_rfl))
                                refine StepJ.of rfl (fun K' hK => ?_)
                                simp only [v10, opAt, List.getD_cons_zero, List.getD_cons_succ, Afr, fr, dstOf, if_true, List.getElem?_toArray, List.getElem?_cons_zero, List.getElem?_cons_succ, Option.bind_some, Act.put, List.setIfInBounds_toArray, List.set_cons_succ, List.set_cons_zero] at hK ⊢
                                go_simp
                                exact hK _ _ (HW.out.build8 ok (fun g e => by have h1 := (HS4.out.rl.base e).2; have h2 := HW.out.t.below.size; omega))
                              · have h13 : Lf 16 = false := (by
                                  cases e : Lf 16 with
                                  | false => rfl
                                  | true => rw [hcl 16 (by decide) e 12 (by decide) (by kernel_rfl)] at hL; cases hL)
                                have h4 : Lf 7 = true := (hdep 7 (by decide) (by kernel_rfl))
                                have v9 : vals 9 = vk := HW.out.t.t6 (hdep 9 (by decide) (by kernel_rfl))
                                obtain ⟨b8, v11, hb8, -⟩ := HW.out.t.t8 (hdep 11 (by decide) (by kernel_rfl)) hL
                                replace v11 : vals 11 = .slice (some ⟨b8, 0, none⟩) 1 1 := v11
                                have hq : QRow (ob + 1) wx (vk) (rcoefs L K V k) := by
                                  have h := HW.out.t.r2
                                  have hL2 : Lf (sg [0, 1, 5, 6, 7, 8, 9, 10, 11, 12, 13, 14, 15, 16] 9) = false := hL
                                  rw [hL2] at h
                                  exact h
                                have hob := HW.out.t.out.lt
                                refine StepJ.of rfl (fun K' hK => ?_)
                                simp only [v9, v11, opAt, List.getD_cons_zero, List.getD_cons_succ, Afr, fr, dstOf, if_true, List.getElem?_toArray, List.getElem?_cons_zero, List.getElem?_cons_succ, Option.bind_some, Act.put, List.setIfInBounds_toArray, List.set_cons_succ, List.set_cons_zero] at hK ⊢
                                refine wp_appendQ (.tmp 136) (.tmp 138) 23 Tryz.underlying23 rfl (ob + 1) (vk) (rcoefs L K V k) _ rfl hq b8 1 rfl hb8 HYI.out (by have := HLK.out; omega) (by omega) ?_
                                intro v' w' hq' hg' ho'
                                exact hK _ _ (HW.out.app9 ok h4 hL h13 hq' hg' ho')
                              · refine StepJ.of rfl (fun K' hK => ?_)
                                simp only [opAt, List.getD_cons_zero, List.getD_cons_succ, Afr, fr, dstOf, if_true, List.getElem?_toArray, List.getElem?_cons_zero, List.getElem?_cons_succ, Option.bind_some, Act.put, List.setIfInBounds_toArray, List.set_cons_succ, List.set_cons_zero] at hK ⊢
                                go_simp
                                exact hK _ _ (HW.out.quiet ok 10 (by omega))
                              · have h4 : Lf 7 = true := (hdep 7 (by decide) (by kernel_rfl))
                                have h9 : Lf 12 = true := (hdep 12 (by decide) (by kernel_rfl))
                                have v13 : vals 13 = .pointer (some ⟨ob, 0, none⟩) := HW.out.t.t10 (hdep 13 (by decide) (by kernel_rfl))
                                have hq : QRow (ob + 1) wx (vals 7) (rlits L K V k ++ [ix V k]) := by
                                  have h := HW.out.t.r1
                                  have hL2 : Lf (sg [0, 1, 5, 6, 7, 8, 9, 10, 11, 12, 13, 14, 15, 16] 4) = true := h4
                                  rw [hL2] at h
                                  exact h
                                obtain ⟨a8, n8, c8, e8⟩ := hq.form
                                have hc := HW.out.t.out.cell 0
                                have hfz := HW.out.t.out.free 0
                                simp only [List.getElem?_cons_zero] at hc
                                have hst := HW.out.store ok 11 h4 h9 (by omega) undef
                                replace hst : TS [0, 1, 5, 6, 7, 8, 9, 10, 11, 12, 13, 14, 15, 16] [2, 3, 4] _ wr ob vl vk (.int .i64 0) _ _ _ _ (updN vals 14 undef) (updN Lf 14 true) (wx.setCell ⟨ob, 0, none⟩ (vals 7)) := hst
                                rw [e8] at hst
                                refine StepJ.of rfl (fun K' hK => ?_)
                                simp only [v13, e8, opAt, List.getD_cons_zero, List.getD_cons_succ, Afr, fr, dstOf, if_true, List.getElem?_toArray, List.getElem?_cons_zero, List.getElem?_cons_succ, Option.bind_some, Act.put, List.setIfInBounds_toArray, List.set_cons_succ, List.set_cons_zero] at hK ⊢
                                go_simp
                                exact hK _ _ hst
                              · refine StepJ.of rfl (fun K' hK => ?_)
                                simp only [opAt, List.getD_cons_zero, List.getD_cons_succ, Afr, fr, dstOf, if_true, List.getElem?_toArray, List.getElem?_cons_zero, List.getElem?_cons_succ, Option.bind_some, Act.put, List.setIfInBounds_toArray, List.set_cons_succ, List.set_cons_zero] at hK ⊢
                                go_simp
                                exact hK _ _ (HW.out.quiet ok 12 (by omega))
                              · have h4 : Lf 7 = true := (hdep 7 (by decide) (by kernel_rfl))
                                have h9 : Lf 12 = true := (hdep 12 (by decide) (by kernel_rfl))
                                have v15 : vals 15 = .pointer (some ⟨ob, 1, none⟩) := HW.out.t.t12 (hdep 15 (by decide) (by kernel_rfl))
                                have hq : QRow (ob + 1) wx (vals 12) (rcoefs L K V k ++ [byTo L K (ix V k) L.length]) := by
                                  have h := HW.out.t.r2
                                  have hL2 : Lf (sg [0, 1, 5, 6, 7, 8, 9, 10, 11, 12, 13, 14, 15, 16] 9) = true := h9
                                  rw [hL2] at h
                                  exact h
                                obtain ⟨a8, n8, c8, e8⟩ := hq.form
                                have hc := HW.out.t.out.cell 1
                                have hfz := HW.out.t.out.free 1
                                simp only [List.getElem?_cons_zero, List.getElem?_cons_succ] at hc
                                have hst := HW.out.store ok 13 h4 h9 (by omega) undef
                                replace hst : TS [0, 1, 5, 6, 7, 8, 9, 10, 11, 12, 13, 14, 15, 16] [2, 3, 4] _ wr ob vl vk (.int .i64 0) _ _ _ _ (updN vals 16 undef) (updN Lf 16 true) (wx.setCell ⟨ob, 1, none⟩ (vals 12)) := hst
                                rw [e8] at hst
                                refine StepJ.of rfl (fun K' hK => ?_)
                                simp only [v15, e8, opAt, List.getD_cons_zero, List.getD_cons_succ, Afr, fr, dstOf, if_true, List.getElem?_toArray, List.getElem?_cons_zero, List.getElem?_cons_succ, Option.bind_some, Act.put, List.setIfInBounds_toArray, List.set_cons_succ, List.set_cons_zero] at hK ⊢
                                go_simp
                                exact hK _ _ hst
                            case fin =>
                              intro vals Lf w9 hall hW
                              obtain ⟨f1, f2, f3, f4, f5⟩ := hW.end (fun r hr => hall _ (by rcases (by omega : r = 0 ∨ r = 1 ∨ r = 2 ∨ r = 3 ∨ r = 4 ∨ r = 5 ∨ r = 6 ∨ r = 7 ∨ r = 8 ∨ r = 9 ∨ r = 10 ∨ r = 11 ∨ r = 12 ∨ r = 13) with rfl | rfl | rfl | rfl | rfl | rfl | rfl | rfl | rfl | rfl | rfl | rfl | rfl | rfl <;> decide))
                              replace f1 : Blk w9 ob [vals 7, vals 12, (.int .i64 0)] 30 := f1
                              replace f2 : QRow (ob + 1) w9 (vals 7) (rlits L K V k ++ [ix V k]) := f2
                              replace f3 : QRow (ob + 1) w9 (vals 12) (rcoefs L K V k ++ [byTo L K (ix V k) L.length]) := f3
                              replace f4 : Far (vals 7) (vals 12) := f4
                              have HN9 : Hid (RN3 w2 ob (vals 7) (vals 12) (rlits L K V (k + 1)) (rcoefs L K V (k + 1)) w9) := Lib.hid (HS4.out.next f5 f1 (by rw [HEX.out]; exact f2) (by rw [HEY.out]; exact f3) f4)
                              clear f1 f2 f3 f4 f5 hW hall
                              simp only [Afr, List.length_cons, List.length_nil, Nat.reduceAdd, fr, dstOf, if_true, List.getElem?_toArray, List.getElem?_cons_zero, List.getElem?_cons_succ, Option.bind_some, Act.put, List.setIfInBounds_toArray, List.set_cons_succ, List.set_cons_zero]
                              go_wp2
                              first
                                | (go_roundw
                                   case rel => (exact ⟨k + 1, vals 7, vals 12, hlt, by go_num, by rw [HBN.out, HLW.out]; simp, HN9.out⟩)
                                   case measure => (simp [intOf]; omega))
                                | (refine ⟨?_, ?_⟩
                                   · (exact ⟨k + 1, vals 7, vals 12, hlt, by go_num, by rw [HBN.out, HLW.out]; simp, HN9.out⟩)
                                   · (simp [intOf]; omega))
                          · by_cases g1 : byTo L K (ix V k) L.length < 0
                            · obtain ⟨hex, hey⟩ := rl_next hlt (show byTo L K (ix V k) L.length ≠ 0 by omega)
                              have HEX : Hid (rlits L K V (k + 1) = rlits L K V k ++ [-(ix V k)]) := Lib.hid (by rw [hex]; unfold litOf; rw [if_pos (show byTo L K (ix V k) L.length < 0 from g1)])
                              have HEY : Hid (rcoefs L K V (k + 1) = rcoefs L K V k ++ [-(byTo L K (ix V k) L.length)]) := Lib.hid (by rw [hey]; unfold absI; rw [if_pos g1])
                              have HXI : Hid (InI (-(ix V k))) := Lib.hid (by unfold InI; omega)
                              have HYI : Hid (InI (-(byTo L K (ix V k) L.length))) := Lib.hid (by unfold InI; omega)
                              have HWX : Hid (IntKind.i64.wrap (-(ix V k)) = -(ix V k)) := Lib.hid (by rw [IntKind.wrap_i64]; omega)
                              have HWY : Hid (IntKind.i64.wrap (-(byTo L K (ix V k) L.length)) = -(byTo L K (ix V k) L.length)) := Lib.hid (by rw [IntKind.wrap_i64]; omega)
                              have HLW : Hid (lowI (byTo L K (ix V k) L.length) = byTo L K (ix V k) L.length) := Lib.hid (by unfold lowI; rw [if_pos g1])
                              clear hex hey
                              go_upto_region 29 with fail
                              have ok : okB [0, 1, 6, 7, 8, 9, 10, 12, 13, 14, 15, 16, 17, 18] [2, 3, 4, 5, 11] = true := by decide
                              refine wp_region_inv (TS [0, 1, 6, 7, 8, 9, 10, 12, 13, 14, 15, 16, 17, 18] [2, 3, 4, 5, 11] (fun i => match i with | 2 => .slice (some ⟨bV, oV, none⟩) V.length cv | 3 => .int .i64 (k : Int) | 4 => .pointer (some ⟨bV, oV + k, none⟩) | 5 => .int .i64 (ix V k) | 11 => .int .i64 (byTo L K (ix V k) L.length) | _ => undef) wr ob vl vk (.int .i64 0) (rlits L K V k) (rcoefs L K V k) (-(ix V k)) (-(byTo L K (ix V k) L.length))) (by kernel_rfl) (by kernel_rfl) (by kernel_rfl) (TS.start HS4.out.out HS4.out.rl HS4.out.rk HS4.out.far) ?step ?fin
                              case step =>
                                intro i hin vals Lf wx hL hdep hcl hW
                                have h19 : i < 19 := hin
                                have HW := Lib.hid hW
                                clear hW
                                rcases (by omega : i = 0 ∨ i = 1 ∨ i = 2 ∨ i = 3 ∨ i = 4 ∨ i = 5 ∨ i = 6 ∨ i = 7 ∨ i = 8 ∨ i = 9 ∨ i = 10 ∨ i = 11 ∨ i = 12 ∨ i = 13 ∨ i = 14 ∨ i = 15 ∨ i = 16 ∨ i = 17 ∨ i = 18) with rfl | rfl | rfl | rfl | rfl | rfl | rfl | rfl | rfl | rfl | rfl | rfl | rfl | rfl | rfl | rfl | rfl | rfl | rfl
                                · refine StepJ.of rfl (fun K' hK => ?_)
                                  simp only [opAt, List.getD_cons_zero, Afr, fr, Act.put, List.setIfInBounds_toArray, List.set_cons_succ, List.set_cons_zero] at hK ⊢
                                  go_simp
                                  exact hK _ _ (HW.out.quiet ok 0 (by omega))
                                · have hn : Lf 16 = false := (by
                                    cases e : Lf 16 with
                                    | false => rfl
                                    | true => rw [hcl 16 (by decide) e 1 (by decide) (by kernel_rfl)] at hL; cases hL)
                                  have hc : wx.cell? ⟨ob, 0, none⟩ = some (vl) := by
                                    have h := HW.out.t.out.cell 0
                                    have hn2 : Lf (sg [0, 1, 6, 7, 8, 9, 10, 12, 13, 14, 15, 16, 17, 18] 11) = false := hn
                                    rw [hn2] at h
                                    exact h
                                  have v0 : vals 0 = .pointer (some ⟨ob, 0, none⟩) := HW.out.t.t0 (hdep 0 (by decide) (by kernel_rfl))
                                  refine StepJ.of rfl (fun K' hK => ?_)
                                  simp only [v0, opAt, List.getD_cons_zero, List.getD_cons_succ, Afr, fr, dstOf, if_true, List.getElem?_toArray, List.getElem?_cons_zero, Option.bind_some, Act.put, List.setIfInBounds_toArray, List.set_cons_succ, List.set_cons_zero] at hK ⊢
                                  go_simp
                                  exact hK _ _ (HW.out.quiet ok 1 (by omega))
                                · refine StepJ.of rfl (fun K' hK => ?_)
                                  simp only [opAt, List.getD_cons_zero, List.getD_cons_succ, Afr, fr, dstOf, if_true, List.getElem?_toArray, List.getElem?_cons_zero, List.getElem?_cons_succ, Option.bind_some, Act.put, List.setIfInBounds_toArray, List.set_cons_succ, List.set_cons_zero] at hK ⊢
                                  go_simp
                                  exact hK _ _ (HW.out.extra ok 2 (by decide))
                                · refine StepJ.of rfl (fun K' hK => ?_)
                                  simp only [opAt, List.getD_cons_zero, List.getD_cons_succ, Afr, fr, dstOf, if_true, List.getElem?_toArray, List.getElem?_cons_zero, List.getElem?_cons_succ, Option.bind_some, Act.put, List.setIfInBounds_toArray, List.set_cons_succ, List.set_cons_zero] at hK ⊢
                                  go_simp
                                  exact hK _ _ (HW.out.extra ok 3 (by decide))
                                · have v2 : vals 2 = .slice (some ⟨bV, oV, none⟩) V.length cv := HW.out.q 2 (by decide) (hdep 2 (by decide) (by kernel_rfl))
                                  have v3 : vals 3 = .int .i64 (k : Int) := HW.out.q 3 (by decide) (hdep 3 (by decide) (by kernel_rfl))
                                  refine StepJ.of rfl (fun K' hK => ?_)
                                  simp only [v2, v3, opAt, List.getD_cons_zero, List.getD_cons_succ, Afr, fr, dstOf, if_true, List.getElem?_toArray, List.getElem?_cons_zero, List.getElem?_cons_succ, Option.bind_some, Act.put, List.setIfInBounds_toArray, List.set_cons_succ, List.set_cons_zero] at hK ⊢
                                  go_simp
                                  exact hK _ _ (HW.out.extra ok 4 (by decide))
                                · have v4 : vals 4 = .pointer (some ⟨bV, oV + k, none⟩) := HW.out.q 4 (by decide) (hdep 4 (by decide) (by kernel_rfl))
                                  have kv : wx.cell? ⟨bV, oV + k, none⟩ = some (.int .i64 (ix V k)) := (HW.out.t.below.cell (p := ⟨bV, _, none⟩) HBV.out).trans (HKV.out)
                                  refine StepJ.of rfl (fun K' hK => ?_)
                                  simp only [v4, opAt, List.getD_cons_zero, List.getD_cons_succ, Afr, fr, dstOf, if_true, List.getElem?_toArray, List.getElem?_cons_zero, List.getElem?_cons_succ, Option.bind_some, Act.put, List.setIfInBounds_toArray, List.set_cons_succ, List.set_cons_zero] at hK ⊢
                                  go_simp
                                  exact hK _ _ (HW.out.extra ok 5 (by decide))
                                · have v5 : vals 5 = .int .i64 (ix V k) := HW.out.q 5 (by decide) (hdep 5 (by decide) (by kernel_rfl))
                                  refine StepJ.of rfl (fun K' hK => ?_)
                                  simp only [v5, opAt, List.getD_cons_zero, List.getD_cons_succ, Afr, fr, dstOf, if_true, List.getElem?_toArray, List.getElem?_cons_zero, List.getElem?_cons_succ, Option.bind_some, Act.put, List.setIfInBounds_toArray, List.set_cons_succ, List.set_cons_zero] at hK ⊢
                                  go_simp
                                  rw [HWX.out]
                                  exact hK _ _ (HW.out.quiet ok 2 (by omega))
                                · have v6 : vals 6 = .int .i64 (-(ix V k)) := HW.out.t.t2 (hdep 6 (by decide) (by kernel_rfl))
                                  refine StepJ.of rfl (fun K' hK => ?_)
                                  simp only [v6, opAt, List.getD_cons_zero, List.getD_cons_succ, Afr, fr, dstOf, if_true, List.getElem?_toArray, List.getElem?_cons_zero, List.getElem?_cons_succ, Option.bind_some, Act.put, List.setIfInBounds_toArray, List.set_cons_succ, List.set_cons_zero] at hK ⊢
                                  go_simp
                                  exact hK _ _ (HW.out.build3 ok)
                                · have h9 : Lf 14 = false := (by
                                    cases e : Lf 14 with
                                    | false => rfl
                                    | true => rw [hcl 14 (by decide) e 8 (by decide) (by kernel_rfl)] at hL; cases hL)
                                  have h11 : Lf 16 = false := (by
                                    cases e : Lf 16 with
                                    | false => rfl
                                    | true => rw [hcl 16 (by decide) e 8 (by decide) (by kernel_rfl)] at hL; cases hL)
                                  have v1 : vals 1 = vl := HW.out.t.t1 (hdep 1 (by decide) (by kernel_rfl))
                                  obtain ⟨b8, v7, hb8⟩ := HW.out.t.t3 (hdep 7 (by decide) (by kernel_rfl)) hL
                                  replace v7 : vals 7 = .slice (some ⟨b8, 0, none⟩) 1 1 := v7
                                  have hq : QRow (ob + 1) wx (vl) (rlits L K V k) := by
                                    have h := HW.out.t.r1
                                    have hL2 : Lf (sg [0, 1, 6, 7, 8, 9, 10, 12, 13, 14, 15, 16, 17, 18] 4) = false := hL
                                    rw [hL2] at h
                                    exact h
                                  have hob := HW.out.t.out.lt
                                  refine StepJ.of rfl (fun K' hK => ?_)
                                  simp only [v1, v7, opAt, List.getD_cons_zero, List.getD_cons_succ, Afr, fr, dstOf, if_true, List.getElem?_toArray, List.getElem?_cons_zero, List.getElem?_cons_succ, Option.bind_some, Act.put, List.setIfInBounds_toArray, List.set_cons_succ, List.set_cons_zero] at hK ⊢
                                  refine wp_appendQ (.tmp 145) (.tmp 151) 23 Tryz.underlying23 rfl (ob + 1) (vl) (rlits L K V k) _ rfl hq b8 1 rfl hb8 HXI.out (by have := HLL.out; omega) (by omega) ?_
                                  intro v' w' hq' hg' ho'
                                  exact hK _ _ (HW.out.app4 ok hL h9 h11 hq' hg' ho')
                                · refine StepJ.of rfl (fun K' hK => ?_)
                                  simp only [opAt, List.getD_cons_zero, List.getD_cons_succ, Afr, fr, dstOf, if_true, List.getElem?_toArray, List.getElem?_cons_zero, List.getElem?_cons_succ, Option.bind_some, Act.put, List.setIfInBounds_toArray, List.set_cons_succ, List.set_cons_zero] at hK ⊢
                                  go_simp
                                  exact hK _ _ (HW.out.quiet ok 5 (by omega))
                                · have hn : Lf 18 = false := (by
                                    cases e : Lf 18 with
                                    | false => rfl
                                    | true => rw [hcl 18 (by decide) e 10 (by decide) (by kernel_rfl)] at hL; cases hL)
                                  have hc : wx.cell? ⟨ob, 1, none⟩ = some (vk) := by
                                    have h := HW.out.t.out.cell 1
                                    have hn2 : Lf (sg [0, 1, 6, 7, 8, 9, 10, 12, 13, 14, 15, 16, 17, 18] 13) = false := hn
                                    rw [hn2] at h
                                    exact h
                                  have v9 : vals 9 = .pointer (some ⟨ob, 1, none⟩) := HW.out.t.t5 (hdep 9 (by decide) (by kernel_rfl))
                                  refine StepJ.of rfl (fun K' hK => ?_)
                                  simp only [v9, opAt, List.getD_cons_zero, List.getD_cons_succ, Afr, fr, dstOf, if_true, List.getElem?_toArray, List.getElem?_cons_zero, List.getElem?_cons_succ, Option.bind_some, Act.put, List.setIfInBounds_toArray, List.set_cons_succ, List.set_cons_zero] at hK ⊢
                                  go_simp
                                  exact hK _ _ (HW.out.quiet ok 6 (by omega))
                                · refine StepJ.of rfl (fun K' hK => ?_)
                                  simp only [opAt, List.getD_cons_zero, List.getD_cons_succ, Afr, fr, dstOf, if_true, List.getElem?_toArray, List.getElem?_cons_zero, List.getElem?_cons_succ, Option.bind_some, Act.put, List.setIfInBounds_toArray, List.set_cons_succ, List.set_cons_zero] at hK ⊢
                                  go_simp
                                  exact hK _ _ (HW.out.extra ok 11 (by decide))
                                · have v11 : vals 11 = .int .i64 (byTo L K (ix V k) L.length) := HW.out.q 11 (by decide) (hdep 11 (by decide) (by kernel_rfl))
                                  refine StepJ.of rfl (fun K' hK => ?_)
                                  simp only [v11, opAt, List.getD_cons_zero, List.getD_cons_succ, Afr, fr, dstOf, if_true, List.getElem?_toArray, List.getElem?_cons_zero, List.getElem?_cons_succ, Option.bind_some, Act.put, List.setIfInBounds_toArray, List.set_cons_succ, List.set_cons_zero] at hK ⊢
                                  go_simp
                                  rw [HWY.out]
                                  exact hK _ _ (HW.out.quiet ok 7 (by omega))
                                · have v12 : vals 12 = .int .i64 (-(byTo L K (ix V k) L.length)) := HW.out.t.t7 (hdep 12 (by decide) (by kernel_rfl))
                                  refine StepJ.of rfl (fun K' hK => ?_)
                                  simp only [v12, opAt, List.getD_cons_zero, List.getD_cons_succ, Afr, fr, dstOf, if_true, List.getElem?_toArray, List.getElem?_cons_zero, List.getElem?_cons_succ, Option.bind_some, Act.put, List.setIfInBounds_toArray, List.set_cons_succ, List.set_cons_zero] at hK ⊢
                                  go_simp
                                  exact hK _ _ (HW.out.build8 ok (fun g e => by have h1 := (HS4.out.rl.base e).2; have h2 := HW.out.t.below.size; omega))
                                · have h13 : Lf 18 = false := (by
                                    cases e : Lf 18 with
                                    | false => rfl
                                    | true => rw [hcl 18 (by decide) e 14 (by decide) (by kernel_rfl)] at hL; cases hL)
                                  have h4 : Lf 8 = true := (hdep 8 (by decide) (by kernel_rfl))
                                  have v10 : vals 10 = vk := HW.out.t.t6 (hdep 10 (by decide) (by kernel_rfl))
                                  obtain ⟨b8, v13, hb8, -⟩ := HW.out.t.t8 (hdep 13 (by decide) (by kernel_rfl)) hL
                                  replace v13 : vals 13 = .slice (some ⟨b8, 0, none⟩) 1 1 := v13
                                  have hq : QRow (ob + 1) wx (vk) (rcoefs L K V k) := by
                                    have h := HW.out.t.r2
                                    have hL2 : Lf (sg [0, 1, 6, 7, 8, 9, 10, 12, 13, 14, 15, 16, 17, 18] 9) = false := hL
                                    rw [hL2] at h
                                    exact h
                                  have hob := HW.out.t.out.lt
                                  refine StepJ.of rfl (fun K' hK => ?_)
                                  simp only [v10, v13, opAt, List.getD_cons_zero, List.getD_cons_succ, Afr, fr, dstOf, if_true, List.getElem?_toArray, List.getElem?_cons_zero, List.getElem?_cons_succ, Option.bind_some, Act.put, List.setIfInBounds_toArray, List.set_cons_succ, List.set_cons_zero] at hK ⊢
                                  refine wp_appendQ (.tmp 154) (.tmp 157) 23 Tryz.underlying23 rfl (ob + 1) (vk) (rcoefs L K V k) _ rfl hq b8 1 rfl hb8 HYI.out (by have := HLK.out; omega) (by omega) ?_
                                  intro v' w' hq' hg' ho'
                                  exact hK _ _ (HW.out.app9 ok h4 hL h13 hq' hg' ho')
                                · refine StepJ.of rfl (fun K' hK => ?_)
                                  simp only [opAt, List.getD_cons_zero, List.getD_cons_succ, Afr, fr, dstOf, if_true, List.getElem?_toArray, List.getElem?_cons_zero, List.getElem?_cons_succ, Option.bind_some, Act.put, List.setIfInBounds_toArray, List.set_cons_succ, List.set_cons_zero] at hK ⊢
                                  go_simp
                                  exact hK _ _ (HW.out.quiet ok 10 (by omega))
                                · have h4 : Lf 8 = true := (hdep 8 (by decide) (by kernel_rfl))
                                  have h9 : Lf 14 = true := (hdep 14 (by decide) (by kernel_rfl))
                                  have v15 : vals 15 = .pointer (some ⟨ob, 0, none⟩) := HW.out.t.t10 (hdep 15 (by decide) (by kernel_rfl))
                                  have hq : QRow (ob + 1) wx (vals 8) (rlits L K V k ++ [-(ix V k)]) := by
                                    have h := HW.out.t.r1
                                    have hL2 : Lf (sg [0, 1, 6, 7, 8, 9, 10, 12, 13, 14, 15, 16, 17, 18] 4) = true := h4
                                    rw [hL2] at h
                                    exact h
                                  obtain ⟨a8, n8, c8, e8⟩ := hq.form
                                  have hc := HW.out.t.out.cell 0
                                  have hfz := HW.out.t.out.free 0
                                  simp only [List.getElem?_cons_zero] at hc
                                  have hst := HW.out.store ok 11 h4 h9 (by omega) undef
                                  replace hst : TS [0, 1, 6, 7, 8, 9, 10, 12, 13, 14, 15, 16, 17, 18] [2, 3, 4, 5, 11] _ wr ob vl vk (.int .i64 0) _ _ _ _ (updN vals 16 undef) (updN Lf 16 true) (wx.setCell ⟨ob, 0, none⟩ (vals 8)) := hst
                                  rw [e8] at hst
                                  refine StepJ.of rfl (fun K' hK => ?_)
                                  simp only [v15, e8, opAt, List.getD_cons_zero, List.getD_cons_succ, Afr, fr, dstOf, if_true, List.getElem?_toArray, List.getElem?_cons_zero, List.getElem?_cons_succ, Option.bind_some, Act.put, List.setIfInBounds_toArray, List.set_cons_succ, List.set_cons_zero] at hK ⊢
                                  go_simp
                                  exact hK _ _ hst
                                · refine StepJ.of rfl (fun K' hK => ?_)
                                  simp only [opAt, List.getD_cons_zero, List.getD_cons_succ, Afr, fr, dstOf, if_true, List.getElem?_toArray, List.getElem?_cons_zero, List.getElem?_cons_succ, Option.bind_some, Act.put, List.setIfInBounds_toArray, List.set_cons_succ, List.set_cons_zero] at hK ⊢
                                  go_simp
                                  exact hK _ _ (HW.out.quiet ok 12 (by omega))
                                · have h4 : Lf 8 = true := (hdep 8 (by decide) (by kernel_rfl))
                                  have h9 : Lf 14 = true := (hdep 14 (by decide) (by kernel_rfl))
                                  have v17 : vals 17 = .pointer (some ⟨ob, 1, none⟩) := HW.out.t.t12 (hdep 17 (by decide) (by kernel_rfl))
                                  have hq : QRow (ob + 1) wx (vals 14) (rcoefs L K V k ++ [-(byTo L K (ix V k) L.length)]) := by
                                    have h := HW.out.t.r2
                                    have hL2 : Lf (sg [0, 1, 6, 7, 8, 9, 10, 12, 13, 14, 15, 16, 17, 18] 9) = true := h9
                                    rw [hL2] at h
                                    exact h
                                  obtain ⟨a8, n8, c8, e8⟩ := hq.form
                                  have hc := HW.out.t.out.cell 1
                                  have hfz := HW.out.t.out.free 1
                                  simp only [List.getElem?_cons_zero, List.getElem?_cons_succ] at hc
                                  have hst := HW.out.store ok 13 h4 h9 (by omega) undef
                                  replace hst : TS [0, 1, 6, 7, 8, 9, 10, 12, 13, 14, 15, 16, 17, 18] [2, 3, 4, 5, 11] _ wr ob vl vk (.int .i64 0) _ _ _ _ (updN vals 18 undef) (updN Lf 18 true) (wx.setCell ⟨ob, 1, none⟩ (vals 14)) := hst
                                  rw [e8] at hst
                                  refine StepJ.of rfl (fun K' hK => ?_)
                                  simp only [v17, e8, opAt, List.getD_cons_zero, List.getD_cons_succ, Afr, fr, dstOf, if_true, List.getElem?_toArray, List.getElem?_cons_zero, List.getElem?_cons_succ, Option.bind_some, Act.put, List.setIfInBounds_toArray, List.set_cons_succ, List.set_cons_zero] at hK ⊢
                                  go_simp
                                  exact hK _ _ hst
                              case fin =>
                                intro vals Lf w9 hall hW
                                obtain ⟨f1, f2, f3, f4, f5⟩ := hW.end (fun r hr => hall _ (by rcases (by omega : r = 0 ∨ r = 1 ∨ r = 2 ∨ r = 3 ∨ r = 4 ∨ r = 5 ∨ r = 6 ∨ r = 7 ∨ r = 8 ∨ r = 9 ∨ r = 10 ∨ r = 11 ∨ r = 12 ∨ r = 13) with rfl | rfl | rfl | rfl | rfl | rfl | rfl | rfl | rfl | rfl | rfl | rfl | rfl | rfl <;> decide))
                                replace f1 : Blk w9 ob [vals 8, vals 14, (.int .i64 0)] 30 := f1
                                replace f2 : QRow (ob + 1) w9 (vals 8) (rlits L K V k ++ [-(ix V k)]) := f2
                                replace f3 : QRow (ob + 1) w9 (vals 14) (rcoefs L K V k ++ [-(byTo L K (ix V k) L.length)]) := f3
                                replace f4 : Far (vals 8) (vals 14) := f4
                                have HN9 : Hid (RN3 w2 ob (vals 8) (vals 14) (rlits L K V (k + 1)) (rcoefs L K V (k + 1)) w9) := Lib.hid (HS4.out.next f5 f1 (by rw [HEX.out]; exact f2) (by rw [HEY.out]; exact f3) f4)
                                clear f1 f2 f3 f4 f5 hW hall
                                simp only [Afr, List.length_cons, List.length_nil, Nat.reduceAdd, fr, dstOf, if_true, List.getElem?_toArray, List.getElem?_cons_zero, List.getElem?_cons_succ, Option.bind_some, Act.put, List.setIfInBounds_toArray, List.set_cons_succ, List.set_cons_zero]
                                go_wp2
                                first
                                  | (go_roundw
                                     case rel => (exact ⟨k + 1, vals 8, vals 14, hlt, by go_num, by rw [HBN.out, HLW.out], HN9.out⟩)
                                     case measure => (simp [intOf]; omega))
                                  | (refine ⟨?_, ?_⟩
                                     · (exact ⟨k + 1, vals 8, vals 14, hlt, by go_num, by rw [HBN.out, HLW.out], HN9.out⟩)
                                     · (simp [intOf]; omega))
                            · obtain ⟨hex, hey⟩ := rl_skip hlt (show byTo L K (ix V k) L.length = 0 by omega)
                              have HLW : Hid (lowI (byTo L K (ix V k) L.length) = 0) := Lib.hid (by unfold lowI; rw [if_neg (show ¬ byTo L K (ix V k) L.length < 0 by omega)])
                              have HN9 := Lib.hid HS4.out
                              rw [← hex, ← hey] at HN9
                              clear hex hey
                              go_wp2
                              first
                                | (go_roundw
                                   case rel => (exact ⟨k + 1, _, _, hlt, by go_num, by rw [HBN.out, HLW.out]; simp, HN9.out⟩)
                                   case measure => (simp [intOf]; omega))
                                | (refine ⟨?_, ?_⟩
                                   · (exact ⟨k + 1, _, _, hlt, by go_num, by rw [HBN.out, HLW.out]; simp, HN9.out⟩)
                                   · (simp [intOf]; omega))
                    · obtain rfl : k = V.length := by omega
                      obtain ⟨al, cl, rfl⟩ := HS4.out.rl.slen
                      obtain ⟨ak, ck, rfl⟩ := HS4.out.rk.slen
                      have hCn : (rcoefs L K V V.length).length ≤ 65536 := by have := flt_len L K V V.length; simp only [rcoefs, List.length_map]; omega
                      have hLn : (rlits L K V V.length).length ≤ 65536 := by have := flt_len L K V V.length; simp only [rlits, List.length_map]; omega
                      have HCS : Hid (∀ x ∈ rcoefs L K V V.length, 0 ≤ x ∧ x ≤ 1099511627776) := Lib.hid (rcoef_small (by omega) (fun j hj => (HPK.out j hj).2) _)
                      have HSM : Hid (∀ bd, sumI (fun v => minI (absI (byTo L K v L.length)) bd) (fltTo L K V V.length) = capS (rcoefs L K V V.length) bd (rcoefs L K V V.length).length) := Lib.hid (fun bd => by unfold capS; rw [List.take_length]; unfold rcoefs; rw [sumI_map])
                      have HNC : Hid (∀ bd, normC (fun v => byTo L K v L.length) (fltTo L K V V.length) bd = if bd ≤ 0 then (⟨[], [], 0⟩, 0) else if capS (rcoefs L K V V.length) bd (rcoefs L K V V.length).length < bd then (⟨[], [], 1⟩, 0) else if 16777216 < bd then (⟨[], [], 0⟩, 3) else (⟨rlits L K V V.length, capTo (rcoefs L K V V.length) bd (rcoefs L K V V.length).length, bd⟩, 0)) := Lib.hid (fun bd => by
                        unfold normC
                        rw [HSM.out, capTo_all]
                        unfold rcoefs rlits
                        rw [List.map_map]
                        rfl)
                      have HBX3 := Lib.hid (HBX.out.same (hup.block _ hsz))
                      have kx := HBX3.out.cell
                      have kf := HBX3.out.free
                      clear HSM hcell1 hcell2 hbw HI1 HI2 HB0 HR0
                      rw [HNC.out] at HNP
                      clear HNC
                      generalize hbd : bndTo L K B V V.length = bd at *
                      clear hbd
                      by_cases hb0 : bd ≤ 0
                      · have HF : Hid (normP L K B = (⟨[], [], 0⟩, 0)) := Lib.hid (by rw [HNP.out, if_pos hb0])
                        go_wp2
                        refine bodyPost_ret (v := .tuple #[.agg #[.slice none 0 0, .slice none 0 0, .int .i64 0], .int .i64 0]) (by simp [results, Tryz.f94, go_sem, *]) rfl ⟨_, by rw [HF.out], by rw [HF.out]; exact ⟨_, _, rfl, QRow.nil _ _, QRow.nil _ _, show InI (0 : Int) from (by unfold InI; omega), Nat.zero_le _, Nat.zero_le _⟩, below3 HBW.out _ (Nat.le_refl _) _ _ _⟩
                      · rw [if_neg hb0] at HNP
                        generalize rlits L K V V.length = ll at *
                        generalize rcoefs L K V V.length = C at *
                        have hS5 : RN5Rel C bd w2 ob (.slice al ll.length cl) (.slice ak C.length ck) ll (.int .i64 0) (.int .i64 0) wr := ⟨0, Nat.zero_le _, rfl, rfl, HS4.out⟩
                        have HS5 := Lib.hid hS5
                        clear hS5 HS4 hup HUP HBW HBX3 kx kf
                        go_upto_region 35 with fail
                        go_loopw [15, 16] (fun s i wx => RN5Rel C bd w2 ob (.slice al ll.length cl) (.slice ak C.length ck) ll s i wx) (fun _ i _ => C.length - (intOf i).toNat)
                        case atStart => exact HS5.out
                        case round =>
                          obtain ⟨k, hk, rfl, rfl, hst⟩ := hrel
                          have HS6 := Lib.hid hst
                          have ko := hst.out.cell
                          have kof := hst.out.free
                          have hup := hst.below
                          have hcs := capS_small HCS.out (show 0 < bd by omega) k hk
                          by_cases hlt : k < C.length
                          · have hkl : k < (capTo C bd k).length := by rw [capTo_len]; exact hlt
                            obtain ⟨g, o, rfl, -, hkg⟩ := (hst.rk.ints (by rw [capTo_len]; omega)).at hkl
                            rw [capTo_ix hlt] at hkg
                            have hck := HCS.out _ (ix_mem hlt)
                            have HCN := Lib.hid (capS_next (bd := bd) hlt)
                            clear hst
                            by_cases g1 : bd < ix C k
                            · have HMN : Hid (minI (ix C k) bd = bd) := Lib.hid (by unfold minI; rw [if_neg (by omega)])
                              have hcap := HS6.out.cap hkl (show InI bd by unfold InI; omega)
                              have HCP : Hid (capTo C bd (k + 1) = (capTo C bd k).set k bd) := Lib.hid (by rw [capTo_next hlt, HMN.out])
                              obtain ⟨hn6, hfz, -⟩ := hcap
                              have HN6 := Lib.hid hn6
                              rw [← HCP.out] at HN6
                              clear hn6
                              go_upto_region 39 with fail
                              generalize wr.setCell ⟨g, o + k, none⟩ (.int .i64 bd) = w8 at *
                              have ko8 := HN6.out.out.cell
                              obtain ⟨g', o', e8, -, hk8⟩ := (HN6.out.rk.ints (by rw [capTo_len]; omega)).at (show k < (capTo C bd (k + 1)).length by rw [capTo_len]; exact hlt)
                              simp only [Option.some.injEq, Addr.mk.injEq, and_true] at e8
                              obtain ⟨rfl, rfl⟩ := e8
                              rw [HCP.out, show ix ((capTo C bd k).set k bd) k = bd by unfold ix; simp [List.getD_eq_getElem?_getD, hkl]] at hk8
                              clear ko kof hkg
                              go_wp2
                              first
                                | (go_roundw
                                   case rel => (exact ⟨k + 1, hlt, by go_num, by rw [HCN.out, HMN.out], HN6.out⟩)
                                   case measure => (simp [intOf]; omega))
                                | (refine ⟨?_, ?_⟩
                                   · (exact ⟨k + 1, hlt, by go_num, by rw [HCN.out, HMN.out], HN6.out⟩)
                                   · (simp [intOf]; omega))
                            · have HMN : Hid (minI (ix C k) bd = ix C k) := Lib.hid (by unfold minI; rw [if_pos (by omega)])
                              have HN6 := Lib.hid HS6.out
                              rw [← capTo_same hlt (by omega)] at HN6
                              go_wp2
                              first
                                | (go_roundw
                                   case rel => (exact ⟨k + 1, hlt, by go_num, by rw [HCN.out, HMN.out], HN6.out⟩)
                                   case measure => (simp [intOf]; omega))
                                | (refine ⟨?_, ?_⟩
                                   · (exact ⟨k + 1, hlt, by go_num, by rw [HCN.out, HMN.out], HN6.out⟩)
                                   · (simp [intOf]; omega))
                          · obtain rfl : k = C.length := by omega
                            have HBX3 := Lib.hid (HBX.out.same (hup.block _ hsz))
                            have HBW := Lib.hid (HB.out.trans (hup.mono (Nat.le_of_lt hsz)))
                            have kx := HBX3.out.cell
                            have kf := HBX3.out.free
                            clear hst
                            by_cases g1 : capS C bd C.length < bd
                            · have HF : Hid (normP L K B = (⟨[], [], 1⟩, 0)) := Lib.hid (by rw [HNP.out, if_pos g1])
                              go_wp2
                              refine bodyPost_ret (v := .tuple #[.agg #[.slice none 0 0, .slice none 0 0, .int .i64 1], .int .i64 0]) (by simp [results, Tryz.f94, go_sem, *]) rfl ⟨_, by rw [HF.out], by rw [HF.out]; exact ⟨_, _, rfl, QRow.nil _ _, QRow.nil _ _, show InI (1 : Int) from (by unfold InI; omega), Nat.zero_le _, Nat.zero_le _⟩, below3 HBW.out _ (Nat.le_refl _) _ _ _⟩
                            · rw [if_neg g1] at HNP
                              by_cases g2 : 16777216 < bd
                              · have HF : Hid (normP L K B = (⟨[], [], 0⟩, 3)) := Lib.hid (by rw [HNP.out, if_pos g2])
                                go_wp2
                                refine bodyPost_ret (v := .tuple #[.agg #[.slice none 0 0, .slice none 0 0, .int .i64 0], .int .i64 3]) (by simp [results, Tryz.f94, go_sem, *]) rfl ⟨_, by rw [HF.out], by rw [HF.out]; exact ⟨_, _, rfl, QRow.nil _ _, QRow.nil _ _, show InI (0 : Int) from (by unfold InI; omega), Nat.zero_le _, Nat.zero_le _⟩, below3 HBW.out _ (Nat.le_refl _) _ _ _⟩
                              · rw [if_neg g2] at HNP
                                have HLN : Hid ((capTo C bd C.length).length ≤ 65536) := Lib.hid (by rw [capTo_len]; omega)
                                have HF : Hid (normP L K B = (⟨ll, capTo C bd C.length, bd⟩, 0)) := Lib.hid (by rw [HNP.out])
                                go_upto_region 45 with fail
                                have HO8 := Lib.hid (HS6.out.out.set 2 (.int .i64 bd))
                                have HL8 := Lib.hid (HS6.out.rl.kept fun i h1 _ _ => Below.heap_setCell wr ⟨ob, 2, none⟩ (.int .i64 bd) i (by show i ≠ ob; omega))
                                have HK8 := Lib.hid (HS6.out.rk.kept fun i h1 _ _ => Below.heap_setCell wr ⟨ob, 2, none⟩ (.int .i64 bd) i (by show i ≠ ob; omega))
                                have HX8 := Lib.hid (HBX3.out.setOther 2 (.int .i64 bd) (show w.heap.size ≠ ob by omega))
                                have HB8 := Lib.hid (HBW.out.setCell (p := ⟨ob, 2, none⟩) (by show w.heap.size ≤ ob; omega) (.int .i64 bd))
                                clear ko kof kx kf hup HS6 HBX3 HBW
                                generalize wr.setCell ⟨ob, 2, none⟩ (.int .i64 bd) = w8 at *
                                have ko : ∀ o, w8.cell? ⟨ob, o, none⟩ = [.slice al ll.length cl, .slice ak C.length ck, .int .i64 bd][o]? := HO8.out.cell
                                have kx := HX8.out.cell
                                have kf := HX8.out.free
                                go_wp2
                                refine bodyPost_ret (v := .tuple #[.agg #[.slice al ll.length cl, .slice ak C.length ck, .int .i64 bd], .int .i64 0]) (by simp [results, Tryz.f94, go_sem, *]) rfl ⟨_, by rw [HF.out], ?_, below3 HB8.out _ (Nat.le_refl _) _ _ _⟩
                                rw [HF.out]
                                exact ⟨_, _, rfl, (row3 HL8.out w.heap.size (by omega) _ _ _).mono (by omega), (row3 HK8.out w.heap.size (by omega) _ _ _).mono (by omega), show InI bd from (by unfold InI; omega), hLn, HLN.out⟩
  · have HF := Lib.hid (HERR.out (.inl hlen))
    have e1 : ((L.length : Int) != (K.length : Int)) = true := by simp; omega
    have kx := hB0.cell
    go_enter Tryz.func94, Tryz.ntmps94
    go_wp2
    refine bodyPost_ret (v := .tuple #[.agg #[.slice none 0 0, .slice none 0 0, .int .i64 0], .int .i64 2]) (by simp [results, Tryz.f94, go_sem, *]) rfl ⟨_, by rw [HF.out], by rw [HF.out]; exact ⟨_, _, rfl, QRow.nil _ _, QRow.nil _ _, show InI (0 : Int) from (by unfold InI; omega), Nat.zero_le _, Nat.zero_le _⟩, HAL.out⟩

end Go.Proofs.YtfhpfbakoiekpaaGreatDoor
