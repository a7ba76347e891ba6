/- My texts PbS, Awk0, DelR, Rea1, Rea2, Lp8R, merged. -/
import Derived.Test.YthclpkhaenaknaaGreatDoorM10
import Derived.Test.YthclpkhaenaknaaGreatDoorM05
import Derived.Test.YthclpkhaenaknaaGreatDoorM06
import Derived.Laws.EntriesVeiled
import Derived.Test.YthclpkhaenaknaaGreatDoorM07

/- pb.String, at small numbers. -/
namespace Go.Proofs.YthclpkhaenaknaaGreatDoor
open Go.RowKit Go.Shelf
attribute [local go_sem] Oper.semAt_some

/-- The text of a literal with its coefficient. -/
def itemT (q : Int × Int) : List UInt8 := (Lib.decDigits q.2.toNat ++ [32]) ++ ((if q.1 < 0 then [126] else []) ++ (([120] ++ Lib.decDigits q.1.natAbs) ++ [32]))
def headT (l : List (Int × Int)) : List UInt8 := l.flatMap itemT
def strT (c : PBC) : List UInt8 := headT (c.lits.zip c.coefs) ++ ([62, 61, 32] ++ Lib.decDigits c.bound.toNat)
theorem headT_snoc (l : List (Int × Int)) (q : Int × Int) : headT (l ++ [q]) = headT l ++ itemT q := by simp [headT]

theorem dec_len {n : Nat} (h : n < 100) : (Lib.decDigits n).length ≤ 2 := by
  unfold Lib.decDigits
  split
  · simp
  · have : n / 10 < 10 := by omega
    unfold Lib.decDigits
    rw [dif_pos this]
    simp

theorem itemT_len {q : Int × Int} (h1 : q.1.natAbs < 100) (h2 : 0 ≤ q.2 ∧ q.2 < 100) : (itemT q).length ≤ 8 := by
  have a := dec_len (n := q.2.toNat) (by omega)
  have b := dec_len h1
  unfold itemT
  simp only [List.length_append, List.length_cons, List.length_nil]
  split <;> simp <;> omega

theorem headT_len : ∀ {l : List (Int × Int)}, (∀ q ∈ l, q.1.natAbs < 100 ∧ 0 ≤ q.2 ∧ q.2 < 100) → (headT l).length ≤ 8 * l.length
  | [], _ => by simp [headT]
  | q :: l, h => by
    have a := itemT_len (h q (.head _)).1 (h q (.head _)).2
    have b := headT_len (l := l) (fun x hx => h x (.tail _ hx))
    unfold headT at *
    simp only [List.flatMap_cons, List.length_append, List.length_cons]
    omega

/-- The cells of a text. -/
abbrev bc (l : List UInt8) : List Value := Lib.byteCells l
theorem bc_app (a b : List UInt8) : bc (a ++ b) = bc a ++ bc b := by simp [bc, Lib.byteCells]
theorem bc_str (s : ByteArray) : Lib.strCells s = bc s.data.toList := rfl

theorem parts_any2 (vl vk : Value) (bd : Int) (w : World) (hl : ∃ a n c, vl = .slice a n c) (hk : ∃ a n c, vk = .slice a n c) :
    Calls Tryz.prog 51 #[.agg #[vl, vk, .int .i64 bd]] w fun e w' => e = .returned (.func (.func 98) #[] #[.pointer (some ⟨w.heap.size, 0, none⟩)]) ∧ Below w.heap.size w w' ∧ Blk w' w.heap.size [vl, vk, .int .i64 bd] 30 ∧ w'.heap.size = w.heap.size + 1 := by
  obtain ⟨a1, n1, c1, rfl⟩ := hl
  obtain ⟨a2, n2, c2, rfl⟩ := hk
  have HB : Hid (Below w.heap.size w (w.alloc (.cells #[.slice a1 n1 c1, .slice a2 n2 c2, .int .i64 bd] 30))) := Lib.hid (bal (Below.refl _ _) _)
  have HK := Lib.hid (Blk.new w [.slice a1 n1 c1, .slice a2 n2 c2, .int .i64 bd] 30)
  go_enter Tryz.func51, Tryz.ntmps51
  go_wp2
  go_ret
  exact ⟨rfl, HB.out, HK.out, by simp⟩

/-- The builder in block b under way; cb: the iterator's box; n1: the size at the loop's start. -/
structure StSt (b0 b cb n1 : Nat) (pc : List Value) (w : World) (t : List UInt8) (W : World) : Prop where
  bld : IsB b b (bc t) W
  box : Blk W cb pc 30
  box1 : Blk W b0 pc 30
  below : Below b w W
  size : n1 ≤ W.heap.size

theorem IsB.own {b : Nat} {bs : List Value} {X Y : World} {row : Option Nat} (h : IsB b b bs X) (hg : X.grownBy Y row) (hr : ∀ r, row = some r → ∃ o : Obj, X.heap[r]? = some o ∧ o.isCells = false) : IsB b b bs Y := by
  have key : ∀ p, BAt b b p bs X → BAt b b p bs Y := fun p ⟨h1, v, h2, h3, h4⟩ => by
    have hne : ∀ k (o : Obj), X.heap[k]? = some o → o.isCells = true → row ≠ some k := fun k o hk hc e => by
      obtain ⟨o2, ho, hc2⟩ := hr k e
      rw [hk] at ho
      cases ho
      rw [hc] at hc2
      cases hc2
    refine ⟨h1, v, (hg.block b (Array.getElem?_eq_some_iff.1 h2).1 (fun e => hne b _ h2 rfl e.symm)).trans h2, h3.kept hg ?_, h4⟩
    rcases h3.2 with ⟨rfl, _⟩ | ⟨g, cap, cur, fz, rfl, _, hgg, _⟩
    · exact .inl rfl
    · exact .inr (fun e => hne g _ hgg rfl e.symm)
  exact h.elim (fun x => .inl (key _ x)) (fun x => .inr (key _ x))

theorem StSt.own {b0 b cb n1 B : Nat} {pc : List Value} {w : World} (hB : b ≤ B) {c : PBC} : OwnFrom B (fun (pre : List (PV c)) W => StSt b0 b cb n1 pc w (headT (pvs pre)) W) := fun pre X Y row hs hg hrow => by
  have hr : ∀ r, row = some r → ∃ o : Obj, X.heap[r]? = some o ∧ o.isCells = false := fun r e => (hrow r e).2
  refine ⟨hs.bld.own hg hr, blk_ownP _ _ _ () X Y row hs.box hg hr, blk_ownP _ _ _ () X Y row hs.box1 hg hr, ?_, Nat.le_trans hs.size hg.size⟩
  exact hs.below.trans ⟨hg.os, hg.tape, hg.output, hg.size, fun i hi => hg.block i (by have := hs.bld; rcases this with h | h <;> (have := h.lt; omega)) (fun e => by have := (hrow i e.symm).1; omega)⟩

/-- Behind a writing. -/
theorem StSt.write {b0 b cb : Nat} {pc : List Value} {w W W' : World} {t s : List UInt8} (h : StSt b0 b cb (b + 2) pc w t W) (hcb : cb = b + 1) (hb : b0 < b) (h1 : BAt b b (.pointer (some ⟨b, 0, none⟩)) (bc t ++ bc s) W') (h2 : Below b W W') (h3 : Lib.OthersKept 5 (some b) W W') :
    StSt b0 b cb (b + 2) pc w (t ++ s) W' ∧ Lim (b + 2) [b] W W' ∧ KeepsOthers W W' := by
  have kk : ∀ k c t', Blk W k c t' → k ≠ b → t' ≠ 5 → Blk W' k c t' := fun k c t' hk hne ht => h3 k _ hk (fun e => hne (Option.some.inj e)) (fun c fz e => ht (by cases e; rfl))
  refine ⟨⟨.inr (by rw [bc_app]; exact h1), kk _ _ _ h.box (by omega) (by decide), kk _ _ _ h.box1 (by omega) (by decide), h.below.trans h2, Nat.le_trans h.size h2.size⟩, ⟨h2.os, h2.tape, h2.output, h2.size, fun k hk hs => ?_⟩, ⟨h2.size, fun k o hk hc => h3 k o hk ?_ (fun c fz e => by subst e; cases hc)⟩⟩
  · simp only [List.mem_cons, List.not_mem_nil, or_false] at hs
    rcases Nat.lt_or_ge k b with hlt | hge
    · exact h2.block k hlt
    · obtain rfl : k = cb := by omega
      rw [show W'.heap[k]? = _ from kk _ _ _ h.box hs (by decide), show W.heap[k]? = _ from h.box]
  · intro e
    have := Option.some.inj e
    subst this
    rcases h.bld with ⟨_, v, hb2, _⟩ | ⟨_, v, hb2, _⟩ <;> (rw [hb2] at hk; cases hk; cases hc)

theorem cat_list (a b : List UInt8) : ((⟨a.toArray⟩ : ByteArray) ++ ⟨b.toArray⟩).data.toList = a ++ b := by
  rw [ByteArray.data_append]
  simp

theorem cat3_list (a b c : List UInt8) : (((⟨a.toArray⟩ : ByteArray) ++ ⟨b.toArray⟩) ++ ⟨c.toArray⟩).data.toList = (a ++ b) ++ c := by
  rw [ByteArray.data_append, ByteArray.data_append]
  simp

theorem ws_txt {b0 b cb : Nat} {pc : List Value} {w W : World} {t : List UInt8} (h : StSt b0 b cb (b + 2) pc w t W) (hcb : cb = b + 1) (hb : b0 < b) (s : List UInt8) (S : ByteArray) (hS : S.data.toList = s) (hlen : t.length + s.length ≤ 1000000) :
    Calls Tryz.prog 63 #[.pointer (some ⟨b, 0, none⟩), .string S] W fun e W' => e = .returned (.tuple #[.int .i64 S.size, .nilIface]) ∧ StSt b0 b cb (b + 2) pc w (t ++ s) W' ∧ Lim (b + 2) [b] W W' ∧ KeepsOthers W W' := by
  have hsz : S.size = s.length := by rw [← hS, Array.length_toList]; rfl
  refine (ws_any b b (bc t) S W h.bld (by rw [Lib.byteCells_length, hsz]; omega) (by have := h.size; omega)).mono ?_
  rintro e W' ⟨rfl, h1, h2, h3⟩
  rw [bc_str, hS] at h1
  exact ⟨rfl, h.write hcb hb h1 h2 h3⟩

end Go.Proofs.YthclpkhaenaknaaGreatDoor

/- ostlerlaw27.awake: the values. -/
namespace Go.Proofs.YthclpkhaenaknaaGreatDoor
open Go.RowKit

def aw : List Int := [1, 1, -1, 1, 1, -1, 1]
def cA : PBC := ⟨[-1, 6], [1, 1], 1⟩
def cB : PBC := ⟨[-2, 6], [1, 1], 1⟩
def cC : PBC := ⟨[-1, -2], [1, 1], 1⟩

theorem aw_make1 : makeP loopP aw [1, 2] 1 = (cA, 0) := by kernel_rfl
theorem aw_make2 : makeP loopP aw [1, 2] 2 = (cB, 0) := by kernel_rfl
theorem aw_make3 : makeP disP [0, 1] [1] 1 = (cC, 0) := by kernel_rfl
theorem aw_unf1 : unfB loopP aw [1, 2] = true := by kernel_rfl
theorem aw_unf2 : unfB disP [0, 1] [1] = true := by kernel_rfl
theorem aw_val1 : validC loopP [1, 2] (clauseP [-1, 3]).1 = true := by kernel_rfl
theorem aw_val2 : validC loopP [1, 2] (clauseP [-1]).1 = false := by kernel_rfl
theorem aw_pv1 : pbV cA = true := by kernel_rfl
theorem aw_pv2 : pbV cB = true := by kernel_rfl
theorem aw_pv3 : pbV cC = true := by kernel_rfl

theorem dec1 : Lib.decDigits 1 = [49] := by unfold Lib.decDigits; rfl
theorem dec2 : Lib.decDigits 2 = [50] := by unfold Lib.decDigits; rfl
theorem dec6 : Lib.decDigits 6 = [54] := by unfold Lib.decDigits; rfl
theorem aw_str1 : strT cA = [49, 32, 126, 120, 49, 32, 49, 32, 120, 54, 32, 62, 61, 32, 49] := by simp [strT, headT, itemT, cA, dec1, dec6]
theorem aw_str2 : strT cB = [49, 32, 126, 120, 50, 32, 49, 32, 120, 54, 32, 62, 61, 32, 49] := by simp [strT, headT, itemT, cB, dec1, dec2, dec6]
theorem aw_str3 : strT cC = [49, 32, 126, 120, 49, 32, 49, 32, 126, 120, 50, 32, 62, 61, 32, 49] := by simp [strT, headT, itemT, cC, dec1, dec2]

end Go.Proofs.YthclpkhaenaknaaGreatDoor

/- slices.DeleteFunc with the closure of support.reasons (printed by delr.py). -/
namespace Go.Proofs.YthclpkhaenaknaaGreatDoor
open Go.RowKit

set_option maxHeartbeats 1000000 in
theorem idx_rs (v : Value) (l : List Int) (w : World) (h : Ints w v l) (g : Nat → Bool) (k1 k2 : Value)
    (hg : ∀ w', Below w.heap.size w w' → ∀ j, j < l.length → Calls Tryz.prog 76 #[.int .i64 (ix l j), k1, k2] w' fun e w'' => e = .returned (.bool (g j)) ∧ Below w'.heap.size w' w'') :
    Calls Tryz.prog 72 #[v, .func (.func 76) #[] #[k1, k2]] w fun e w' => ∃ r, e = .returned (.int .i64 r) ∧ IxP l.length g r ∧ Below w.heap.size w w' := by
  obtain ⟨a1, c1, rfl, -, hl1, -, hcell⟩ := h.form
  have HG := Lib.hid hg
  clear h hg
  go_enter Tryz.func72, Tryz.ntmps72
  go_wp2
  go_loopw [8] (fun i wx => IxR l.length g w i wx) (fun i _ => l.length - (intOf i).toNat)
  case atStart => exact ⟨0, by omega, rfl, fun j hj => absurd hj (Nat.not_lt_zero _), Below.refl _ _⟩
  case round =>
    obtain ⟨k, hk, rfl, hall, hb⟩ := hrel
    have HA := Lib.hid hall
    clear hall
    by_cases hlt : k < l.length
    · obtain ⟨b, off, rfl, hbl, hc⟩ := hcell (by omega)
      have hk1 := (bcell hb _ _ hbl).trans (hc k hlt)
      clear hc hcell
      cases g1 : g k with
      | true =>
        have HK : Hid (_ = true) := Lib.hid g1
        have HC := Lib.hid (HG.out _ hb k hlt)
        rw [g1] at HC
        clear g1
        go_wp2_with (go_at_call 76; refine (HC.out).mono ?_; rintro e w1 ⟨rfl, hb1⟩)
        go_ret
        exact ⟨_, rfl, .inr ⟨k, hlt, rfl, HK.out, HA.out⟩, bon hb hb1⟩
      | false =>
        have HN := Lib.hid (lt_succ_all HA.out g1)
        have HC := Lib.hid (HG.out _ hb k hlt)
        rw [g1] at HC
        clear g1
        go_wp2_with (go_at_call 76; refine (HC.out).mono ?_; rintro e w1 ⟨rfl, hb1⟩)
        first
          | (go_roundw
             case rel => (exact ⟨k + 1, by omega, by go_num, HN.out, bon hb hb1⟩)
             case measure => (simp [intOf]; omega))
          | (refine ⟨?_, ?_⟩
             · (exact ⟨k + 1, by omega, by go_num, HN.out, bon hb hb1⟩)
             · (simp [intOf]; omega))
    · have HN : Hid (∀ j, j < l.length → g j = false) := Lib.hid (fun j hj => HA.out j (by omega))
      go_wp2
      go_ret
      exact ⟨_, rfl, .inl ⟨rfl, HN.out⟩, hb⟩

set_option maxHeartbeats 4000000 in
set_option maxRecDepth 100000 in
theorem delf_rs (l : List Int) (g c base : Nat) (D : List Value) (w : World) (hb : Blk w g D 3) (hcell : ∀ k, k < l.length → D[k]? = some (.int .i64 (ix l k))) (hfit : Fits l) (hn : l.length ≤ c ∧ c ≤ D.length ∧ c ≤ maxLen) (hbase : base ≤ g) (hl8 : l.length * 8 ≤ 140737488351232)
    (q : Int → Bool) (k1 k2 : Value) (hq : ∀ w', Lim w.heap.size [g] w w' → ∀ j, j < l.length → Calls Tryz.prog 76 #[.int .i64 (ix l j), k1, k2] w' fun e w'' => e = .returned (.bool (q (ix l j))) ∧ Below w'.heap.size w' w'') :
    Calls Tryz.prog 75 #[.slice (some ⟨g, 0, none⟩) l.length c, .func (.func 76) #[] #[k1, k2]] w fun e w' => ∃ a n c', e = .returned (.slice a n c') ∧ QRow base w' (.slice a n c') (keepF q l l.length) ∧ Lim w.heap.size [g] w w' := by
  have hint : Ints w (.slice (some ⟨g, 0, none⟩) l.length c) l := ⟨⟨_, _, rfl, hn.1, hn.2.2, hl8, fun _ => ⟨g, 0, rfl, hb.lt, fun i hi => by rw [Nat.zero_add, hb.cell]; exact hcell i hi⟩⟩, hfit⟩
  have HI := Lib.hid (idx_rs _ l w hint (fun j => q (ix l j)) k1 k2 (fun w' hb' j hj => hq w' (.of_below hb' (Nat.le_refl _)) j hj))
  have HQ := Lib.hid hq
  have HB := Lib.hid hb
  have HC := Lib.hid hcell
  have HFT := Lib.hid hfit
  have hglt := hb.lt
  clear hint hq hb hcell hfit
  go_enter Tryz.func75, Tryz.ntmps75
  go_upto_region 2 with (go_at_call 72; (with_reducible refine (HI.out).mono ?_); rintro e w1 ⟨r, rfl, hr, hb1⟩; have HR := Lib.hid hr; have HB1 := Lib.hid hb1; clear hr hb1)
  rcases HR.out with ⟨rfl, hnone⟩ | ⟨i0, hi0, rfl, hq0, hbef⟩
  · have HK : Hid (keepF q l l.length = l) := Lib.hid (by rw [keepF_none _ (Nat.le_refl _) hnone, List.take_length])
    clear hnone
    go_wp2_with fail
    go_ret
    refine ⟨_, _, _, rfl, ⟨by rw [HK.out]; exact HFT.out, .inr ⟨g, 0, c, D.toArray, by rw [HK.out], hbase, HB.out.below HB1.out, by rw [HK.out]; exact hn.1, hn.2.2, by simp; exact hn.2.1, fun i hi => by rw [HK.out] at hi ⊢; rw [Nat.zero_add, List.getElem?_toArray]; exact HC.out i hi⟩⟩, .of_below HB1.out (Nat.le_refl _)⟩
  · have hk0 : keepF q l i0 = l.take i0 := keepF_none i0 (by omega) hbef
    have hk1 : keepF q l (i0 + 1) = l.take i0 := by rw [keepF_succ hi0, if_pos (show q (ix l i0) = true from hq0)]; exact hk0
    have hst : DelSt w g q l D.length (i0 + 1) w1 := ⟨D, rfl, HB.out.below HB1.out, fun k hk => by
      rw [hk1] at hk ⊢
      simp only [List.length_take] at hk
      rw [HC.out k (by omega)]
      congr 2
      simp [ix, show k < i0 by omega], fun k _ hk => HC.out k hk, .of_below HB1.out (Nat.le_refl _)⟩
    have HST := Lib.hid hst
    have HLE : Hid ((keepF q l (i0 + 1)).length = i0) := Lib.hid (by rw [hk1, List.length_take]; omega)
    clear hst hk0 hk1 hq0 hbef HR HI
    have hi0m : ((i0 : Int) == -1) = false := by simp
    have hlen63 : l.length ≤ 1000000000000000 := by omega
    go_upto_region 5 with fail
    go_loopw [5, 6] (fun i j wx => DelRel w g q l D.length i j wx) (fun _ j _ => l.length - (intOf j).toNat)
    case atStart => exact ⟨i0 + 1, by omega, by go_num, by rw [HLE.out], by rw [HLE.out]; omega, HST.out⟩
    case round =>
      obtain ⟨jj, hjj, rfl, rfl, hlt0, hst⟩ := hrel
      have HS := Lib.hid hst
      obtain ⟨D1, hd1, hd2, hd3, hd4, hd5⟩ := hst
      have hN : l.length ≤ D.length := by omega
      by_cases hltj : jj < l.length
      · have kv := (hd2.cell jj).trans (hd4 jj (Nat.le_refl _) hltj)
        have hil : (keepF q l jj).length < D1.length := by omega
        have HCL := Lib.hid (HQ.out wr hd5 jj hltj)
        have HD2 := Lib.hid hd2
        have HSUC := Lib.hid (keepF_succ (q := q) hltj)
        clear hd2 hd3 hd4 hd5
        cases hqv : q (ix l jj) with
        | true =>
          rw [hqv] at HCL HSUC
          have HSU2 : Hid (keepF q l (jj + 1) = keepF q l jj) := Lib.hid (by rw [HSUC.out]; rfl)
          go_wp2_with (go_at_call 76; (with_reducible refine (HCL.out).mono ?_); rintro e w2 ⟨rfl, hb2⟩; have HNX := Lib.hid ((HS.out.on hb2).drop hltj hqv); clear hb2)
          first
            | (go_roundw
               case rel => (exact ⟨jj + 1, by omega, by go_num, by rw [HSU2.out], by rw [HSU2.out]; omega, HNX.out⟩)
               case measure => (simp [intOf]; omega))
            | (refine ⟨?_, ?_⟩
               · (exact ⟨jj + 1, by omega, by go_num, by rw [HSU2.out], by rw [HSU2.out]; omega, HNX.out⟩)
               · (simp [intOf]; omega))
        | false =>
          rw [hqv] at HCL HSUC
          have HSU2 : Hid ((keepF q l (jj + 1)).length = (keepF q l jj).length + 1) := Lib.hid (by rw [HSUC.out]; simp)
          go_wp2_with (go_at_call 76; (with_reducible refine (HCL.out).mono ?_); rintro e w2 ⟨rfl, hb2⟩; have HNX := Lib.hid ((HS.out.on hb2).keep hltj hN hqv); have hd2' := HD2.out.below hb2; have ks : w2.cell? ⟨g, (keepF q l jj).length, none⟩ = some (D1[(keepF q l jj).length]) := (hd2'.cell _).trans (List.getElem?_eq_getElem hil); have fs := hd2'.free (keepF q l jj).length; clear hb2 hd2')
          first
            | (go_roundw
               case rel => (exact ⟨jj + 1, by omega, by go_num, by rw [HSU2.out]; go_num, by rw [HSU2.out]; omega, HNX.out⟩)
               case measure => (simp [intOf]; omega))
            | (refine ⟨?_, ?_⟩
               · (exact ⟨jj + 1, by omega, by go_num, by rw [HSU2.out]; go_num, by rw [HSU2.out]; omega, HNX.out⟩)
               · (simp [intOf]; omega))
      · obtain rfl : jj = l.length := by omega
        obtain ⟨fi, hfi⟩ : ∃ fi, fi = (keepF q l l.length).length := ⟨_, rfl⟩
        have HFI := Lib.hid hfi
        rw [← hfi] at hlt0 ⊢
        have hcl : ∀ ty c', (Builtin.clear_ #[23] ty #[.slice (some ⟨g, fi, none⟩) (l.length - fi) c']).run Tryz.prog wr = .ok (.tuple #[]) (wr.setCells g fi (List.replicate (l.length - fi) (.int .i64 0))) := fun ty c' =>
          Lib.run_clear_slice wr 23 3 ty (.int .i64 0) Tryz.underlying23 (fun w => Tryz.zeroValue3 w) rfl rfl g fi (l.length - fi) c' (by omega) (fun j hj => by rw [hd2.cell, List.getElem?_eq_getElem (by omega)]; rfl) (fun j hj => hd2.free _)
        clear hfi hd2 hd3 hd4 hd5
        go_wp2_with fail
        go_ret
        obtain ⟨D2, d1, d2, d3, -, d5⟩ := HS.out
        obtain ⟨D3, e1, e2, e3⟩ := blk_setCells (List.replicate (l.length - fi) (.int .i64 0)) fi D2 wr d2
        rw [← HFI.out] at d3
        refine ⟨_, _, _, rfl, ⟨fits_of (fun x hx => ?_), .inr ⟨g, 0, c, D3.toArray, by rw [← HFI.out], hbase, e1, by rw [← HFI.out]; omega, hn.2.2, by simp; omega, fun i hi => ?_⟩⟩, lim_setCells (by simp) _ _ _ d5⟩
        · have hm : x ∈ l := by
            unfold keepF at hx
            exact List.mem_of_mem_take (List.mem_filter.1 hx).1
          obtain ⟨k, hk, rfl⟩ := mem_ix.1 hm
          exact HFT.out k
        · rw [← HFI.out] at hi
          rw [Nat.zero_add, List.getElem?_toArray, e3 i hi]
          exact d3 i hi


set_option maxHeartbeats 1000000 in
theorem delf_nilR (k1 k2 : Value) (w : World) :
    Calls Tryz.prog 75 #[.slice none 0 0, .func (.func 76) #[] #[k1, k2]] w fun e w' => e = .returned (.slice none 0 0) ∧ Below w.heap.size w w' := by
  have hint : Ints w (.slice none 0 0) [] := nil_ints w
  have HI := Lib.hid (idx_rs _ [] w hint (fun _ => false) k1 k2 (fun w' hb' j hj => absurd hj (Nat.not_lt_zero _)))
  clear hint
  go_enter Tryz.func75, Tryz.ntmps75
  go_upto_region 2 with (go_at_call 72; (with_reducible refine (HI.out).mono ?_); rintro e w1 ⟨r, rfl, hr, hb1⟩; have HR := Lib.hid hr; have HB1 := Lib.hid hb1; clear hr hb1)
  rcases HR.out with ⟨rfl, -⟩ | ⟨i0, hi0, -⟩
  · go_wp2_with fail
    go_ret
    exact ⟨rfl, HB1.out⟩
  · exact absurd hi0 (Nat.not_lt_zero _)


theorem delf_rowR {base : Nat} {w : World} {v : Value} {l : List Int} (h : OwnI base w v l) (hbase : base ≤ w.heap.size) (q : Int → Bool) (k1 k2 : Value) (hq : ∀ w', Below base w w' → ∀ j, j < l.length → Calls Tryz.prog 76 #[.int .i64 (ix l j), k1, k2] w' fun e w'' => e = .returned (.bool (q (ix l j))) ∧ Below w'.heap.size w' w'') :
    Calls Tryz.prog 75 #[v, .func (.func 76) #[] #[k1, k2]] w fun e w' => ∃ a n c', e = .returned (.slice a n c') ∧ QRow base w' (.slice a n c') (keepF q l l.length) ∧ Below base w w' := by
  obtain ⟨⟨hrow, h8⟩, hfit⟩ := h
  rcases hrow.2 with ⟨rfl, h0⟩ | ⟨g, c, cur, rfl, hb, hg, hn, hm, hs, hx⟩
  · have : l = [] := List.eq_nil_of_length_eq_zero h0
    subst this
    refine (delf_nilR k1 k2 w).mono fun e w' ⟨he, hb⟩ => ⟨none, 0, 0, he, QRow.nil _ _, hb.mono hbase⟩
  · refine (delf_rs l g c base cur.toList w (by unfold Blk; simpa using hg) (fun k hk => ?_) hfit ⟨hn, by simp; omega, hm⟩ hb h8 q k1 k2 (fun w' hl x hx => hq w' ((hl.mono hbase (fun i hi _ => hi)).below (fun i hi => by simp only [List.mem_singleton] at hi; omega)) x hx)).mono fun e w' ⟨a, n, c', he, hr, hl⟩ => ⟨a, n, c', he, hr, (hl.mono hbase (fun i hi _ => hi)).below (fun i hi => by simp only [List.mem_singleton] at hi; omega)⟩
    have h4 : (cur.toList.take (l.length * 1))[k]? = some (.int .i64 (ix l k)) := by rw [hx]; simp [hk]
    rw [List.getElem?_take_of_lt (by omega)] at h4
    exact h4


end Go.Proofs.YthclpkhaenaknaaGreatDoor

/- loops: the closures of support.reasons. -/
namespace Go.Proofs.YthclpkhaenaknaaGreatDoor
open Go.RowKit

structure EnvR (w : World) (sb ab fb : Nat) (u : SU) (a : List Int) : Prop where
  sup : SupB w sb u
  asg : InU w ab a
  fn : Blk w fb [.func (.func 70) #[] #[.pointer (some ⟨ab, 0, none⟩)]] 77

theorem EnvR.below {w w' : World} {sb ab fb : Nat} {u : SU} {a : List Int} (h : EnvR w sb ab fb u a) (hb : Below w.heap.size w w') : EnvR w' sb ab fb u a := ⟨h.sup.below hb, h.asg.below hb, h.fn.below hb⟩

set_option maxHeartbeats 1000000 in
theorem r1_any (l : Int) (ab : Nat) (a : List Int) (w : World) (h : InU w ab a) (hl : 1 ≤ l.natAbs ∧ l.natAbs ≤ 1000000) :
    Calls Tryz.prog 70 #[.int .i64 l, .pointer (some ⟨ab, 0, none⟩)] w fun e w' => e = .returned (.bool (offB a l)) ∧ w = w' := by
  obtain ⟨va, h1, h2⟩ := h
  have k0 := h1.cell 0
  obtain ⟨a9, n9, c9, rfl⟩ : ∃ a9 n9 c9, va = .slice a9 n9 c9 := by obtain ⟨⟨x, y, e, -⟩, -⟩ := h2; exact ⟨_, _, _, e⟩
  have HA := Lib.hid h2
  have hl0 : l ≠ 0 := by omega
  have hl1 : -4611686018427387904 ≤ l ∧ l ≤ 4611686018427387904 := by omega
  have HL0 := Lib.hid hl0
  have HL1 := Lib.hid hl1
  clear h1 h2 hl0 hl1
  cases ho : offB a l with
  | true =>
    have HO := Lib.hid ho
    clear ho
    go_enter Tryz.func70, Tryz.ntmps70
    go_wp2_with (go_at_call 39; (with_reducible refine (lvalue_off _ a _ HA.out l HL0.out HL1.out HO.out).mono ?_); rintro e w1 ⟨rfl, rfl⟩)
    go_ret
    exact ⟨rfl, rfl⟩
  | false =>
    have HO := Lib.hid ho
    clear ho
    go_enter Tryz.func70, Tryz.ntmps70
    go_wp2_with (go_at_call 39; (with_reducible refine (lvalue_on _ a _ HA.out l HL0.out HL1.out HO.out).mono ?_); rintro e w1 ⟨r, hr, rfl, rfl⟩)
    go_ret
    exact ⟨ret_bool (decide_eq_false (by omega)), rfl⟩

section
variable {w : World} {sb fb ab : Nat} {u : SU} {a : List Int}

set_option maxHeartbeats 1000000 in
theorem r2_any (h : EnvR w sb ab fb u a) (x : Int) (hx : 1 ≤ x.natAbs ∧ x.natAbs ≤ 1000000) :
    Calls Tryz.prog 74 #[.int .i64 x, .pointer (some ⟨fb, 0, none⟩)] w fun e w' => e = .returned (.bool (offB a (-x))) ∧ w = w' := by
  have kf := h.fn.cell 0
  have HI := Lib.hid (r1_any (-x) ab a w h.asg (by omega))
  clear h
  go_enter Tryz.func74, Tryz.ntmps74
  go_wp2_with (go_at_call 70; (with_reducible refine (HI.out).mono ?_); rintro e w1 ⟨rfl, rfl⟩)
  go_ret
  exact ⟨rfl, rfl⟩

def qR (u : SU) (a : List Int) (x : Int) : Bool := intB u.S x || !offB a x

set_option maxHeartbeats 1000000 in
theorem r3_any (h : EnvR w sb ab fb u a) (x : Int) (hx : 1 ≤ x.natAbs ∧ x.natAbs ≤ 1000000) :
    Calls Tryz.prog 76 #[.int .i64 x, .pointer (some ⟨sb, 0, none⟩), .pointer (some ⟨fb, 0, none⟩)] w fun e w' => e = .returned (.bool (qR u a x)) ∧ Below w.heap.size w w' := by
  have HE := Lib.hid h
  obtain ⟨vh, vb, vw, vs, h0, hsl, hS, hb⟩ := h.sup
  have ks := h0.cell
  have HSU : Hid (SupIs w (.agg #[.bool u.r.choice, vh, .bool u.r.sum, .int .i64 u.r.bound, vb, vw, .int .i64 u.b, vs]) u) := Lib.hid ⟨_, _, _, _, rfl, hsl, hS, hb⟩
  have HX := Lib.hid hx
  have HQ : Hid (qR u a x = (intB u.S x || !offB a x)) := Lib.hid rfl
  clear h h0 hsl hS hx
  have HI := Lib.hid (internal_any _ u x w HSU.out)
  cases hi : intB u.S x with
  | true =>
    rw [hi] at HI HQ
    go_enter Tryz.func76, Tryz.ntmps76
    go_wp2_with (go_at_call 77; (with_reducible refine (HI.out).mono ?_); rintro e w1 ⟨rfl, hb1⟩; have HB1 := Lib.hid hb1; clear hb1)
    go_ret
    exact ⟨ret_bool HQ.out.symm, HB1.out⟩
  | false =>
    rw [hi] at HI HQ
    go_enter Tryz.func76, Tryz.ntmps76
    go_wp2_with (first
      | (go_at_call 70; (with_reducible refine (r1_any x ab a _ HE1.out.asg HX.out).mono ?_); rintro e w2 ⟨rfl, rfl⟩)
      | (go_at_call 77; (with_reducible refine (HI.out).mono ?_); rintro e w1 ⟨rfl, hb1⟩; have HB1 := Lib.hid hb1; have HE1 := Lib.hid (HE.out.below hb1); have kf1 := HE1.out.fn.cell 0; clear hb1))
    go_ret
    exact ⟨ret_bool (by rw [HQ.out]; simp), HB1.out⟩
end

set_option maxHeartbeats 1000000 in
theorem idx_r1 (v : Value) (l : List Int) (w : World) (h : Ints w v l) (g : Nat → Bool) (cap : Value)
    (hg : ∀ w', Below w.heap.size w w' → ∀ j, j < l.length → Calls Tryz.prog 70 #[.int .i64 (ix l j), cap] w' fun e w'' => e = .returned (.bool (g j)) ∧ Below w'.heap.size w' w'') :
    Calls Tryz.prog 72 #[v, .func (.func 70) #[] #[cap]] w fun e w' => ∃ r, e = .returned (.int .i64 r) ∧ IxP l.length g r ∧ Below w.heap.size w w' := by
  obtain ⟨a1, c1, rfl, -, hl1, -, hcell⟩ := h.form
  have HG := Lib.hid hg
  clear h hg
  go_enter Tryz.func72, Tryz.ntmps72
  go_wp2
  go_loopw [8] (fun i wx => IxR l.length g w i wx) (fun i _ => l.length - (intOf i).toNat)
  case atStart => exact ⟨0, by omega, rfl, fun j hj => absurd hj (Nat.not_lt_zero _), Below.refl _ _⟩
  case round =>
    obtain ⟨k, hk, rfl, hall, hb⟩ := hrel
    have HA := Lib.hid hall
    clear hall
    by_cases hlt : k < l.length
    · obtain ⟨b, off, rfl, hbl, hc⟩ := hcell (by omega)
      have hk1 := (bcell hb _ _ hbl).trans (hc k hlt)
      clear hc hcell
      cases g1 : g k with
      | true =>
        have HK : Hid (_ = true) := Lib.hid g1
        have HC := Lib.hid (HG.out _ hb k hlt)
        rw [g1] at HC
        clear g1
        go_wp2_with (go_at_call 70; refine (HC.out).mono ?_; rintro e w1 ⟨rfl, hb1⟩)
        go_ret
        exact ⟨_, rfl, .inr ⟨k, hlt, rfl, HK.out, HA.out⟩, bon hb hb1⟩
      | false =>
        have HN := Lib.hid (lt_succ_all HA.out g1)
        have HC := Lib.hid (HG.out _ hb k hlt)
        rw [g1] at HC
        clear g1
        go_wp2_with (go_at_call 70; refine (HC.out).mono ?_; rintro e w1 ⟨rfl, hb1⟩)
        first
          | (go_roundw
             case rel => (exact ⟨k + 1, by omega, by go_num, HN.out, bon hb hb1⟩)
             case measure => (simp [intOf]; omega))
          | (refine ⟨?_, ?_⟩
             · (exact ⟨k + 1, by omega, by go_num, HN.out, bon hb hb1⟩)
             · (simp [intOf]; omega))
    · have HN : Hid (∀ j, j < l.length → g j = false) := Lib.hid (fun j hj => HA.out j (by omega))
      go_wp2
      go_ret
      exact ⟨_, rfl, .inl ⟨rfl, HN.out⟩, hb⟩

set_option maxHeartbeats 1000000 in
theorem ctn_r1 (v : Value) (l : List Int) (w : World) (h : Ints w v l) (g : Nat → Bool) (cap : Value)
    (hg : ∀ w', Below w.heap.size w w' → ∀ j, j < l.length → Calls Tryz.prog 70 #[.int .i64 (ix l j), cap] w' fun e w'' => e = .returned (.bool (g j)) ∧ Below w'.heap.size w' w'') :
    Calls Tryz.prog 44 #[v, .func (.func 70) #[] #[cap]] w fun e w' => e = .returned (.bool (anyR l.length g)) ∧ Below w.heap.size w w' := by
  have HI := Lib.hid (idx_r1 v l w h g cap hg)
  obtain ⟨a1, c1, rfl, -⟩ := h.form
  clear h hg
  go_enter Tryz.func44, Tryz.ntmps44
  go_wp2_with (go_at_call 72; refine (HI.out).mono ?_; rintro e w1 ⟨r, rfl, hr, hb1⟩; have HR := Lib.hid hr; clear hr)
  go_ret
  exact ⟨ret_bool HR.out.any, hb1⟩

set_option maxHeartbeats 1000000 in
theorem idx_r2 (v : Value) (l : List Int) (w : World) (h : Ints w v l) (g : Nat → Bool) (cap : Value)
    (hg : ∀ w', Below w.heap.size w w' → ∀ j, j < l.length → Calls Tryz.prog 74 #[.int .i64 (ix l j), cap] w' fun e w'' => e = .returned (.bool (g j)) ∧ Below w'.heap.size w' w'') :
    Calls Tryz.prog 72 #[v, .func (.func 74) #[] #[cap]] w fun e w' => ∃ r, e = .returned (.int .i64 r) ∧ IxP l.length g r ∧ Below w.heap.size w w' := by
  obtain ⟨a1, c1, rfl, -, hl1, -, hcell⟩ := h.form
  have HG := Lib.hid hg
  clear h hg
  go_enter Tryz.func72, Tryz.ntmps72
  go_wp2
  go_loopw [8] (fun i wx => IxR l.length g w i wx) (fun i _ => l.length - (intOf i).toNat)
  case atStart => exact ⟨0, by omega, rfl, fun j hj => absurd hj (Nat.not_lt_zero _), Below.refl _ _⟩
  case round =>
    obtain ⟨k, hk, rfl, hall, hb⟩ := hrel
    have HA := Lib.hid hall
    clear hall
    by_cases hlt : k < l.length
    · obtain ⟨b, off, rfl, hbl, hc⟩ := hcell (by omega)
      have hk1 := (bcell hb _ _ hbl).trans (hc k hlt)
      clear hc hcell
      cases g1 : g k with
      | true =>
        have HK : Hid (_ = true) := Lib.hid g1
        have HC := Lib.hid (HG.out _ hb k hlt)
        rw [g1] at HC
        clear g1
        go_wp2_with (go_at_call 74; refine (HC.out).mono ?_; rintro e w1 ⟨rfl, hb1⟩)
        go_ret
        exact ⟨_, rfl, .inr ⟨k, hlt, rfl, HK.out, HA.out⟩, bon hb hb1⟩
      | false =>
        have HN := Lib.hid (lt_succ_all HA.out g1)
        have HC := Lib.hid (HG.out _ hb k hlt)
        rw [g1] at HC
        clear g1
        go_wp2_with (go_at_call 74; refine (HC.out).mono ?_; rintro e w1 ⟨rfl, hb1⟩)
        first
          | (go_roundw
             case rel => (exact ⟨k + 1, by omega, by go_num, HN.out, bon hb hb1⟩)
             case measure => (simp [intOf]; omega))
          | (refine ⟨?_, ?_⟩
             · (exact ⟨k + 1, by omega, by go_num, HN.out, bon hb hb1⟩)
             · (simp [intOf]; omega))
    · have HN : Hid (∀ j, j < l.length → g j = false) := Lib.hid (fun j hj => HA.out j (by omega))
      go_wp2
      go_ret
      exact ⟨_, rfl, .inl ⟨rfl, HN.out⟩, hb⟩

set_option maxHeartbeats 1000000 in
theorem ctn_r2 (v : Value) (l : List Int) (w : World) (h : Ints w v l) (g : Nat → Bool) (cap : Value)
    (hg : ∀ w', Below w.heap.size w w' → ∀ j, j < l.length → Calls Tryz.prog 74 #[.int .i64 (ix l j), cap] w' fun e w'' => e = .returned (.bool (g j)) ∧ Below w'.heap.size w' w'') :
    Calls Tryz.prog 44 #[v, .func (.func 74) #[] #[cap]] w fun e w' => e = .returned (.bool (anyR l.length g)) ∧ Below w.heap.size w w' := by
  have HI := Lib.hid (idx_r2 v l w h g cap hg)
  obtain ⟨a1, c1, rfl, -⟩ := h.form
  clear h hg
  go_enter Tryz.func44, Tryz.ntmps44
  go_wp2_with (go_at_call 72; refine (HI.out).mono ?_; rintro e w1 ⟨r, rfl, hr, hb1⟩; have HR := Lib.hid hr; clear hr)
  go_ret
  exact ⟨ret_bool HR.out.any, hb1⟩

/-! ### The plain side -/
theorem find_ixp {l : List Int} {p : Int → Bool} {r : Int} (h : IxP l.length (fun j => p (ix l j)) r) : (r = -1 ∧ l.find? p = none) ∨ ∃ k : Nat, k < l.length ∧ r = k ∧ l.find? p = some (ix l k) := by
  rcases h with ⟨rfl, h⟩ | ⟨k, hk, rfl, hg, hb⟩
  · refine .inl ⟨rfl, List.find?_eq_none.2 fun x hx => ?_⟩
    obtain ⟨j, hj, rfl⟩ := mem_ix.1 hx
    have := h j hj
    simp only at this
    rw [this]; exact Bool.false_ne_true
  · refine .inr ⟨k, hk, rfl, ?_⟩
    rw [List.find?_eq_some_iff_getElem]
    simp only at hg hb
    have e : ∀ j, (hj : j < l.length) → ix l j = l[j] := fun j hj => by simp [ix, List.getD_eq_getElem?_getD, List.getElem?_eq_getElem hj]
    refine ⟨hg, k, hk, (e k hk).symm, fun j hj => ?_⟩
    have := hb j hj
    rw [e j (by omega)] at this
    simp [this]

end Go.Proofs.YthclpkhaenaknaaGreatDoor

/- loops: support.reasons. -/
namespace Go.Proofs.YthclpkhaenaknaaGreatDoor
open Go.RowKit

set_option maxHeartbeats 4000000 in
set_option maxRecDepth 100000 in
theorem reasons_any (vu va : Value) (u : SU) (a : List Int) (w : World) (h : SupIs w vu u) (hok : SUok u) (ha : Bytes8 w va a) :
    Calls Tryz.prog 30 #[vu, va] w fun e w' => ∃ v, e = .returned v ∧ Ints w' v (reasP u a) ∧ Below w.heap.size w w' := by
  have h0 := h
  obtain ⟨vh, vb, vw, vs, rfl, hsl, hS, hb⟩ := h
  obtain ⟨a1, c1, rfl, -, hl1, -, -⟩ := hsl.head.form
  obtain ⟨a2, c2, rfl, hc2, hl2, hbi, hcell2⟩ := hsl.body.form
  obtain ⟨a3, c3, rfl, -, hl3, -, -⟩ := hsl.wts.form
  obtain ⟨a4, c4, rfl, -, hl4, -, -⟩ := hS.form
  obtain ⟨a9, n9, c9, rfl⟩ : ∃ a9 n9 c9, va = .slice a9 n9 c9 := by obtain ⟨⟨x, y, e, -⟩, -⟩ := ha; exact ⟨_, _, _, e⟩
  have hal : Below w.heap.size w ((w.alloc (.cells #[.bool u.r.choice, .slice a1 u.r.head.length c1, .bool u.r.sum, .int .i64 u.r.bound, .slice a2 u.r.body.length c2, .slice a3 u.r.w.length c3, .int .i64 u.b, .slice a4 u.S.length c4] 68)).alloc (.cells #[.slice a9 n9 c9] 28)) := bal (bal (Below.refl _ _) _) _
  have hb1 := (Blk.new w [.bool u.r.choice, .slice a1 u.r.head.length c1, .bool u.r.sum, .int .i64 u.r.bound, .slice a2 u.r.body.length c2, .slice a3 u.r.w.length c3, .int .i64 u.b, .slice a4 u.S.length c4] 68).alloc (.cells #[.slice a9 n9 c9] 28)
  have hb2 := Blk.new2 w (.cells #[.bool u.r.choice, .slice a1 u.r.head.length c1, .bool u.r.sum, .int .i64 u.r.bound, .slice a2 u.r.body.length c2, .slice a3 u.r.w.length c3, .int .i64 u.b, .slice a4 u.S.length c4] 68) [.slice a9 n9 c9] 28
  have hsz : ((w.alloc (.cells #[.bool u.r.choice, .slice a1 u.r.head.length c1, .bool u.r.sum, .int .i64 u.r.bound, .slice a2 u.r.body.length c2, .slice a3 u.r.w.length c3, .int .i64 u.b, .slice a4 u.S.length c4] 68)).alloc (.cells #[.slice a9 n9 c9] 28)).heap.size = w.heap.size + 1 + 1 := by simp
  have HAL := Lib.hid hal
  have HBK := Lib.hid hb1
  have HSZ := Lib.hid hsz
  have HA : Hid (InU _ (w.heap.size + 1) a) := Lib.hid ⟨_, hb2, ha.below hal⟩
  have HSU := Lib.hid (h0.below hal)
  have HSB : Hid (SupB _ w.heap.size u) := Lib.hid ⟨_, _, _, _, hb1, hsl.below hal, hS.below hal, hb⟩
  have HOK := Lib.hid hok
  have hbb := hok.b
  have HBI := Lib.hid hbi
  have h8b : u.r.body.length * 8 ≤ 140737488351232 := by obtain ⟨⟨_, _, _, _, _, h, _⟩, _⟩ := hbi; exact h
  have HCB := Lib.hid hcell2
  clear h0 hal hb1 hb2 hsz ha hS hcell2 hok hbi
  have HSL := Lib.hid hsl
  clear hsl
  go_enter Tryz.func30, Tryz.ntmps30
  go_upto_region 1 with fail
  generalize (w.alloc (.cells #[.bool u.r.choice, .slice a1 u.r.head.length c1, .bool u.r.sum, .int .i64 u.r.bound, .slice a2 u.r.body.length c2, .slice a3 u.r.w.length c3, .int .i64 u.b, .slice a4 u.S.length c4] 68)).alloc (.cells #[.slice a9 n9 c9] 28) = W at *
  go_upto_region 2 with fail
  have hal5 := bal (Below.refl W.heap.size W) (.cells #[.func (.func 70) #[] #[.pointer (some ⟨w.heap.size + 1, 0, none⟩)]] 77)
  have HF5 := Lib.hid (Blk.new W [.func (.func 70) #[] #[.pointer (some ⟨w.heap.size + 1, 0, none⟩)]] 77)
  have HB5 := Lib.hid (bon HAL.out hal5)
  have HE : Hid (EnvR _ w.heap.size (w.heap.size + 1) W.heap.size u a) := Lib.hid ⟨HSB.out.below hal5, HA.out.below hal5, HF5.out⟩
  have HSU5 := Lib.hid (HSU.out.below hal5)
  have HBK5 := Lib.hid (HBK.out.below hal5)
  clear hal5 HSB HA HSU
  generalize W.alloc (.cells #[.func (.func 70) #[] #[.pointer (some ⟨w.heap.size + 1, 0, none⟩)]] 77) = W5 at *
  have kx5 := HBK5.out.cell
  have kf5 := HF5.out.cell 0
  have hol : (oth u).length * 8 ≤ 140737488351232 := by
    have h1 := HOK.out.hlen
    have h2 := keepF_le (fun x => decide (x ∈ u.S)) u.r.head u.r.head.length
    unfold oth
    split
    · simp
    · omega
  cases him : impB u with
  | true =>
    have HIM := Lib.hid him
    have HF : Hid (reasP u a = []) := Lib.hid (by unfold reasP; rw [him]; rfl)
    clear him
    go_wp2_with (go_at_call 71; (with_reducible refine (impossible_any _ u W5 HSU5.out HOK.out).mono ?_); rintro e w6 ⟨he, hb6⟩; rw [HIM.out] at he; subst he; have HB6 := Lib.hid (bon HB5.out hb6); clear hb6)
    go_ret
    exact ⟨_, rfl, by rw [HF.out]; exact nil_ints _, HB6.out⟩
  | false =>
    have HIM := Lib.hid him
    go_upto_region 4 with (go_at_call 71; (with_reducible refine (impossible_any _ u W5 HSU5.out HOK.out).mono ?_); rintro e w6 ⟨he, hb6⟩; rw [HIM.out] at he; subst he; have HB6 := Lib.hid (bon HB5.out hb6); have HE6 := Lib.hid (HE.out.below hb6); have HBK6 := Lib.hid (HBK5.out.below hb6); have HF6 := Lib.hid (HF5.out.below hb6); have HSU6 := Lib.hid (HSU5.out.below hb6); clear hb6)
    have kx6 := HBK6.out.cell
    have kf6 := HF6.out.cell 0
    have HR1 := Lib.hid (r1_any u.b (w.heap.size + 1) a w6 HE6.out.asg (by omega))
    clear kx5 kf5
    cases ho : offB a u.b with
    | true =>
      have HF : Hid (reasP u a = [u.b]) := Lib.hid (by unfold reasP; rw [him, ho]; rfl)
      rw [ho] at HR1
      clear him ho
      go_wp2_with (go_at_call 70; (with_reducible refine (HR1.out).mono ?_); rintro e w7 ⟨rfl, rfl⟩)
      go_ret
      exact ⟨_, rfl, by rw [HF.out]; exact (Blk.new w6 [.int .i64 u.b] _).ints1 hb, bal HB6.out _⟩
    | false =>
      have HRP0 : Hid (reasP u a = reas1 u a) := Lib.hid (by unfold reasP; rw [him, ho]; rfl)
      rw [ho] at HR1
      clear him ho
      have HBI6 := Lib.hid (HBI.out.below HB6.out)
      have HIX := Lib.hid (idx_r1 _ u.r.body w6 HBI6.out (fun j => offB a (ix u.r.body j)) _ (fun w' hb' j hj => (r1_any _ (w.heap.size + 1) a w' (HE6.out.below hb').asg (HOK.out.lits j hj)).mono fun e w'' ⟨e1, e2⟩ => ⟨e1, e2 ▸ Below.refl _ _⟩))
      go_upto_region 7 with (first
        | (go_at_call 72; (with_reducible refine (HIX.out).mono ?_); rintro e w7 ⟨r, rfl, hr, hb7⟩; have HR7 := Lib.hid hr; have HB7 := Lib.hid (bon HB6.out hb7); have HE7 := Lib.hid (HE6.out.below hb7); have HBK7 := Lib.hid (HBK6.out.below hb7); have HSU7 := Lib.hid (HSU6.out.below hb7); clear hr hb7)
        | (go_at_call 70; (with_reducible refine (HR1.out).mono ?_); rintro e w6' ⟨rfl, rfl⟩))
      clear kx6 kf6 HIX
      rcases find_ixp (p := offB a) HR7.out with ⟨rfl, hfn⟩ | ⟨k, hk, rfl, hfn⟩
      · have HRP : Hid (reasP u a = reas2 u a) := Lib.hid (by rw [HRP0.out]; unfold reas1; rw [hfn]; split <;> rfl)
        have kx7 := HBK7.out.cell
        clear hfn
        go_upto_region 10 with (go_at_call 73; (with_reducible refine (others_any _ u w7 HSU7.out).mono ?_); rintro e w8 ⟨a8, n8, c8, rfl, hq8, hb8⟩; have HO8 := Lib.hid (hq8.ints hol); have HB8 := Lib.hid (bon HB7.out hb8); have HE8 := Lib.hid (HE7.out.below hb8); have HSB8 := Lib.hid (HBK7.out.below hb8); clear hq8 hb8)
        obtain ⟨_, _, e8, -, -, -, hcell8⟩ := HO8.out.form
        simp only [Value.slice.injEq] at e8
        obtain ⟨rfl, rfl, rfl⟩ := e8
        have HIX2 := Lib.hid (idx_r2 _ (oth u) w8 HO8.out (fun j => offB a (-(ix (oth u) j))) _ (fun w' hb' j hj => (r2_any (HE8.out.below hb') _ (by have := oth_mem HOK.out hj; omega)).mono fun e w'' ⟨e1, e2⟩ => ⟨e1, e2 ▸ Below.refl _ _⟩))
        go_upto_region 11 with (go_at_call 72; (with_reducible refine (HIX2.out).mono ?_); rintro e w9 ⟨r9, rfl, hr9, hb9⟩; have HR9 := Lib.hid hr9; have HB9 := Lib.hid (bon HB8.out hb9); have HE9 := Lib.hid (HE8.out.below hb9); have HSB9 := Lib.hid (HSB8.out.below hb9); have HBN9 := Lib.hid hb9; clear hr9 hb9)
        rcases find_ixp (p := fun h => offB a (-h)) HR9.out with ⟨rfl, hfn⟩ | ⟨k9, hk9, rfl, hfn⟩
        · have HF : Hid (reasP u a = keepF (qR u a) u.r.body u.r.body.length) := Lib.hid (by rw [HRP.out]; unfold reas2; rw [hfn]; unfold keepF; rw [List.take_length]; rfl)
          clear hfn hcell8
          have kx9 := HSB9.out.cell
          go_wp2_with (first | (go_at_call 75; (with_reducible refine (delf_rowR HOC.out hzc (qR u a) _ _ (fun w' hb' j hj => r3_any (HE9.out.below (HBC.out.trans hb')) _ (HOK.out.lits j hj))).mono ?_); rintro e w11 ⟨a11, n11, c11, rfl, hq11, hb11⟩; have HQ11 := Lib.hid hq11; have HB11 := Lib.hid hb11; clear hq11 hb11) | (go_at_call 61; (with_reducible refine (cloneI_any _ u.r.body w9 (HBI.out.below HB9.out)).mono ?_); rintro e w10 ⟨v10, rfl, ho10, hb10⟩; have HOC := Lib.hid ho10; have HBC := Lib.hid hb10; have hzc := hb10.size; clear ho10 hb10))
          go_ret
          refine ⟨_, rfl, ?_, bon HB9.out (HBC.out.trans HB11.out)⟩
          rw [HF.out]
          exact HQ11.out.ints (by have h1 := keepF_le (qR u a) u.r.body u.r.body.length; omega)
        · have HF : Hid (reasP u a = [-(ix (oth u) k9)]) := Lib.hid (by rw [HRP.out]; unfold reas2; rw [hfn])
          obtain ⟨b8, o8, rfl, hb8', hc8⟩ := hcell8 (by omega)
          have hcx := (bcell HBN9.out _ _ hb8').trans (hc8 k9 hk9)
          have hxm := oth_mem HOK.out hk9
          clear hfn hc8 hcell8
          go_wp2
          go_ret
          exact ⟨_, rfl, by rw [HF.out]; exact (Blk.new w9 [.int .i64 (-(ix (oth u) k9))] _).ints1 (by unfold InI; omega), bal HB9.out _⟩
      · cases hs : u.r.sum with
        | true =>
          have HRP : Hid (reasP u a = reas2 u a) := Lib.hid (by rw [HRP0.out]; unfold reas1; rw [if_pos hs])
          rw [hs] at HSU7 HBK7
          have kx7 := HBK7.out.cell
          clear hfn hs
          go_upto_region 10 with (go_at_call 73; (with_reducible refine (others_any _ u w7 HSU7.out).mono ?_); rintro e w8 ⟨a8, n8, c8, rfl, hq8, hb8⟩; have HO8 := Lib.hid (hq8.ints hol); have HB8 := Lib.hid (bon HB7.out hb8); have HE8 := Lib.hid (HE7.out.below hb8); have HSB8 := Lib.hid (HBK7.out.below hb8); clear hq8 hb8)
          obtain ⟨_, _, e8, -, -, -, hcell8⟩ := HO8.out.form
          simp only [Value.slice.injEq] at e8
          obtain ⟨rfl, rfl, rfl⟩ := e8
          have HIX2 := Lib.hid (idx_r2 _ (oth u) w8 HO8.out (fun j => offB a (-(ix (oth u) j))) _ (fun w' hb' j hj => (r2_any (HE8.out.below hb') _ (by have := oth_mem HOK.out hj; omega)).mono fun e w'' ⟨e1, e2⟩ => ⟨e1, e2 ▸ Below.refl _ _⟩))
          go_upto_region 11 with (go_at_call 72; (with_reducible refine (HIX2.out).mono ?_); rintro e w9 ⟨r9, rfl, hr9, hb9⟩; have HR9 := Lib.hid hr9; have HB9 := Lib.hid (bon HB8.out hb9); have HE9 := Lib.hid (HE8.out.below hb9); have HSB9 := Lib.hid (HSB8.out.below hb9); have HBN9 := Lib.hid hb9; clear hr9 hb9)
          rcases find_ixp (p := fun h => offB a (-h)) HR9.out with ⟨rfl, hfn⟩ | ⟨k9, hk9, rfl, hfn⟩
          · have HF : Hid (reasP u a = keepF (qR u a) u.r.body u.r.body.length) := Lib.hid (by rw [HRP.out]; unfold reas2; rw [hfn]; unfold keepF; rw [List.take_length]; rfl)
            clear hfn hcell8
            have kx9 := HSB9.out.cell
            go_wp2_with (first | (go_at_call 75; (with_reducible refine (delf_rowR HOC.out hzc (qR u a) _ _ (fun w' hb' j hj => r3_any (HE9.out.below (HBC.out.trans hb')) _ (HOK.out.lits j hj))).mono ?_); rintro e w11 ⟨a11, n11, c11, rfl, hq11, hb11⟩; have HQ11 := Lib.hid hq11; have HB11 := Lib.hid hb11; clear hq11 hb11) | (go_at_call 61; (with_reducible refine (cloneI_any _ u.r.body w9 (HBI.out.below HB9.out)).mono ?_); rintro e w10 ⟨v10, rfl, ho10, hb10⟩; have HOC := Lib.hid ho10; have HBC := Lib.hid hb10; have hzc := hb10.size; clear ho10 hb10))
            go_ret
            refine ⟨_, rfl, ?_, bon HB9.out (HBC.out.trans HB11.out)⟩
            rw [HF.out]
            exact HQ11.out.ints (by have h1 := keepF_le (qR u a) u.r.body u.r.body.length; omega)
          · have HF : Hid (reasP u a = [-(ix (oth u) k9)]) := Lib.hid (by rw [HRP.out]; unfold reas2; rw [hfn])
            obtain ⟨b8, o8, rfl, hb8', hc8⟩ := hcell8 (by omega)
            have hcx := (bcell HBN9.out _ _ hb8').trans (hc8 k9 hk9)
            have hxm := oth_mem HOK.out hk9
            clear hfn hc8 hcell8
            go_wp2
            go_ret
            exact ⟨_, rfl, by rw [HF.out]; exact (Blk.new w9 [.int .i64 (-(ix (oth u) k9))] _).ints1 (by unfold InI; omega), bal HB9.out _⟩
        | false =>
          have HRP : Hid (reasP u a = [ix u.r.body k]) := Lib.hid (by rw [HRP0.out]; unfold reas1; rw [if_neg (by rw [hs]; exact Bool.false_ne_true), hfn])
          rw [hs] at HBK7
          have kx7 := HBK7.out.cell
          clear hfn hs
          obtain ⟨b2, o2, rfl, hb2', hc2'⟩ := HCB.out (by omega)
          have hcx := (bcell HB7.out _ _ hb2').trans (hc2' k hk)
          have hlt7 : b2 < w7.heap.size := Nat.lt_of_lt_of_le hb2' HB7.out.size
          have hmx : c2 ≤ maxLen := by
            obtain ⟨⟨_, _, e, -, h, -⟩, -⟩ := HBI.out
            simp only [Value.slice.injEq] at e
            rw [e.2.2]; exact h
          have hxl := HOK.out.lits k hk
          clear hc2'
          go_wp2
          go_ret
          refine ⟨_, rfl, ?_, HB7.out⟩
          rw [HRP.out]
          refine ⟨⟨_, c2 - k, rfl, by simp; omega, by omega, by simp, fun _ => ⟨b2, o2 + k, rfl, hlt7, fun i hi => ?_⟩⟩, fitI (fun x hx => by obtain rfl := List.mem_singleton.1 hx; unfold InI; omega)⟩
          simp only [List.length_singleton] at hi
          obtain rfl : i = 0 := by omega
          exact hcx

end Go.Proofs.YthclpkhaenaknaaGreatDoor

/- loops: the iterator supports$1: its contract, several blocks being written by the body (printed by supsr.py). -/
namespace Go.Proofs.YthclpkhaenaknaaGreatDoor
open Go.RowKit

attribute [local go_sem] Oper.semAt_some

theorem SupSt.limR {wi w0 w w' : World} {p : GP} {S : List Int} {pb sb : Nat} {R : List Nat} {vn vs vr vm vset : Value} (h : SupSt wi w p S pb sb vn vs vr vm vset) (hl : Lim w0.heap.size R w w') (hN : wi.heap.size ≤ w0.heap.size) (hR : ∀ i ∈ R, wi.heap.size ≤ i) (hp : pb < w0.heap.size ∧ pb ∉ R) (hs : sb < w0.heap.size ∧ sb ∉ R) : SupSt wi w' p S pb sb vn vs vr vm vset :=
  ⟨h.below.trans ((hl.mono hN (fun _ hi _ => hi)).below (fun i hi => hR i hi)), h.pb.same (hl.block _ hp.1 hp.2), h.sb.same (hl.block _ hs.1 hs.2)⟩

def SUok2 (u : SU) : Prop := SUok u ∧ u.r.body.length ≤ 8002

/-- A support as a value, its body's length bounded. -/
abbrev SupW (w : World) := { x : Value × SU // SupIs w x.1 x.2 ∧ SUok2 x.2 }
def suw {w : World} (l : List (SupW w)) : List SU := l.map (·.1.2)
theorem suw_snoc {w : World} (l : List (SupW w)) (x : SupW w) : suw (l ++ [x]) = suw l ++ [x.1.2] := by simp [suw]
theorem suw_len {w : World} (l : List (SupW w)) : (suw l).length = l.length := by simp [suw]

theorem SupW.form {w : World} (x : SupW w) : ∃ vh vb vw vs, x.1.1 = .agg #[.bool x.1.2.r.choice, vh, .bool x.1.2.r.sum, .int .i64 x.1.2.r.bound, vb, vw, .int .i64 x.1.2.b, vs] ∧ (∃ a n c, vh = .slice a n c) ∧ (∃ a n c, vb = .slice a n c) ∧ (∃ a n c, vw = .slice a n c) ∧ ∃ a n c, vs = .slice a n c := by
  obtain ⟨vh, vb, vw, vs, e, h1, h2, h3⟩ := x.2.1
  obtain ⟨⟨_, _, e1, -⟩, -⟩ := h1.head
  obtain ⟨⟨_, _, e2, -⟩, -⟩ := h1.body
  obtain ⟨⟨_, _, e3, -⟩, -⟩ := h1.wts
  obtain ⟨⟨_, _, e4, -⟩, -⟩ := h2
  exact ⟨_, _, _, _, e, ⟨_, _, _, e1⟩, ⟨_, _, _, e2⟩, ⟨_, _, _, e3⟩, ⟨_, _, _, e4⟩⟩

def SupSlotsR (wi : World) (p : GP) (S : List Int) (n0 : Nat) (W0 : World) (R : List Nat) (J : List (SupW wi) → World → Prop) (i : Value) (wr : World) : Prop :=
  ∃ (k : Nat) (pre : List (SupW wi)), k ≤ p.rules.length ∧ i = .int .i64 k ∧ suw pre = supsTo p S k ∧ J pre wr ∧ Lim n0 R W0 wr

set_option maxHeartbeats 4000000 in
set_option maxRecDepth 100000 in
theorem sups_stopsR (p : GP) (S : List Int) (wi w0 : World) (vn vs vr vm vset : Value) (hP : ProgIs wi (.agg #[.int .i64 p.n, vn, vs, vr, vm]) p) (hS : Ints wi vset S) (R : List Nat) (pb sb : Nat)
    (hst : SupSt wi w0 p S pb sb vn vs vr vm vset) (hR : ∀ i ∈ R, wi.heap.size ≤ i) (hne : pb ∉ R ∧ sb ∉ R) (hok : ∀ k, k < p.rules.length → SUok2 (supAt p S k)) (n : Nat) (hn : 1 ≤ n) :
    SeqStopsK Fence.wide n Tryz.prog 67 #[.pointer (some ⟨pb, 0, none⟩), .pointer (some ⟨sb, 0, none⟩)] (fun x : SupW wi => #[x.1.1]) (Lim w0.heap.size R)
      (fun xs => suw xs = supsTo p S p.rules.length) (fun pre => ∃ k, k ≤ p.rules.length ∧ suw pre = supsTo p S k) p.rules.length w0 := by
  intro l J Jx W hW hJ hJx hY h0
  obtain ⟨vn', vs', vr', vm', e, hPS⟩ := hP
  simp only [Value.agg.injEq, Array.mk.injEq, List.cons.injEq, and_true] at e
  obtain ⟨-, rfl, rfl, rfl, rfl⟩ := e
  obtain ⟨a1, c1, rfl, -, hl1, -, hcell⟩ := hPS.rules.form
  have hP : Hid (ProgIs wi (.agg #[.int .i64 p.n, vn, vs, .slice a1 p.rules.length c1, vm]) p) := Lib.hid ⟨_, _, _, _, rfl, hPS⟩
  obtain ⟨a4, c4, rfl, -, hl4, -, -⟩ := hS.form
  have HS := Lib.hid hS
  have HST := Lib.hid hst
  have HOK := Lib.hid hok
  have HY := Lib.hid hY
  have HJ := Lib.hid hJ
  have HJX := Lib.hid hJx
  have H0 := Lib.hid h0
  have HW := Lib.hid hW
  have HCELL := Lib.hid hcell
  have HPS := Lib.hid hPS
  have hpbl := hst.pb.lt
  have hsbl := hst.sb.lt
  have hN := hst.below.size
  have HSW : Hid (SupSt wi W p S pb sb vn vs (.slice a1 p.rules.length c1) vm (.slice a4 S.length c4)) := Lib.hid (hst.on hW)
  have kp := HSW.out.pb.cell
  have hzW := hW.size
  clear hS hst hok hY hJ hJx h0 hW hcell hPS
  refine callsIn_of_wp Tryz.func67 rfl trivial ?_ rfl
  simp only [Tryz.ntmps67, List.size_toArray, List.length_cons, List.length_nil, Nat.reduceAdd, Nat.reduceSub, Array.replicate_succ, Array.replicate_zero, List.push_toArray, List.append_toArray, List.nil_append, List.cons_append]
  gi_wp2
  clear kp
  gi_loopw [9] (fun i wr => SupSlotsR wi p S w0.heap.size W R J i wr) (fun i _ => p.rules.length - (intOf i).toNat)
  case atStart => exact ⟨0, [], Nat.zero_le _, rfl, rfl, H0.out, Lim.refl _ _ _⟩
  case round =>
    obtain ⟨k, pre, hk, rfl, hpre, hj, hlim⟩ := hrel
    have HJR := Lib.hid hj
    have HPRE := Lib.hid hpre
    have HLIM := Lib.hid hlim
    have HSR : Hid (SupSt wi wr p S pb sb vn vs (.slice a1 p.rules.length c1) vm (.slice a4 S.length c4)) := Lib.hid (HSW.out.limR hlim (by omega) hR ⟨by omega, hne.1⟩ ⟨by omega, hne.2⟩)
    clear hj hpre hlim
    by_cases hlt : k < p.rules.length
    · obtain ⟨b, off, rfl, hbl, hc⟩ := HCELL.out (by omega)
      obtain ⟨vh, vb, vw, ⟨k0, k1, k2, k3, k4, k5⟩, hsl⟩ := hc k hlt
      have hbw := HSR.out.below
      have hk0 := (bcell hbw _ _ hbl).trans k0
      have hk1 := (bcell hbw _ _ hbl).trans k1
      have hk2 := (bcell hbw _ _ hbl).trans k2
      have hk3 := (bcell hbw _ _ hbl).trans k3
      have hk4 := (bcell hbw _ _ hbl).trans k4
      have hk5 := (bcell hbw _ _ hbl).trans k5
      have HSL := Lib.hid hsl
      obtain ⟨ah, ch, rfl, -, hlh, -, -⟩ := hsl.head.form
      obtain ⟨ab, cb, rfl, -, hlb, -, -⟩ := hsl.body.form
      obtain ⟨aw, cw, rfl, -, hlw, -, -⟩ := hsl.wts.form
      clear hc k0 k1 k2 k3 k4 k5 hsl hbw
      have hal := bal (Below.refl wr.heap.size wr) (.cells #[.bool (ixR p.rules k).choice, .slice ah (ixR p.rules k).head.length ch, .bool (ixR p.rules k).sum, .int .i64 (ixR p.rules k).bound, .slice ab (ixR p.rules k).body.length cb, .slice aw (ixR p.rules k).w.length cw] 60)
      have hbr := Blk.new wr [.bool (ixR p.rules k).choice, .slice ah (ixR p.rules k).head.length ch, .bool (ixR p.rules k).sum, .int .i64 (ixR p.rules k).bound, .slice ab (ixR p.rules k).body.length cb, .slice aw (ixR p.rules k).w.length cw] 60
      have hj1 := (AbidesFrom.below HJ.out HJR.out hal)
      have hs1 := HSR.out.on hal
      have hl1' : Lim w0.heap.size R W (wr.alloc (.cells #[.bool (ixR p.rules k).choice, .slice ah (ixR p.rules k).head.length ch, .bool (ixR p.rules k).sum, .int .i64 (ixR p.rules k).bound, .slice ab (ixR p.rules k).body.length cb, .slice aw (ixR p.rules k).w.length cw] 60)) := HLIM.out.trans (.of_below hal (Nat.le_trans hzW HLIM.out.size))
      gi_wp2_with fail
      generalize wr.alloc (.cells #[.bool (ixR p.rules k).choice, .slice ah (ixR p.rules k).head.length ch, .bool (ixR p.rules k).sum, .int .i64 (ixR p.rules k).bound, .slice ab (ixR p.rules k).body.length cb, .slice aw (ixR p.rules k).w.length cw] 60) = W1 at *
      have HBR := Lib.hid hbr
      have HS1 := Lib.hid hs1
      have HJ1 := Lib.hid hj1
      have HL1 := Lib.hid hl1'
      have hzr := hal.size
      have hzl := HLIM.out.size
      clear hal hbr hs1 hj1 hl1' hk0 hk1 hk2 hk3 hk4 hk5
      have hdr : Below W1.heap.size W1 W1.drew := (Below.refl _ _).drew
      have HDR := Lib.hid hdr
      have HSD := Lib.hid (HS1.out.on hdr)
      have hk1 := HBR.out.cell
      have hp1 := HS1.out.pb.cell
      have hq1 := HS1.out.sb.cell
      have HCA : Hid (∀ W2, Below W1.heap.size W1 W2 → Calls Tryz.prog 44 #[.slice ah (ixR p.rules k).head.length ch, .func (.func 68) #[] #[.pointer (some ⟨sb, 0, none⟩)]] W2 fun e w' => e = .returned (.bool (headIn S (ixR p.rules k))) ∧ Below W2.heap.size W2 w') :=
        Lib.hid (fun W2 h2 => ctn_sup _ (ixR p.rules k).head W2 (HSL.out.head.below (HS1.out.on h2).below) (fun j => decide (ix (ixR p.rules k).head j ∈ S)) _ (fun w' hb' j _ => (sup11_any S sb _ _ w' (((HS1.out.on h2).on hb').sb) (HS.out.below ((HS1.out.on h2).on hb').below)).mono fun e w'' ⟨e1, e2⟩ => ⟨e1, e2 ▸ Below.refl _ _⟩))
      have hki : InI (k : Int) := by unfold InI; omega
      have HLEN : Hid (pre.length < p.rules.length) := Lib.hid (by
        have h1 := supsTo_len p S k
        rw [← HPRE.out, suw_len] at h1
        omega)
      have HBI : Hid (InI (bodyI p k)) := Lib.hid (by have h1 : 1 ≤ bodyI p k ∧ bodyI p k ≤ 1000000 := (HOK.out k hlt).1.b; unfold InI; omega)
      have HX : Hid (SupIs wi (.agg #[.bool (ixR p.rules k).choice, .slice ah (ixR p.rules k).head.length ch, .bool (ixR p.rules k).sum, .int .i64 (ixR p.rules k).bound, .slice ab (ixR p.rules k).body.length cb, .slice aw (ixR p.rules k).w.length cw, .int .i64 (bodyI p k), .slice a4 S.length c4]) (supAt p S k)) := Lib.hid ⟨_, _, _, _, rfl, HSL.out, HS.out, HBI.out⟩
      cases hh : headIn S (ixR p.rules k) with
      | false =>
        have HST2 : Hid (supsTo p S (k + 1) = supsTo p S k) := Lib.hid (by rw [supsTo, hh]; rfl)
        rw [hh] at HCA
        clear hh hk1 hp1 hq1
        have kx := fun (e : Ext W1) (o : Nat) => (bcell e.below _ o HBR.out.lt).trans (HBR.out.cell o)
        refine wpIn_wide.2 ?_
        refine wp_region_ext (by kernel_rfl) (by kernel_rfl) ?_
        repeat (go_big_quiet_step ((go_at_call 44; exact Calls.ext_of (HCA.out _ (Ext.below _)))))
        refine wpQuiet_nil ?_
        intro w9 hw'
        obtain ⟨e9, he9⟩ := hw'
        have hb9 := e9.below
        rw [← he9] at hb9
        clear he9 e9
        try dsimp only
        have HB9 := Lib.hid hb9
        clear hb9
        gi_wp2
        first
          | (go_roundw
             case rel => (exact ⟨k + 1, pre, by omega, by go_num, by rw [HPRE.out, HST2.out], AbidesFrom.below HJ.out HJ1.out HB9.out, HL1.out.trans (.of_below HB9.out (by omega))⟩)
             case measure => (simp [intOf]; omega))
          | (refine ⟨?_, ?_⟩
             · (exact ⟨k + 1, pre, by omega, by go_num, by rw [HPRE.out, HST2.out], AbidesFrom.below HJ.out HJ1.out HB9.out, HL1.out.trans (.of_below HB9.out (by omega))⟩)
             · (simp [intOf]; omega))
      | true =>
        have HST2 : Hid (supsTo p S (k + 1) = supsTo p S k ++ [supAt p S k]) := Lib.hid (by rw [supsTo, hh]; rfl)
        have HC := Lib.hid (HCA.out _ hdr)
        rw [hh] at HC
        clear hh
        gi_region_with (first
          | (refine ⟨trivial, ?_⟩; gi_at_call 44; refine (callsIn_wide.2 HC.out).mono ?_; rintro e w1 ⟨rfl, hb1⟩; have HSE := Lib.hid (HSD.out.on hb1); have kp1 := HSE.out.pb.cell; have ks1 := HSE.out.sb.cell; have kr1 := (HBR.out.drew.below hb1).cell; have HB1 := Lib.hid hb1; clear hb1)
          | (refine ⟨trivial, ?_⟩; gi_at_call 69; refine (callsIn_wide.2 (body_any _ p _ (hP.out.below HSE.out.below) (k : Int) hki)).mono ?_; rintro e w2 ⟨rfl, hb2⟩; have HSF := Lib.hid (HSE.out.on hb2); have ks2 := HSF.out.sb.cell; have kr2 := ((HBR.out.drew.below HB1.out).below hb2).cell; have HB2 := Lib.hid (HDR.out.trans (bon HB1.out hb2)); have HJ2 := Lib.hid (AbidesFrom.below HJ.out HJ1.out HB2.out); clear hb2; obtain ⟨fn, tmps, assign, body, hy, hR⟩ := HY.out pre ⟨(_, supAt p S k), HX.out, HOK.out k hlt⟩ w2 HJ2.out HLEN.out; dsimp only at hy)
          | (refine hR.mono ?_; rintro e W3 h3; obtain ⟨bb, rfl, hbt, hbf⟩ := yieldEnd h3; have HBT := Lib.hid hbt; have HBF := Lib.hid hbf; clear hbt hbf h3))
        all_goals (cases bb with
          | false =>
            gi_wp2
            refine bodyPost_ret (results_none rfl _ _ _) rfl ?_
            exact ⟨⟨_, rfl⟩, .inr ⟨pre ++ [_], ⟨k + 1, hlt, by rw [suw_snoc, HPRE.out, HST2.out]⟩, HBF.out (by first | exact rfl | exact trivial)⟩⟩
          | true =>
            gi_wp2
            first
              | (go_roundw
                 case rel => (exact ⟨k + 1, pre ++ [_], hlt, by go_num, by rw [suw_snoc, HPRE.out, HST2.out], (HBT.out (by first | exact rfl | exact trivial)).1, (HL1.out.trans (.of_below HB2.out (by omega))).trans (HBT.out (by first | exact rfl | exact trivial)).2⟩)
                 case measure => (simp [intOf]; omega))
              | (refine ⟨?_, ?_⟩
                 · (exact ⟨k + 1, pre ++ [_], hlt, by go_num, by rw [suw_snoc, HPRE.out, HST2.out], (HBT.out (by first | exact rfl | exact trivial)).1, (HL1.out.trans (.of_below HB2.out (by omega))).trans (HBT.out (by first | exact rfl | exact trivial)).2⟩)
                 · (simp [intOf]; omega)))
    · gi_wp2
      go_end0
      obtain rfl : k = p.rules.length := by omega
      exact ⟨⟨_, rfl⟩, .inl ⟨pre, HPRE.out, HJR.out⟩⟩

end Go.Proofs.YthclpkhaenaknaaGreatDoor
