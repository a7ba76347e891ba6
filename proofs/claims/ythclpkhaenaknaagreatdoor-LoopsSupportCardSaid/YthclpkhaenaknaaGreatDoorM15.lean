/- My texts Cls, AnyR, App, AppIn, Mk1, Mk2, merged. -/
import Derived.Test.YthclpkhaenaknaaGreatDoorM14
import Derived.Deep.OwnRows
import Derived.Test.YthclpkhaenaknaaGreatDoorM09
import Derived.Test.YthclpkhaenaknaaGreatDoorM02
import Derived.Test.YthclpkhaenaknaaGreatDoorM04
import Derived.Deep.AppendSrc
import Derived.Maps.OwnIn
import Derived.Test.YthclpkhaenaknaaGreatDoorM11
import Derived.Test.YthclpkhaenaknaaGreatDoorM07
import Derived.Shelf.Abstract

/- pb.Clause. -/
namespace Go.Proofs.YthclpkhaenaknaaGreatDoor
open Go.RowKit

theorem made_row (z : Value) (n : Nat) : madeCells #[z] n = (List.replicate n z).toArray := by
  apply Array.ext
  · simp [size_madeCells]
  · intro i h1 h2
    simp [madeCells, Nat.mod_one]

def oneCells (N k : Nat) : List Value := List.replicate k (Value.int .i64 1) ++ List.replicate (N - k) (Value.int .i64 0)

theorem oneCells_set {N k : Nat} (hk : k < N) : (oneCells N k).set k (.int .i64 1) = oneCells N (k + 1) := by
  unfold oneCells
  rw [List.set_append_right _ _ (by simp)]
  obtain ⟨m, hm⟩ : ∃ m, N - k = m + 1 := ⟨N - k - 1, by omega⟩
  rw [hm, show N - (k + 1) = m by omega, List.length_replicate, Nat.sub_self, List.replicate_succ, List.set_cons_zero, List.replicate_succ', List.append_assoc]
  rfl

def OneSt (W : World) (N k : Nat) (wx : World) : Prop := Below W.heap.size W wx ∧ Blk wx W.heap.size (oneCells N k) 3

def OneRel (W : World) (N : Nat) (i : Value) (wx : World) : Prop := ∃ k : Nat, k ≤ N ∧ i = .int .i64 k ∧ OneSt W N k wx

theorem OneSt.start (W : World) (N : Nat) : OneSt W N 0 (W.alloc (.cells (madeCells #[.int .i64 0] N) 3)) := by
  refine ⟨bal (Below.refl _ _) _, ?_⟩
  have := Blk.new W (List.replicate N (Value.int .i64 0)) 3
  rw [← made_row] at this
  simpa [oneCells] using this

theorem OneSt.step {W wx : World} {N k : Nat} (h : OneSt W N k wx) (hk : k < N) : OneSt W N (k + 1) (wx.setCell ⟨W.heap.size, k, none⟩ (.int .i64 1)) := by
  refine ⟨h.1.setCell (p := ⟨W.heap.size, k, none⟩) (Nat.le_refl _) _, ?_⟩
  have := h.2.set k (.int .i64 1)
  rwa [oneCells_set hk] at this

theorem OneSt.end {W wx : World} {N : Nat} (h : OneSt W N N wx) (hN : N * 8 ≤ 140737488351232) : Ints wx (.slice (some ⟨W.heap.size, 0, none⟩) N N) (ones N) := by
  have h2 := h.2
  have e : oneCells N N = (ones N).map (Value.int .i64) := by simp [oneCells, ones]
  rw [e] at h2
  have hl : (ones N).length = N := by simp [ones]
  have := h2.ints (fitI fun x hx => by obtain rfl := List.eq_of_mem_replicate hx; unfold InI; omega) (by rw [hl]; exact hN)
  rwa [hl] at this

theorem setL_len (l : List Int) : (setL l).length ≤ l.length := by
  have h1 := Lib.compact_length_le (srt l)
  rw [compact_set, sortI_len] at h1
  exact h1

set_option maxHeartbeats 4000000 in
set_option maxRecDepth 100000 in
theorem clause_any (v : Value) (l : List Int) (w : World) (h : Ints w v l) :
    Calls Tryz.prog 21 #[v] w fun e w' => ∃ vp, e = .returned (.tuple #[vp, .int .i64 (clauseP l).2]) ∧ PBQ w.heap.size w' vp (clauseP l).1 ∧ Below w.heap.size w w' := by
  have h0 := h
  obtain ⟨a1, c1, rfl, -, hl1, -, -⟩ := h.form
  have h8 : l.length * 8 ≤ 140737488351232 := by obtain ⟨⟨_, _, _, _, _, h, _⟩, _⟩ := h0; exact h
  have hN := setL_len l
  have hal0 := bal (Below.refl w.heap.size w) (.cells #[.slice none 0 0, .slice none 0 0, .int .i64 0] 30)
  have HAL := Lib.hid hal0
  have HB0 := Lib.hid (Blk.new w pbZ 30)
  have HI := Lib.hid (h0.below hal0)
  have hz0 : (w.alloc (.cells #[.slice none 0 0, .slice none 0 0, .int .i64 0] 30)).heap.size = w.heap.size + 1 := by simp
  have HZ0 := Lib.hid hz0
  clear hal0 h h0 hz0
  have hmk : ∀ w : World, (Instr.makeSlice 23 (.int .i64 ((setL l).length : Int)) (.int .i64 ((setL l).length : Int))).run Tryz.prog w = .ok (.slice (some ⟨w.heap.size, 0, none⟩) (setL l).length (setL l).length) (w.alloc (.cells (madeCells #[.int .i64 0] (setL l).length) 3)) := fun w => run_make_row' _ _ _ _ Tryz.underlying23 infoI rfl .i64 .i64 (setL l).length (by omega) (by omega) w
  go_enter Tryz.func21, Tryz.ntmps21
  go_upto_region 1 with fail
  generalize w.alloc (.cells #[.slice none 0 0, .slice none 0 0, .int .i64 0] 30) = W0 at *
  go_upto_region 4 with (first
    | (go_at_call 54; (with_reducible refine (compactI_own HO.out).mono ?_); rintro e w3 ⟨a3, c3, rfl, hi3, hg3⟩; rw [compact_set] at hi3 ⊢; have HI3 := Lib.hid hi3; have HB3 := Lib.hid (HB2.out.grown hg3 (by have := HB2.out.size; omega) (fun g e => by have := (HO.out.1.1.2); rcases this with ⟨e2, _⟩ | ⟨g', cap, cur, e2, hb, _⟩; (rw [e2] at e; cases e); (rw [e2] at e; simp only [Value.ownBlock, Option.some.injEq] at e; omega))); clear hi3 hg3)
    | (go_at_call 55; (with_reducible refine (sorted_any l W0 _ _ W0.heap.size HI.out HB1.out HK1.out).mono ?_); rintro e w2 ⟨vo, rfl, ho, hb2⟩; have HO := Lib.hid ho; have HB2 := Lib.hid (HB1.out.trans (hb2.mono hz1)); have hz2 := hb2.size; clear ho hb2)
    | (go_at_call 56; (with_reducible refine (values_any _ _ _ _).mono ?_); rintro e w1 ⟨rfl, hb1, hk1, hs1⟩; have HB1 := Lib.hid hb1; have HK1 := Lib.hid hk1; have hz1 := hb1.size; clear hb1 hk1 hs1))
  have HBW := Lib.hid (HAL.out.trans (HB3.out.mono HAL.out.size))
  have HBX := Lib.hid (HB0.out.same (HB3.out.block _ (by have := HZ0.out; omega)))
  have HST := Lib.hid (OneSt.start w3 (setL l).length)
  have HZ3 : Hid (w.heap.size + 1 ≤ w3.heap.size) := Lib.hid (by have := HB3.out.size; have := HZ0.out; omega)
  clear hmk hz1 hz2
  go_loopw [15] (fun i wx => OneRel w3 (setL l).length i wx) (fun i _ => (setL l).length - (intOf i).toNat)
  case atStart => exact ⟨0, Nat.zero_le _, rfl, HST.out⟩
  case round =>
    obtain ⟨k, hk, rfl, hst⟩ := hrel
    have HSK := Lib.hid hst
    by_cases hlt : k < (setL l).length
    · have kc := hst.2.cell k
      have kf := hst.2.free k
      have hg : (oneCells (setL l).length k)[k]? = some (.int .i64 0) := by
        unfold oneCells
        rw [List.getElem?_append_right (by simp), List.length_replicate, Nat.sub_self, List.getElem?_replicate, if_pos (by omega)]
      rw [hg] at kc
      have HN := Lib.hid (hst.step hlt)
      clear hst hg
      go_wp2
      first
        | (go_roundw
           case rel => (exact ⟨k + 1, hlt, by go_num, HN.out⟩)
           case measure => (simp [intOf]; omega))
        | (refine ⟨?_, ?_⟩
           · (exact ⟨k + 1, hlt, by go_num, HN.out⟩)
           · (simp [intOf]; omega))
    · obtain rfl : k = (setL l).length := by omega
      have HON := Lib.hid (hst.end (by omega))
      have HLI := Lib.hid (HI3.out.below hst.1)
      have HBR := Lib.hid (HBW.out.trans (hst.1.mono (by have := HZ3.out; omega)))
      have HBB := Lib.hid (HBX.out.same (hst.1.block _ (by have := HZ3.out; omega)))
      have hzr : w.heap.size + 1 ≤ wr.heap.size := by have := HZ3.out; have := hst.1.size; omega
      have HZR := Lib.hid hzr
      clear hst hzr
      go_wp2_with (go_at_call 57; (with_reducible refine (norm_any _ _ (setL l) (ones (setL l).length) 1 wr HLI.out HON.out (by unfold InI; omega)).mono ?_); rintro e w4 ⟨vp, rfl, ⟨vl, vk, rfl, hq1, hq2, hq3⟩, hb4⟩; obtain ⟨al, nl, cl, rfl⟩ := hq1.form; obtain ⟨ak, nk, ck, rfl⟩ := hq2.form; have HQ1 := Lib.hid hq1; have HQ2 := Lib.hid hq2; have HQ3 := Lib.hid hq3; have HB4 := Lib.hid (HBR.out.trans (hb4.mono (by have := HZR.out; omega))); have hbb := HBB.out.below hb4; have kx := hbb.cell; have kf := hbb.free; clear hq1 hq2 hq3 hb4 hbb)
      refine bodyPost_ret (v := .tuple #[.agg #[.slice al nl cl, .slice ak nk ck, .int .i64 (clauseP l).1.bound], .int .i64 (clauseP l).2]) ?_ rfl ⟨_, rfl, ?_, below3 HB4.out _ (Nat.le_refl _) _ _ _⟩
      · unfold clauseP
        simp [results, Tryz.f21, go_sem, *]
      · have hzr := HZR.out
        exact ⟨_, _, rfl, (row3 HQ1.out w.heap.size (by omega) _ _ _).mono (by omega), (row3 HQ2.out w.heap.size (by omega) _ _ _).mono (by omega), HQ3.out⟩

end Go.Proofs.YthclpkhaenaknaaGreatDoor

/- A region that draws its order, in the body of a range over a function: what holds of it outside a round holds within. -/
namespace Go.Proofs.YthclpkhaenaknaaGreatDoor
open Go.RowKit

section
variable {P : Program} {ops : Array Oper} {Q : Exit → Act → World → Prop} {md : Region.Mode} {n : Nat}

theorem rows_wide {row : String} {args : Array Value} {w : World} {R : Value → World → Prop} (h : _root_.Go.Rows P row args w R) : RowsIn Fence.wide n P row args w R :=
  fun c cs _ => let ⟨v, w', r, s⟩ := h c cs; ⟨v, w', r, stepsIn_wide.2 s⟩

theorem oper_wide {o : Oper} (hd : noDefer o = true) {a : Act} {w : World} {K : Act → World → Prop} (h : o.wp P a w K Q) : o.wpIn Fence.wide n P a w K Q := by
  refine ⟨fun _ _ => trivial, ?_⟩
  rw [Oper.semAt_eq _ _ _ (noDefer_ne hd)]
  unfold Oper.wp at h
  generalize (execOp a.eval o).run P w = r at *
  cases r with
  | ok x w' =>
    cases x <;> simp only [Oper.upon] at h <;> simp only [Oper.uponIn]
    case value => exact h
    case skip => exact h
    case defer => exact h
    case enter => exact ⟨fun e => (Bool.noConfusion (show false = true from e)), callsIn_wide.2 h⟩
    case row => exact ⟨fun e => (Bool.noConfusion (show false = true from e)), rows_wide h⟩
    all_goals exact h.elim
  | halt x w' =>
    cases x <;> simp only [Oper.upon] at h <;> simp only [Oper.uponIn]
    case panic => exact h
    all_goals exact h.elim

theorem any_wide (hd : ops.all noDefer = true) (hQ : ¬ LetsOut Q) : ∀ (fuel : Nat) (listed : Array Bool) (a : Act) (w : World), wpAny P md ops Q fuel listed a w → wpAnyIn Fence.wide n P md ops Q fuel listed a w
  | 0, _, _, _, h => h
  | fuel + 1, listed, a, w, h => by
    refine ⟨h.1, fun i hi => ?_⟩
    have h2 := h.2 i hi
    unfold wpOp at h2
    unfold wpOpIn
    cases ho : ops[i]? with
    | none =>
      simp only [ho] at h2 ⊢
      exact any_wide hd hQ fuel _ _ _ h2
    | some o =>
      simp only [ho] at h2 ⊢
      have hdo : noDefer o = true := by
        obtain ⟨hi, rfl⟩ := Array.getElem?_eq_some_iff.1 ho
        exact (Array.all_eq_true.1 hd) i hi
      split at h2
      · rename_i hw
        rw [if_pos hw]
        exact Oper.wpIn_mono (fun a w h => any_wide hd hQ fuel _ a w h) (oper_wide hdo (h2.resolve_right fun h3 => hQ h3.2))
      · rename_i hw
        rw [if_neg hw]
        exact ⟨fun _ _ => trivial, any_wide hd hQ fuel _ _ _ h2⟩

/-- The tail's law in a round. -/
theorem wp_region_tailR {id r : Nat} {a : Act} {w : World} {l : List Oper} (k : Nat) (C' : World → Prop) (Φ : Nat → List Value → Value → Nat → Nat → World → Prop) (ism : Nat → Bool) (hm : P.follows .mixedOrders = true) (hd : l.toArray.all noDefer = true) (hB : chk l.toArray (masks l) = true) (hT : chkTail l (masks l) k ism = true)
    (hC : ∀ w', Below w.heap.size w w' → C' w')
    (hΦ : ∀ i args v lo hi w w', Φ i args v lo hi w → Below w.heap.size w w' → Φ i args v lo hi w')
    (h : walkP P l.toArray w (fun i w' => if lateB l (dm (masks l)) k i then C' w' else ∃ e : Ext w, w' = e.world) Φ ism (dm (masks l)) (tailW P l.toArray C' (fun e a w => e = .normal ∧ Q e a w) (l.drop k)) (l.take k) 0 a [] []) :
    (Code.region id l.toArray true).wpIn (Fence.wide.inRound r) n P Q a w := by
  have hNL : ¬ LetsOut (fun e a w => e = .normal ∧ Q e a w) := by
    intro h
    obtain ⟨_, _, h, _⟩ := h
    cases h
  refine Code.wpIn_mono (Q := fun e a w => e = .normal ∧ Q e a w) (fun e a w h => h.2) ?_
  refine wpIn_region_draw fun t => ops_inRound r rfl hd _ _ _ ?_
  simp only [Region.schedule, hm, Bool.true_or, if_true]
  refine wpAnyIn_sound _ t _ a _ (any_wide hd hNL _ _ _ _ ?_)
  refine any_tail (masks l) k C' Φ ism hB hT hC hΦ ?_
  refine walkP_cl (fun i w' hw' => ?_) _ 0 a [] [] h
  split at hw'
  · rename_i hl; rw [if_pos hl]; exact hw'
  · rename_i hl; rw [if_neg hl]; exact ⟨⟨w', hw'⟩, rfl⟩
end

end Go.Proofs.YthclpkhaenaknaaGreatDoor

/- 'append(v, x...)' of a whole slice of ints to a row of the call's own. -/
namespace Go.Proofs.YthclpkhaenaknaaGreatDoor
open Go.RowKit


theorem map_ix (m : List Int) (j : Nat) (hj : j < m.length) : (m.map (Value.int .i64))[j]? = some (.int .i64 (ix m j)) := by
  simp [ix, List.getD_eq_getElem?_getD, List.getElem?_eq_getElem hj]

theorem Ints.src {w : World} {x : Value} {m : List Int} (h : Ints w x m) : _root_.Go.Src Tryz.prog 1 23 x m.length (m.map (Value.int .i64)) w := by
  obtain ⟨a, c, rfl, -, -, -, hc⟩ := h.form
  cases m with
  | nil =>
    cases a with
    | none => exact _root_.Go.Src.ofNil w Tryz.underlying23 c
    | some a => exact _root_.Go.Src.ofSlice w Tryz.underlying23 a 0 c [] (by simp) (fun j u hu => by simp at hu) (fun u hu => by simp at hu)
  | cons y m =>
    obtain ⟨b, off, rfl, -, hcc⟩ := hc (by simp)
    refine _root_.Go.Src.ofSlice w Tryz.underlying23 ⟨b, off, none⟩ _ c ((y :: m).map (Value.int .i64)) (by simp) (fun j u hu => ?_) (fun u hu => ?_)
    · have hj : j < (y :: m).length := by have := (List.getElem?_eq_some_iff.1 hu).1; simpa using this
      have hadd : (⟨b, off, none⟩ : Addr).add j = ⟨b, off + j, none⟩ := by unfold Addr.add; split <;> simp_all
      rw [hadd, hcc j hj, ← hu, map_ix _ j hj]
    · obtain ⟨z, -, rfl⟩ := List.mem_map.1 hu
      simp [Value.oneCell']

theorem ix_app (l m : List Int) (i : Nat) : ix (l ++ m) i = if i < l.length then ix l i else ix m (i - l.length) := by
  split
  · rename_i h; simp [ix, List.getElem?_append_left h]
  · rename_i h; simp [ix, List.getElem?_append_right (Nat.le_of_not_lt h)]

theorem Fits.app {l m : List Int} (h : Fits l) (k : Fits m) : Fits (l ++ m) := fun i => by
  rw [ix_app]; split
  · exact h i
  · exact k _

theorem run_appendQs (base : Nat) (T ty : TypeId) (hT : Tryz.prog.underlying T = some (.slice 3)) (hTT : T = 23) (w : World) (v : Value) (l : List Int) (h : QRow base w v l) (x : Value) (m : List Int) (hx : Ints w x m)
    (hlen : (l.length + m.length) * 8 ≤ 140737488351232) (hbase : base ≤ w.heap.size) :
    ∃ v' w', (Builtin.append_ #[T, T] ty #[v, x]).run Tryz.prog w = .ok v' w' ∧ QRow base w' v' (l ++ m) ∧ w.grownBy w' v.ownBlock ∧ (v'.ownBlock = v.ownBlock ∨ v'.ownBlock = some w.heap.size) := by
  subst hTT
  have hi := infoI
  obtain ⟨i, hi, he⟩ := Option.map_eq_some_iff.1 hi
  simp only [Prod.mk.injEq] at he
  obtain ⟨hz, hs, hby⟩ := he
  have hsrc := hx.src
  have hsrc' : _root_.Go.Src Tryz.prog i.size 23 x m.length (m.map (Value.int .i64)) w := by rw [hs]; exact hsrc
  have hfit := h.1.app hx.2
  have zc : ∀ n, (Builtin.zeroCells (Value.int .i64 0).cells n).size = n := fun n => by simp [Builtin.zeroCells, Value.cells]
  have grow : ∀ (cur : Array Value) (cap : Nat), cur.size = cap → cap ≤ maxLen → l.length + m.length ≤ cap → (∀ i, i < l.length → cur[i]? = some (.int .i64 (ix l i))) → (∀ i, i < m.length → cur[l.length + i]? = some (.int .i64 (ix m i))) →
      QRow base (w.drew.alloc (.cells cur 3)) (.slice (some ⟨w.heap.size, 0, none⟩) (l.length + m.length) cap) (l ++ m) ∧ ∀ row, w.grownBy (w.drew.alloc (.cells cur 3)) row := by
    intro cur cap h1 h2 h3 h4 h5
    refine ⟨⟨hfit, .inr ⟨w.heap.size, 0, cap, cur, by simp, hbase, heap_alloc_new w.drew _, by simpa using h3, h2, by omega, fun j hj => ?_⟩⟩, fun row => ⟨rfl, rfl, rfl, by simp, fun k hk _ => Below.heap_alloc w.drew _ _ hk⟩⟩
    simp only [List.length_append] at hj
    rw [ix_app, Nat.zero_add]
    split
    · rename_i hlt; exact h4 j hlt
    · have := h5 (j - l.length) (by omega)
      rw [show l.length + (j - l.length) = j by omega] at this
      exact this
  have growAt : ∀ (b0 : Option Addr) (cap : Nat) (olds : List Value), (Builtin.firstCells i.size l.length (.slice b0 l.length cap)).run Tryz.prog w.drew = .ok olds.toArray w.drew → olds = (List.range l.length).map (fun i => Value.int .i64 (ix l i)) → cap < l.length + m.length →
      ∃ v' w', (Builtin.append_ #[23, 23] ty #[.slice b0 l.length cap, x]).run Tryz.prog w = .ok v' w' ∧ QRow base w' v' (l ++ m) ∧ (∀ row, w.grownBy w' row) ∧ v'.ownBlock = some w.heap.size := by
    intro b0 cap olds hold holds hlt
    have hr := run_append_grow_src (P := Tryz.prog) w 23 23 ty 3 i _ hT hi hz b0 l.length cap olds hold x m.length _ hsrc' hlt (by omega) (growslice_fits hlt (by rw [hby]; omega))
    have hge := grownCap_ge w (l.length + m.length) cap 3
    have hlo : olds.length = l.length := by rw [holds]; simp
    obtain ⟨q1, q2⟩ := grow ((olds ++ m.map (Value.int .i64)).toArray ++ Builtin.zeroCells (Value.int .i64 0).cells (grownCap w (l.length + m.length) cap 3 - (l.length + m.length))) (grownCap w (l.length + m.length) cap 3)
      (by simp only [Array.size_append, List.size_toArray, List.length_append, List.length_map, hlo, zc]; omega) (grownCap_le_maxLen w (l.length + m.length) cap 3 (by unfold maxLen; omega)) hge
      (fun j hj => by
        rw [Array.getElem?_append_left (by simp; omega), List.getElem?_toArray, List.getElem?_append_left (by omega), holds]
        simp [hj])
      (fun j hj => by
        rw [Array.getElem?_append_left (by simp; omega), List.getElem?_toArray, List.getElem?_append_right (by omega), hlo, Nat.add_sub_cancel_left]
        exact map_ix m j hj)
    exact ⟨_, _, hr, q1, q2, rfl⟩
  rcases h.2 with ⟨rfl, rfl⟩ | ⟨g, off, cap, cur, rfl, hbg, hg, hnc, hcm, hcs, hcell⟩
  · cases m with
    | nil =>
      refine ⟨.slice none 0 0, w, ?_, QRow.nil _ _, ⟨rfl, rfl, rfl, Nat.le_refl _, fun _ _ _ => rfl⟩, .inl rfl⟩
      have h0 : (Builtin.firstCells i.size 0 x).run Tryz.prog w = .ok #[] w := hsrc'.cells
      simp [Builtin.append_, run_underlying hT, sizeOf, typeInfo, hi, hsrc'.len, h0]
    | cons y m =>
      obtain ⟨v', w', h1, h2, h3, h4⟩ := growAt none 0 [] (by exact run_firstCells_none (P := Tryz.prog) w.drew i.size 0 0 0) rfl (by simp)
      exact ⟨v', w', h1, h2, h3 _, .inr h4⟩
  · by_cases hroom : l.length + m.length ≤ cap
    · have hst := run_storeCells_at Tryz.prog g (off + l.length) 3 (m.map (Value.int .i64)) 0 cur w hg (by simp only [List.length_map]; omega) (by simp [Value.oneCell'])
      simp only [Nat.add_zero, List.length_map] at hst
      refine ⟨.slice (some ⟨g, off, none⟩) (l.length + m.length) cap, w.setRow g (cur.toList.take (off + l.length) ++ m.map (Value.int .i64) ++ cur.toList.drop (off + l.length + m.length)).toArray, ?_, ⟨hfit, .inr ⟨g, off, cap, (cur.toList.take (off + l.length) ++ m.map (Value.int .i64) ++ cur.toList.drop (off + l.length + m.length)).toArray, by simp, hbg, setRow_heap w g cur _ 3 _ hg, by simpa using hroom, hcm, ?_, fun j hj => ?_⟩⟩, ⟨rfl, rfl, rfl, by simp, fun k _ hk => setRow_other w g k _ (fun e => hk (by simp [Value.ownBlock, e]))⟩, .inl rfl⟩
      · have hadd : (⟨g, off, none⟩ : Addr).add (l.length * i.size) = ⟨g, off + l.length, none⟩ := by rw [hs]; unfold Addr.add; split <;> simp_all
        simp [Builtin.append_, run_underlying hT, sizeOf, typeInfo, hi, hsrc'.len, hroom, hsrc'.cells, hadd, hst]
      · simp only [List.size_toArray, List.length_append, List.length_take, List.length_drop, Array.length_toList, List.length_map]
        omega
      · simp only [List.length_append] at hj
        rw [ix_app]
        split
        · rename_i hlt
          rw [← hcell j hlt]
          simp only [List.getElem?_toArray, List.append_assoc]
          rw [List.getElem?_append_left (by simp; omega), List.getElem?_take_of_lt (by omega)]
          simp
        · simp only [List.getElem?_toArray, List.append_assoc]
          rw [List.getElem?_append_right (by simp; omega)]
          have : min (off + l.length) cur.size = off + l.length := by omega
          simp only [List.length_take, Array.length_toList, this]
          rw [List.getElem?_append_left (by simp; omega), show off + j - (off + l.length) = j - l.length by omega]
          exact map_ix m _ (by omega)
    · have holds : ∀ j u, ((List.range l.length).map (fun i => Value.int .i64 (ix l i)))[j]? = some u → w.drew.cell? ((⟨g, off, none⟩ : Addr).add j) = some u := by
        intro j u hu
        have hadd : (⟨g, off, none⟩ : Addr).add j = ⟨g, off + j, none⟩ := by unfold Addr.add; split <;> simp_all
        have hj : j < l.length := by
          have := (List.getElem?_eq_some_iff.1 hu).1; simpa using this
        rw [hadd]
        show w.cell? _ = _
        rw [cell_of_row w g (off + j) cur 3 (0, 0) hg, hcell j hj]
        simpa [hj] using hu
      obtain ⟨v', w', h1, h2, h3, h4⟩ := growAt (some ⟨g, off, none⟩) cap _ (run_firstCells_some (P := Tryz.prog) w.drew i.size l.length ⟨g, off, none⟩ l.length cap _ (by rw [hs]; simp) holds) rfl (by omega)
      exact ⟨v', w', h1, h2, h3 _, .inr h4⟩

theorem wpList_appendQs {ops : Array Oper} {rest : List Oper} {o : Oper} {a : Act} {w : World} {Q : Exit → Act → World → Prop} (hgd : o.guard = none) (s x : Operand)
    (ho : o.op = .call { callee := .builtin .append, args := #[s, x], argTypes := #[23, 23] }) (base : Nat) (v y : Value) (l m : List Int) (hs : a.eval s = v) (hx : a.eval x = y) (h : QRow base w v l) (hy : Ints w y m)
    (hlen : (l.length + m.length) * 8 ≤ 140737488351232) (hbase : base ≤ w.heap.size)
    (hK : ∀ v' w', QRow base w' v' (l ++ m) → w.grownBy w' v.ownBlock → (v'.ownBlock = v.ownBlock ∨ v'.ownBlock = some w.heap.size) → wpList Tryz.prog ops Q rest (a.put o.dst v') w') : wpList Tryz.prog ops Q (o :: rest) a w :=
  wpList_plain hgd fun _ hK' => by
    obtain ⟨v', w', hr, h2, h3, h4⟩ := run_appendQs base 23 o.type Tryz.underlying23 rfl w v l h y m hy hlen hbase
    unfold Oper.wp execOp
    simp only [ho, resolve, invoke, builtin, Sem.run_bind, Sem.run_pure, Result.andThen_ok, List.map_toArray, List.map_cons, List.map_nil, hs, hx, hr]
    exact hK' _ _ (hK v' w' h2 h3 h4)

/-- An empty slice that a literal has made. -/
theorem QRow.empty {base b : Nat} {w : World} (h : w.heap[b]? = some (.cells #[] 3 (0, 0))) (hb : base ≤ b) : QRow base w (.slice (some ⟨b, 0, none⟩) 0 0) [] :=
  ⟨fun i => by simp [ix], .inr ⟨b, 0, 0, #[], rfl, hb, h, by simp, by unfold maxLen; omega, by simp, fun i hi => by simp at hi⟩⟩

end Go.Proofs.YthclpkhaenaknaaGreatDoor

/- append of a whole slice of ints, inside a fence. -/
namespace Go.Proofs.YthclpkhaenaknaaGreatDoor
open Go.RowKit

theorem wpListIn_appendQs {F : Fence} {n : Nat} {ops : Array Oper} {rest : List Oper} {o : Oper} {a : Act} {w : World} {Q : Exit → Act → World → Prop} (hgd : o.guard = none) (s x : Operand)
    (ho : o.op = .call { callee := .builtin .append, args := #[s, x], argTypes := #[23, 23] }) (base : Nat) (v y : Value) (l m : List Int) (hs : a.eval s = v) (hx : a.eval x = y) (h : QRow base w v l) (hy : Ints w y m)
    (hlen : (l.length + m.length) * 8 ≤ 140737488351232) (hbase : base ≤ w.heap.size)
    (hK : ∀ v' w', QRow base w' v' (l ++ m) → w.grownBy w' v.ownBlock → (v'.ownBlock = v.ownBlock ∨ v'.ownBlock = some w.heap.size) → wpListIn F n Tryz.prog ops Q rest (a.put o.dst v') w') : wpListIn F n Tryz.prog ops Q (o :: rest) a w := by
  refine wpListIn_plain hgd fun K hK' => ?_
  obtain ⟨v', w', hr, h2, h3, h4⟩ := run_appendQs base 23 o.type Tryz.underlying23 rfl w v l h y m hy hlen hbase
  unfold Oper.wpIn
  refine ⟨by simp [Oper.about, ho, resolve, Target.leads, Sem.run_pure], ?_⟩
  rw [Oper.semAt_plain F _ _ (by rw [ho]; intro c hc'; cases hc')]
  simp [execOp, ho, resolve, invoke, builtin, hs, hx, hr, Result.andThen]
  exact hK' _ _ (hK v' w' h2 h3 h4)

end Go.Proofs.YthclpkhaenaknaaGreatDoor

/- loops.Make: what its loop keeps. -/
namespace Go.Proofs.YthclpkhaenaknaaGreatDoor
open Go.RowKit

theorem QRow.ownR {B : Nat} {w w' : World} {v : Value} {l : List Int} {row : Option Nat} (h : QRow B w v l) (hg : w.grownBy w' row) (hr : ∀ r, row = some r → ∃ o : Obj, w.heap[r]? = some o ∧ o.isCells = false) : QRow B w' v l := by
  rcases h.2 with ⟨rfl, e⟩ | ⟨g, off, cap, cur, rfl, hb, hgg, h1, h2, h3, h4⟩
  · exact ⟨h.1, .inl ⟨rfl, e⟩⟩
  · refine h.kept fun i _ hi e => hg.block i hi fun e2 => ?_
    simp only [Value.ownBlock, Option.some.injEq] at e
    subst e
    obtain ⟨o, ho, hc⟩ := hr _ e2.symm
    rw [hgg] at ho
    cases ho
    cases hc

theorem lt_lengthM : ∀ (l : List Int) (a b : Int), l.Pairwise (· < ·) → (∀ x ∈ l, a ≤ x ∧ x < b) → a ≤ b → (l.length : Int) ≤ b - a
  | [], a, b, _, _, h => by simp; omega
  | x :: l, a, b, h1, h2, h => by
    obtain ⟨h3, h4⟩ := List.pairwise_cons.1 h1
    have hx := h2 x (.head _)
    have := lt_lengthM l (x + 1) b h4 (fun y hy => ⟨by have := h3 y hy; omega, (h2 y (.tail _ hy)).2⟩) (by omega)
    simp only [List.length_cons]
    push_cast
    omega

theorem lits_leM {l : List Int} {n : Int} (h : orderedB l n = true) (hn : 0 ≤ n) : (l.length : Int) ≤ 2 * n + 2 := by
  have hp : (l.map litKey).Pairwise (· < ·) := by
    rw [List.pairwise_iff_getElem]
    intro i j hi hj hij
    simp only [List.length_map] at hi hj
    have := ordered_lt h j hj i hij
    simpa [ix, List.getD_eq_getElem?_getD, List.getElem?_eq_getElem hi, List.getElem?_eq_getElem hj] using this
  have := lt_lengthM (l.map litKey) 0 (2 * n + 2) hp (fun x hx => by
    obtain ⟨y, hy, rfl⟩ := List.mem_map.1 hx
    have := ordered_lit h hy
    unfold litKey
    split <;> omega) (by omega)
  simpa using this

theorem reasP_len (u : SU) (a : List Int) : (reasP u a).length ≤ u.r.body.length + 1 := by
  unfold reasP
  split
  · simp
  · split
    · simp
    · have h2 : (reas2 u a).length ≤ u.r.body.length + 1 := by
        unfold reas2
        split
        · simp
        · have := List.length_filter_le (fun l => !(intB u.S l || !offB a l)) u.r.body
          omega
      unfold reas1
      split
      · exact h2
      · split
        · simp
        · exact h2

/-- What the loop of Make keeps: the literals lie in the box behind w1's first new block. -/
def MkI (a : List Int) (x0 : Int) (w1 : World) (n6 : Nat) (sl : List SU) (W : World) : Prop :=
  ∃ v, Blk W (w1.heap.size + 1) [v] 23 ∧ QRow w1.heap.size W v ([x0] ++ reasAll a sl) ∧ Below w1.heap.size w1 W ∧ ([x0] ++ reasAll a sl).length ≤ 1 + 8003 * sl.length ∧ (∀ g, v.ownBlock = some g → g = w1.heap.size ∨ n6 ≤ g) ∧ n6 ≤ W.heap.size

theorem MkI.ownR {B n6 : Nat} {a : List Int} {x0 : Int} {w1 : World} (hB : w1.heap.size ≤ B) {wi : World} : OwnFrom B (fun (pre : List (SupW wi)) W => MkI a x0 w1 n6 (suw pre) W) := fun pre X Y row hs hg hrow => by
  have hr : ∀ r, row = some r → ∃ o : Obj, X.heap[r]? = some o ∧ o.isCells = false := fun r e => (hrow r e).2
  obtain ⟨v, h1, h2, h3, h4, h5, h6⟩ := hs
  exact ⟨v, blk_own _ _ _ () X Y row h1 hg hr, h2.ownR hg hr, h3.grown hg h3.size (fun k e => by have := (hrow k e).1; omega), h4, h5, Nat.le_trans h6 hg.size⟩

theorem MkI.on {n6 : Nat} {a : List Int} {x0 : Int} {w1 W W' : World} {sl : List SU} (h : MkI a x0 w1 n6 sl W) (hb : Below W.heap.size W W') : MkI a x0 w1 n6 sl W' :=
  let ⟨v, h1, h2, h3, h4, h5, h6⟩ := h; ⟨v, h1.below hb, h2.below hb, h3.trans (hb.mono h3.size), h4, h5, Nat.le_trans h6 hb.size⟩

theorem MkI.start {a : List Int} {x0 : Int} {w1 W6 : World} (hx : InI x0) (hb6 : Below (w1.heap.size + 1 + 1) ((w1.alloc (.cells #[.int .i64 x0] 3)).alloc (.cells #[.slice (some ⟨w1.heap.size, 0, none⟩) 1 1] 23)) W6) : MkI a x0 w1 W6.heap.size [] W6 := by
  have hb := (Blk.new w1 [.int .i64 x0] 3).alloc (.cells #[.slice (some ⟨w1.heap.size, 0, none⟩) 1 1] 23)
  have hz : ((w1.alloc (.cells #[.int .i64 x0] 3)).alloc (.cells #[.slice (some ⟨w1.heap.size, 0, none⟩) 1 1] 23)).heap.size = w1.heap.size + 1 + 1 := by simp
  rw [← hz] at hb6
  refine ⟨_, (Blk.new2 w1 _ [_] _).below hb6, QRow.below ⟨fitI fun x h => by obtain rfl := List.mem_singleton.1 (by simpa [reasAll] using h); exact hx, .inr ⟨w1.heap.size, 0, 1, _, by simp [reasAll], Nat.le_refl _, hb, by simp [reasAll], by unfold maxLen; omega, by simp, fun i hi => ?_⟩⟩ hb6, (bal (bal (Below.refl _ _) _) _).trans (hb6.mono (by omega)), by simp [reasAll], fun g e => .inl ?_, Nat.le_refl _⟩
  · simp [reasAll] at hi
    subst hi
    rfl
  · simpa [Value.ownBlock] using e.symm

def mkΦ (l : List Int) : Nat → List Value → Value → Nat → Nat → World → Prop := fun _ _ v _ _ w => Ints w v l ∧ ∃ a n c, v = .slice a n c

theorem mkΦ_later (l : List Int) : ∀ i args v lo hi w w', mkΦ l i args v lo hi w → Below w.heap.size w w' → mkΦ l i args v lo hi w' :=
  fun _ _ _ _ _ _ _ h hb => ⟨h.1.below hb, h.2⟩

/-- append of a whole slice, at the operation. -/
theorem wp_appendM {o : Oper} {a : Act} {w : World} {K : Act → World → Prop} {Q : Exit → Act → World → Prop} (s x : Operand)
    (ho : o.op = .call { callee := .builtin .append, args := #[s, x], argTypes := #[23, 23] }) (base : Nat) (v y : Value) (l m : List Int) (hs : a.eval s = v) (hx : a.eval x = y) (h : QRow base w v l) (hy : Ints w y m)
    (hlen : (l.length + m.length) * 8 ≤ 140737488351232) (hbase : base ≤ w.heap.size)
    (hK : ∀ v' w', QRow base w' v' (l ++ m) → w.grownBy w' v.ownBlock → (v'.ownBlock = v.ownBlock ∨ v'.ownBlock = some w.heap.size) → K (a.put o.dst v') w') : o.wp Tryz.prog a w K Q := by
  obtain ⟨v', w', hr, h2, h3, h4⟩ := run_appendQs base 23 o.type Tryz.underlying23 rfl w v l h y m hy hlen hbase
  unfold Oper.wp execOp
  simp only [ho, resolve, invoke, builtin, Sem.run_bind, Sem.run_pure, Result.andThen_ok, List.map_toArray, List.map_cons, List.map_nil, hs, hx, hr]
  exact hK v' w' h2 h3 h4

theorem keeps_row {B base : Nat} {W W' : World} {v : Value} {l : List Int} (hq : QRow base W v l) (hg : W.grownBy W' v.ownBlock) : KeepsFrom B W W' :=
  ⟨hg.size, fun k o _ hk hc => (hg.block k (Array.getElem?_eq_some_iff.1 hk).1 (fun e => by
    rcases hq.2 with ⟨rfl, _⟩ | ⟨g, off, cap, cur, rfl, _, hgg, _⟩
    · cases e
    · obtain rfl : k = g := Option.some.inj e
      rw [hgg] at hk
      cases hk
      cases hc)).trans hk⟩

/-- Behind the append and the store. -/
theorem MkI.push {a : List Int} {x0 : Int} {w1 W2 W3 : World} {n6 : Nat} {sl : List SU} {u : SU} {v v' : Value} (hb : Blk W2 (w1.heap.size + 1) [v] 23) (hq : QRow w1.heap.size W2 v ([x0] ++ reasAll a sl)) (hB : Below w1.heap.size w1 W2) (hlen : ([x0] ++ reasAll a sl).length ≤ 1 + 8003 * sl.length) (hown : ∀ g, v.ownBlock = some g → g = w1.heap.size ∨ n6 ≤ g) (hn : n6 ≤ W2.heap.size)
    (hu : u.r.body.length ≤ 8002) (hq3 : QRow w1.heap.size W3 v' (([x0] ++ reasAll a sl) ++ reasP u a)) (hg : W2.grownBy W3 v.ownBlock) (ho : v'.ownBlock = v.ownBlock ∨ v'.ownBlock = some W2.heap.size) :
    Blk W3 (w1.heap.size + 1) [v] 23 ∧ MkI a x0 w1 n6 (sl ++ [u]) (W3.setCell ⟨w1.heap.size + 1, 0, none⟩ v') ∧ Lim n6 [w1.heap.size, w1.heap.size + 1] W2 (W3.setCell ⟨w1.heap.size + 1, 0, none⟩ v') ∧ KeepsFrom n6 W2 (W3.setCell ⟨w1.heap.size + 1, 0, none⟩ v') := by
  have hb3 : Blk W3 (w1.heap.size + 1) [v] 23 := hb.same (hg.block _ hb.lt (fun e => (hq.far hb (by decide)) e.symm))
  refine ⟨hb3, ⟨v', by simpa using hb3.set 0 v', ?_, (hB.grown hg hB.size (fun k e => (hq.base e).1)).setCell (p := ⟨w1.heap.size + 1, 0, none⟩) (by show w1.heap.size ≤ w1.heap.size + 1; omega) _, ?_, fun g e => ?_, by rw [size_set]; exact Nat.le_trans hn hg.size⟩, ?_, (keeps_row hq hg).trans ((KeepsOthers.setCell _ _ _).from _)⟩
  · rw [reasAll_snoc, ← List.append_assoc]
    have hne : v'.ownBlock ≠ some (w1.heap.size + 1) := hq3.far hb3 (by decide)
    exact hq3.kept fun i _ _ e => Below.heap_setCell _ _ _ _ (fun e2 => hne (by rw [e, e2]))
  · rw [reasAll_snoc]
    have := reasP_len u a
    simp only [List.length_append, List.length_cons, List.length_nil] at *
    omega
  · rcases ho with h | h
    · exact hown g (h ▸ e)
    · rw [h] at e
      have := Option.some.inj e
      exact .inr (by omega)
  · refine Lim.trans ⟨hg.os, hg.tape, hg.output, hg.size, fun k hk hs => hg.block k (by omega) (fun e => ?_)⟩ (Lim.setCell _ (.inl (by simp)))
    simp only [List.mem_cons, List.not_mem_nil, or_false, not_or] at hs
    have := hown k e.symm
    omega

end Go.Proofs.YthclpkhaenaknaaGreatDoor

/- loops.Make. -/
namespace Go.Proofs.YthclpkhaenaknaaGreatDoor
open Go.RowKit Go.Shelf
attribute [local go_sem] Oper.semAt_some

set_option maxHeartbeats 4000000 in
set_option maxRecDepth 100000 in
theorem make_any (vp va vset : Value) (p : GP) (a S : List Int) (u : Int) (w : World) (hP : ProgIs w vp p) (hA : Bytes8 w va a) (hS : Ints w vset S) (hu : InI u) :
    Calls Tryz.prog 10 #[vp, va, vset, .int .i64 u] w fun e w' => ∃ vc, e = .returned (.tuple #[vc, .int .i64 (makeP p a S u).2]) ∧ PBQ w.heap.size w' vc (makeP p a S u).1 ∧ Below w.heap.size w w' := by
  have hP0 := hP
  obtain ⟨vn, vs, vr, vm, rfl, hPS⟩ := hP
  obtain ⟨a1, c1, rfl, -, hl1, -, -⟩ := hPS.rules.form
  obtain ⟨a4, c4, rfl, -, hl4, -, -⟩ := hS.form
  obtain ⟨a9, n9, c9, rfl⟩ : ∃ a9 n9 c9, va = .slice a9 n9 c9 := by obtain ⟨⟨x, y, e, -⟩, -⟩ := hA; exact ⟨_, _, _, e⟩
  have bP := ((Blk.new w [.int .i64 p.n, vn, vs, .slice a1 p.rules.length c1, vm] 27).alloc (.cells #[.slice a9 n9 c9] 28)).alloc (.cells #[.slice none 0 0, .slice none 0 0, .int .i64 0] 30)
  have bA := (Blk.new2 w (.cells #[.int .i64 p.n, vn, vs, .slice a1 p.rules.length c1, vm] 27) [.slice a9 n9 c9] 28).alloc (.cells #[.slice none 0 0, .slice none 0 0, .int .i64 0] 30)
  have bZ := Blk.new ((w.alloc (.cells #[.int .i64 p.n, vn, vs, .slice a1 p.rules.length c1, vm] 27)).alloc (.cells #[.slice a9 n9 c9] 28)) pbZ 30
  have hal : Below w.heap.size w (((w.alloc (.cells #[.int .i64 p.n, vn, vs, .slice a1 p.rules.length c1, vm] 27)).alloc (.cells #[.slice a9 n9 c9] 28)).alloc (.cells #[.slice none 0 0, .slice none 0 0, .int .i64 0] 30)) := bal (bal (bal (Below.refl _ _) _) _) _
  simp only [World.size_alloc] at bZ
  have HP := Lib.hid (hP0.below hal)
  have HA := Lib.hid (hA.below hal)
  have HS := Lib.hid (hS.below hal)
  have HAL := Lib.hid hal
  have BP := Lib.hid bP
  have BA := Lib.hid bA
  have BZ := Lib.hid bZ
  clear hP0 hPS hA hS hal bP bA bZ
  unfold InI at hu
  refine (callsIn_wide (n := 6)).1 ?_
  refine callsIn_of_wp_marks Tryz.func10 rfl trivial ?_ rfl
  simp only [Tryz.ntmps10, List.size_toArray, List.length_cons, List.length_nil, Nat.reduceAdd, Nat.reduceSub, Array.replicate_succ, Array.replicate_zero, List.push_toArray, List.append_toArray, List.nil_append, List.cons_append]
  gi_upto_region 1 with fail
  have kP := BP.out.cell
  have kA := BA.out.cell
  have kZ := BZ.out.cell
  generalize ((w.alloc (.cells #[.int .i64 p.n, vn, vs, .slice a1 p.rules.length c1, vm] 27)).alloc (.cells #[.slice a9 n9 c9] 28)).alloc (.cells #[.slice none 0 0, .slice none 0 0, .int .i64 0] 30) = W3 at *
  cases hun : unfB p a S with
  | false =>
    have HUN := Lib.hid hun
    have HF : Hid (makeP p a S u = (⟨[], [], 0⟩, 2)) := Lib.hid (by unfold makeP; rw [hun]; rfl)
    clear hun
    gi_upto_region 2 with (first | (refine ⟨trivial, ?_⟩; gi_at_call 12; refine (callsIn_wide.2 (unfounded_any _ _ _ p a S W3 HP.out HA.out HS.out)).mono ?_; rintro e w1 ⟨e1, hb1⟩; rw [HUN.out] at e1; subst e1; have HB1 := Lib.hid hb1; clear hb1) | refine ⟨trivial, ?_⟩)
    have kZ1 := (BZ.out.below HB1.out).cell
    have kf1 := (BZ.out.below HB1.out).free
    gi_wp2
    refine ⟨.tuple #[.agg #[.slice none 0 0, .slice none 0 0, .int .i64 0], .int .i64 2], by simp [results, Tryz.f10, go_sem, *], ?_⟩
    have hzZ := BZ.out.lt
    exact ⟨_, by rw [HF.out], by rw [HF.out]; exact ⟨_, _, rfl, QRow.nil _ _, QRow.nil _ _, show InI (0 : Int) from (by unfold InI; omega), Nat.zero_le _, Nat.zero_le _⟩, below3 (bon HAL.out HB1.out) _ (by omega) _ _ _⟩
  | true =>
    by_cases hus : u ∈ S
    · have HUN := Lib.hid hun
      have HUS : Hid (decide (u ∈ S) = true) := Lib.hid (decide_eq_true hus)
      have hv : validE p = 0 ∧ setB' p.n S = true := by
        unfold unfB at hun
        simp only [Bool.and_eq_true, decide_eq_true_eq] at hun
        exact ⟨hun.1, hun.2.1⟩
      have hu2 : 1 ≤ u ∧ u ≤ p.n := by
        obtain ⟨k, hk, e⟩ := mem_ix_iff.1 hus
        have h1 := hv.2
        unfold setB' at h1
        rw [Bool.and_eq_true] at h1
        have := allR_get h1.1 k hk
        unfold setTo at this
        simp only [Bool.and_eq_true, decide_eq_true_eq] at this
        rw [← e]; exact this.1
      have hV := validP hv.1
      have hn := hV.n
      have hr := hV.rules
      have HOK : Hid (∀ k, k < p.rules.length → SUok2 (supAt p S k)) := Lib.hid (fun k hk => ⟨supAt_ok hv.1 S hk, by have := lits_leM (hV.body k hk) hn.1; show (ixR p.rules k).body.length ≤ 8002; omega⟩)
      have HF : Hid (makeP p a S u = clauseP ([-u] ++ reasAll a (supsTo p S p.rules.length))) := Lib.hid (by unfold makeP; rw [hun, decide_eq_true hus]; rfl)
      clear hun hus hv hV
      gi_upto_region 4 with (first | (refine ⟨trivial, ?_⟩; gi_at_call 12; refine (callsIn_wide.2 (unfounded_any _ _ _ p a S W3 HP.out HA.out HS.out)).mono ?_; rintro e w1 ⟨e1, hb1⟩; rw [HUN.out] at e1; subst e1; have HB1 := Lib.hid hb1; clear hb1) | (refine ⟨trivial, ?_⟩; gi_at_call 28; refine (callsIn_wide.2 (contains_any _ S u _ (HS.out.below HB1.out))).mono ?_; rintro e w2 ⟨e2, rfl⟩; rw [HUS.out] at e2; subst e2))
      have hz5 : ((w1.alloc (.cells #[.int .i64 (-u)] 3)).alloc (.cells #[.slice (some ⟨w1.heap.size, 0, none⟩) 1 1] 23)).heap.size = w1.heap.size + 1 + 1 := by simp
      have HZ5 := Lib.hid hz5
      have hb5 := bal (bal HB1.out (.cells #[.int .i64 (-u)] 3)) (.cells #[.slice (some ⟨w1.heap.size, 0, none⟩) 1 1] 23)
      have HB5 := Lib.hid hb5
      have kP5 := (BP.out.below hb5).cell
      have HM5 : Hid (∀ W6, Below (w1.heap.size + 1 + 1) ((w1.alloc (.cells #[.int .i64 (-u)] 3)).alloc (.cells #[.slice (some ⟨w1.heap.size, 0, none⟩) 1 1] 23)) W6 → MkI a (-u) w1 W6.heap.size [] W6) := Lib.hid (fun W6 h => MkI.start (by unfold InI; omega) h)
      clear hz5 hb5
      generalize (w1.alloc (.cells #[.int .i64 (-u)] 3)).alloc (.cells #[.slice (some ⟨w1.heap.size, 0, none⟩) 1 1] 23) = W5 at *
      gi_wp2_with (refine ⟨trivial, ?_⟩; gi_at_call 29; refine (callsIn_wide.2 (supports_any _ _ _ _ _ _ _ _ _ _ _)).mono ?_; rintro e w6 ⟨rfl, hb6, hp6, hs6⟩)
      have HB6 := Lib.hid (bon HB5.out hb6)
      have hsz1 := HB1.out.size
      have hsz5 : w1.heap.size + 2 ≤ W5.heap.size ∧ W5.heap.size ≤ w1.heap.size + 2 := by have := HZ5.out; omega
      have hsz6 := hb6.size
      have hz6 := hs6.lt
      have BA6 := Lib.hid ((BA.out.below HB5.out).below hb6)
      have BZ6 := Lib.hid ((BZ.out.below HB5.out).below hb6)
      have HA6 := Lib.hid (HA.out.below HB6.out)
      have hzA := BA.out.lt
      have hzZ := BZ.out.lt
      have hMI : MkI a (-u) w1 w6.heap.size [] w6 := HM5.out w6 (hb6.mono (by omega))
      have HBw1 := Lib.hid (HB1.out)
      clear kA kZ kP kP5 HM5
      refine wpIn_rangeFunc_ownH rfl (by omega) (gf := 67) (lb := #[.pointer (some ⟨W5.heap.size, 0, none⟩), .pointer (some ⟨W5.heap.size + 1, 0, none⟩)]) rfl trivial (enters_of Tryz.func67 (by kernel_rfl) rfl)
        (sups_stopsR p S W3 w6 vn vs (.slice a1 p.rules.length c1) vm (.slice a4 S.length c4) HP.out HS.out [w1.heap.size, w1.heap.size + 1] _ _ ⟨HB6.out, hp6, hs6⟩ (fun i hi => by simp only [List.mem_cons, List.not_mem_nil, or_false] at hi; omega) ⟨by simp only [List.mem_cons, List.not_mem_nil, or_false]; omega, by simp only [List.mem_cons, List.not_mem_nil, or_false]; omega⟩ HOK.out 5 (by omega))
        (fun h k => h.trans k) (fun W l o o' hl h hc hw => .of_below (belowK_b (w := w6) (Nat.le_refl _) W l o o' hl h hc hw) (Nat.le_refl _)) (Below.refl _ _) (fun _ => rfl)
        (fun pre W => MkI a (-u) w1 w6.heap.size (suw pre) W)
        (fun _ _ _ => False)
        (MkI.ownR (by omega))
        (fun _ _ _ _ _ hs _ _ => hs)
        hMI
        (fun x a' W => ∃ Bx vh vb vw vs9, x.1.1 = .agg #[.bool x.1.2.r.choice, vh, .bool x.1.2.r.sum, .int .i64 x.1.2.r.bound, vb, vw, .int .i64 x.1.2.b, vs9] ∧ (∃ a n c, vh = .slice a n c) ∧ (∃ a n c, vb = .slice a n c) ∧ (∃ a n c, vw = .slice a n c) ∧ (∃ a n c, vs9 = .slice a n c) ∧ Blk W Bx [.bool x.1.2.r.choice, vh, .bool x.1.2.r.sum, .int .i64 x.1.2.r.bound, vb, vw, .int .i64 x.1.2.b, vs9] 68 ∧ a' = { tmps := #[.agg #[.int .i64 p.n, vn, vs, .slice a1 p.rules.length c1, vm], .slice a9 n9 c9, .slice a4 S.length c4, .int .i64 u, .pointer (some ⟨w.heap.size, 0, none⟩), .pointer (some ⟨w.heap.size + 1, 0, none⟩), undef, undef, .pointer (some ⟨w.heap.size + 1 + 1, 0, none⟩), .int .i64 0, .pointer (some ⟨w1.heap.size + 1, 0, none⟩), .pointer (some ⟨Bx, 0, none⟩), .agg #[.int .i64 p.n, vn, vs, .slice a1 p.rules.length c1, vm], .slice a9 n9 c9, .slice a4 S.length c4, .bool true, .bool false, .bool false, .slice a4 S.length c4, .int .i64 u, .bool true, .bool false, .bool false, undef, .int .i64 u, .int .i64 (-u), .slice (some ⟨w1.heap.size, 0, none⟩) 1 1, .agg #[.int .i64 p.n, vn, vs, .slice a1 p.rules.length c1, vm], .slice a4 S.length c4, .func (.func 67) #[] #[.pointer (some ⟨W5.heap.size, 0, none⟩), .pointer (some ⟨W5.heap.size + 1, 0, none⟩)], x.1.1, undef, undef, undef, undef, undef, undef, undef, undef, undef], defers := [] })
        (fun x a' _ X Y row hs hg hr => by obtain ⟨Bx, vh, vb, vw, vs9, h2, f1, f2, f3, f4, h3, h4⟩ := hs; exact ⟨Bx, vh, vb, vw, vs9, h2, f1, f2, f3, f4, blk_own Bx _ _ () X Y row h3 hg (fun r e => (hr r e).2), h4⟩)
        ?assign ?body ?done ?stop
      case assign =>
        rintro l pre x W K hI hK
        obtain ⟨vh, vb, vw, vs9, hx, ⟨x1, x2, x3, rfl⟩, ⟨x4, x5, x6, rfl⟩, ⟨x7, x8, x9, rfl⟩, ⟨y1, y2, y3, rfl⟩⟩ := x.form
        have HX := Lib.hid hx
        have hbn := Blk.new W [.bool x.1.2.r.choice, (.slice x1 x2 x3), .bool x.1.2.r.sum, .int .i64 x.1.2.r.bound, (.slice x4 x5 x6), (.slice x7 x8 x9), .int .i64 x.1.2.b, (.slice y1 y2 y3)] 68
        have HBN := Lib.hid hbn
        have HI := Lib.hid hI
        have hzW : w6.heap.size ≤ W.heap.size := by obtain ⟨v, _, _, _, _, _, h⟩ := hI; exact h
        have HZW := Lib.hid hzW
        dsimp only
        rw [hx]
        clear hx hbn hI hzW
        gi_wp2
        exact hK _ _ ((KeepsOthers.alloc _ _).from _) (.of_below (bal (Below.refl _ _) _) HZW.out) (HI.out.on (bal (Below.refl _ _) _)) ⟨W.heap.size, _, _, _, _, HX.out, ⟨_, _, _, rfl⟩, ⟨_, _, _, rfl⟩, ⟨_, _, _, rfl⟩, ⟨_, _, _, rfl⟩, HBN.out, by rw [HX.out]⟩
      case body =>
        rintro l pre x a' W hl ⟨r, hr⟩ ⟨v, h1, h2, h3, h4, h5, h6⟩ ⟨Bx, vh, vb, vw, vs9, hx, ⟨x1, x2, x3, rfl⟩, ⟨x4, x5, x6, rfl⟩, ⟨x7, x8, x9, rfl⟩, ⟨y1, y2, y3, rfl⟩, bX, rfl⟩ hlt
        obtain ⟨av, nv, cv, rfl⟩ := h2.form
        have hBW : Below W3.heap.size W3 W := HBw1.out.trans (h3.mono hsz1)
        have bA7 := (BA.out.below HBw1.out).same (h3.block (w.heap.size + 1) (by omega))
        have kl : ∀ e : Ext W, e.world.cell? ⟨w1.heap.size + 1, 0, none⟩ = some (.slice av nv cv) := fun e => (bcell e.below _ 0 h1.lt).trans (h1.cell 0)
        have ks : ∀ e : Ext W, ∀ o, e.world.cell? ⟨Bx, o, none⟩ = [Value.bool x.1.2.r.choice, .slice x1 x2 x3, .bool x.1.2.r.sum, .int .i64 x.1.2.r.bound, .slice x4 x5 x6, .slice x7 x8 x9, .int .i64 x.1.2.b, .slice y1 y2 y3][o]? := fun e o => (bcell e.below _ o bX.lt).trans (bX.cell o)
        have ka : ∀ e : Ext W, e.world.cell? ⟨w.heap.size + 1, 0, none⟩ = some (.slice a9 n9 c9) := fun e => (bcell e.below _ 0 bA7.lt).trans (bA7.cell 0)
        have HSU : Hid (SupIs W (.agg #[.bool x.1.2.r.choice, .slice x1 x2 x3, .bool x.1.2.r.sum, .int .i64 x.1.2.r.bound, .slice x4 x5 x6, .slice x7 x8 x9, .int .i64 x.1.2.b, .slice y1 y2 y3]) x.1.2) := Lib.hid (hx ▸ x.2.1.below hBW)
        have HAW := Lib.hid (HA.out.below hBW)
        have HPL : Hid (([-u] ++ reasAll a (suw pre)).length + (reasP x.1.2 a).length ≤ 400000000) := Lib.hid (by
          have e1 := reasP_len x.1.2 a
          have e2 := x.2.2.2
          rw [suw_len] at h4
          omega)
        have HZW := Lib.hid h3.size
        gi_upto_region 6 with fail
        refine wp_region_tailR 4 (fun _ => True) (mkΦ (reasP x.1.2 a)) (fun i => i == 3) (by kernel_rfl) (by kernel_rfl) (by kernel_rfl) (by kernel_rfl) (fun _ _ => trivial) (mkΦ_later _) ?_
        simp only [List.take_succ_cons, List.take_zero, List.drop_succ_cons, List.drop_zero]
        iterate 3 (refine walkP_head (by kernel_rfl) rfl rfl rfl (fun K hK => ?_); go_big_quiet_op; refine hK _ ?_; clear hK K)
        refine walkP_mem rfl rfl (fun wa hba hFa => ?_) (fun v3 lo3 hi3 l3 g3 h3' => ?_)
        · go_simp
          refine (reasons_any _ _ x.1.2 a _ (HSU.out.below hba) x.2.2.1 (HAW.out.below hba)).mono ?_
          rintro e w2 ⟨v, rfl, hi, hb⟩
          obtain ⟨xa, xc, e9, -⟩ := hi.form
          exact ⟨_, rfl, hb, hi, _, _, _, e9⟩
        obtain ⟨_, -, xa, xn, xc, rfl⟩ := h3'
        simp only [Act.put, List.setIfInBounds_toArray, List.set_cons_succ, List.set_cons_zero]
        intro wx hbx hF hI hP
        have f3 := hF _ (.head _)
        obtain ⟨hi3, -⟩ := f3
        refine ⟨rfl, rfl, ?_⟩
        refine wp_appendM (.tmp 31) (.tmp 34) rfl w1.heap.size (.slice av nv cv) (.slice xa xn xc) ([-u] ++ reasAll a (suw pre)) (reasP x.1.2 a) rfl rfl (h2.below hbx) hi3 (by have := HPL.out; omega) (by have := hbx.size; have := HZW.out; omega) ?_
        intro v' w7 hq7 hg7 ho7
        obtain ⟨hb7, hI7, hL7, hK7⟩ := MkI.push (h1.below hbx) (h2.below hbx) (h3.trans (hbx.mono h3.size)) h4 h5 (Nat.le_trans h6 hbx.size) x.2.2.2 hq7 hg7 ho7
        obtain ⟨a8, n8, c8, rfl⟩ := hq7.form
        refine ⟨trivial, rfl, rfl, ?_⟩
        have kc := hb7.cell 0
        have kf := hb7.free 0
        have HI7 := Lib.hid hI7
        have HL7 := Lib.hid ((Lim.of_below hbx h6).trans hL7)
        have HK7 := Lib.hid ((keeps_below hbx).trans hK7)
        clear hI7 hL7 hK7
        simp only [Act.put, List.setIfInBounds_toArray, List.set_cons_succ, List.set_cons_zero]
        go_simp
        exact ⟨rfl, HK7.out, HL7.out, by show MkI a (-u) w1 w6.heap.size (suw (pre ++ [x])) _; rw [suw_snoc]; exact HI7.out⟩
      case done =>
        rintro D xs W hD hS ⟨v, h1, h2, h3, h4, h5, h6⟩ hK
        obtain ⟨av, nv, cv, rfl⟩ := h2.form
        have kl := h1.cell 0
        have hxl := supsTo_len p S p.rules.length
        rw [← hS] at hxl
        have HL := Lib.hid (h2.ints (by omega))
        have HF2 : Hid (makeP p a S u = clauseP ([-u] ++ reasAll a (suw xs))) := Lib.hid (by rw [HF.out, hS])
        have HBW := Lib.hid (((HAL.out.trans (HBw1.out.mono HAL.out.size)).trans (h3.mono (by have := HAL.out.size; omega))))
        have HZW := Lib.hid ((BZ.out.below HBw1.out).same (h3.block (w.heap.size + 1 + 1) (by omega)))
        have hDW : D < W.heap.size := (Array.getElem?_eq_some_iff.1 hK).1
        have HK := Lib.hid hK
        have HDW := Lib.hid hDW
        have hzw : w.heap.size + 1 + 1 < W.heap.size := by omega
        have HZZ := Lib.hid hzw
        clear h1 h2 h3 h4 h5 h6 hS hK hDW hzw HF
        generalize [-u] ++ reasAll a (suw xs) = LL at *
        gi_wp2_with (refine ⟨trivial, ?_⟩; gi_at_call 21; refine (callsIn_wide.2 (clause_any _ _ _ HL.out)).mono ?_; rintro e w8 ⟨vp, rfl, ⟨vl, vk, rfl, hq1, hq2, hq3⟩, hb8⟩; obtain ⟨al, nl, cl, rfl⟩ := hq1.form; obtain ⟨ak, nk, ck, rfl⟩ := hq2.form; have HQ1 := Lib.hid hq1; have HQ2 := Lib.hid hq2; have HQ3 := Lib.hid hq3; have HB8 := Lib.hid hb8; have hz8 := HZW.out.below hb8; have HZ8 := Lib.hid hz8; have kx := hz8.cell; have kf := hz8.free; clear hq1 hq2 hq3 hb8 hz8)
        have hK3 : ((((w8.setCell ⟨w.heap.size + 1 + 1, 0, none⟩ (.slice al nl cl)).setCell ⟨w.heap.size + 1 + 1, 1, none⟩ (.slice ak nk ck)).setCell ⟨w.heap.size + 1 + 1, 2, none⟩ (.int .i64 (clauseP LL).1.bound)).heap[D]? = some (.deferred (some []))) :=
          ((((Below.heap_setCell _ _ _ _ (by show D ≠ w.heap.size + 1 + 1; omega)).trans (Below.heap_setCell _ _ _ _ (by show D ≠ w.heap.size + 1 + 1; omega))).trans (Below.heap_setCell _ _ _ _ (by show D ≠ w.heap.size + 1 + 1; omega))).trans (HB8.out.block D HDW.out)).trans HK.out
        have hzB : Blk (((w8.setCell ⟨w.heap.size + 1 + 1, 0, none⟩ (.slice al nl cl)).setCell ⟨w.heap.size + 1 + 1, 1, none⟩ (.slice ak nk ck)).setCell ⟨w.heap.size + 1 + 1, 2, none⟩ (.int .i64 (clauseP LL).1.bound)) (w.heap.size + 1 + 1) [.slice al nl cl, .slice ak nk ck, .int .i64 (clauseP LL).1.bound] 30 := ((HZ8.out.set 0 _).set 1 _).set 2 _
        have hq1 := row3 HQ1.out (w.heap.size + 1 + 1) HZZ.out (.slice al nl cl) (.slice ak nk ck) (.int .i64 (clauseP LL).1.bound)
        have hq2 := row3 HQ2.out (w.heap.size + 1 + 1) HZZ.out (.slice al nl cl) (.slice ak nk ck) (.int .i64 (clauseP LL).1.bound)
        have hbF := below3 (bon HBW.out HB8.out) (w.heap.size + 1 + 1) (by omega) (.slice al nl cl) (.slice ak nk ck) (.int .i64 (clauseP LL).1.bound)
        refine ⟨by simp, .inl ⟨_, _, rfl, run_takeDeferred hK3, ?_⟩⟩
        generalize ((w8.setCell ⟨w.heap.size + 1 + 1, 0, none⟩ (.slice al nl cl)).setCell ⟨w.heap.size + 1 + 1, 1, none⟩ (.slice ak nk ck)).setCell ⟨w.heap.size + 1 + 1, 2, none⟩ (.int .i64 (clauseP LL).1.bound) = W9 at *
        have hrow : ∀ r, some D = some r → ∃ o : Obj, W9.heap[r]? = some o ∧ o.isCells = false := fun r e => by cases e; exact ⟨_, hK3, rfl⟩
        have kz := (blk_own _ _ _ () W9 _ _ hzB (grownBy_putObj' W9 D (.deferred none)) hrow).cell
        refine ⟨.tuple #[.agg #[.slice al nl cl, .slice ak nk ck, .int .i64 (clauseP LL).1.bound], .int .i64 (clauseP LL).2], by simp [results, Tryz.f10, go_sem, kz], _, by rw [HF2.out], ?_, hbF.trans (belowK_b (w := w) (Nat.le_refl _) W9 D _ _ (by omega) hK3 rfl rfl)⟩
        rw [HF2.out]
        have hzz := HZZ.out
        exact ⟨_, _, rfl, (hq1.ownR (grownBy_putObj' W9 D (.deferred none)) hrow).mono (by omega), (hq2.ownR (grownBy_putObj' W9 D (.deferred none)) hrow).mono (by omega), HQ3.out⟩
      case stop =>
        rintro D c pre W _ _ h _
        exact h.elim
    · have HUN := Lib.hid hun
      have HUS : Hid (decide (u ∈ S) = false) := Lib.hid (decide_eq_false hus)
      have HF : Hid (makeP p a S u = (⟨[], [], 0⟩, 2)) := Lib.hid (by unfold makeP; rw [hun, decide_eq_false hus]; rfl)
      clear hun hus
      gi_upto_region 2 with (first | (refine ⟨trivial, ?_⟩; gi_at_call 12; refine (callsIn_wide.2 (unfounded_any _ _ _ p a S W3 HP.out HA.out HS.out)).mono ?_; rintro e w1 ⟨e1, hb1⟩; rw [HUN.out] at e1; subst e1; have HB1 := Lib.hid hb1; clear hb1) | (refine ⟨trivial, ?_⟩; gi_at_call 28; refine (callsIn_wide.2 (contains_any _ S u _ (HS.out.below HB1.out))).mono ?_; rintro e w2 ⟨e2, rfl⟩; rw [HUS.out] at e2; subst e2))
      have kZ1 := (BZ.out.below HB1.out).cell
      have kf1 := (BZ.out.below HB1.out).free
      gi_wp2
      refine ⟨.tuple #[.agg #[.slice none 0 0, .slice none 0 0, .int .i64 0], .int .i64 2], by simp [results, Tryz.f10, go_sem, *], ?_⟩
      have hzZ := BZ.out.lt
      exact ⟨_, by rw [HF.out], by rw [HF.out]; exact ⟨_, _, rfl, QRow.nil _ _, QRow.nil _ _, show InI (0 : Int) from (by unfold InI; omega), Nat.zero_le _, Nat.zero_le _⟩, below3 (bon HAL.out HB1.out) _ (by omega) _ _ _⟩

end Go.Proofs.YthclpkhaenaknaaGreatDoor
