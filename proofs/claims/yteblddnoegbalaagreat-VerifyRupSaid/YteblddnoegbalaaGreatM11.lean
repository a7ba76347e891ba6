/- My texts Cls, CpR, Vr2, Lp2, Lp3, merged. -/
import Derived.Test.YteblddnoegbalaaGreatM10
import Derived.Test.YteblddnoegbalaaGreatM09
import Derived.Test.YteblddnoegbalaaGreatM08
import Derived.Test.YteblddnoegbalaaGreatM05
import Derived.Test.YteblddnoegbalaaGreatM04
import Derived.Test.YteblddnoegbalaaGreatM00
import Derived.Test.YteblddnoegbalaaGreatProg
import Derived.WalkKit
import Derived.Lib.Hide
import Derived.Deep.QuietTactic
import Derived.BigQuiet
import Derived.Test.YteblddnoegbalaaGreatM03
import Derived.WalkSpells
import Derived.Lib.SliceRun
import Derived.MapKept
import Derived.Maps.OwnSet
import Derived.Maps.OwnOps
import Derived.Test.YteblddnoegbalaaGreatM02
import Derived.Test.YteblddnoegbalaaGreatM01
import Derived.Deep.AppendLies
import Derived.Lib.Bytealg
import Derived.Deep.DeepCutAuto
import Derived.RangeFuncNested
import Derived.RangeFuncBound
import Derived.RangeFuncCalls
import Derived.RangeFuncLeaves
import Derived.OwnWalkIn
import Derived.TacticsInMore
import Derived.LoopNIn
import Derived.LoopIn
import Derived.Stop.RegionWithIn
import Derived.Shelf.Abstract
import Derived.Maps.RangeWalk
import Derived.Test.YteblddnoegbalaaGreatM07
import Derived.Test.YteblddnoegbalaaGreatM06
import Derived.Lib.SlicesCompact
import Derived.Shelf.Sort.Plain
import Derived.Shelf.Slices.CompactI
import Derived.Shelf.Slices.In.SortNone
import Derived.Shelf.Strconv.Itoa3
import Derived.Shelf.Strings.BuilderK
import Derived.Shelf.Slices.SearchI
import Derived.Shelf.Slices.Empties
import Derived.Sort.OwnSortedInts
import Derived.Sort.QuietThIn
import Derived.RangeFuncBox
import Derived.Maps.OwnIn
import Derived.Lib.RowBridge
import Derived.Deep.OwnRows

namespace Go.Proofs.YteblddnoegbalaaGreat
open Go.RowKit
theorem made_row (z : Value) (n : Nat) : madeCells #[z] n = (List.replicate n z).toArray := by
  apply Array.ext
  · simp [size_madeCells]
  · intro i h1 h2
    simp [madeCells, Nat.mod_one]
def oneCells (N k : Nat) : List Value := List.replicate k (Value.int .i64 1) ++ List.replicate (N - k) (Value.int .i64 0)
theorem oneCells_set {N k : Nat} (hk : k < N) : (oneCells N k).set k (.int .i64 1) = oneCells N (k + 1) := by
  unfold oneCells
  rw [List.set_append_right _ _ (by simp)]
  obtain ⟨m, hm⟩ : ∃ m, N - k = m + 1 := ⟨N - k - 1, by omega⟩
  rw [hm, show N - (k + 1) = m by omega, List.length_replicate, Nat.sub_self, List.replicate_succ, List.set_cons_zero, List.replicate_succ', List.append_assoc]
  rfl
def OneSt (W : World) (N k : Nat) (wx : World) : Prop := Below W.heap.size W wx ∧ Blk wx W.heap.size (oneCells N k) 3
def OneRel (W : World) (N : Nat) (i : Value) (wx : World) : Prop := ∃ k : Nat, k ≤ N ∧ i = .int .i64 k ∧ OneSt W N k wx
theorem OneSt.start (W : World) (N : Nat) : OneSt W N 0 (W.alloc (.cells (madeCells #[.int .i64 0] N) 3)) := by
  refine ⟨bal (Below.refl _ _) _, ?_⟩
  have := Blk.new W (List.replicate N (Value.int .i64 0)) 3
  rw [← made_row] at this
  simpa [oneCells] using this
theorem OneSt.step {W wx : World} {N k : Nat} (h : OneSt W N k wx) (hk : k < N) : OneSt W N (k + 1) (wx.setCell ⟨W.heap.size, k, none⟩ (.int .i64 1)) := by
  refine ⟨h.1.setCell (p := ⟨W.heap.size, k, none⟩) (Nat.le_refl _) _, ?_⟩
  have := h.2.set k (.int .i64 1)
  rwa [oneCells_set hk] at this
theorem OneSt.end {W wx : World} {N : Nat} (h : OneSt W N N wx) (hN : N * 8 ≤ 140737488351232) : Ints wx (.slice (some ⟨W.heap.size, 0, none⟩) N N) (ones N) := by
  have h2 := h.2
  have e : oneCells N N = (ones N).map (Value.int .i64) := by simp [oneCells, ones]
  rw [e] at h2
  have hl : (ones N).length = N := by simp [ones]
  have := h2.ints (fitI fun x hx => by obtain rfl := List.eq_of_mem_replicate hx; unfold InI; omega) (by rw [hl]; exact hN)
  rwa [hl] at this
theorem setL_len (l : List Int) : (setL l).length ≤ l.length := by
  have h1 := Lib.compact_length_le (srt l)
  rw [compact_set, sortI_len] at h1
  exact h1
set_option maxHeartbeats 4000000 in
set_option maxRecDepth 100000 in
theorem clause_any (v : Value) (l : List Int) (w : World) (h : Ints w v l) :
    Calls Tryz.prog 43 #[v] w fun e w' => ∃ vp, e = .returned (.tuple #[vp, .int .i64 (clauseP l).2]) ∧ PBQ w.heap.size w' vp (clauseP l).1 ∧ Below w.heap.size w w' := by
  have h0 := h
  obtain ⟨a1, c1, rfl, -, hl1, -, -⟩ := h.form
  have h8 : l.length * 8 ≤ 140737488351232 := by obtain ⟨⟨_, _, _, _, _, h, _⟩, _⟩ := h0; exact h
  have hN := setL_len l
  have hal0 := bal (Below.refl w.heap.size w) (.cells #[.slice none 0 0, .slice none 0 0, .int .i64 0] 25)
  have HAL := Lib.hid hal0
  have HB0 := Lib.hid (Blk.new w pbZ 25)
  have HI := Lib.hid (h0.below hal0)
  have hz0 : (w.alloc (.cells #[.slice none 0 0, .slice none 0 0, .int .i64 0] 25)).heap.size = w.heap.size + 1 := by simp
  have HZ0 := Lib.hid hz0
  clear hal0 h h0 hz0
  have hmk : ∀ w : World, (Instr.makeSlice 23 (.int .i64 ((setL l).length : Int)) (.int .i64 ((setL l).length : Int))).run Tryz.prog w = .ok (.slice (some ⟨w.heap.size, 0, none⟩) (setL l).length (setL l).length) (w.alloc (.cells (madeCells #[.int .i64 0] (setL l).length) 3)) := fun w => run_make_row' _ _ _ _ Tryz.underlying23 infoI rfl .i64 .i64 (setL l).length (by omega) (by omega) w
  go_enter Tryz.func43, Tryz.ntmps43
  go_upto_region 1 with fail
  generalize w.alloc (.cells #[.slice none 0 0, .slice none 0 0, .int .i64 0] 25) = W0 at *
  go_upto_region 4 with (first
    | (go_at_call 78; (with_reducible refine (compactI_own HO.out).mono ?_); rintro e w3 ⟨a3, c3, rfl, hi3, hg3⟩; rw [compact_set] at hi3 ⊢; have HI3 := Lib.hid hi3; have HB3 := Lib.hid (HB2.out.grown hg3 (by have := HB2.out.size; omega) (fun g e => by have := (HO.out.1.1.2); rcases this with ⟨e2, _⟩ | ⟨g', cap, cur, e2, hb, _⟩; (rw [e2] at e; cases e); (rw [e2] at e; simp only [Value.ownBlock, Option.some.injEq] at e; omega))); clear hi3 hg3)
    | (go_at_call 79; (with_reducible refine (sorted_any l W0 _ _ W0.heap.size HI.out HB1.out HK1.out).mono ?_); rintro e w2 ⟨vo, rfl, ho, hb2⟩; have HO := Lib.hid ho; have HB2 := Lib.hid (HB1.out.trans (hb2.mono hz1)); have hz2 := hb2.size; clear ho hb2)
    | (go_at_call 80; (with_reducible refine (values_any _ _ _ _).mono ?_); rintro e w1 ⟨rfl, hb1, hk1, hs1⟩; have HB1 := Lib.hid hb1; have HK1 := Lib.hid hk1; have hz1 := hb1.size; clear hb1 hk1 hs1))
  have HBW := Lib.hid (HAL.out.trans (HB3.out.mono HAL.out.size))
  have HBX := Lib.hid (HB0.out.same (HB3.out.block _ (by have := HZ0.out; omega)))
  have HST := Lib.hid (OneSt.start w3 (setL l).length)
  have HZ3 : Hid (w.heap.size + 1 ≤ w3.heap.size) := Lib.hid (by have := HB3.out.size; have := HZ0.out; omega)
  clear hmk hz1 hz2
  go_loopw [15] (fun i wx => OneRel w3 (setL l).length i wx) (fun i _ => (setL l).length - (intOf i).toNat)
  case atStart => exact ⟨0, Nat.zero_le _, rfl, HST.out⟩
  case round =>
    obtain ⟨k, hk, rfl, hst⟩ := hrel
    have HSK := Lib.hid hst
    by_cases hlt : k < (setL l).length
    · have kc := hst.2.cell k
      have kf := hst.2.free k
      have hg : (oneCells (setL l).length k)[k]? = some (.int .i64 0) := by
        unfold oneCells
        rw [List.getElem?_append_right (by simp), List.length_replicate, Nat.sub_self, List.getElem?_replicate, if_pos (by omega)]
      rw [hg] at kc
      have HN := Lib.hid (hst.step hlt)
      clear hst hg
      go_wp2
      first
        | (go_roundw
           case rel => (exact ⟨k + 1, hlt, by go_num, HN.out⟩)
           case measure => (simp [intOf]; omega))
        | (refine ⟨?_, ?_⟩
           · (exact ⟨k + 1, hlt, by go_num, HN.out⟩)
           · (simp [intOf]; omega))
    · obtain rfl : k = (setL l).length := by omega
      have HON := Lib.hid (hst.end (by omega))
      have HLI := Lib.hid (HI3.out.below hst.1)
      have HBR := Lib.hid (HBW.out.trans (hst.1.mono (by have := HZ3.out; omega)))
      have HBB := Lib.hid (HBX.out.same (hst.1.block _ (by have := HZ3.out; omega)))
      have hzr : w.heap.size + 1 ≤ wr.heap.size := by have := HZ3.out; have := hst.1.size; omega
      have HZR := Lib.hid hzr
      clear hst hzr
      go_wp2_with (go_at_call 44; (with_reducible refine (norm_any _ _ (setL l) (ones (setL l).length) 1 wr HLI.out HON.out (by unfold InI; omega)).mono ?_); rintro e w4 ⟨vp, rfl, ⟨vl, vk, rfl, hq1, hq2, hq3⟩, hb4⟩; obtain ⟨al, nl, cl, rfl⟩ := hq1.form; obtain ⟨ak, nk, ck, rfl⟩ := hq2.form; have HQ1 := Lib.hid hq1; have HQ2 := Lib.hid hq2; have HQ3 := Lib.hid hq3; have HB4 := Lib.hid (HBR.out.trans (hb4.mono (by have := HZR.out; omega))); have hbb := HBB.out.below hb4; have kx := hbb.cell; have kf := hbb.free; clear hq1 hq2 hq3 hb4 hbb)
      refine bodyPost_ret (v := .tuple #[.agg #[.slice al nl cl, .slice ak nk ck, .int .i64 (clauseP l).1.bound], .int .i64 (clauseP l).2]) ?_ rfl ⟨_, rfl, ?_, below3 HB4.out _ (Nat.le_refl _) _ _ _⟩
      · unfold clauseP
        simp [results, Tryz.f43, go_sem, *]
      · have hzr := HZR.out
        exact ⟨_, _, rfl, (row3 HQ1.out w.heap.size (by omega) _ _ _).mono (by omega), (row3 HQ2.out w.heap.size (by omega) _ _ _).mono (by omega), HQ3.out⟩
abbrev CQ := PBC × Value × Value
def cells3 (q : CQ) : List Value := [q.2.1, q.2.2, .int .i64 q.1.bound]
def ixC (l : List PBC) (i : Nat) : PBC := l.getD i default
def pbCell (c : PBC) (vl vk : Value) : Nat → Value
  | 0 => vl
  | 1 => vk
  | _ => .int .i64 c.bound
structure PBSl (w : World) (c : PBC) (vl vk : Value) : Prop where
  lits : Ints w vl c.lits
  coefs : Ints w vk c.coefs
  bound : InI c.bound
theorem PBSl.below {w w' : World} {c : PBC} {vl vk : Value} (h : PBSl w c vl vk) (hb : Below w.heap.size w w') : PBSl w' c vl vk := ⟨h.lits.below hb, h.coefs.below hb, h.bound⟩
theorem PBSl.is {w : World} {c : PBC} {vl vk : Value} (h : PBSl w c vl vk) : PBIs w (.agg #[vl, vk, .int .i64 c.bound]) c := ⟨_, _, rfl, h.lits, h.coefs, h.bound⟩
def PBsIs (w : World) (v : Value) (l : List PBC) : Prop :=
  ∃ vl vk : Nat → Value, Rows w v 3 56 l.length (fun i => pbCell (ixC l i) (vl i) (vk i)) ∧ ∀ i, i < l.length → PBSl w (ixC l i) (vl i) (vk i)
theorem PBsIs.below {w w' : World} {v : Value} {l : List PBC} (h : PBsIs w v l) (hb : Below w.heap.size w w') : PBsIs w' v l :=
  let ⟨vl, vk, e, h1⟩ := h; ⟨vl, vk, e.below hb, fun i hi => (h1 i hi).below hb⟩
def PBCells (w : World) (b o : Nat) (c : PBC) (vl vk : Value) : Prop :=
  w.cell? ⟨b, o, none⟩ = some vl ∧ w.cell? ⟨b, o + 1, none⟩ = some vk ∧ w.cell? ⟨b, o + 2, none⟩ = some (.int .i64 c.bound)
theorem PBCells.below {w w' : World} {b o : Nat} {c : PBC} {vl vk : Value} (h : PBCells w b o c vl vk) (hb : Below w.heap.size w w') (hl : b < w.heap.size) : PBCells w' b o c vl vk :=
  ⟨(bcell hb _ _ hl).trans h.1, (bcell hb _ _ hl).trans h.2.1, (bcell hb _ _ hl).trans h.2.2⟩
theorem PBsIs.form {w : World} {v : Value} {l : List PBC} (h : PBsIs w v l) : ∃ a cap, v = .slice a l.length cap ∧ l.length ≤ cap ∧ l.length ≤ 1000000000000000 ∧ PBsIs w (.slice a l.length cap) l ∧
    (0 < l.length → ∃ b off, a = some ⟨b, off, none⟩ ∧ b < w.heap.size ∧ ∀ i, i < l.length → ∃ vl vk, PBCells w b (off + i * 3) (ixC l i) vl vk ∧ PBSl w (ixC l i) vl vk) := by
  have h0 := h
  obtain ⟨vl, vk, ⟨a, cap, rfl, h1, hm, h2, h3⟩, h4⟩ := h
  refine ⟨a, cap, rfl, h1, by omega, h0, fun hp => ?_⟩
  obtain ⟨b, off, e, hl, hc⟩ := h3 hp
  exact ⟨b, off, e, hl, fun i hi => ⟨vl i, vk i, ⟨hc i hi 0 (by omega), hc i hi 1 (by omega), hc i hi 2 (by omega)⟩, h4 i hi⟩⟩
theorem nil_pbs (w : World) : PBsIs w (.slice none 0 0) [] := ⟨fun _ => undef, fun _ => undef, ⟨none, 0, rfl, Nat.le_refl _, by unfold maxLen; omega, by simp, fun h => absurd h (by simp)⟩, fun i hi => absurd hi (by simp)⟩
def isC (w : World) (i : Nat) : Prop := ∃ c fz, w.heap[i]? = some (.cells c 22 fz) ∨ w.heap[i]? = some (.cells c 25 fz)
structure CLim (B : Nat) (w w' : World) : Prop where
  os : w'.os = w.os
  tape : w'.tape = w.tape
  output : w'.output = w.output
  size : w.heap.size ≤ w'.heap.size
  block : ∀ i, i < w.heap.size → (B ≤ i → ¬ isC w i) → w'.heap[i]? = w.heap[i]?
theorem CLim.trans {B : Nat} {a b c : World} (h : CLim B a b) (k : CLim B b c) : CLim B a c :=
  ⟨k.os.trans h.os, k.tape.trans h.tape, k.output.trans h.output, Nat.le_trans h.size k.size, fun i hi hn => by
    have e := h.block i hi hn
    refine (k.block i (Nat.lt_of_lt_of_le hi h.size) fun hB hc => hn hB ?_).trans e
    obtain ⟨c, fz, hc⟩ := hc
    rw [e] at hc
    exact ⟨c, fz, hc⟩⟩
theorem CLim.of_below {B : Nat} {w w' : World} (h : Below w.heap.size w w') : CLim B w w' := ⟨h.os, h.tape, h.output, h.size, fun i hi _ => h.block i hi⟩
theorem CLim.below {B : Nat} {w w' : World} (h : CLim B w w') (hB : B ≤ w.heap.size) : Below B w w' := ⟨h.os, h.tape, h.output, h.size, fun i hi => h.block i (by omega) fun h' => absurd hi (by omega)⟩
theorem CLim.blk {B : Nat} {w w' : World} (h : CLim B w w') {b : Nat} {c : List Value} {T : TypeId} (hb : Blk w b c T) (h1 : T ≠ 22) (h2 : T ≠ 25) : Blk w' b c T :=
  hb.same (h.block b hb.lt fun _ hc => by
    obtain ⟨c', fz, hc⟩ := hc
    unfold Blk at hb
    rw [hb] at hc
    rcases hc with hc | hc
    · injection hc with hc; injection hc with _ e _; exact h1 e
    · injection hc with hc; injection hc with _ e _; exact h2 e)
theorem CLim.qrow {B base : Nat} {w w' : World} (h : CLim B w w') {v : Value} {l : List Int} (hq : QRow base w v l) : QRow base w' v l :=
  hq.kept fun i _ hi hv => h.block i hi fun _ hc => by
    obtain ⟨c', fz, hc⟩ := hc
    rcases hq.2 with ⟨rfl, _⟩ | ⟨g, off, cap, cur, rfl, _, hg, _⟩
    · cases hv
    · have : g = i := by simpa [Value.ownBlock] using hv
      subst this
      rw [hg] at hc
      rcases hc with hc | hc
      · injection hc with hc; injection hc with _ e _; revert e; decide
      · injection hc with hc; injection hc with _ e _; revert e; decide
theorem CLim.map {B b : Nat} {w w' : World} (h : CLim B w w') {kv : Int → Value} {g : Int → Option Value} (hm : MapIs kv w b g) : MapIs kv w' b g :=
  hm.same (h.block b hm.lt fun _ hc => by
    obtain ⟨c', fz, hc⟩ := hc
    obtain ⟨es, clock, e, -⟩ := hm
    rw [e] at hc
    rcases hc with hc | hc <;> (injection hc with hc; cases hc))
structure MineC (B : Nat) (v : Value) (L : List CQ) (w : World) : Prop where
  row : w.ownsRow B 25 3 v L.length (L.flatMap cells3)
  each : ∀ q ∈ L, QRow B w q.2.1 q.1.lits ∧ QRow B w q.2.2 q.1.coefs ∧ InI q.1.bound ∧ q.1.lits.length ≤ 65536 ∧ q.1.coefs.length ≤ 65536
theorem MineC.nil (B : Nat) (w : World) : MineC B (.slice none 0 0) [] w := ⟨⟨by simp, .inl ⟨rfl, rfl⟩⟩, fun q hq => by simp at hq⟩
section
variable {B n : Nat} {xs : List Value} {v : Value} {w w' : World} {L : List CQ}
theorem QRow.rowKeptC {u : Value} {l : List Int} {base : Nat} (h : QRow base w u l) (hr : w.ownsRow B 25 3 v n xs) (hg : w.grownBy w' v.ownBlock) : QRow base w' u l := by
  refine h.kept fun i hi hi2 hu => hg.block i hi2 (fun e => ?_)
  rcases hr.2 with ⟨rfl, _⟩ | ⟨g, cap, cur, rfl, hb, hgg, _⟩
  · cases e
  · simp only [Value.ownBlock, Option.some.injEq] at e
    subst e
    rcases h.2 with ⟨rfl, _⟩ | ⟨g', off, cap', cur', rfl, _, hgg', _⟩
    · cases hu
    · simp only [Value.ownBlock, Option.some.injEq] at hu
      subst hu
      rw [hgg'] at hgg
      have := Option.some.inj hgg
      injection this with _ h2 _
      revert h2; decide
theorem MineC.below (h : MineC B v L w) (hb : Below w.heap.size w w') : MineC B v L w' :=
  ⟨rowBelow h.row hb, fun q hq => let ⟨h1, h2, h3⟩ := h.each q hq; ⟨h1.below hb, h2.below hb, h3⟩⟩
theorem MineC.push {g cap : Nat} {q : CQ} (h : MineC B v L w) (hq : QRow B w q.2.1 q.1.lits ∧ QRow B w q.2.2 q.1.coefs ∧ InI q.1.bound ∧ q.1.lits.length ≤ 65536 ∧ q.1.coefs.length ≤ 65536)
    (hown : w'.ownsRow B 25 3 (.slice (some ⟨g, 0, none⟩) (L.length + 1) cap) (L.length + 1) (L.flatMap cells3 ++ cells3 q)) (hg : w.grownBy w' v.ownBlock) : MineC B (.slice (some ⟨g, 0, none⟩) (L.length + 1) cap) (L ++ [q]) w' := by
  refine ⟨by simpa using hown, fun q' hq' => ?_⟩
  simp only [List.mem_append, List.mem_singleton] at hq'
  rcases hq' with hq' | rfl
  · obtain ⟨h1, h2, h3⟩ := h.each q' hq'
    exact ⟨h1.rowKeptC h.row hg, h2.rowKeptC h.row hg, h3⟩
  · obtain ⟨h1, h2, h3⟩ := hq
    exact ⟨h1.rowKeptC h.row hg, h2.rowKeptC h.row hg, h3⟩
theorem flat3 : ∀ (L : List CQ) (i j : Nat), i < L.length → j < 3 → (L.flatMap cells3)[i * 3 + j]? = (cells3 (L.getD i default))[j]?
  | [], i, j, h, _ => absurd h (by simp)
  | q :: L, 0, j, _, hj => by
    rw [List.flatMap_cons, List.getElem?_append_left (by simp [cells3]; omega)]
    simp
  | q :: L, i + 1, j, h, hj => by
    rw [List.flatMap_cons, List.getElem?_append_right (by simp [cells3]; omega)]
    have := flat3 L i j (by simpa using h) hj
    rw [show (i + 1) * 3 + j - (cells3 q).length = i * 3 + j by simp [cells3]; omega, this]
    simp
theorem MineC.pbs (h : MineC B v L w) (l : List PBC) (hl : L.map (·.1) = l) (hfit : L.length * 56 ≤ 140737488351232) : PBsIs w v l := by
  have hlen' : l.length = L.length := by rw [← hl]; simp
  have hq : ∀ i, i < l.length → L.getD i default ∈ L ∧ (L.getD i default).1 = ixC l i := fun i hi => by
    have hi' : i < L.length := by omega
    have e : L.getD i default = L[i] := by simp [List.getD_eq_getElem?_getD, List.getElem?_eq_getElem hi']
    rw [e]
    refine ⟨List.getElem_mem hi', ?_⟩
    subst hl
    simp [ixC, List.getD_eq_getElem?_getD, List.getElem?_eq_getElem hi']
  refine ⟨fun i => (L.getD i default).2.1, fun i => (L.getD i default).2.2, ?_, fun i hi => ?_⟩
  · rw [hlen']
    rcases h.row.2 with ⟨rfl, h0⟩ | ⟨g, cap, cur, rfl, hb, hg, hn, hm, hs, hx⟩
    · exact ⟨none, 0, by rw [h0], by omega, by unfold maxLen; omega, by omega, fun hp => by omega⟩
    · refine ⟨_, cap, rfl, hn, hm, hfit, fun _ => ⟨g, 0, rfl, (Array.getElem?_eq_some_iff.1 hg).1, fun i hi j hj => ?_⟩⟩
      have h6 := flat3 L i j hi hj
      rw [← hx, List.getElem?_take_of_lt (by omega)] at h6
      rw [cell_of_row w g (0 + i * 3 + j) cur _ (0, 0) hg, Nat.zero_add]
      have e2 := (hq i (by omega)).2
      dsimp only
      rw [← e2]
      have : cur[i * 3 + j]? = cur.toList[i * 3 + j]? := by simp
      rw [this, h6]
      rcases (show j = 0 ∨ j = 1 ∨ j = 2 by omega) with rfl | rfl | rfl <;> rfl
  · obtain ⟨hm, e⟩ := hq i hi
    obtain ⟨h1, h2, h3, h4, h5⟩ := h.each _ hm
    rw [← e]
    exact ⟨h1.ints (by omega), h2.ints (by omega), h3⟩
end
def OutC (B ob : Nat) (A : Nat → Prop) (l : List PBC) (w : World) : Prop :=
  ∃ v L, Blk w ob [v] 22 ∧ MineC B v L w ∧ L.map (·.1) = l ∧ ∀ q ∈ L, ∀ g, (q.2.1.ownBlock = some g ∨ q.2.2.ownBlock = some g) → ¬ A g
theorem OutC.below {B ob : Nat} {A : Nat → Prop} {l : List PBC} {w w' : World} (h : OutC B ob A l w) (hb : Below w.heap.size w w') : OutC B ob A l w' :=
  let ⟨v, L, h1, h2, h3⟩ := h; ⟨v, L, h1.below hb, h2.below hb, h3⟩
def rowV (G : Int → Option Value) (x : Int) : Value := (G x).getD (.slice none 0 0)
structure SupM (B mb : Nat) (F : Int → List Int) (G : Int → Option Value) (w : World) : Prop where
  map : MapIs (Value.int .i64) w mb G
  row : ∀ x, QRow B w (rowV G x) (F x)
  far : ∀ x y, x ≠ y → ∀ g, (rowV G x).ownBlock = some g → (rowV G y).ownBlock ≠ some g
theorem SupM.below {B mb : Nat} {F : Int → List Int} {G : Int → Option Value} {w w' : World} (h : SupM B mb F G w) (hb : Below w.heap.size w w') : SupM B mb F G w' := ⟨h.map.below hb, fun x => (h.row x).below hb, h.far⟩
theorem SupM.clim {B mb C : Nat} {F : Int → List Int} {G : Int → Option Value} {w w' : World} (h : SupM B mb F G w) (hb : CLim C w w') : SupM B mb F G w' := ⟨hb.map h.map, fun x => hb.qrow (h.row x), h.far⟩
def setL' (F : Int → List Int) (x : Int) (l : List Int) : Int → List Int := fun y => if y = x then l else F y
theorem SupM.push {B mb : Nat} {F : Int → List Int} {G : Int → Option Value} {w w1 w2 : World} {x b : Int} {v' : Value} (h : SupM B mb F G w) (hq : QRow B w1 v' (F x ++ [b])) (hg : w.grownBy w1 (rowV G x).ownBlock) (ho : v'.ownBlock = (rowV G x).ownBlock ∨ v'.ownBlock = some w.heap.size)
    (hm : MapIs (Value.int .i64) w2 mb (upd G x (some v'))) (hg2 : w1.grownBy w2 (some mb)) (hm1 : MapIs (Value.int .i64) w1 mb G) : SupM B mb (setL' F x (F x ++ [b])) (upd G x (some v')) w2 := by
  have e1 : rowV (upd G x (some v')) x = v' := by unfold rowV; rw [upd_same]; rfl
  have e2 : ∀ y, y ≠ x → rowV (upd G x (some v')) y = rowV G y := fun y hy => by unfold rowV; rw [upd_other _ _ hy]
  have hkeep : ∀ (u : Value) (l : List Int), QRow B w1 u l → QRow B w2 u l := fun u l hu => hu.kept fun i _ hi hv => hg2.block i hi fun e => by
    obtain ⟨es, clock, em, -⟩ := hm1
    rcases hu.2 with ⟨rfl, _⟩ | ⟨g, off, cap, cur, rfl, _, hgg, _⟩
    · cases hv
    · have e3 : g = i := by simpa [Value.ownBlock] using hv
      have e4 : mb = i := by simpa using e.symm
      subst e3 e4
      rw [em] at hgg
      cases hgg
  refine ⟨hm, fun y => ?_, fun y z hyz g hy hz => ?_⟩
  · unfold setL'
    by_cases hy : y = x
    · subst hy
      rw [if_pos rfl, e1]
      exact hkeep _ _ hq
    · rw [if_neg hy, e2 y hy]
      refine hkeep _ _ ((h.row y).kept fun i _ hi hv => hg.block i hi fun e => h.far y x hy i hv e.symm)
  · have hlt : ∀ y g, (rowV G y).ownBlock = some g → g < w.heap.size := fun y g e => ((h.row y).base e).2
    by_cases h1 : y = x
    · subst h1
      have h2 : z ≠ y := fun e => hyz e.symm
      rw [e1] at hy
      rw [e2 z h2] at hz
      rcases ho with ho | ho
      · rw [ho] at hy
        exact h.far y z hyz g hy hz
      · rw [ho] at hy
        have := hlt z g hz
        have := Option.some.inj hy
        omega
    · rw [e2 y h1] at hy
      by_cases h2 : z = x
      · subst h2
        rw [e1] at hz
        rcases ho with ho | ho
        · rw [ho] at hz
          exact h.far y z hyz g hy hz
        · rw [ho] at hz
          have := hlt y g hy
          have := Option.some.inj hz
          omega
      · rw [e2 z h2] at hz
        exact h.far y z hyz g hy hz
def supB (G : Int → Option Value) (g : Nat) : Prop := ∃ x, (rowV G x).ownBlock = some g
theorem SupM.inB {B mb : Nat} {F : Int → List Int} {G : Int → Option Value} {w : World} (h : SupM B mb F G w) : ∀ g, supB G g → g < w.heap.size := fun _ ⟨x, e⟩ => ((h.row x).base e).2
theorem SupM.map1 {B mb : Nat} {F : Int → List Int} {G : Int → Option Value} {w w1 : World} {x : Int} (h : SupM B mb F G w) (hg : w.grownBy w1 (rowV G x).ownBlock) : MapIs (Value.int .i64) w1 mb G :=
  h.map.same (hg.block mb h.map.lt fun e => by
    obtain ⟨es, clock, em, -⟩ := h.map
    rcases (h.row x).2 with ⟨e2, _⟩ | ⟨g, off, cap, cur, e2, _, hgg, _⟩
    · rw [e2] at e; cases e
    · rw [e2] at e
      have : mb = g := by simpa [Value.ownBlock] using e
      subst this
      rw [em] at hgg
      cases hgg)
theorem SupM.blk1 {B mb : Nat} {F : Int → List Int} {G : Int → Option Value} {w w1 w2 : World} {x : Int} {b : Nat} {c : List Value} {T : TypeId} (h : SupM B mb F G w) (hg : w.grownBy w1 (rowV G x).ownBlock) (hg2 : w1.grownBy w2 (some mb)) (hb : Blk w b c T) (hT : T ≠ 3) : Blk w2 b c T := by
  have h1 : Blk w1 b c T := hb.same (hg.block b hb.lt fun e => (h.row x).far hb hT e.symm)
  refine h1.same (hg2.block b h1.lt fun e => ?_)
  obtain ⟨es, clock, em, -⟩ := h.map1 hg
  have : b = mb := by simpa using e
  subst this
  unfold Blk at h1
  rw [em] at h1
  cases h1
theorem SupM.out1 {B mb ob : Nat} {F : Int → List Int} {G : Int → Option Value} {w w1 w2 : World} {x : Int} {v' : Value} {l : List PBC} (h : SupM B mb F G w) (hg : w.grownBy w1 (rowV G x).ownBlock) (hg2 : w1.grownBy w2 (some mb)) (ho : v'.ownBlock = (rowV G x).ownBlock ∨ v'.ownBlock = some w.heap.size)
    (hO : OutC B ob (supB G) l w) : OutC B ob (supB (upd G x (some v'))) l w2 := by
  obtain ⟨v, L, h1, h2, h3, h4⟩ := hO
  have hm1 := h.map1 hg
  have keep : ∀ i, i < w.heap.size → (rowV G x).ownBlock ≠ some i → (∃ c T fz, w.heap[i]? = some (.cells c T fz)) → w2.heap[i]? = w.heap[i]? := fun i hi hne ⟨c, T, fz, hc⟩ => by
    have e1 := hg.block i hi fun e => hne e.symm
    refine (hg2.block i (Nat.lt_of_lt_of_le hi hg.size) fun e => ?_).trans e1
    obtain ⟨es, clock, em, -⟩ := hm1
    have : i = mb := by simpa using e
    subst this
    rw [em] at e1
    rw [← e1] at hc
    cases hc
  have hq : ∀ (u : Value) (k : List Int), QRow B w u k → (∀ g, u.ownBlock = some g → ¬ supB G g) → QRow B w2 u k := fun u k hu hn => hu.kept fun i _ hi hv => by
    refine keep i hi (fun e => hn i hv ⟨x, e⟩) ?_
    rcases hu.2 with ⟨rfl, _⟩ | ⟨g, off, cap, cur, rfl, _, hgg, _⟩
    · cases hv
    · have : g = i := by simpa [Value.ownBlock] using hv
      subst this
      exact ⟨_, _, _, hgg⟩
  refine ⟨v, L, h.blk1 hg hg2 h1 (by decide), ⟨?_, fun q hq' => ?_⟩, h3, fun q hq' g hg' hA => ?_⟩
  · refine ⟨h2.row.1, ?_⟩
    rcases h2.row.2 with hn | ⟨g, cap, cur, e, hb, hgg, rest⟩
    · exact .inl hn
    · refine .inr ⟨g, cap, cur, e, hb, ?_, rest⟩
      rw [keep g (Array.getElem?_eq_some_iff.1 hgg).1 (fun e2 => ?_) ⟨_, _, _, hgg⟩]
      · exact hgg
      · rcases (h.row x).2 with ⟨e3, _⟩ | ⟨g', off, cap', cur', e3, _, hgg', _⟩
        · rw [e3] at e2; cases e2
        · rw [e3] at e2
          have : g' = g := by simpa [Value.ownBlock] using e2
          subst this
          rw [hgg'] at hgg
          have := Option.some.inj hgg
          injection this with _ h5 _
          revert h5; decide
  · obtain ⟨q1, q2, q3⟩ := h2.each q hq'
    exact ⟨hq _ _ q1 fun g e => h4 q hq' g (.inl e), hq _ _ q2 fun g e => h4 q hq' g (.inr e), q3⟩
  · obtain ⟨y, hy⟩ := hA
    have hlt : g < w.heap.size := by
      obtain ⟨q1, q2, -⟩ := h2.each q hq'
      rcases hg' with e | e
      · exact (q1.base e).2
      · exact (q2.base e).2
    by_cases e : y = x
    · subst e
      have e1 : rowV (upd G y (some v')) y = v' := by unfold rowV; rw [upd_same]; rfl
      rw [e1] at hy
      rcases ho with ho | ho
      · rw [ho] at hy
        exact h4 q hq' g hg' ⟨y, hy⟩
      · rw [ho] at hy
        have := Option.some.inj hy
        omega
    · have e2 : rowV (upd G x (some v')) y = rowV G y := by unfold rowV; rw [upd_other _ _ e]
      rw [e2] at hy
      exact h4 q hq' g hg' ⟨y, hy⟩
theorem OwnI.qrow {base : Nat} {w : World} {v : Value} {l : List Int} (h : OwnI base w v l) : QRow base w v l := by
  refine ⟨h.2, ?_⟩
  rcases h.1.1.2 with ⟨e, e0⟩ | ⟨g, cap, cur, e, hb, hg, hn, hm, hs, hx⟩
  · exact .inl ⟨e, List.eq_nil_of_length_eq_zero e0⟩
  · refine .inr ⟨g, 0, cap, cur, e, hb, hg, hn, hm, by omega, fun i hi => ?_⟩
    have h4 : (cur.toList.take (l.length * 1))[i]? = some (.int .i64 (ix l i)) := by rw [hx]; simp [hi]
    rw [List.getElem?_take_of_lt (by omega)] at h4
    simpa using h4
end Go.Proofs.YteblddnoegbalaaGreat
namespace Go.Proofs.YteblddnoegbalaaGreat
structure OP where
  kind : Int
  n : Int
  deriving Inhabited, DecidableEq
def zeroC : PBC := ⟨[], [], 0⟩
def addP (a b : PBC) : PBC × Int := if pbV a && pbV b then normP (a.lits ++ b.lits) (a.coefs ++ b.coefs) (a.bound + b.bound) else (zeroC, 2)
def mulP (a : PBC) (k : Int) : PBC × Int :=
  if pbV a = false ∨ k < 1 ∨ 16777216 < k then (zeroC, 2) else if 16777216 < a.bound * k then (zeroC, 3) else normP a.lits (a.coefs.map (· * k)) (a.bound * k)
def upI (n k : Int) : Int := (n + k - 1).tdiv k
def divP (a : PBC) (k : Int) : PBC × Int :=
  if pbV a = false ∨ k < 1 ∨ 16777216 < k then (zeroC, 2) else normP a.lits (a.coefs.map (upI · k)) (upI a.bound k)
def isV (v : Int) (x : Int × Int) : Bool := decide ((x.1.natAbs : Int) = v)
def weakP (a : PBC) (v : Int) : PBC × Int :=
  if pbV a = false ∨ v < 1 ∨ 65536 < v then (zeroC, 2)
  else normP (((a.lits.zip a.coefs).filter fun x => !isV v x).map Prod.fst) (((a.lits.zip a.coefs).filter fun x => !isV v x).map Prod.snd) (a.bound - sumP ((a.lits.zip a.coefs).filter (isV v)))
def topP (f : PBC → Int → PBC × Int) (s : List PBC) (n : Int) : List PBC × Int :=
  if s.length = 0 then ([], 2) else (s.take (s.length - 1) ++ [(f (ixC s (s.length - 1)) n).1], (f (ixC s (s.length - 1)) n).2)
def doP (db : List PBC) (op : OP) (s : List PBC) : List PBC × Int :=
  if op.kind = 1 then (if op.n < 0 ∨ (db.length : Int) ≤ op.n then ([], 2) else (s ++ [ixC db op.n.toNat], 0))
  else if op.kind = 2 then (if s.length < 2 ∨ op.n ≠ 0 then ([], 2) else (s.take (s.length - 2) ++ [(addP (ixC s (s.length - 2)) (ixC s (s.length - 1))).1], (addP (ixC s (s.length - 2)) (ixC s (s.length - 1))).2))
  else if op.kind = 3 then topP mulP s op.n
  else if op.kind = 4 then topP divP s op.n
  else if op.kind = 5 then topP weakP s op.n
  else ([], 2)
def ixO (l : List OP) (i : Nat) : OP := l.getD i default
def stkP (db : List PBC) : List OP → List PBC → List PBC × Int
  | [], s => (s, 0)
  | op :: ops, s => if (doP db op s).2 = 0 then stkP db ops (doP db op s).1 else ([], (doP db op s).2)
def runP (ops : List OP) (db : List PBC) : PBC × Int :=
  if 1000 < ops.length ∨ db.all pbV = false then (zeroC, 2)
  else if (stkP db ops []).2 ≠ 0 then (zeroC, (stkP db ops []).2)
  else if (stkP db ops []).1.length ≠ 1 then (zeroC, 2) else (ixC (stkP db ops []).1 0, 0)
theorem ixC_mem {l : List PBC} {i : Nat} (h : i < l.length) : ixC l i ∈ l := by
  unfold ixC
  rw [List.getD_eq_getElem?_getD, List.getElem?_eq_getElem h]
  exact List.getElem_mem h
end Go.Proofs.YteblddnoegbalaaGreat
namespace Go.Proofs.YteblddnoegbalaaGreat
open Go.RowKit
structure SU where
  r : GR
  b : Int
  S : List Int
def SupIs (w : World) (v : Value) (u : SU) : Prop := ∃ vh vb vw vs, v = .agg #[.bool u.r.choice, vh, .bool u.r.sum, .int .i64 u.r.bound, vb, vw, .int .i64 u.b, vs] ∧ RuleSl w u.r vh vb vw ∧ Ints w vs u.S ∧ InI u.b
theorem SupIs.below {w w' : World} {v : Value} {u : SU} (h : SupIs w v u) (hb : Below w.heap.size w w') : SupIs w' v u :=
  let ⟨vh, vb, vw, vs, e, h1, h2, h3⟩ := h; ⟨vh, vb, vw, vs, e, h1.below hb, h2.below hb, h3⟩
def intB (S : List Int) (l : Int) : Bool := decide (0 < l) && decide (l ∈ S)
set_option maxHeartbeats 1000000 in
theorem internal_any (v : Value) (u : SU) (l : Int) (w : World) (h : SupIs w v u) :
    Calls Tryz.prog 255 #[v, .int .i64 l] w fun e w' => e = .returned (.bool (intB u.S l)) ∧ Below w.heap.size w w' := by
  obtain ⟨vh, vb, vw, vs, rfl, hsl, hS, hb⟩ := h
  have hal := bal (Below.refl w.heap.size w) (.cells #[.bool u.r.choice, vh, .bool u.r.sum, .int .i64 u.r.bound, vb, vw, .int .i64 u.b, vs] 233)
  obtain ⟨a4, c4, rfl, -, hl4, -, -⟩ := hS.form
  have HS := Lib.hid (hS.below hal)
  clear hS hsl hb
  by_cases hl : 0 < l
  · have HF : Hid (intB u.S l = decide (l ∈ u.S)) := Lib.hid (by unfold intB; rw [decide_eq_true hl, Bool.true_and])
    go_enter Tryz.func255, Tryz.ntmps255
    go_wp2_with (go_at_call 100; (with_reducible refine (contains_any _ _ l _ HS.out).mono ?_); rintro e w1 ⟨rfl, rfl⟩)
    go_ret
    exact ⟨ret_bool HF.out.symm, hal⟩
  · have hl' : decide (0 < l) = false := decide_eq_false hl
    have HF : Hid (intB u.S l = false) := Lib.hid (by unfold intB; rw [hl', Bool.false_and])
    clear hl
    go_enter Tryz.func255, Tryz.ntmps255
    go_wp2
    go_ret
    exact ⟨ret_bool HF.out.symm, hal⟩
def wgt (u : SU) (g : Int → Bool) : Nat → Int
  | 0 => 0
  | k + 1 => wgt u g k + if !intB u.S (ix u.r.body k) && g (ix u.r.body k) then ix u.r.w k else 0
structure SUok (u : SU) : Prop where
  lits : ∀ k, k < u.r.body.length → 1 ≤ (ix u.r.body k).natAbs ∧ (ix u.r.body k).natAbs ≤ 1000000
  wts : u.r.sum = true → u.r.w.length = u.r.body.length ∧ (∀ k, k < u.r.w.length → 1 ≤ ix u.r.w k) ∧ ∀ k, k ≤ u.r.w.length → 0 ≤ sumTo u.r.w k ∧ sumTo u.r.w k ≤ 1048576
  bound : 0 ≤ u.r.bound ∧ u.r.bound ≤ 1048576
  head : ∀ k, k < u.r.head.length → 1 ≤ ix u.r.head k ∧ ix u.r.head k ≤ 1000000
  b : 1 ≤ u.b ∧ u.b ≤ 1000000
  hlen : u.r.head.length ≤ 1000000
theorem wgt_le {u : SU} (h : SUok u) (hs : u.r.sum = true) (g : Int → Bool) : ∀ k, k ≤ u.r.body.length → 0 ≤ wgt u g k ∧ wgt u g k ≤ sumTo u.r.w k
  | 0, _ => by simp [wgt, sumTo]
  | k + 1, hk => by
    have ih := wgt_le h hs g k (by omega)
    have h1 := (h.wts hs).2.1 k (by have := (h.wts hs).1; omega)
    unfold wgt sumTo
    split <;> omega
def WgRel (u : SU) (g : Int → Bool) (w : World) (sum i : Value) (wx : World) : Prop := ∃ k : Nat, k ≤ u.r.body.length ∧ i = .int .i64 k ∧ sum = .int .i64 (wgt u g k) ∧ Below w.heap.size w wx
set_option maxHeartbeats 4000000 in
set_option maxRecDepth 100000 in
theorem wgt_imp1 (v : Value) (u : SU) (w : World) (h : SupIs w v u) (hok : SUok u) (hs : u.r.sum = true) (g : Int → Bool) 
    (hg : ∀ w', Below w.heap.size w w' → ∀ l : Int, 1 ≤ l.natAbs → l.natAbs ≤ 1000000 → Calls Tryz.prog 254 #[.int .i64 l] w' fun e w'' => e = .returned (.bool (g l)) ∧ Below w'.heap.size w' w'') :
    Calls Tryz.prog 246 #[v, .func (.func 254) #[] #[]] w fun e w' => e = .returned (.int .i64 (wgt u g u.r.body.length)) ∧ Below w.heap.size w w' := by
  have h0 := h
  obtain ⟨vh, vb, vw, vs, rfl, hsl, hS, hb⟩ := h
  have hal := bal (Below.refl w.heap.size w) (.cells #[.bool u.r.choice, vh, .bool u.r.sum, .int .i64 u.r.bound, vb, vw, .int .i64 u.b, vs] 233)
  obtain ⟨a1, c1, rfl, -, hl1, -, -⟩ := hsl.head.form
  obtain ⟨a2, c2, rfl, -, hl2, -, hcb⟩ := hsl.body.form
  obtain ⟨a3, c3, rfl, -, hl3, -, hcw⟩ := hsl.wts.form
  obtain ⟨a4, c4, rfl, -, hl4, -, -⟩ := hS.form
  have H0 := Lib.hid h0
  have HG := Lib.hid hg
  have HBK := Lib.hid (Blk.new w [.bool u.r.choice, .slice a1 u.r.head.length c1, .bool u.r.sum, .int .i64 u.r.bound, .slice a2 u.r.body.length c2, .slice a3 u.r.w.length c3, .int .i64 u.b, .slice a4 u.S.length c4] 233)
  have HCB := Lib.hid hcb
  have HCW := Lib.hid hcw
  have HOK := Lib.hid hok
  have HWS := Lib.hid (hok.wts hs)
  have hwl : u.r.w.length ≤ u.r.body.length ∧ u.r.body.length ≤ u.r.w.length := by have := (hok.wts hs).1; omega
  have HSM := Lib.hid hs
  clear h0 hsl hS hb hg hcb hcw hok hs
  go_enter Tryz.func246, Tryz.ntmps246
  go_upto_region 1 with fail
  have HAL := Lib.hid hal
  clear hal
  generalize w.alloc (.cells #[.bool u.r.choice, .slice a1 u.r.head.length c1, .bool u.r.sum, .int .i64 u.r.bound, .slice a2 u.r.body.length c2, .slice a3 u.r.w.length c3, .int .i64 u.b, .slice a4 u.S.length c4] 233) = W0 at *
  have kx := HBK.out.cell
  have hzW : w.heap.size < W0.heap.size := HBK.out.lt
  go_wp2_with fail
  clear kx
  go_loopw [5, 12] (fun s i wx => WgRel u g W0 s i wx) (fun _ i _ => u.r.body.length - (intOf i).toNat)
  case atStart => exact ⟨0, Nat.zero_le _, rfl, rfl, Below.refl _ _⟩
  case round =>
    obtain ⟨k, hk, rfl, rfl, hbx⟩ := hrel
    have HBX := Lib.hid hbx
    have hbw : Below w.heap.size w wr := HAL.out.trans (hbx.mono (by omega))
    have HBW := Lib.hid hbw
    have kx := fun o => (bcell hbx _ o HBK.out.lt).trans (HBK.out.cell o)
    have hz := hbx.size
    have hle := wgt_le HOK.out HSM.out g k hk
    have hsm := HWS.out.2.2 k (by omega)
    clear hbx
    by_cases hlt : k < u.r.body.length
    · obtain ⟨bb, offb, rfl, hbb, hcb⟩ := HCB.out (by omega)
      have kb := (bcell hbw _ _ hbb).trans (hcb k hlt)
      obtain ⟨bw, offw, rfl, hbw2, hcw⟩ := HCW.out (by omega)
      have hcw0 := hcw k (by omega)
      have kw := (bcell hbw _ _ hbw2).trans hcw0
      have hle2 := wgt_le HOK.out HSM.out g (k + 1) hlt
      have hsm2 := HWS.out.2.2 (k + 1) (by omega)
      have hl := HOK.out.lits k hlt
      have HIN := Lib.hid (internal_any _ u (ix u.r.body k) wr (H0.out.below hbw))
      have HST : Hid (wgt u g (k + 1) = wgt u g k + if !intB u.S (ix u.r.body k) && g (ix u.r.body k) then ix u.r.w k else 0) := Lib.hid rfl
      have hw1 := HWS.out.2.1 k (by omega)
      clear hcb hcw hbw
      cases hi : intB u.S (ix u.r.body k) with
      | true =>
        rw [hi] at HIN HST
        have HS2 : Hid (wgt u g (k + 1) = wgt u g k) := Lib.hid (by rw [HST.out]; simp)
        go_wp2_with (go_at_call 255; (with_reducible refine (HIN.out).mono ?_); rintro e w1 ⟨rfl, hb1⟩; have HB1 := Lib.hid (bon HBX.out hb1); clear hb1)
        first
          | (go_roundw
             case rel => (exact ⟨k + 1, by omega, by go_num, by rw [HS2.out], HB1.out⟩)
             case measure => (simp [intOf]; omega))
          | (refine ⟨?_, ?_⟩
             · (exact ⟨k + 1, by omega, by go_num, by rw [HS2.out], HB1.out⟩)
             · (simp [intOf]; omega))
      | false =>
        rw [hi] at HIN HST
        cases hgl : g (ix u.r.body k) with
        | false =>
          rw [hgl] at HST
          have HS2 : Hid (wgt u g (k + 1) = wgt u g k) := Lib.hid (by rw [HST.out]; simp)
          go_wp2_with (first | (go_at_call 254; (with_reducible refine (HG.out _ (bon HBW.out hb1) _ hl.1 hl.2).mono ?_); rintro e w2 ⟨e2, hb2⟩; rw [hgl] at e2; subst e2; have HB2 := Lib.hid (bon (bon HBX.out hb1) hb2)) | (go_at_call 255; (with_reducible refine (HIN.out).mono ?_); rintro e w1 ⟨rfl, hb1⟩; have kx1 := fun o => (bcell (bon HBX.out hb1) _ o HBK.out.lt).trans (HBK.out.cell o); have hz1 := hb1.size))
          first
            | (go_roundw
               case rel => (exact ⟨k + 1, by omega, by go_num, by rw [HS2.out], HB2.out⟩)
               case measure => (simp [intOf]; omega))
            | (refine ⟨?_, ?_⟩
               · (exact ⟨k + 1, by omega, by go_num, by rw [HS2.out], HB2.out⟩)
               · (simp [intOf]; omega))
        | true =>
          rw [hgl] at HST
          have HS2 : Hid (wgt u g (k + 1) = wgt u g k + ix u.r.w k) := Lib.hid (by rw [HST.out]; simp)
          have hs2 : wgt u g k + ix u.r.w k ≤ 1048576 := by rw [HS2.out] at hle2; omega
          go_wp2_with (first | (go_at_call 254; (with_reducible refine (HG.out _ (bon HBW.out hb1) _ hl.1 hl.2).mono ?_); rintro e w2 ⟨e2, hb2⟩; rw [hgl] at e2; subst e2; have HB2 := Lib.hid (bon (bon HBX.out hb1) hb2); have kw2 := (bcell (bon (bon HBW.out hb1) hb2) _ _ hbw2).trans hcw0; have kx2 := fun o => (bcell (bon (bon HBX.out hb1) hb2) _ o HBK.out.lt).trans (HBK.out.cell o); have hz2 := hb2.size) | (go_at_call 255; (with_reducible refine (HIN.out).mono ?_); rintro e w1 ⟨rfl, hb1⟩; have kx1 := fun o => (bcell (bon HBX.out hb1) _ o HBK.out.lt).trans (HBK.out.cell o); have hz1 := hb1.size))
          first
            | (go_roundw
               case rel => (exact ⟨k + 1, by omega, by go_num, by rw [HS2.out], HB2.out⟩)
               case measure => (simp [intOf]; omega))
            | (refine ⟨?_, ?_⟩
               · (exact ⟨k + 1, by omega, by go_num, by rw [HS2.out], HB2.out⟩)
               · (simp [intOf]; omega))
    · obtain rfl : k = u.r.body.length := by omega
      go_wp2_with fail
      go_ret
      exact ⟨rfl, HAL.out.trans (HBX.out.mono (by omega))⟩
theorem blk_setCells {g : Nat} {t : TypeId} : ∀ (vs : List Value) (o : Nat) (D : List Value) (w : World), Blk w g D t → ∃ D', Blk (w.setCells g o vs) g D' t ∧ D'.length = D.length ∧ ∀ k, k < o → D'[k]? = D[k]?
  | [], _, D, _, h => ⟨D, h, rfl, fun _ _ => rfl⟩
  | v :: vs, o, D, w, h => by
    obtain ⟨D', h1, h2, h3⟩ := blk_setCells vs (o + 1) (D.set o v) (w.setCell ⟨g, o, none⟩ v) (h.set o v)
    refine ⟨D', h1, by simpa using h2, fun k hk => ?_⟩
    rw [h3 k (by omega), List.getElem?_set_ne (by omega)]
theorem lim_setCells {n g : Nat} {S : List Nat} {w0 : World} (hg : g ∈ S) : ∀ (vs : List Value) (o : Nat) (w : World), Lim n S w0 w → Lim n S w0 (w.setCells g o vs)
  | [], _, _, h => h
  | v :: vs, o, _, h => lim_setCells hg vs (o + 1) _ (h.trans (.setCell v (.inl hg)))
def keepF (q : Int → Bool) (l : List Int) (j : Nat) : List Int := (l.take j).filter fun x => !q x
theorem keepF_succ {q : Int → Bool} {l : List Int} {j : Nat} (hj : j < l.length) : keepF q l (j + 1) = if q (ix l j) then keepF q l j else keepF q l j ++ [ix l j] := by
  unfold keepF
  rw [take_ix l j hj, List.filter_append]
  cases h : q (ix l j) <;> simp [h]
theorem keepF_none {q : Int → Bool} {l : List Int} : ∀ j, j ≤ l.length → (∀ k, k < j → q (ix l k) = false) → keepF q l j = l.take j
  | 0, _, _ => by simp [keepF]
  | j + 1, hj, h => by
    rw [keepF_succ (by omega), h j (by omega), keepF_none j (by omega) (fun k hk => h k (by omega)), take_ix l j (by omega)]
    rfl
theorem keepF_le (q : Int → Bool) (l : List Int) (j : Nat) : (keepF q l j).length ≤ j := by
  have h := List.length_filter_le (fun x => !q x) (l.take j)
  have h2 := List.length_take_le j l
  unfold keepF
  omega
theorem fits_of {l : List Int} (h : ∀ x ∈ l, InI x) : Fits l := fun i => by
  by_cases hi : i < l.length
  · exact h _ (ix_mem hi)
  · have : ix l i = 0 := by unfold ix; rw [List.getD_eq_getElem?_getD, List.getElem?_eq_none (by omega)]; rfl
    rw [this]; omega
theorem ix_push (l : List Int) (x : Int) : ix (l ++ [x]) l.length = x := by simp [ix]
def DelSt (w : World) (g : Nat) (q : Int → Bool) (l : List Int) (N j : Nat) (wx : World) : Prop :=
  ∃ D : List Value, D.length = N ∧ Blk wx g D 3 ∧ (∀ k, k < (keepF q l j).length → D[k]? = some (.int .i64 (ix (keepF q l j) k))) ∧ (∀ k, j ≤ k → k < l.length → D[k]? = some (.int .i64 (ix l k))) ∧ Lim w.heap.size [g] w wx
def DelRel (w : World) (g : Nat) (q : Int → Bool) (l : List Int) (N : Nat) (i j : Value) (wx : World) : Prop :=
  ∃ jj : Nat, jj ≤ l.length ∧ j = .int .i64 jj ∧ i = .int .i64 (keepF q l jj).length ∧ (keepF q l jj).length < jj ∧ DelSt w g q l N jj wx
theorem DelSt.keep {w wx : World} {g N j : Nat} {q : Int → Bool} {l : List Int} (h : DelSt w g q l N j wx) (hj : j < l.length) (hN : l.length ≤ N) (hq : q (ix l j) = false) :
    DelSt w g q l N (j + 1) (wx.setCell ⟨g, (keepF q l j).length, none⟩ (.int .i64 (ix l j))) := by
  obtain ⟨D, h1, h2, h3, h4, h5⟩ := h
  have hle := keepF_le q l j
  have e : keepF q l (j + 1) = keepF q l j ++ [ix l j] := by rw [keepF_succ hj, hq]; rfl
  refine ⟨D.set (keepF q l j).length (.int .i64 (ix l j)), by simpa using h1, h2.set _ _, fun k hk => ?_, fun k hk hk2 => ?_, h5.trans (.setCell _ (.inl (by simp)))⟩
  · rw [e] at hk ⊢
    simp only [List.length_append, List.length_singleton] at hk
    by_cases hke : k = (keepF q l j).length
    · subst hke
      rw [List.getElem?_set_self (by omega), ix_push]
    · rw [List.getElem?_set_ne (by omega), h3 k (by omega)]
      congr 2
      simp [ix, List.getElem?_append_left (show k < (keepF q l j).length by omega)]
  · rw [List.getElem?_set_ne (by omega)]
    exact h4 k (by omega) hk2
theorem DelSt.drop {w wx : World} {g N j : Nat} {q : Int → Bool} {l : List Int} (h : DelSt w g q l N j wx) (hj : j < l.length) (hq : q (ix l j) = true) : DelSt w g q l N (j + 1) wx := by
  obtain ⟨D, h1, h2, h3, h4, h5⟩ := h
  have e : keepF q l (j + 1) = keepF q l j := by rw [keepF_succ hj, hq]; rfl
  exact ⟨D, h1, h2, by rw [e]; exact h3, fun k hk => h4 k (by omega), h5⟩
theorem DelSt.on {w wx w' : World} {g N j : Nat} {q : Int → Bool} {l : List Int} (h : DelSt w g q l N j wx) (hb : Below wx.heap.size wx w') : DelSt w g q l N j w' := by
  obtain ⟨D, h1, h2, h3, h4, h5⟩ := h
  exact ⟨D, h1, h2.below hb, h3, h4, h5.trans (.of_below hb h5.size)⟩
set_option maxHeartbeats 1000000 in
theorem idx_oth (v : Value) (l : List Int) (w : World) (h : Ints w v l) (g : Nat → Bool) (cap : Value)
    (hg : ∀ w', Below w.heap.size w w' → ∀ j, j < l.length → Calls Tryz.prog 257 #[.int .i64 (ix l j), cap] w' fun e w'' => e = .returned (.bool (g j)) ∧ Below w'.heap.size w' w'') :
    Calls Tryz.prog 150 #[v, .func (.func 257) #[] #[cap]] w fun e w' => ∃ r, e = .returned (.int .i64 r) ∧ IxP l.length g r ∧ Below w.heap.size w w' := by
  obtain ⟨a1, c1, rfl, -, hl1, -, hcell⟩ := h.form
  have HG := Lib.hid hg
  clear h hg
  go_enter Tryz.func150, Tryz.ntmps150
  go_wp2
  go_loopw [8] (fun i wx => IxR l.length g w i wx) (fun i _ => l.length - (intOf i).toNat)
  case atStart => exact ⟨0, by omega, rfl, fun j hj => absurd hj (Nat.not_lt_zero _), Below.refl _ _⟩
  case round =>
    obtain ⟨k, hk, rfl, hall, hb⟩ := hrel
    have HA := Lib.hid hall
    clear hall
    by_cases hlt : k < l.length
    · obtain ⟨b, off, rfl, hbl, hc⟩ := hcell (by omega)
      have hk1 := (bcell hb _ _ hbl).trans (hc k hlt)
      clear hc hcell
      cases g1 : g k with
      | true =>
        have HK : Hid (_ = true) := Lib.hid g1
        have HC := Lib.hid (HG.out _ hb k hlt)
        rw [g1] at HC
        clear g1
        go_wp2_with (go_at_call 257; refine (HC.out).mono ?_; rintro e w1 ⟨rfl, hb1⟩)
        go_ret
        exact ⟨_, rfl, .inr ⟨k, hlt, rfl, HK.out, HA.out⟩, bon hb hb1⟩
      | false =>
        have HN := Lib.hid (lt_succ_all HA.out g1)
        have HC := Lib.hid (HG.out _ hb k hlt)
        rw [g1] at HC
        clear g1
        go_wp2_with (go_at_call 257; refine (HC.out).mono ?_; rintro e w1 ⟨rfl, hb1⟩)
        first
          | (go_roundw
             case rel => (exact ⟨k + 1, by omega, by go_num, HN.out, bon hb hb1⟩)
             case measure => (simp [intOf]; omega))
          | (refine ⟨?_, ?_⟩
             · (exact ⟨k + 1, by omega, by go_num, HN.out, bon hb hb1⟩)
             · (simp [intOf]; omega))
    · have HN : Hid (∀ j, j < l.length → g j = false) := Lib.hid (fun j hj => HA.out j (by omega))
      go_wp2
      go_ret
      exact ⟨_, rfl, .inl ⟨rfl, HN.out⟩, hb⟩
def SupB (w : World) (b : Nat) (u : SU) : Prop := ∃ vh vb vw vs, Blk w b [.bool u.r.choice, vh, .bool u.r.sum, .int .i64 u.r.bound, vb, vw, .int .i64 u.b, vs] 233 ∧ RuleSl w u.r vh vb vw ∧ Ints w vs u.S ∧ InI u.b
theorem SupB.below {w w' : World} {b : Nat} {u : SU} (h : SupB w b u) (hb : Below w.heap.size w w') : SupB w' b u :=
  let ⟨vh, vb, vw, vs, h0, h1, h2, h3⟩ := h; ⟨vh, vb, vw, vs, h0.below hb, h1.below hb, h2.below hb, h3⟩
set_option maxHeartbeats 1000000 in
theorem oth1_any (u : SU) (b : Nat) (x : Int) (w : World) (h : SupB w b u) :
    Calls Tryz.prog 257 #[.int .i64 x, .pointer (some ⟨b, 0, none⟩)] w fun e w' => e = .returned (.bool (decide (x ∈ u.S))) ∧ w = w' := by
  obtain ⟨vh, vb, vw, vs, h0, h1, h2, h3⟩ := h
  obtain ⟨a4, c4, rfl, -, hl4, -, -⟩ := h2.form
  have k7 := h0.cell 7
  have HS := Lib.hid h2
  clear h0 h1 h2 h3
  go_enter Tryz.func257, Tryz.ntmps257
  go_wp2_with (go_at_call 100; (with_reducible refine (contains_any _ _ x _ HS.out).mono ?_); rintro e w1 ⟨rfl, rfl⟩)
  go_ret
  exact ⟨rfl, rfl⟩
set_option maxHeartbeats 4000000 in
set_option maxRecDepth 100000 in
theorem delf_oth (l : List Int) (g c base : Nat) (D : List Value) (w : World) (hb : Blk w g D 3) (hcell : ∀ k, k < l.length → D[k]? = some (.int .i64 (ix l k))) (hfit : Fits l) (hn : l.length ≤ c ∧ c ≤ D.length ∧ c ≤ maxLen) (hbase : base ≤ g) (hl8 : l.length * 8 ≤ 140737488351232)
    (q : Int → Bool) (cap : Value) (hq : ∀ w', Lim w.heap.size [g] w w' → ∀ x, Calls Tryz.prog 257 #[.int .i64 x, cap] w' fun e w'' => e = .returned (.bool (q x)) ∧ w' = w'') :
    Calls Tryz.prog 256 #[.slice (some ⟨g, 0, none⟩) l.length c, .func (.func 257) #[] #[cap]] w fun e w' => ∃ a n c', e = .returned (.slice a n c') ∧ QRow base w' (.slice a n c') (keepF q l l.length) ∧ Lim w.heap.size [g] w w' := by
  have hint : Ints w (.slice (some ⟨g, 0, none⟩) l.length c) l := ⟨⟨_, _, rfl, hn.1, hn.2.2, hl8, fun _ => ⟨g, 0, rfl, hb.lt, fun i hi => by rw [Nat.zero_add, hb.cell]; exact hcell i hi⟩⟩, hfit⟩
  have HI := Lib.hid (idx_oth _ l w hint (fun j => q (ix l j)) cap (fun w' hb' j _ => (hq w' (.of_below hb' (Nat.le_refl _)) _).mono fun e w'' ⟨h1, h2⟩ => ⟨h1, h2 ▸ Below.refl _ _⟩))
  have HQ := Lib.hid hq
  have HB := Lib.hid hb
  have HC := Lib.hid hcell
  have HFT := Lib.hid hfit
  have hglt := hb.lt
  clear hint hq hb hcell hfit
  go_enter Tryz.func256, Tryz.ntmps256
  go_upto_region 2 with (go_at_call 150; (with_reducible refine (HI.out).mono ?_); rintro e w1 ⟨r, rfl, hr, hb1⟩; have HR := Lib.hid hr; have HB1 := Lib.hid hb1; clear hr hb1)
  rcases HR.out with ⟨rfl, hnone⟩ | ⟨i0, hi0, rfl, hq0, hbef⟩
  · have HK : Hid (keepF q l l.length = l) := Lib.hid (by rw [keepF_none _ (Nat.le_refl _) hnone, List.take_length])
    clear hnone
    go_wp2_with fail
    go_ret
    refine ⟨_, _, _, rfl, ⟨by rw [HK.out]; exact HFT.out, .inr ⟨g, 0, c, D.toArray, by rw [HK.out], hbase, HB.out.below HB1.out, by rw [HK.out]; exact hn.1, hn.2.2, by simp; exact hn.2.1, fun i hi => by rw [HK.out] at hi ⊢; rw [Nat.zero_add, List.getElem?_toArray]; exact HC.out i hi⟩⟩, .of_below HB1.out (Nat.le_refl _)⟩
  · have hk0 : keepF q l i0 = l.take i0 := keepF_none i0 (by omega) hbef
    have hk1 : keepF q l (i0 + 1) = l.take i0 := by rw [keepF_succ hi0, if_pos (show q (ix l i0) = true from hq0)]; exact hk0
    have hst : DelSt w g q l D.length (i0 + 1) w1 := ⟨D, rfl, HB.out.below HB1.out, fun k hk => by
      rw [hk1] at hk ⊢
      simp only [List.length_take] at hk
      rw [HC.out k (by omega)]
      congr 2
      simp [ix, show k < i0 by omega], fun k _ hk => HC.out k hk, .of_below HB1.out (Nat.le_refl _)⟩
    have HST := Lib.hid hst
    have HLE : Hid ((keepF q l (i0 + 1)).length = i0) := Lib.hid (by rw [hk1, List.length_take]; omega)
    clear hst hk0 hk1 hq0 hbef HR HI
    have hi0m : ((i0 : Int) == -1) = false := by simp
    have hlen63 : l.length ≤ 1000000000000000 := by omega
    go_upto_region 5 with fail
    go_loopw [5, 6] (fun i j wx => DelRel w g q l D.length i j wx) (fun _ j _ => l.length - (intOf j).toNat)
    case atStart => exact ⟨i0 + 1, by omega, by go_num, by rw [HLE.out], by rw [HLE.out]; omega, HST.out⟩
    case round =>
      obtain ⟨jj, hjj, rfl, rfl, hlt0, hst⟩ := hrel
      have HS := Lib.hid hst
      obtain ⟨D1, hd1, hd2, hd3, hd4, hd5⟩ := hst
      have hN : l.length ≤ D.length := by omega
      by_cases hltj : jj < l.length
      · have kv := (hd2.cell jj).trans (hd4 jj (Nat.le_refl _) hltj)
        have hil : (keepF q l jj).length < D1.length := by omega
        have ks : wr.cell? ⟨g, (keepF q l jj).length, none⟩ = some (D1[(keepF q l jj).length]) := (hd2.cell _).trans (List.getElem?_eq_getElem hil)
        have fs := hd2.free (keepF q l jj).length
        have HCL := Lib.hid (HQ.out wr hd5 (ix l jj))
        have HSUC := Lib.hid (keepF_succ (q := q) hltj)
        clear hd2 hd3 hd4 hd5
        cases hqv : q (ix l jj) with
        | true =>
          rw [hqv] at HCL HSUC
          have HSU2 : Hid (keepF q l (jj + 1) = keepF q l jj) := Lib.hid (by rw [HSUC.out]; rfl)
          have HNX := Lib.hid (HS.out.drop hltj hqv)
          go_wp2_with (go_at_call 257; (with_reducible refine (HCL.out).mono ?_); rintro e w2 ⟨rfl, rfl⟩)
          first
            | (go_roundw
               case rel => (exact ⟨jj + 1, by omega, by go_num, by rw [HSU2.out], by rw [HSU2.out]; omega, HNX.out⟩)
               case measure => (simp [intOf]; omega))
            | (refine ⟨?_, ?_⟩
               · (exact ⟨jj + 1, by omega, by go_num, by rw [HSU2.out], by rw [HSU2.out]; omega, HNX.out⟩)
               · (simp [intOf]; omega))
        | false =>
          rw [hqv] at HCL HSUC
          have HSU2 : Hid ((keepF q l (jj + 1)).length = (keepF q l jj).length + 1) := Lib.hid (by rw [HSUC.out]; simp)
          have HNX := Lib.hid (HS.out.keep hltj hN hqv)
          go_wp2_with (go_at_call 257; (with_reducible refine (HCL.out).mono ?_); rintro e w2 ⟨rfl, rfl⟩)
          first
            | (go_roundw
               case rel => (exact ⟨jj + 1, by omega, by go_num, by rw [HSU2.out]; go_num, by rw [HSU2.out]; omega, HNX.out⟩)
               case measure => (simp [intOf]; omega))
            | (refine ⟨?_, ?_⟩
               · (exact ⟨jj + 1, by omega, by go_num, by rw [HSU2.out]; go_num, by rw [HSU2.out]; omega, HNX.out⟩)
               · (simp [intOf]; omega))
      · obtain rfl : jj = l.length := by omega
        obtain ⟨fi, hfi⟩ : ∃ fi, fi = (keepF q l l.length).length := ⟨_, rfl⟩
        have HFI := Lib.hid hfi
        rw [← hfi] at hlt0 ⊢
        have hcl : ∀ ty c', (Builtin.clear_ #[23] ty #[.slice (some ⟨g, fi, none⟩) (l.length - fi) c']).run Tryz.prog wr = .ok (.tuple #[]) (wr.setCells g fi (List.replicate (l.length - fi) (.int .i64 0))) := fun ty c' =>
          Lib.run_clear_slice wr 23 3 ty (.int .i64 0) Tryz.underlying23 (fun w => Tryz.zeroValue3 w) rfl rfl g fi (l.length - fi) c' (by omega) (fun j hj => by rw [hd2.cell, List.getElem?_eq_getElem (by omega)]; rfl) (fun j hj => hd2.free _)
        clear hfi hd2 hd3 hd4 hd5
        go_wp2_with fail
        go_ret
        obtain ⟨D2, d1, d2, d3, -, d5⟩ := HS.out
        obtain ⟨D3, e1, e2, e3⟩ := blk_setCells (List.replicate (l.length - fi) (.int .i64 0)) fi D2 wr d2
        rw [← HFI.out] at d3
        refine ⟨_, _, _, rfl, ⟨fits_of (fun x hx => ?_), .inr ⟨g, 0, c, D3.toArray, by rw [← HFI.out], hbase, e1, by rw [← HFI.out]; omega, hn.2.2, by simp; omega, fun i hi => ?_⟩⟩, lim_setCells (by simp) _ _ _ d5⟩
        · have hm : x ∈ l := by
            unfold keepF at hx
            exact List.mem_of_mem_take (List.mem_filter.1 hx).1
          obtain ⟨k, hk, rfl⟩ := mem_ix.1 hm
          exact HFT.out k
        · rw [← HFI.out] at hi
          rw [Nat.zero_add, List.getElem?_toArray, e3 i hi]
          exact d3 i hi
end Go.Proofs.YteblddnoegbalaaGreat
