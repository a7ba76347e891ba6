/- My texts Cls, CpR, PbT, Pb4, Lay, CpA, CpB, App, CpC, Lv4, Lv5, merged. -/
import Derived.Test.YtjodocheiejkeaaGreatDoorM10
import Derived.Test.YtjodocheiejkeaaGreatDoorM09
import Derived.Test.YtjodocheiejkeaaGreatDoorM08
import Derived.Test.YtjodocheiejkeaaGreatDoorM04
import Derived.Test.YtjodocheiejkeaaGreatDoorM00
import Derived.Test.YtjodocheiejkeaaGreatDoorProg
import Derived.WalkKit
import Derived.Lib.Hide
import Derived.Deep.QuietTactic
import Derived.BigQuiet
import Derived.Test.YtjodocheiejkeaaGreatDoorM07
import Derived.Test.YtjodocheiejkeaaGreatDoorM03
import Derived.Test.YtjodocheiejkeaaGreatDoorM02
import Derived.WalkSpells
import Derived.Lib.SliceRun
import Derived.MapKept
import Derived.Maps.OwnSet
import Derived.Maps.OwnOps
import Derived.Test.YtjodocheiejkeaaGreatDoorM01
import Derived.Deep.AppendLies
import Derived.Lib.Bytealg
import Derived.Deep.DeepCutAuto
import Derived.RangeFuncNested
import Derived.RangeFuncBound
import Derived.RangeFuncCalls
import Derived.RangeFuncLeaves
import Derived.OwnWalkIn
import Derived.TacticsInMore
import Derived.LoopNIn
import Derived.LoopIn
import Derived.Stop.RegionWithIn
import Derived.Shelf.Abstract
import Derived.Maps.RangeWalk
import Derived.Lib.SlicesCompact
import Derived.Shelf.Sort.Plain
import Derived.Shelf.Slices.CompactI
import Derived.Shelf.Slices.In.SortNone
import Derived.Shelf.Strconv.Itoa3
import Derived.Shelf.Strings.BuilderK
import Derived.Sort.OwnSortedInts
import Derived.Sort.QuietThIn
import Derived.RangeFuncBox
import Derived.Maps.OwnIn
import Derived.Lib.RowBridge
import Derived.Deep.OwnRows
import Derived.Deep.AppendSrc
import Derived.Test.YtjodocheiejkeaaGreatDoorM05
import Derived.Deep.DeepMust
import Derived.Test.YtjodocheiejkeaaGreatDoorM06

namespace Go.Proofs.YtjodocheiejkeaaGreatDoor
open Go.RowKit
theorem made_row (z : Value) (n : Nat) : madeCells #[z] n = (List.replicate n z).toArray := by
  apply Array.ext
  · simp [size_madeCells]
  · intro i h1 h2
    simp [madeCells, Nat.mod_one]
def oneCells (N k : Nat) : List Value := List.replicate k (Value.int .i64 1) ++ List.replicate (N - k) (Value.int .i64 0)
theorem oneCells_set {N k : Nat} (hk : k < N) : (oneCells N k).set k (.int .i64 1) = oneCells N (k + 1) := by
  unfold oneCells
  rw [List.set_append_right _ _ (by simp)]
  obtain ⟨m, hm⟩ : ∃ m, N - k = m + 1 := ⟨N - k - 1, by omega⟩
  rw [hm, show N - (k + 1) = m by omega, List.length_replicate, Nat.sub_self, List.replicate_succ, List.set_cons_zero, List.replicate_succ', List.append_assoc]
  rfl
def OneSt (W : World) (N k : Nat) (wx : World) : Prop := Below W.heap.size W wx ∧ Blk wx W.heap.size (oneCells N k) 3
def OneRel (W : World) (N : Nat) (i : Value) (wx : World) : Prop := ∃ k : Nat, k ≤ N ∧ i = .int .i64 k ∧ OneSt W N k wx
theorem OneSt.start (W : World) (N : Nat) : OneSt W N 0 (W.alloc (.cells (madeCells #[.int .i64 0] N) 3)) := by
  refine ⟨bal (Below.refl _ _) _, ?_⟩
  have := Blk.new W (List.replicate N (Value.int .i64 0)) 3
  rw [← made_row] at this
  simpa [oneCells] using this
theorem OneSt.step {W wx : World} {N k : Nat} (h : OneSt W N k wx) (hk : k < N) : OneSt W N (k + 1) (wx.setCell ⟨W.heap.size, k, none⟩ (.int .i64 1)) := by
  refine ⟨h.1.setCell (p := ⟨W.heap.size, k, none⟩) (Nat.le_refl _) _, ?_⟩
  have := h.2.set k (.int .i64 1)
  rwa [oneCells_set hk] at this
theorem OneSt.end {W wx : World} {N : Nat} (h : OneSt W N N wx) (hN : N * 8 ≤ 140737488351232) : Ints wx (.slice (some ⟨W.heap.size, 0, none⟩) N N) (ones N) := by
  have h2 := h.2
  have e : oneCells N N = (ones N).map (Value.int .i64) := by simp [oneCells, ones]
  rw [e] at h2
  have hl : (ones N).length = N := by simp [ones]
  have := h2.ints (fitI fun x hx => by obtain rfl := List.eq_of_mem_replicate hx; unfold InI; omega) (by rw [hl]; exact hN)
  rwa [hl] at this
theorem setL_len (l : List Int) : (setL l).length ≤ l.length := by
  have h1 := Lib.compact_length_le (srt l)
  rw [compact_set, sortI_len] at h1
  exact h1
set_option maxHeartbeats 4000000 in
set_option maxRecDepth 100000 in
theorem clause_any (v : Value) (l : List Int) (w : World) (h : Ints w v l) :
    Calls Tryz.prog 18 #[v] w fun e w' => ∃ vp, e = .returned (.tuple #[vp, .int .i64 (clauseP l).2]) ∧ PBQ w.heap.size w' vp (clauseP l).1 ∧ Below w.heap.size w w' := by
  have h0 := h
  obtain ⟨a1, c1, rfl, -, hl1, -, -⟩ := h.form
  have h8 : l.length * 8 ≤ 140737488351232 := by obtain ⟨⟨_, _, _, _, _, h, _⟩, _⟩ := h0; exact h
  have hN := setL_len l
  have hal0 := bal (Below.refl w.heap.size w) (.cells #[.slice none 0 0, .slice none 0 0, .int .i64 0] 46)
  have HAL := Lib.hid hal0
  have HB0 := Lib.hid (Blk.new w pbZ 46)
  have HI := Lib.hid (h0.below hal0)
  have hz0 : (w.alloc (.cells #[.slice none 0 0, .slice none 0 0, .int .i64 0] 46)).heap.size = w.heap.size + 1 := by simp
  have HZ0 := Lib.hid hz0
  clear hal0 h h0 hz0
  have hmk : ∀ w : World, (Instr.makeSlice 23 (.int .i64 ((setL l).length : Int)) (.int .i64 ((setL l).length : Int))).run Tryz.prog w = .ok (.slice (some ⟨w.heap.size, 0, none⟩) (setL l).length (setL l).length) (w.alloc (.cells (madeCells #[.int .i64 0] (setL l).length) 3)) := fun w => run_make_row' _ _ _ _ Tryz.underlying23 infoI rfl .i64 .i64 (setL l).length (by omega) (by omega) w
  go_enter Tryz.func18, Tryz.ntmps18
  go_upto_region 1 with fail
  generalize w.alloc (.cells #[.slice none 0 0, .slice none 0 0, .int .i64 0] 46) = W0 at *
  go_upto_region 4 with (first
    | (go_at_call 50; (with_reducible refine (compactI_own HO.out).mono ?_); rintro e w3 ⟨a3, c3, rfl, hi3, hg3⟩; rw [compact_set] at hi3 ⊢; have HI3 := Lib.hid hi3; have HB3 := Lib.hid (HB2.out.grown hg3 (by have := HB2.out.size; omega) (fun g e => by have := (HO.out.1.1.2); rcases this with ⟨e2, _⟩ | ⟨g', cap, cur, e2, hb, _⟩; (rw [e2] at e; cases e); (rw [e2] at e; simp only [Value.ownBlock, Option.some.injEq] at e; omega))); clear hi3 hg3)
    | (go_at_call 51; (with_reducible refine (sorted_any l W0 _ _ W0.heap.size HI.out HB1.out HK1.out).mono ?_); rintro e w2 ⟨vo, rfl, ho, hb2⟩; have HO := Lib.hid ho; have HB2 := Lib.hid (HB1.out.trans (hb2.mono hz1)); have hz2 := hb2.size; clear ho hb2)
    | (go_at_call 52; (with_reducible refine (values_any _ _ _ _).mono ?_); rintro e w1 ⟨rfl, hb1, hk1, hs1⟩; have HB1 := Lib.hid hb1; have HK1 := Lib.hid hk1; have hz1 := hb1.size; clear hb1 hk1 hs1))
  have HBW := Lib.hid (HAL.out.trans (HB3.out.mono HAL.out.size))
  have HBX := Lib.hid (HB0.out.same (HB3.out.block _ (by have := HZ0.out; omega)))
  have HST := Lib.hid (OneSt.start w3 (setL l).length)
  have HZ3 : Hid (w.heap.size + 1 ≤ w3.heap.size) := Lib.hid (by have := HB3.out.size; have := HZ0.out; omega)
  clear hmk hz1 hz2
  go_loopw [15] (fun i wx => OneRel w3 (setL l).length i wx) (fun i _ => (setL l).length - (intOf i).toNat)
  case atStart => exact ⟨0, Nat.zero_le _, rfl, HST.out⟩
  case round =>
    obtain ⟨k, hk, rfl, hst⟩ := hrel
    have HSK := Lib.hid hst
    by_cases hlt : k < (setL l).length
    · have kc := hst.2.cell k
      have kf := hst.2.free k
      have hg : (oneCells (setL l).length k)[k]? = some (.int .i64 0) := by
        unfold oneCells
        rw [List.getElem?_append_right (by simp), List.length_replicate, Nat.sub_self, List.getElem?_replicate, if_pos (by omega)]
      rw [hg] at kc
      have HN := Lib.hid (hst.step hlt)
      clear hst hg
      go_wp2
      first
        | (go_roundw
           case rel => (exact ⟨k + 1, hlt, by go_num, HN.out⟩)
           case measure => (simp [intOf]; omega))
        | (refine ⟨?_, ?_⟩
           · (exact ⟨k + 1, hlt, by go_num, HN.out⟩)
           · (simp [intOf]; omega))
    · obtain rfl : k = (setL l).length := by omega
      have HON := Lib.hid (hst.end (by omega))
      have HLI := Lib.hid (HI3.out.below hst.1)
      have HBR := Lib.hid (HBW.out.trans (hst.1.mono (by have := HZ3.out; omega)))
      have HBB := Lib.hid (HBX.out.same (hst.1.block _ (by have := HZ3.out; omega)))
      have hzr : w.heap.size + 1 ≤ wr.heap.size := by have := HZ3.out; have := hst.1.size; omega
      have HZR := Lib.hid hzr
      clear hst hzr
      go_wp2_with (go_at_call 35; (with_reducible refine (norm_any _ _ (setL l) (ones (setL l).length) 1 wr HLI.out HON.out (by unfold InI; omega)).mono ?_); rintro e w4 ⟨vp, rfl, ⟨vl, vk, rfl, hq1, hq2, hq3⟩, hb4⟩; obtain ⟨al, nl, cl, rfl⟩ := hq1.form; obtain ⟨ak, nk, ck, rfl⟩ := hq2.form; have HQ1 := Lib.hid hq1; have HQ2 := Lib.hid hq2; have HQ3 := Lib.hid hq3; have HB4 := Lib.hid (HBR.out.trans (hb4.mono (by have := HZR.out; omega))); have hbb := HBB.out.below hb4; have kx := hbb.cell; have kf := hbb.free; clear hq1 hq2 hq3 hb4 hbb)
      refine bodyPost_ret (v := .tuple #[.agg #[.slice al nl cl, .slice ak nk ck, .int .i64 (clauseP l).1.bound], .int .i64 (clauseP l).2]) ?_ rfl ⟨_, rfl, ?_, below3 HB4.out _ (Nat.le_refl _) _ _ _⟩
      · unfold clauseP
        simp [results, Tryz.f18, go_sem, *]
      · have hzr := HZR.out
        exact ⟨_, _, rfl, (row3 HQ1.out w.heap.size (by omega) _ _ _).mono (by omega), (row3 HQ2.out w.heap.size (by omega) _ _ _).mono (by omega), HQ3.out⟩
abbrev CQ := PBC × Value × Value
def cells3 (q : CQ) : List Value := [q.2.1, q.2.2, .int .i64 q.1.bound]
def ixC (l : List PBC) (i : Nat) : PBC := l.getD i default
def pbCell (c : PBC) (vl vk : Value) : Nat → Value
  | 0 => vl
  | 1 => vk
  | _ => .int .i64 c.bound
structure PBSl (w : World) (c : PBC) (vl vk : Value) : Prop where
  lits : Ints w vl c.lits
  coefs : Ints w vk c.coefs
  bound : InI c.bound
theorem PBSl.below {w w' : World} {c : PBC} {vl vk : Value} (h : PBSl w c vl vk) (hb : Below w.heap.size w w') : PBSl w' c vl vk := ⟨h.lits.below hb, h.coefs.below hb, h.bound⟩
theorem PBSl.is {w : World} {c : PBC} {vl vk : Value} (h : PBSl w c vl vk) : PBIs w (.agg #[vl, vk, .int .i64 c.bound]) c := ⟨_, _, rfl, h.lits, h.coefs, h.bound⟩
def PBsIs (w : World) (v : Value) (l : List PBC) : Prop :=
  ∃ vl vk : Nat → Value, Rows w v 3 56 l.length (fun i => pbCell (ixC l i) (vl i) (vk i)) ∧ ∀ i, i < l.length → PBSl w (ixC l i) (vl i) (vk i)
theorem PBsIs.below {w w' : World} {v : Value} {l : List PBC} (h : PBsIs w v l) (hb : Below w.heap.size w w') : PBsIs w' v l :=
  let ⟨vl, vk, e, h1⟩ := h; ⟨vl, vk, e.below hb, fun i hi => (h1 i hi).below hb⟩
def PBCells (w : World) (b o : Nat) (c : PBC) (vl vk : Value) : Prop :=
  w.cell? ⟨b, o, none⟩ = some vl ∧ w.cell? ⟨b, o + 1, none⟩ = some vk ∧ w.cell? ⟨b, o + 2, none⟩ = some (.int .i64 c.bound)
theorem PBCells.below {w w' : World} {b o : Nat} {c : PBC} {vl vk : Value} (h : PBCells w b o c vl vk) (hb : Below w.heap.size w w') (hl : b < w.heap.size) : PBCells w' b o c vl vk :=
  ⟨(bcell hb _ _ hl).trans h.1, (bcell hb _ _ hl).trans h.2.1, (bcell hb _ _ hl).trans h.2.2⟩
theorem PBsIs.form {w : World} {v : Value} {l : List PBC} (h : PBsIs w v l) : ∃ a cap, v = .slice a l.length cap ∧ l.length ≤ cap ∧ l.length ≤ 1000000000000000 ∧ PBsIs w (.slice a l.length cap) l ∧
    (0 < l.length → ∃ b off, a = some ⟨b, off, none⟩ ∧ b < w.heap.size ∧ ∀ i, i < l.length → ∃ vl vk, PBCells w b (off + i * 3) (ixC l i) vl vk ∧ PBSl w (ixC l i) vl vk) := by
  have h0 := h
  obtain ⟨vl, vk, ⟨a, cap, rfl, h1, hm, h2, h3⟩, h4⟩ := h
  refine ⟨a, cap, rfl, h1, by omega, h0, fun hp => ?_⟩
  obtain ⟨b, off, e, hl, hc⟩ := h3 hp
  exact ⟨b, off, e, hl, fun i hi => ⟨vl i, vk i, ⟨hc i hi 0 (by omega), hc i hi 1 (by omega), hc i hi 2 (by omega)⟩, h4 i hi⟩⟩
def isC (w : World) (i : Nat) : Prop := ∃ c fz, w.heap[i]? = some (.cells c 34 fz) ∨ w.heap[i]? = some (.cells c 46 fz)
structure CLim (B : Nat) (w w' : World) : Prop where
  os : w'.os = w.os
  tape : w'.tape = w.tape
  output : w'.output = w.output
  size : w.heap.size ≤ w'.heap.size
  block : ∀ i, i < w.heap.size → (B ≤ i → ¬ isC w i) → w'.heap[i]? = w.heap[i]?
theorem CLim.trans {B : Nat} {a b c : World} (h : CLim B a b) (k : CLim B b c) : CLim B a c :=
  ⟨k.os.trans h.os, k.tape.trans h.tape, k.output.trans h.output, Nat.le_trans h.size k.size, fun i hi hn => by
    have e := h.block i hi hn
    refine (k.block i (Nat.lt_of_lt_of_le hi h.size) fun hB hc => hn hB ?_).trans e
    obtain ⟨c, fz, hc⟩ := hc
    rw [e] at hc
    exact ⟨c, fz, hc⟩⟩
theorem CLim.of_below {B : Nat} {w w' : World} (h : Below w.heap.size w w') : CLim B w w' := ⟨h.os, h.tape, h.output, h.size, fun i hi _ => h.block i hi⟩
theorem CLim.below {B : Nat} {w w' : World} (h : CLim B w w') (hB : B ≤ w.heap.size) : Below B w w' := ⟨h.os, h.tape, h.output, h.size, fun i hi => h.block i (by omega) fun h' => absurd hi (by omega)⟩
theorem CLim.blk {B : Nat} {w w' : World} (h : CLim B w w') {b : Nat} {c : List Value} {T : TypeId} (hb : Blk w b c T) (h1 : T ≠ 34) (h2 : T ≠ 46) : Blk w' b c T :=
  hb.same (h.block b hb.lt fun _ hc => by
    obtain ⟨c', fz, hc⟩ := hc
    unfold Blk at hb
    rw [hb] at hc
    rcases hc with hc | hc
    · injection hc with hc; injection hc with _ e _; exact h1 e
    · injection hc with hc; injection hc with _ e _; exact h2 e)
theorem CLim.qrow {B base : Nat} {w w' : World} (h : CLim B w w') {v : Value} {l : List Int} (hq : QRow base w v l) : QRow base w' v l :=
  hq.kept fun i _ hi hv => h.block i hi fun _ hc => by
    obtain ⟨c', fz, hc⟩ := hc
    rcases hq.2 with ⟨rfl, _⟩ | ⟨g, off, cap, cur, rfl, _, hg, _⟩
    · cases hv
    · have : g = i := by simpa [Value.ownBlock] using hv
      subst this
      rw [hg] at hc
      rcases hc with hc | hc
      · injection hc with hc; injection hc with _ e _; revert e; decide
      · injection hc with hc; injection hc with _ e _; revert e; decide
theorem CLim.map {B b : Nat} {w w' : World} (h : CLim B w w') {kv : Int → Value} {g : Int → Option Value} (hm : MapIs kv w b g) : MapIs kv w' b g :=
  hm.same (h.block b hm.lt fun _ hc => by
    obtain ⟨c', fz, hc⟩ := hc
    obtain ⟨es, clock, e, -⟩ := hm
    rw [e] at hc
    rcases hc with hc | hc <;> (injection hc with hc; cases hc))
structure MineC (B : Nat) (v : Value) (L : List CQ) (w : World) : Prop where
  row : w.ownsRow B 46 3 v L.length (L.flatMap cells3)
  each : ∀ q ∈ L, QRow B w q.2.1 q.1.lits ∧ QRow B w q.2.2 q.1.coefs ∧ InI q.1.bound ∧ q.1.lits.length ≤ 65536 ∧ q.1.coefs.length ≤ 65536
theorem MineC.nil (B : Nat) (w : World) : MineC B (.slice none 0 0) [] w := ⟨⟨by simp, .inl ⟨rfl, rfl⟩⟩, fun q hq => by simp at hq⟩
section
variable {B n : Nat} {xs : List Value} {v : Value} {w w' : World} {L : List CQ}
theorem QRow.rowKeptC {u : Value} {l : List Int} {base : Nat} (h : QRow base w u l) (hr : w.ownsRow B 46 3 v n xs) (hg : w.grownBy w' v.ownBlock) : QRow base w' u l := by
  refine h.kept fun i hi hi2 hu => hg.block i hi2 (fun e => ?_)
  rcases hr.2 with ⟨rfl, _⟩ | ⟨g, cap, cur, rfl, hb, hgg, _⟩
  · cases e
  · simp only [Value.ownBlock, Option.some.injEq] at e
    subst e
    rcases h.2 with ⟨rfl, _⟩ | ⟨g', off, cap', cur', rfl, _, hgg', _⟩
    · cases hu
    · simp only [Value.ownBlock, Option.some.injEq] at hu
      subst hu
      rw [hgg'] at hgg
      have := Option.some.inj hgg
      injection this with _ h2 _
      revert h2; decide
theorem MineC.below (h : MineC B v L w) (hb : Below w.heap.size w w') : MineC B v L w' :=
  ⟨rowBelow h.row hb, fun q hq => let ⟨h1, h2, h3⟩ := h.each q hq; ⟨h1.below hb, h2.below hb, h3⟩⟩
theorem MineC.push {g cap : Nat} {q : CQ} (h : MineC B v L w) (hq : QRow B w q.2.1 q.1.lits ∧ QRow B w q.2.2 q.1.coefs ∧ InI q.1.bound ∧ q.1.lits.length ≤ 65536 ∧ q.1.coefs.length ≤ 65536)
    (hown : w'.ownsRow B 46 3 (.slice (some ⟨g, 0, none⟩) (L.length + 1) cap) (L.length + 1) (L.flatMap cells3 ++ cells3 q)) (hg : w.grownBy w' v.ownBlock) : MineC B (.slice (some ⟨g, 0, none⟩) (L.length + 1) cap) (L ++ [q]) w' := by
  refine ⟨by simpa using hown, fun q' hq' => ?_⟩
  simp only [List.mem_append, List.mem_singleton] at hq'
  rcases hq' with hq' | rfl
  · obtain ⟨h1, h2, h3⟩ := h.each q' hq'
    exact ⟨h1.rowKeptC h.row hg, h2.rowKeptC h.row hg, h3⟩
  · obtain ⟨h1, h2, h3⟩ := hq
    exact ⟨h1.rowKeptC h.row hg, h2.rowKeptC h.row hg, h3⟩
end
def OutC (B ob : Nat) (A : Nat → Prop) (l : List PBC) (w : World) : Prop :=
  ∃ v L, Blk w ob [v] 34 ∧ MineC B v L w ∧ L.map (·.1) = l ∧ ∀ q ∈ L, ∀ g, (q.2.1.ownBlock = some g ∨ q.2.2.ownBlock = some g) → ¬ A g
theorem OutC.below {B ob : Nat} {A : Nat → Prop} {l : List PBC} {w w' : World} (h : OutC B ob A l w) (hb : Below w.heap.size w w') : OutC B ob A l w' :=
  let ⟨v, L, h1, h2, h3⟩ := h; ⟨v, L, h1.below hb, h2.below hb, h3⟩
def rowV (G : Int → Option Value) (x : Int) : Value := (G x).getD (.slice none 0 0)
structure SupM (B mb : Nat) (F : Int → List Int) (G : Int → Option Value) (w : World) : Prop where
  map : MapIs (Value.int .i64) w mb G
  row : ∀ x, QRow B w (rowV G x) (F x)
  far : ∀ x y, x ≠ y → ∀ g, (rowV G x).ownBlock = some g → (rowV G y).ownBlock ≠ some g
theorem SupM.below {B mb : Nat} {F : Int → List Int} {G : Int → Option Value} {w w' : World} (h : SupM B mb F G w) (hb : Below w.heap.size w w') : SupM B mb F G w' := ⟨h.map.below hb, fun x => (h.row x).below hb, h.far⟩
theorem SupM.clim {B mb C : Nat} {F : Int → List Int} {G : Int → Option Value} {w w' : World} (h : SupM B mb F G w) (hb : CLim C w w') : SupM B mb F G w' := ⟨hb.map h.map, fun x => hb.qrow (h.row x), h.far⟩
def setL' (F : Int → List Int) (x : Int) (l : List Int) : Int → List Int := fun y => if y = x then l else F y
theorem SupM.push {B mb : Nat} {F : Int → List Int} {G : Int → Option Value} {w w1 w2 : World} {x b : Int} {v' : Value} (h : SupM B mb F G w) (hq : QRow B w1 v' (F x ++ [b])) (hg : w.grownBy w1 (rowV G x).ownBlock) (ho : v'.ownBlock = (rowV G x).ownBlock ∨ v'.ownBlock = some w.heap.size)
    (hm : MapIs (Value.int .i64) w2 mb (upd G x (some v'))) (hg2 : w1.grownBy w2 (some mb)) (hm1 : MapIs (Value.int .i64) w1 mb G) : SupM B mb (setL' F x (F x ++ [b])) (upd G x (some v')) w2 := by
  have e1 : rowV (upd G x (some v')) x = v' := by unfold rowV; rw [upd_same]; rfl
  have e2 : ∀ y, y ≠ x → rowV (upd G x (some v')) y = rowV G y := fun y hy => by unfold rowV; rw [upd_other _ _ hy]
  have hkeep : ∀ (u : Value) (l : List Int), QRow B w1 u l → QRow B w2 u l := fun u l hu => hu.kept fun i _ hi hv => hg2.block i hi fun e => by
    obtain ⟨es, clock, em, -⟩ := hm1
    rcases hu.2 with ⟨rfl, _⟩ | ⟨g, off, cap, cur, rfl, _, hgg, _⟩
    · cases hv
    · have e3 : g = i := by simpa [Value.ownBlock] using hv
      have e4 : mb = i := by simpa using e.symm
      subst e3 e4
      rw [em] at hgg
      cases hgg
  refine ⟨hm, fun y => ?_, fun y z hyz g hy hz => ?_⟩
  · unfold setL'
    by_cases hy : y = x
    · subst hy
      rw [if_pos rfl, e1]
      exact hkeep _ _ hq
    · rw [if_neg hy, e2 y hy]
      refine hkeep _ _ ((h.row y).kept fun i _ hi hv => hg.block i hi fun e => h.far y x hy i hv e.symm)
  · have hlt : ∀ y g, (rowV G y).ownBlock = some g → g < w.heap.size := fun y g e => ((h.row y).base e).2
    by_cases h1 : y = x
    · subst h1
      have h2 : z ≠ y := fun e => hyz e.symm
      rw [e1] at hy
      rw [e2 z h2] at hz
      rcases ho with ho | ho
      · rw [ho] at hy
        exact h.far y z hyz g hy hz
      · rw [ho] at hy
        have := hlt z g hz
        have := Option.some.inj hy
        omega
    · rw [e2 y h1] at hy
      by_cases h2 : z = x
      · subst h2
        rw [e1] at hz
        rcases ho with ho | ho
        · rw [ho] at hz
          exact h.far y z hyz g hy hz
        · rw [ho] at hz
          have := hlt y g hy
          have := Option.some.inj hz
          omega
      · rw [e2 z h2] at hz
        exact h.far y z hyz g hy hz
def supB (G : Int → Option Value) (g : Nat) : Prop := ∃ x, (rowV G x).ownBlock = some g
theorem SupM.inB {B mb : Nat} {F : Int → List Int} {G : Int → Option Value} {w : World} (h : SupM B mb F G w) : ∀ g, supB G g → g < w.heap.size := fun _ ⟨x, e⟩ => ((h.row x).base e).2
theorem SupM.map1 {B mb : Nat} {F : Int → List Int} {G : Int → Option Value} {w w1 : World} {x : Int} (h : SupM B mb F G w) (hg : w.grownBy w1 (rowV G x).ownBlock) : MapIs (Value.int .i64) w1 mb G :=
  h.map.same (hg.block mb h.map.lt fun e => by
    obtain ⟨es, clock, em, -⟩ := h.map
    rcases (h.row x).2 with ⟨e2, _⟩ | ⟨g, off, cap, cur, e2, _, hgg, _⟩
    · rw [e2] at e; cases e
    · rw [e2] at e
      have : mb = g := by simpa [Value.ownBlock] using e
      subst this
      rw [em] at hgg
      cases hgg)
theorem SupM.blk1 {B mb : Nat} {F : Int → List Int} {G : Int → Option Value} {w w1 w2 : World} {x : Int} {b : Nat} {c : List Value} {T : TypeId} (h : SupM B mb F G w) (hg : w.grownBy w1 (rowV G x).ownBlock) (hg2 : w1.grownBy w2 (some mb)) (hb : Blk w b c T) (hT : T ≠ 3) : Blk w2 b c T := by
  have h1 : Blk w1 b c T := hb.same (hg.block b hb.lt fun e => (h.row x).far hb hT e.symm)
  refine h1.same (hg2.block b h1.lt fun e => ?_)
  obtain ⟨es, clock, em, -⟩ := h.map1 hg
  have : b = mb := by simpa using e
  subst this
  unfold Blk at h1
  rw [em] at h1
  cases h1
theorem SupM.out1 {B mb ob : Nat} {F : Int → List Int} {G : Int → Option Value} {w w1 w2 : World} {x : Int} {v' : Value} {l : List PBC} (h : SupM B mb F G w) (hg : w.grownBy w1 (rowV G x).ownBlock) (hg2 : w1.grownBy w2 (some mb)) (ho : v'.ownBlock = (rowV G x).ownBlock ∨ v'.ownBlock = some w.heap.size)
    (hO : OutC B ob (supB G) l w) : OutC B ob (supB (upd G x (some v'))) l w2 := by
  obtain ⟨v, L, h1, h2, h3, h4⟩ := hO
  have hm1 := h.map1 hg
  have keep : ∀ i, i < w.heap.size → (rowV G x).ownBlock ≠ some i → (∃ c T fz, w.heap[i]? = some (.cells c T fz)) → w2.heap[i]? = w.heap[i]? := fun i hi hne ⟨c, T, fz, hc⟩ => by
    have e1 := hg.block i hi fun e => hne e.symm
    refine (hg2.block i (Nat.lt_of_lt_of_le hi hg.size) fun e => ?_).trans e1
    obtain ⟨es, clock, em, -⟩ := hm1
    have : i = mb := by simpa using e
    subst this
    rw [em] at e1
    rw [← e1] at hc
    cases hc
  have hq : ∀ (u : Value) (k : List Int), QRow B w u k → (∀ g, u.ownBlock = some g → ¬ supB G g) → QRow B w2 u k := fun u k hu hn => hu.kept fun i _ hi hv => by
    refine keep i hi (fun e => hn i hv ⟨x, e⟩) ?_
    rcases hu.2 with ⟨rfl, _⟩ | ⟨g, off, cap, cur, rfl, _, hgg, _⟩
    · cases hv
    · have : g = i := by simpa [Value.ownBlock] using hv
      subst this
      exact ⟨_, _, _, hgg⟩
  refine ⟨v, L, h.blk1 hg hg2 h1 (by decide), ⟨?_, fun q hq' => ?_⟩, h3, fun q hq' g hg' hA => ?_⟩
  · refine ⟨h2.row.1, ?_⟩
    rcases h2.row.2 with hn | ⟨g, cap, cur, e, hb, hgg, rest⟩
    · exact .inl hn
    · refine .inr ⟨g, cap, cur, e, hb, ?_, rest⟩
      rw [keep g (Array.getElem?_eq_some_iff.1 hgg).1 (fun e2 => ?_) ⟨_, _, _, hgg⟩]
      · exact hgg
      · rcases (h.row x).2 with ⟨e3, _⟩ | ⟨g', off, cap', cur', e3, _, hgg', _⟩
        · rw [e3] at e2; cases e2
        · rw [e3] at e2
          have : g' = g := by simpa [Value.ownBlock] using e2
          subst this
          rw [hgg'] at hgg
          have := Option.some.inj hgg
          injection this with _ h5 _
          revert h5; decide
  · obtain ⟨q1, q2, q3⟩ := h2.each q hq'
    exact ⟨hq _ _ q1 fun g e => h4 q hq' g (.inl e), hq _ _ q2 fun g e => h4 q hq' g (.inr e), q3⟩
  · obtain ⟨y, hy⟩ := hA
    have hlt : g < w.heap.size := by
      obtain ⟨q1, q2, -⟩ := h2.each q hq'
      rcases hg' with e | e
      · exact (q1.base e).2
      · exact (q2.base e).2
    by_cases e : y = x
    · subst e
      have e1 : rowV (upd G y (some v')) y = v' := by unfold rowV; rw [upd_same]; rfl
      rw [e1] at hy
      rcases ho with ho | ho
      · rw [ho] at hy
        exact h4 q hq' g hg' ⟨y, hy⟩
      · rw [ho] at hy
        have := Option.some.inj hy
        omega
    · have e2 : rowV (upd G x (some v')) y = rowV G y := by unfold rowV; rw [upd_other _ _ e]
      rw [e2] at hy
      exact h4 q hq' g hg' ⟨y, hy⟩
theorem OwnI.qrow {base : Nat} {w : World} {v : Value} {l : List Int} (h : OwnI base w v l) : QRow base w v l := by
  refine ⟨h.2, ?_⟩
  rcases h.1.1.2 with ⟨e, e0⟩ | ⟨g, cap, cur, e, hb, hg, hn, hm, hs, hx⟩
  · exact .inl ⟨e, List.eq_nil_of_length_eq_zero e0⟩
  · refine .inr ⟨g, 0, cap, cur, e, hb, hg, hn, hm, by omega, fun i hi => ?_⟩
    have h4 : (cur.toList.take (l.length * 1))[i]? = some (.int .i64 (ix l i)) := by rw [hx]; simp [hi]
    rw [List.getElem?_take_of_lt (by omega)] at h4
    simpa using h4
end Go.Proofs.YtjodocheiejkeaaGreatDoor
namespace Go.Proofs.YtjodocheiejkeaaGreatDoor
open Go.RowKit Go.Shelf
attribute [local go_sem] Oper.semAt_some
set_option maxHeartbeats 4000000 in
set_option maxRecDepth 100000 in
theorem string_any (v : Value) (c : PBC) (w : World) (h : PBIs w v c) (hv : pbV c = true) (hsm : ∀ q ∈ c.lits.zip c.coefs, q.1.natAbs < 100 ∧ 0 ≤ q.2 ∧ q.2 < 100) (hbs : 0 ≤ c.bound ∧ c.bound < 100) (hln : c.lits.length = c.coefs.length ∧ c.lits.length ≤ 1000) :
    Calls Tryz.prog 28 #[v] w fun e w' => e = .returned (.string ⟨(strT c).toArray⟩) ∧ Below w.heap.size w w' := by
  obtain ⟨vl, vk, rfl, hL, hK, hbd⟩ := h
  obtain ⟨a1, c1, rfl, -, hl1, -, -⟩ := hL.form
  obtain ⟨a2, c2, rfl, -, hl2, -, -⟩ := hK.form
  have hal : Below w.heap.size w (w.alloc (.cells #[.slice a1 c.lits.length c1, .slice a2 c.coefs.length c2, .int .i64 c.bound] 46)) := bal (Below.refl _ _) _
  have HAL := Lib.hid hal
  have HC : Hid (PBIs (w.alloc (.cells #[.slice a1 c.lits.length c1, .slice a2 c.coefs.length c2, .int .i64 c.bound] 46)) (.agg #[.slice a1 c.lits.length c1, .slice a2 c.coefs.length c2, .int .i64 c.bound]) c) := Lib.hid ⟨_, _, rfl, hL.below hal, hK.below hal, hbd⟩
  have BB := Lib.hid (Blk.new w [.slice a1 c.lits.length c1, .slice a2 c.coefs.length c2, .int .i64 c.bound] 46)
  have HL := Lib.hid hL
  have HK := Lib.hid hK
  have HV := Lib.hid hv
  have HSM := Lib.hid hsm
  have hlz : (c.lits.zip c.coefs).length ≤ 1000 := by simp; omega
  have HLN := Lib.hid hln.1
  have hlm := hln.2
  clear hln
  clear hL hK hal hv hsm
  refine (callsIn_wide (n := 6)).1 ?_
  refine callsIn_of_wp_marks Tryz.func28 rfl trivial ?_ rfl
  simp only [Tryz.ntmps28, List.size_toArray, List.length_cons, List.length_nil, Nat.reduceAdd, Nat.reduceSub, Array.replicate_succ, Array.replicate_zero, List.push_toArray, List.append_toArray, List.nil_append, List.cons_append]
  gi_upto_region 1 with fail
  have kB := BB.out.cell
  have hltB := BB.out.lt
  generalize w.alloc (.cells #[.slice a1 c.lits.length c1, .slice a2 c.coefs.length c2, .int .i64 c.bound] 46) = w0 at *
  gi_wp2_with (first
    | (refine ⟨trivial, ?_⟩; gi_at_call 57; refine (callsIn_wide.2 (parts_any2 _ _ _ _ ⟨_, _, _, rfl⟩ ⟨_, _, _, rfl⟩)).mono ?_; rintro e w3 ⟨rfl, hb3, hp3, hs3⟩)
    | (refine ⟨trivial, ?_⟩; gi_at_call 53; refine (callsIn_wide.2 (pbValid_any _ c _ HC.out)).mono ?_; rintro e w1 ⟨e1, hb1⟩; rw [HV.out] at e1; subst e1; have HB1 := Lib.hid hb1; have kB1 := fun o => (bcell hb1 _ o hltB).trans (kB o); have hz1 : w.heap.size < w1.heap.size := (by have := hb1.size; omega); clear hb1))
  have hald := bal (Below.refl w1.heap.size w1) (.cells #[.pointer none, .slice none 0 0] 97)
  have hsz : (w1.alloc (.cells #[.pointer none, .slice none 0 0] 97)).heap.size = w1.heap.size + 1 := by simp
  have hbb := (Blk.new w1 [.pointer none, .slice none 0 0] 97).below hb3
  have HBW := Lib.hid (bon (bon HAL.out HB1.out) (hald.trans (hb3.mono (by omega))))
  have hbox1 := ((BB.out.below HB1.out).below hald).below hb3
  simp only [World.size_alloc] at hp3 hs3
  have HS0 : Hid (StSt w.heap.size w1.heap.size (w1.heap.size + 1) (w1.heap.size + 2) [.slice a1 c.lits.length c1, .slice a2 c.coefs.length c2, .int .i64 c.bound] w1 [] w3) := Lib.hid ⟨.inl ⟨Nat.le_refl _, .slice none 0 0, hbb, World.ownsRowF_nil _ _ _ _, by simp [Value.ownBlock]⟩, hp3, hbox1, hald.trans (hb3.mono (by omega)), by omega⟩
  have hst : PartSt w w3 [w1.heap.size] (w1.heap.size + 1) (.slice a1 c.lits.length c1) (.slice a2 c.coefs.length c2) c.bound := ⟨fun i hi => HBW.out.block i hi, HBW.out.size, hp3⟩
  have hz3 : w3.heap.size = w1.heap.size + 2 := by omega
  have HZ3 := Lib.hid hz3
  clear hz3 hsz hs3 hald hbb hbox1
  refine parts_loop HL.out HK.out HLN.out hst (fun s hs => by simp only [List.mem_cons, List.not_mem_nil, or_false] at hs; omega) (by simp <;> omega) (by omega) rfl rfl
    (fun pre W => StSt w.heap.size w1.heap.size (w1.heap.size + 1) (w1.heap.size + 2) [.slice a1 c.lits.length c1, .slice a2 c.coefs.length c2, .int .i64 c.bound] w1 (headT (pvs pre)) W)
    (fun _ _ _ => False)
    (StSt.own (by have := HZ3.out; omega)) (fun _ _ _ _ _ h _ _ => h)
    HS0.out ?a1 ?assign ?body ?done ?stop
  case assign =>
    intro l x W K hK
    gi_wp2
    exact hK
  case body =>
    rintro l pre x W hI hlt
    have hx := HSM.out x.1 x.2
    have HTL : Hid ((headT (pvs pre)).length ≤ 8000) := Lib.hid (by
      have h1 := headT_len (l := pvs pre) (fun q hq => by
        obtain ⟨y, _, rfl⟩ := List.mem_map.1 hq
        exact HSM.out y.1 y.2)
      rw [pvs_len] at h1
      omega)
    have HI := Lib.hid hI
    have hszW : w1.heap.size + 2 ≤ W.heap.size := hI.size
    clear hI
    obtain ⟨⟨x1, x2⟩, hxm⟩ := x
    dsimp only at hx ⊢
    obtain ⟨k2, rfl⟩ : ∃ k2 : Nat, x2 = k2 := ⟨x2.toNat, by omega⟩
    have hk2 : k2 < 100 := by omega
    obtain ⟨k1, hk1⟩ : ∃ k1 : Nat, x1.natAbs = k1 := ⟨_, rfl⟩
    have HX1 : Hid (-4611686018427387904 ≤ x1 ∧ x1 ≤ 4611686018427387904) := Lib.hid (by omega)
    have HD2 := Lib.hid (dec_len hk2)
    have hk1' : k1 < 100 := by omega
    have HD1 := Lib.hid (dec_len hk1')
    have hd1 := HD1.out
    have hd2 := HD2.out
    by_cases g1 : x1 < 0
    · gi_wp2_with (first
        | (refine ⟨trivial, ?_⟩; gi_at_call 63; (with_reducible refine (CallsIn.inRound l (callsIn_wide.2 (ws_txt HS5.out rfl hz1 ([120] ++ Lib.decDigits k1 ++ [32]) _ (cat3_list [120] (Lib.decDigits k1) [32]) (by have := HTL.out; have := HD2.out; have := HD1.out; simp; omega)))).mono ?_); rintro e W6 ⟨rfl, hs6, hl6, hk6⟩; have HS6 := Lib.hid hs6; have HL6 := Lib.hid hl6; have HK6 := Lib.hid hk6; clear hs6 hl6 hk6)
        | (refine ⟨trivial, ?_⟩; gi_at_call 64; (with_reducible refine (CallsIn.inRound l (callsIn_wide.2 (Tryz.strconv_Itoa_small k1 hk1' _))).mono ?_); rintro e Wi ⟨rfl, rfl⟩)
        | (refine ⟨trivial, ?_⟩; gi_at_call 65; refine (CallsIn.inRound l (callsIn_wide.2 (abs_any x1 HX1.out _))).mono ?_; rintro e Wi ⟨rfl, rfl⟩; rw [hk1])
        | (refine ⟨trivial, ?_⟩; gi_at_call 63; (with_reducible refine (CallsIn.inRound l (callsIn_wide.2 (ws_txt HS4.out rfl hz1 ([126]) _ (rfl) (by have := HTL.out; have := HD2.out; have := HD1.out; simp; omega)))).mono ?_); rintro e W5 ⟨rfl, hs5, hl5, hk5⟩; have HS5 := Lib.hid hs5; have HL5 := Lib.hid hl5; have HK5 := Lib.hid hk5; clear hs5 hl5 hk5)
        | (refine ⟨trivial, ?_⟩; gi_at_call 63; (with_reducible refine (CallsIn.inRound l (callsIn_wide.2 (ws_txt HI.out rfl hz1 (Lib.decDigits k2 ++ [32]) _ (cat_list (Lib.decDigits k2) [32]) (by have := HTL.out; have := HD2.out; have := HD1.out; simp; omega)))).mono ?_); rintro e W4 ⟨rfl, hs4, hl4, hk4⟩; have HS4 := Lib.hid hs4; have HL4 := Lib.hid hl4; have HK4 := Lib.hid hk4; clear hs4 hl4 hk4)
        | (refine ⟨trivial, ?_⟩; gi_at_call 64; (with_reducible refine (CallsIn.inRound l (callsIn_wide.2 (Tryz.strconv_Itoa_small k2 hk2 _))).mono ?_); rintro e Wi ⟨rfl, rfl⟩))
      refine ⟨(HK4.out.trans HK5.out).trans HK6.out, by rw [HZ3.out]; exact (HL4.out.trans HL5.out).trans HL6.out, ?_⟩
      have hfin := HS6.out
      show StSt _ _ _ _ _ _ (headT (pvs (pre ++ [⟨(x1, (k2 : Int)), hxm⟩]))) _
      rw [pvs_snoc, headT_snoc]
      simpa [itemT, g1, hk1, List.append_assoc] using hfin
    · gi_wp2_with (first
        | (refine ⟨trivial, ?_⟩; gi_at_call 63; (with_reducible refine (CallsIn.inRound l (callsIn_wide.2 (ws_txt HS4.out rfl hz1 ([120] ++ Lib.decDigits k1 ++ [32]) _ (cat3_list [120] (Lib.decDigits k1) [32]) (by have := HTL.out; have := HD2.out; have := HD1.out; simp; omega)))).mono ?_); rintro e W6 ⟨rfl, hs6, hl6, hk6⟩; have HS6 := Lib.hid hs6; have HL6 := Lib.hid hl6; have HK6 := Lib.hid hk6; clear hs6 hl6 hk6)
        | (refine ⟨trivial, ?_⟩; gi_at_call 64; (with_reducible refine (CallsIn.inRound l (callsIn_wide.2 (Tryz.strconv_Itoa_small k1 hk1' _))).mono ?_); rintro e Wi ⟨rfl, rfl⟩)
        | (refine ⟨trivial, ?_⟩; gi_at_call 65; refine (CallsIn.inRound l (callsIn_wide.2 (abs_any x1 HX1.out _))).mono ?_; rintro e Wi ⟨rfl, rfl⟩; rw [hk1])
        | (refine ⟨trivial, ?_⟩; gi_at_call 63; (with_reducible refine (CallsIn.inRound l (callsIn_wide.2 (ws_txt HI.out rfl hz1 (Lib.decDigits k2 ++ [32]) _ (cat_list (Lib.decDigits k2) [32]) (by have := HTL.out; have := HD2.out; have := HD1.out; simp; omega)))).mono ?_); rintro e W4 ⟨rfl, hs4, hl4, hk4⟩; have HS4 := Lib.hid hs4; have HL4 := Lib.hid hl4; have HK4 := Lib.hid hk4; clear hs4 hl4 hk4)
        | (refine ⟨trivial, ?_⟩; gi_at_call 64; (with_reducible refine (CallsIn.inRound l (callsIn_wide.2 (Tryz.strconv_Itoa_small k2 hk2 _))).mono ?_); rintro e Wi ⟨rfl, rfl⟩))
      refine ⟨HK4.out.trans HK6.out, by rw [HZ3.out]; exact HL4.out.trans HL6.out, ?_⟩
      have hfin := HS6.out
      show StSt _ _ _ _ _ _ (headT (pvs (pre ++ [⟨(x1, (k2 : Int)), hxm⟩]))) _
      rw [pvs_snoc, headT_snoc]
      unfold itemT
      rw [if_neg (show ¬ x1 < 0 by omega)]
      simpa [hk1, List.append_assoc] using hfin
  case done =>
    rintro D xs W hD hS hI hK
    have HTL : Hid ((headT (pvs xs)).length ≤ 8000) := Lib.hid (by
      have h1 := headT_len (l := pvs xs) (fun q hq => by
        obtain ⟨y, _, rfl⟩ := List.mem_map.1 hq
        exact HSM.out y.1 y.2)
      rw [hS] at h1 ⊢
      omega)
    obtain ⟨kb, hkb⟩ : ∃ kb : Nat, c.bound = kb := ⟨c.bound.toNat, by omega⟩
    have hkb2 : kb < 100 := by omega
    have HDB := Lib.hid (dec_len hkb2)
    have hdb := HDB.out
    have HF : Hid (strT c = headT (pvs xs) ++ ([62, 61, 32] ++ Lib.decDigits kb)) := Lib.hid (by unfold strT; rw [hS, hkb]; rfl)
    have HI := Lib.hid hI
    have kb1 := hI.box1.cell
    rw [hkb] at kb1
    have HK0 := Lib.hid hK
    have HBW1 := Lib.hid (bon HAL.out HB1.out)
    clear hS hI hK hkb
    gi_wp2_with (first
      | (refine ⟨trivial, ?_⟩; gi_at_call 66; refine (callsIn_wide.2 (Tryz.Builder_String_any_k w1.heap.size w1.heap.size _ _ HS4.out.bld (by have := HS4.out.size; omega))).mono ?_; rintro e W5 ⟨rfl, -, hb5, ho5⟩; have HB5 := Lib.hid hb5; have HO5 := Lib.hid ho5; clear hb5 ho5)
      | (refine ⟨trivial, ?_⟩; gi_at_call 63; (with_reducible refine (callsIn_wide.2 (ws_txt HI.out rfl hz1 ([62, 61, 32] ++ Lib.decDigits kb) _ (cat_list [62, 61, 32] (Lib.decDigits kb)) (by have := HTL.out; have := HDB.out; simp; omega))).mono ?_); rintro e W4 ⟨rfl, hs4, hl4, hk4⟩; have HS4 := Lib.hid hs4; have HK4 := Lib.hid hk4; clear hs4 hl4 hk4)
      | (refine ⟨trivial, ?_⟩; gi_at_call 64; (with_reducible refine (callsIn_wide.2 (Tryz.strconv_Itoa_small kb hkb2 _)).mono ?_); rintro e Wi ⟨rfl, rfl⟩))
    have hK4 := HK4.out.2 D _ HK0.out rfl
    have hz3 := HZ3.out
    have hK5 := HO5.out D _ hK4 (fun e => by have := Option.some.inj e; omega) (fun c fz e => by cases e)
    refine ⟨by simp, .inl ⟨_, _, rfl, run_takeDeferred hK5, ?_⟩⟩
    refine ⟨.string ⟨(headT (pvs xs) ++ ([62, 61, 32] ++ Lib.decDigits kb)).toArray⟩, by simp [results, Tryz.f28, go_sem], by rw [HF.out], ?_⟩
    exact (HBW1.out.trans ((HS4.out.below.trans HB5.out).mono (by omega))).trans (belowK_b (w := w) (Nat.le_refl _) W5 D _ _ (by omega) hK5 rfl rfl)
  case stop => rintro D e pre W hD hS ⟨⟩
end Go.Proofs.YtjodocheiejkeaaGreatDoor
namespace Go.Proofs.YtjodocheiejkeaaGreatDoor
open Go.RowKit Go.Shelf
attribute [local go_sem] Oper.semAt_some
structure HSt (c : PBC) (H sb : Nat) (vl vk va : Value) (s0 : Int) (t : Int → Bool) (pre : List (PV c)) (W : World) : Prop where
  box : Blk W H [vl, vk, .int .i64 c.bound] 46
  abox : Blk W (H + 1) [va] 39
  sum : Blk W sb [.int .i64 (s0 + sumW t (pvs pre))] 3
theorem HSt.own {c : PBC} {H sb B : Nat} {vl vk va : Value} {s0 : Int} {t : Int → Bool} : OwnFrom B (fun pre W => HSt c H sb vl vk va s0 t pre W) := fun pre X Y row hs hg hrow => by
  have hr : ∀ r, row = some r → ∃ o : Obj, X.heap[r]? = some o ∧ o.isCells = false := fun r e => (hrow r e).2
  exact ⟨blk_ownP _ _ _ () X Y row hs.box hg hr, blk_ownP _ _ _ () X Y row hs.abox hg hr, blk_ownP _ _ _ () X Y row hs.sum hg hr⟩
end Go.Proofs.YtjodocheiejkeaaGreatDoor
namespace Go.Proofs.YtjodocheiejkeaaGreatDoor
open Go.RowKit
theorem Blk.rules {w : World} {b : Nat} {L : List RQ} (h : Blk w b (L.flatMap cells6) 55) (hs : ∀ q ∈ L, RuleSl w q.1 q.2.1 q.2.2.1 q.2.2.2) (hl : L.length ≤ 1000) : RulesIs w (.slice (some ⟨b, 0, none⟩) L.length L.length) (L.map (·.1)) := by
  have hg : ∀ i, i < L.length → L.getD i default ∈ L := fun i hi => by
    rw [List.getD_eq_getElem?_getD, List.getElem?_eq_getElem hi]
    exact List.getElem_mem hi
  have hx : ∀ i, i < L.length → ixR (L.map (·.1)) i = (L.getD i default).1 := fun i hi => by
    simp [ixR, List.getD_eq_getElem?_getD, hi]
  refine ⟨fun i => (L.getD i default).2.1, fun i => (L.getD i default).2.2.1, fun i => (L.getD i default).2.2.2, ⟨_, L.length, by rw [List.length_map], by rw [List.length_map]; exact Nat.le_refl _, by unfold maxLen; omega, by rw [List.length_map]; omega, fun _ => ⟨b, 0, rfl, h.lt, fun i hi j hj => ?_⟩⟩, fun i hi => ?_⟩
  · rw [List.length_map] at hi
    show _ = some (ruleCell (ixR (L.map (·.1)) i) (L.getD i default).2.1 (L.getD i default).2.2.1 (L.getD i default).2.2.2 j)
    rw [h.cell, hx i hi, Nat.zero_add, flat6 L i j hi hj]
    rcases (show j = 0 ∨ j = 1 ∨ j = 2 ∨ j = 3 ∨ j = 4 ∨ j = 5 by omega) with rfl | rfl | rfl | rfl | rfl | rfl <;> rfl
  · rw [List.length_map] at hi
    rw [hx i hi]
    exact hs _ (hg i hi)
structure RA (w : World) (fv : Value) (rb : Nat) (v1 v2 : Value) (la lb : List Int) (b bd rest x y : Int) (vals : Nat → Value) (L : Nat → Bool) (wx : World) : Prop where
  below : Below w.heap.size w wx
  t0 : L 0 = true → vals 0 = fv
  t1 : L 1 = true → vals 1 = .pointer (some ⟨rb, 4, none⟩)
  t2 : L 2 = true → vals 2 = v1
  t4 : L 4 = true → vals 4 = .int .i64 b
  t5 : L 5 = true → vals 5 = .int .i64 x
  t8 : L 8 = true → vals 8 = .pointer (some ⟨rb, 5, none⟩)
  t9 : L 9 = true → vals 9 = v2
  t11 : L 11 = true → vals 11 = .pointer (some ⟨rb, 3, none⟩)
  t12 : L 12 = true → vals 12 = .int .i64 bd
  t15 : L 15 = true → vals 15 = .pointer (some ⟨rb, 3, none⟩)
  t16 : L 16 = true → vals 16 = .int .i64 bd
  ra : L 3 = true → QRow w.heap.size wx (if L 7 then vals 7 else vals 3) (if L 7 then la ++ [x] else la)
  rb : L 10 = true → QRow w.heap.size wx (if L 14 then vals 14 else vals 10) (if L 14 then lb ++ [y] else lb)
  far : L 3 = true → L 10 = true → Far (if L 7 then vals 7 else vals 3) (if L 14 then vals 14 else vals 10)
  sa : L 6 = true → L 7 = false → ∃ g, vals 6 = .slice (some ⟨g, 0, none⟩) 1 1 ∧ Blk wx g [.int .i64 x] 3
  sb : L 13 = true → L 14 = false → ∃ g, vals 13 = .slice (some ⟨g, 0, none⟩) 1 1 ∧ Blk wx g [.int .i64 y] 3 ∧ (L 3 = true → (if L 7 then vals 7 else vals 3).ownBlock ≠ some g)
section
variable {w : World} {fv : Value} {rb : Nat} {v1 v2 : Value} {la lb : List Int} {b bd rest x y : Int} {vals : Nat → Value} {L : Nat → Bool} {wx w' : World} {v : Value}
theorem RA.start : RA w fv rb v1 v2 la lb b bd rest x y (fun _ => undef) (fun _ => false) w.drew := by
  constructor <;> first | exact (Below.refl _ _).drew | (intro h; cases h)
def RA.val (fv : Value) (rb : Nat) (v1 v2 : Value) (b bd _rest x _y : Int) : Nat → Value
  | 0 => fv
  | 1 => .pointer (some ⟨rb, 4, none⟩)
  | 2 => v1
  | 4 => .int .i64 b
  | 5 => .int .i64 x
  | 8 => .pointer (some ⟨rb, 5, none⟩)
  | 9 => v2
  | 11 => .pointer (some ⟨rb, 3, none⟩)
  | 12 => .int .i64 bd
  | 15 => .pointer (some ⟨rb, 3, none⟩)
  | 16 => .int .i64 bd
  | _ => undef
theorem RA.quiet (h : RA w fv rb v1 v2 la lb b bd rest x y vals L wx) (i : Nat) (hi : i = 0 ∨ i = 1 ∨ i = 2 ∨ i = 4 ∨ i = 5 ∨ i = 8 ∨ i = 9 ∨ i = 11 ∨ i = 12 ∨ i = 15 ∨ i = 16) : RA w fv rb v1 v2 la lb b bd rest x y (updN vals i (RA.val fv rb v1 v2 b bd rest x y i)) (updN L i true) wx := by
  obtain ⟨h0, t0, t1, t2, t4, t5, t8, t9, t11, t12, t15, t16, ra, rbb, far, sa, sb⟩ := h
  rcases hi with rfl | rfl | rfl | rfl | rfl | rfl | rfl | rfl | rfl | rfl | rfl <;> constructor <;> first | (simp [updN, RA.val]; done) | simpa [updN] using h0 | simpa [updN] using t0 | simpa [updN] using t1 | simpa [updN] using t2 | simpa [updN] using t4 | simpa [updN] using t5 | simpa [updN] using t8 | simpa [updN] using t9 | simpa [updN] using t11 | simpa [updN] using t12 | simpa [updN] using t15 | simpa [updN] using t16 | simpa [updN] using ra | simpa [updN] using rbb | simpa [updN] using far | simpa [updN] using sa | simpa [updN] using sb
def RA.J (w : World) (fv : Value) (rb : Nat) (v1 v2 : Value) (la lb : List Int) (b bd rest x y : Int) (Fin : World → Prop) (vals : Nat → Value) (L : Nat → Bool) (wx : World) : Prop := if L 17 then Fin wx else RA w fv rb v1 v2 la lb b bd rest x y vals L wx
variable {Fin : World → Prop} {i : Nat}
theorem RA.J.out (hz : L 17 = false) (h : RA.J w fv rb v1 v2 la lb b bd rest x y Fin vals L wx) : RA w fv rb v1 v2 la lb b bd rest x y vals L wx := by unfold RA.J at h; rw [hz] at h; exact h
theorem RA.J.on (hz : L 17 = false) (hi : i ≠ 17) (h : RA w fv rb v1 v2 la lb b bd rest x y (updN vals i v) (updN L i true) wx) : RA.J w fv rb v1 v2 la lb b bd rest x y Fin (updN vals i v) (updN L i true) wx := by
  have e : updN L i true 17 = false := by simp only [updN]; rw [if_neg (Ne.symm hi)]; exact hz
  unfold RA.J; rw [e]; exact h
theorem RA.J.end (h : Fin wx) : RA.J w fv rb v1 v2 la lb b bd rest x y Fin (updN vals 17 v) (updN L 17 true) wx := by
  have e : updN L 17 true 17 = true := by simp [updN]
  unfold RA.J; rw [e]; exact h
theorem RA.J.fin (hz : L 17 = true) (h : RA.J w fv rb v1 v2 la lb b bd rest x y Fin vals L wx) : Fin wx := by unfold RA.J at h; rw [hz] at h; exact h
end
structure RB (w : World) (fv : Value) (rb : Nat) (v1 v2 : Value) (la lb : List Int) (b bd rest x y : Int) (vals : Nat → Value) (L : Nat → Bool) (wx : World) : Prop where
  below : Below w.heap.size w wx
  t0 : L 0 = true → vals 0 = fv
  t1 : L 1 = true → vals 1 = .pointer (some ⟨rb, 4, none⟩)
  t2 : L 2 = true → vals 2 = v1
  t4 : L 4 = true → vals 4 = .int .i64 b
  t7 : L 7 = true → vals 7 = .pointer (some ⟨rb, 5, none⟩)
  t8 : L 8 = true → vals 8 = v2
  t10 : L 10 = true → vals 10 = .int .i64 rest
  t11 : L 11 = true → vals 11 = .int .i64 y
  t14 : L 14 = true → vals 14 = .int .i64 rest
  ra : L 3 = true → QRow w.heap.size wx (if L 6 then vals 6 else vals 3) (if L 6 then la ++ [x] else la)
  rb : L 9 = true → QRow w.heap.size wx (if L 13 then vals 13 else vals 9) (if L 13 then lb ++ [y] else lb)
  far : L 3 = true → L 9 = true → Far (if L 6 then vals 6 else vals 3) (if L 13 then vals 13 else vals 9)
  sa : L 5 = true → L 6 = false → ∃ g, vals 5 = .slice (some ⟨g, 0, none⟩) 1 1 ∧ Blk wx g [.int .i64 x] 3
  sb : L 12 = true → L 13 = false → ∃ g, vals 12 = .slice (some ⟨g, 0, none⟩) 1 1 ∧ Blk wx g [.int .i64 y] 3 ∧ (L 3 = true → (if L 6 then vals 6 else vals 3).ownBlock ≠ some g)
section
variable {w : World} {fv : Value} {rb : Nat} {v1 v2 : Value} {la lb : List Int} {b bd rest x y : Int} {vals : Nat → Value} {L : Nat → Bool} {wx w' : World} {v : Value}
theorem RB.start : RB w fv rb v1 v2 la lb b bd rest x y (fun _ => undef) (fun _ => false) w.drew := by
  constructor <;> first | exact (Below.refl _ _).drew | (intro h; cases h)
def RB.val (fv : Value) (rb : Nat) (v1 v2 : Value) (b _bd rest _x y : Int) : Nat → Value
  | 0 => fv
  | 1 => .pointer (some ⟨rb, 4, none⟩)
  | 2 => v1
  | 4 => .int .i64 b
  | 7 => .pointer (some ⟨rb, 5, none⟩)
  | 8 => v2
  | 10 => .int .i64 rest
  | 11 => .int .i64 y
  | 14 => .int .i64 rest
  | _ => undef
theorem RB.quiet (h : RB w fv rb v1 v2 la lb b bd rest x y vals L wx) (i : Nat) (hi : i = 0 ∨ i = 1 ∨ i = 2 ∨ i = 4 ∨ i = 7 ∨ i = 8 ∨ i = 10 ∨ i = 11 ∨ i = 14) : RB w fv rb v1 v2 la lb b bd rest x y (updN vals i (RB.val fv rb v1 v2 b bd rest x y i)) (updN L i true) wx := by
  obtain ⟨h0, t0, t1, t2, t4, t7, t8, t10, t11, t14, ra, rbb, far, sa, sb⟩ := h
  rcases hi with rfl | rfl | rfl | rfl | rfl | rfl | rfl | rfl | rfl <;> constructor <;> first | (simp [updN, RB.val]; done) | simpa [updN] using h0 | simpa [updN] using t0 | simpa [updN] using t1 | simpa [updN] using t2 | simpa [updN] using t4 | simpa [updN] using t7 | simpa [updN] using t8 | simpa [updN] using t10 | simpa [updN] using t11 | simpa [updN] using t14 | simpa [updN] using ra | simpa [updN] using rbb | simpa [updN] using far | simpa [updN] using sa | simpa [updN] using sb
def RB.J (w : World) (fv : Value) (rb : Nat) (v1 v2 : Value) (la lb : List Int) (b bd rest x y : Int) (Fin : World → Prop) (vals : Nat → Value) (L : Nat → Bool) (wx : World) : Prop := if L 15 then Fin wx else RB w fv rb v1 v2 la lb b bd rest x y vals L wx
variable {Fin : World → Prop} {i : Nat}
theorem RB.J.out (hz : L 15 = false) (h : RB.J w fv rb v1 v2 la lb b bd rest x y Fin vals L wx) : RB w fv rb v1 v2 la lb b bd rest x y vals L wx := by unfold RB.J at h; rw [hz] at h; exact h
theorem RB.J.on (hz : L 15 = false) (hi : i ≠ 15) (h : RB w fv rb v1 v2 la lb b bd rest x y (updN vals i v) (updN L i true) wx) : RB.J w fv rb v1 v2 la lb b bd rest x y Fin (updN vals i v) (updN L i true) wx := by
  have e : updN L i true 15 = false := by simp only [updN]; rw [if_neg (Ne.symm hi)]; exact hz
  unfold RB.J; rw [e]; exact h
theorem RB.J.end (h : Fin wx) : RB.J w fv rb v1 v2 la lb b bd rest x y Fin (updN vals 15 v) (updN L 15 true) wx := by
  have e : updN L 15 true 15 = true := by simp [updN]
  unfold RB.J; rw [e]; exact h
theorem RB.J.fin (hz : L 15 = true) (h : RB.J w fv rb v1 v2 la lb b bd rest x y Fin vals L wx) : Fin wx := by unfold RB.J at h; rw [hz] at h; exact h
end
theorem map_ix (m : List Int) (j : Nat) (hj : j < m.length) : (m.map (Value.int .i64))[j]? = some (.int .i64 (ix m j)) := by
  simp [ix, List.getD_eq_getElem?_getD, List.getElem?_eq_getElem hj]
theorem Ints.src {w : World} {x : Value} {m : List Int} (h : Ints w x m) : _root_.Go.Src Tryz.prog 1 23 x m.length (m.map (Value.int .i64)) w := by
  obtain ⟨a, c, rfl, -, -, -, hc⟩ := h.form
  cases m with
  | nil =>
    cases a with
    | none => exact _root_.Go.Src.ofNil w Tryz.underlying23 c
    | some a => exact _root_.Go.Src.ofSlice w Tryz.underlying23 a 0 c [] (by simp) (fun j u hu => by simp at hu) (fun u hu => by simp at hu)
  | cons y m =>
    obtain ⟨b, off, rfl, -, hcc⟩ := hc (by simp)
    refine _root_.Go.Src.ofSlice w Tryz.underlying23 ⟨b, off, none⟩ _ c ((y :: m).map (Value.int .i64)) (by simp) (fun j u hu => ?_) (fun u hu => ?_)
    · have hj : j < (y :: m).length := by have := (List.getElem?_eq_some_iff.1 hu).1; simpa using this
      have hadd : (⟨b, off, none⟩ : Addr).add j = ⟨b, off + j, none⟩ := by unfold Addr.add; split <;> simp_all
      rw [hadd, hcc j hj, ← hu, map_ix _ j hj]
    · obtain ⟨z, -, rfl⟩ := List.mem_map.1 hu
      simp [Value.oneCell']
theorem ix_app (l m : List Int) (i : Nat) : ix (l ++ m) i = if i < l.length then ix l i else ix m (i - l.length) := by
  split
  · rename_i h; simp [ix, List.getElem?_append_left h]
  · rename_i h; simp [ix, List.getElem?_append_right (Nat.le_of_not_lt h)]
theorem Fits.app {l m : List Int} (h : Fits l) (k : Fits m) : Fits (l ++ m) := fun i => by
  rw [ix_app]; split
  · exact h i
  · exact k _
theorem run_appendQs (base : Nat) (T ty : TypeId) (hT : Tryz.prog.underlying T = some (.slice 3)) (hTT : T = 23) (w : World) (v : Value) (l : List Int) (h : QRow base w v l) (x : Value) (m : List Int) (hx : Ints w x m)
    (hlen : (l.length + m.length) * 8 ≤ 140737488351232) (hbase : base ≤ w.heap.size) :
    ∃ v' w', (Builtin.append_ #[T, T] ty #[v, x]).run Tryz.prog w = .ok v' w' ∧ QRow base w' v' (l ++ m) ∧ w.grownBy w' v.ownBlock ∧ (v'.ownBlock = v.ownBlock ∨ v'.ownBlock = some w.heap.size) := by
  subst hTT
  have hi := infoI
  obtain ⟨i, hi, he⟩ := Option.map_eq_some_iff.1 hi
  simp only [Prod.mk.injEq] at he
  obtain ⟨hz, hs, hby⟩ := he
  have hsrc := hx.src
  have hsrc' : _root_.Go.Src Tryz.prog i.size 23 x m.length (m.map (Value.int .i64)) w := by rw [hs]; exact hsrc
  have hfit := h.1.app hx.2
  have zc : ∀ n, (Builtin.zeroCells (Value.int .i64 0).cells n).size = n := fun n => by simp [Builtin.zeroCells, Value.cells]
  have grow : ∀ (cur : Array Value) (cap : Nat), cur.size = cap → cap ≤ maxLen → l.length + m.length ≤ cap → (∀ i, i < l.length → cur[i]? = some (.int .i64 (ix l i))) → (∀ i, i < m.length → cur[l.length + i]? = some (.int .i64 (ix m i))) →
      QRow base (w.drew.alloc (.cells cur 3)) (.slice (some ⟨w.heap.size, 0, none⟩) (l.length + m.length) cap) (l ++ m) ∧ ∀ row, w.grownBy (w.drew.alloc (.cells cur 3)) row := by
    intro cur cap h1 h2 h3 h4 h5
    refine ⟨⟨hfit, .inr ⟨w.heap.size, 0, cap, cur, by simp, hbase, heap_alloc_new w.drew _, by simpa using h3, h2, by omega, fun j hj => ?_⟩⟩, fun row => ⟨rfl, rfl, rfl, by simp, fun k hk _ => Below.heap_alloc w.drew _ _ hk⟩⟩
    simp only [List.length_append] at hj
    rw [ix_app, Nat.zero_add]
    split
    · rename_i hlt; exact h4 j hlt
    · have := h5 (j - l.length) (by omega)
      rw [show l.length + (j - l.length) = j by omega] at this
      exact this
  have growAt : ∀ (b0 : Option Addr) (cap : Nat) (olds : List Value), (Builtin.firstCells i.size l.length (.slice b0 l.length cap)).run Tryz.prog w.drew = .ok olds.toArray w.drew → olds = (List.range l.length).map (fun i => Value.int .i64 (ix l i)) → cap < l.length + m.length →
      ∃ v' w', (Builtin.append_ #[23, 23] ty #[.slice b0 l.length cap, x]).run Tryz.prog w = .ok v' w' ∧ QRow base w' v' (l ++ m) ∧ (∀ row, w.grownBy w' row) ∧ v'.ownBlock = some w.heap.size := by
    intro b0 cap olds hold holds hlt
    have hr := run_append_grow_src (P := Tryz.prog) w 23 23 ty 3 i _ hT hi hz b0 l.length cap olds hold x m.length _ hsrc' hlt (by omega) (growslice_fits hlt (by rw [hby]; omega))
    have hge := grownCap_ge w (l.length + m.length) cap 3
    have hlo : olds.length = l.length := by rw [holds]; simp
    obtain ⟨q1, q2⟩ := grow ((olds ++ m.map (Value.int .i64)).toArray ++ Builtin.zeroCells (Value.int .i64 0).cells (grownCap w (l.length + m.length) cap 3 - (l.length + m.length))) (grownCap w (l.length + m.length) cap 3)
      (by simp only [Array.size_append, List.size_toArray, List.length_append, List.length_map, hlo, zc]; omega) (grownCap_le_maxLen w (l.length + m.length) cap 3 (by unfold maxLen; omega)) hge
      (fun j hj => by
        rw [Array.getElem?_append_left (by simp; omega), List.getElem?_toArray, List.getElem?_append_left (by omega), holds]
        simp [hj])
      (fun j hj => by
        rw [Array.getElem?_append_left (by simp; omega), List.getElem?_toArray, List.getElem?_append_right (by omega), hlo, Nat.add_sub_cancel_left]
        exact map_ix m j hj)
    exact ⟨_, _, hr, q1, q2, rfl⟩
  rcases h.2 with ⟨rfl, rfl⟩ | ⟨g, off, cap, cur, rfl, hbg, hg, hnc, hcm, hcs, hcell⟩
  · cases m with
    | nil =>
      refine ⟨.slice none 0 0, w, ?_, QRow.nil _ _, ⟨rfl, rfl, rfl, Nat.le_refl _, fun _ _ _ => rfl⟩, .inl rfl⟩
      have h0 : (Builtin.firstCells i.size 0 x).run Tryz.prog w = .ok #[] w := hsrc'.cells
      simp [Builtin.append_, run_underlying hT, sizeOf, typeInfo, hi, hsrc'.len, h0]
    | cons y m =>
      obtain ⟨v', w', h1, h2, h3, h4⟩ := growAt none 0 [] (by exact run_firstCells_none (P := Tryz.prog) w.drew i.size 0 0 0) rfl (by simp)
      exact ⟨v', w', h1, h2, h3 _, .inr h4⟩
  · by_cases hroom : l.length + m.length ≤ cap
    · have hst := run_storeCells_at Tryz.prog g (off + l.length) 3 (m.map (Value.int .i64)) 0 cur w hg (by simp only [List.length_map]; omega) (by simp [Value.oneCell'])
      simp only [Nat.add_zero, List.length_map] at hst
      refine ⟨.slice (some ⟨g, off, none⟩) (l.length + m.length) cap, w.setRow g (cur.toList.take (off + l.length) ++ m.map (Value.int .i64) ++ cur.toList.drop (off + l.length + m.length)).toArray, ?_, ⟨hfit, .inr ⟨g, off, cap, (cur.toList.take (off + l.length) ++ m.map (Value.int .i64) ++ cur.toList.drop (off + l.length + m.length)).toArray, by simp, hbg, setRow_heap w g cur _ 3 _ hg, by simpa using hroom, hcm, ?_, fun j hj => ?_⟩⟩, ⟨rfl, rfl, rfl, by simp, fun k _ hk => setRow_other w g k _ (fun e => hk (by simp [Value.ownBlock, e]))⟩, .inl rfl⟩
      · have hadd : (⟨g, off, none⟩ : Addr).add (l.length * i.size) = ⟨g, off + l.length, none⟩ := by rw [hs]; unfold Addr.add; split <;> simp_all
        simp [Builtin.append_, run_underlying hT, sizeOf, typeInfo, hi, hsrc'.len, hroom, hsrc'.cells, hadd, hst]
      · simp only [List.size_toArray, List.length_append, List.length_take, List.length_drop, Array.length_toList, List.length_map]
        omega
      · simp only [List.length_append] at hj
        rw [ix_app]
        split
        · rename_i hlt
          rw [← hcell j hlt]
          simp only [List.getElem?_toArray, List.append_assoc]
          rw [List.getElem?_append_left (by simp; omega), List.getElem?_take_of_lt (by omega)]
          simp
        · simp only [List.getElem?_toArray, List.append_assoc]
          rw [List.getElem?_append_right (by simp; omega)]
          have : min (off + l.length) cur.size = off + l.length := by omega
          simp only [List.length_take, Array.length_toList, this]
          rw [List.getElem?_append_left (by simp; omega), show off + j - (off + l.length) = j - l.length by omega]
          exact map_ix m _ (by omega)
    · have holds : ∀ j u, ((List.range l.length).map (fun i => Value.int .i64 (ix l i)))[j]? = some u → w.drew.cell? ((⟨g, off, none⟩ : Addr).add j) = some u := by
        intro j u hu
        have hadd : (⟨g, off, none⟩ : Addr).add j = ⟨g, off + j, none⟩ := by unfold Addr.add; split <;> simp_all
        have hj : j < l.length := by
          have := (List.getElem?_eq_some_iff.1 hu).1; simpa using this
        rw [hadd]
        show w.cell? _ = _
        rw [cell_of_row w g (off + j) cur 3 (0, 0) hg, hcell j hj]
        simpa [hj] using hu
      obtain ⟨v', w', h1, h2, h3, h4⟩ := growAt (some ⟨g, off, none⟩) cap _ (run_firstCells_some (P := Tryz.prog) w.drew i.size l.length ⟨g, off, none⟩ l.length cap _ (by rw [hs]; simp) holds) rfl (by omega)
      exact ⟨v', w', h1, h2, h3 _, .inr h4⟩
section
variable {B ob n : Nat} {xs : List Value} {v : Value} {w w' W2 w3 : World} {L : List CQ}
theorem rowC_isC (h : w.ownsRow B 46 3 v n xs) : ∀ g, v.ownBlock = some g → B ≤ g ∧ isC w g := fun g e => by
  rcases h.2 with ⟨rfl, _⟩ | ⟨g', cap, cur, rfl, hb, hg, _⟩
  · cases e
  · have : g' = g := by simpa [Value.ownBlock] using e
    subst this
    exact ⟨hb, cur, (0, 0), .inr hg⟩
theorem CLim.grown (h : w.ownsRow B 46 3 v n xs) (hg : w.grownBy w' v.ownBlock) : CLim B w w' :=
  ⟨hg.os, hg.tape, hg.output, hg.size, fun i hi hn => hg.block i hi fun e => by
    obtain ⟨h1, h2⟩ := rowC_isC h i e.symm
    exact hn h1 h2⟩
theorem MineC.setOther {c : List Value} {T : TypeId} (h : MineC B v L w) (hb : Blk w ob c T) (h1 : T ≠ 46) (h2 : T ≠ 3) (u : Value) : MineC B v L (w.setCell ⟨ob, 0, none⟩ u) := by
  refine ⟨h.row.kept (grownBy_setCell' w ob u) (.inr fun e => ?_), fun q hq => ?_⟩
  · rcases h.row.2 with ⟨rfl, _⟩ | ⟨g, cap, cur, rfl, _, hg, _⟩
    · cases e
    · have : g = ob := by simpa [Value.ownBlock] using e
      subst this
      unfold Blk at hb
      rw [hg] at hb
      have := Option.some.inj hb
      injection this with _ h3 _
      exact h1 h3.symm
  · obtain ⟨q1, q2, q3⟩ := h.each q hq
    have k : ∀ (x : Value) (l : List Int), QRow B w x l → QRow B (w.setCell ⟨ob, 0, none⟩ u) x l := fun x l hx => hx.kept fun i _ _ hi => Below.heap_setCell _ _ _ _ fun e => hx.far hb h2 (show x.ownBlock = some ob by rw [hi]; exact congrArg some e)
    exact ⟨k _ _ q1, k _ _ q2, q3⟩
end
def InV (w : World) (cb : Nat) (L : List Int) : Prop := ∃ vl vk bd, Blk w cb [vl, vk, .int .i64 bd] 46 ∧ Ints w vl L
theorem InV.below {w w' : World} {cb : Nat} {L : List Int} (h : InV w cb L) (hb : Below w.heap.size w w') : InV w' cb L :=
  let ⟨vl, vk, bd, h1, h2⟩ := h; ⟨vl, vk, bd, h1.below hb, h2.below hb⟩
structure EnvUV (w : World) (sb fb ab : Nat) (u : SU) (a : List Int) : Prop where
  sup : SupB w sb u
  fn : Blk w fb [.func (.func 54) #[] #[.pointer (some ⟨ab, 0, none⟩)]] 77
  asg : InV w ab a
theorem EnvUV.below {w w' : World} {sb fb ab : Nat} {u : SU} {a : List Int} (h : EnvUV w sb fb ab u a) (hb : Below w.heap.size w w') : EnvUV w' sb fb ab u a := ⟨h.sup.below hb, h.fn.below hb, h.asg.below hb⟩
section
variable {w : World} {sb fb ab : Nat} {u : SU} {a : List Int}
end
section
variable {w : World} {sb fb ab : Nat} {u : SU} {a : List Int}
end
end Go.Proofs.YtjodocheiejkeaaGreatDoor
