/- My texts Cls, CpR, PbT, Pb4, Lay, Aw1, merged. -/
import Derived.Test.YtfhpfbakoiekpaaGreatDoorM11
import Derived.Deep.OwnRows
import Derived.Test.YtfhpfbakoiekpaaGreatDoorM08
import Derived.Test.YtfhpfbakoiekpaaGreatDoorM04
import Derived.Deep.AppendSrc
import Derived.Test.YtfhpfbakoiekpaaGreatDoorM02
import Derived.Test.YtfhpfbakoiekpaaGreatDoorM03

/- pb.Clause. -/
namespace Go.Proofs.YtfhpfbakoiekpaaGreatDoor
open Go.RowKit

theorem made_row (z : Value) (n : Nat) : madeCells #[z] n = (List.replicate n z).toArray := by
  apply Array.ext
  · simp [size_madeCells]
  · intro i h1 h2
    simp [madeCells, Nat.mod_one]

def oneCells (N k : Nat) : List Value := List.replicate k (Value.int .i64 1) ++ List.replicate (N - k) (Value.int .i64 0)

theorem oneCells_set {N k : Nat} (hk : k < N) : (oneCells N k).set k (.int .i64 1) = oneCells N (k + 1) := by
  unfold oneCells
  rw [List.set_append_right _ _ (by simp)]
  obtain ⟨m, hm⟩ : ∃ m, N - k = m + 1 := ⟨N - k - 1, by omega⟩
  rw [hm, show N - (k + 1) = m by omega, List.length_replicate, Nat.sub_self, List.replicate_succ, List.set_cons_zero, List.replicate_succ', List.append_assoc]
  rfl

def OneSt (W : World) (N k : Nat) (wx : World) : Prop := Below W.heap.size W wx ∧ Blk wx W.heap.size (oneCells N k) 3

def OneRel (W : World) (N : Nat) (i : Value) (wx : World) : Prop := ∃ k : Nat, k ≤ N ∧ i = .int .i64 k ∧ OneSt W N k wx

theorem OneSt.start (W : World) (N : Nat) : OneSt W N 0 (W.alloc (.cells (madeCells #[.int .i64 0] N) 3)) := by
  refine ⟨bal (Below.refl _ _) _, ?_⟩
  have := Blk.new W (List.replicate N (Value.int .i64 0)) 3
  rw [← made_row] at this
  simpa [oneCells] using this

theorem OneSt.step {W wx : World} {N k : Nat} (h : OneSt W N k wx) (hk : k < N) : OneSt W N (k + 1) (wx.setCell ⟨W.heap.size, k, none⟩ (.int .i64 1)) := by
  refine ⟨h.1.setCell (p := ⟨W.heap.size, k, none⟩) (Nat.le_refl _) _, ?_⟩
  have := h.2.set k (.int .i64 1)
  rwa [oneCells_set hk] at this

theorem OneSt.end {W wx : World} {N : Nat} (h : OneSt W N N wx) (hN : N * 8 ≤ 140737488351232) : Ints wx (.slice (some ⟨W.heap.size, 0, none⟩) N N) (ones N) := by
  have h2 := h.2
  have e : oneCells N N = (ones N).map (Value.int .i64) := by simp [oneCells, ones]
  rw [e] at h2
  have hl : (ones N).length = N := by simp [ones]
  have := h2.ints (fitI fun x hx => by obtain rfl := List.eq_of_mem_replicate hx; unfold InI; omega) (by rw [hl]; exact hN)
  rwa [hl] at this

theorem setL_len (l : List Int) : (setL l).length ≤ l.length := by
  have h1 := Lib.compact_length_le (srt l)
  rw [compact_set, sortI_len] at h1
  exact h1

set_option maxHeartbeats 4000000 in
set_option maxRecDepth 100000 in
theorem clause_any (v : Value) (l : List Int) (w : World) (h : Ints w v l) :
    Calls Tryz.prog 30 #[v] w fun e w' => ∃ vp, e = .returned (.tuple #[vp, .int .i64 (clauseP l).2]) ∧ PBQ w.heap.size w' vp (clauseP l).1 ∧ Below w.heap.size w w' := by
  have h0 := h
  obtain ⟨a1, c1, rfl, -, hl1, -, -⟩ := h.form
  have h8 : l.length * 8 ≤ 140737488351232 := by obtain ⟨⟨_, _, _, _, _, h, _⟩, _⟩ := h0; exact h
  have hN := setL_len l
  have hal0 := bal (Below.refl w.heap.size w) (.cells #[.slice none 0 0, .slice none 0 0, .int .i64 0] 30)
  have HAL := Lib.hid hal0
  have HB0 := Lib.hid (Blk.new w pbZ 30)
  have HI := Lib.hid (h0.below hal0)
  have hz0 : (w.alloc (.cells #[.slice none 0 0, .slice none 0 0, .int .i64 0] 30)).heap.size = w.heap.size + 1 := by simp
  have HZ0 := Lib.hid hz0
  clear hal0 h h0 hz0
  have hmk : ∀ w : World, (Instr.makeSlice 23 (.int .i64 ((setL l).length : Int)) (.int .i64 ((setL l).length : Int))).run Tryz.prog w = .ok (.slice (some ⟨w.heap.size, 0, none⟩) (setL l).length (setL l).length) (w.alloc (.cells (madeCells #[.int .i64 0] (setL l).length) 3)) := fun w => run_make_row' _ _ _ _ Tryz.underlying23 infoI rfl .i64 .i64 (setL l).length (by omega) (by omega) w
  go_enter Tryz.func30, Tryz.ntmps30
  go_upto_region 1 with fail
  generalize w.alloc (.cells #[.slice none 0 0, .slice none 0 0, .int .i64 0] 30) = W0 at *
  go_upto_region 4 with (first
    | (go_at_call 87; (with_reducible refine (compactI_own HO.out).mono ?_); rintro e w3 ⟨a3, c3, rfl, hi3, hg3⟩; rw [compact_set] at hi3 ⊢; have HI3 := Lib.hid hi3; have HB3 := Lib.hid (HB2.out.grown hg3 (by have := HB2.out.size; omega) (fun g e => by have := (HO.out.1.1.2); rcases this with ⟨e2, _⟩ | ⟨g', cap, cur, e2, hb, _⟩; (rw [e2] at e; cases e); (rw [e2] at e; simp only [Value.ownBlock, Option.some.injEq] at e; omega))); clear hi3 hg3)
    | (go_at_call 88; (with_reducible refine (sorted_any l W0 _ _ W0.heap.size HI.out HB1.out HK1.out).mono ?_); rintro e w2 ⟨vo, rfl, ho, hb2⟩; have HO := Lib.hid ho; have HB2 := Lib.hid (HB1.out.trans (hb2.mono hz1)); have hz2 := hb2.size; clear ho hb2)
    | (go_at_call 89; (with_reducible refine (values_any _ _ _ _).mono ?_); rintro e w1 ⟨rfl, hb1, hk1, hs1⟩; have HB1 := Lib.hid hb1; have HK1 := Lib.hid hk1; have hz1 := hb1.size; clear hb1 hk1 hs1))
  have HBW := Lib.hid (HAL.out.trans (HB3.out.mono HAL.out.size))
  have HBX := Lib.hid (HB0.out.same (HB3.out.block _ (by have := HZ0.out; omega)))
  have HST := Lib.hid (OneSt.start w3 (setL l).length)
  have HZ3 : Hid (w.heap.size + 1 ≤ w3.heap.size) := Lib.hid (by have := HB3.out.size; have := HZ0.out; omega)
  clear hmk hz1 hz2
  go_loopw [15] (fun i wx => OneRel w3 (setL l).length i wx) (fun i _ => (setL l).length - (intOf i).toNat)
  case atStart => exact ⟨0, Nat.zero_le _, rfl, HST.out⟩
  case round =>
    obtain ⟨k, hk, rfl, hst⟩ := hrel
    have HSK := Lib.hid hst
    by_cases hlt : k < (setL l).length
    · have kc := hst.2.cell k
      have kf := hst.2.free k
      have hg : (oneCells (setL l).length k)[k]? = some (.int .i64 0) := by
        unfold oneCells
        rw [List.getElem?_append_right (by simp), List.length_replicate, Nat.sub_self, List.getElem?_replicate, if_pos (by omega)]
      rw [hg] at kc
      have HN := Lib.hid (hst.step hlt)
      clear hst hg
      go_wp2
      first
        | (go_roundw
           case rel => (exact ⟨k + 1, hlt, by go_num, HN.out⟩)
           case measure => (simp [intOf]; omega))
        | (refine ⟨?_, ?_⟩
           · (exact ⟨k + 1, hlt, by go_num, HN.out⟩)
           · (simp [intOf]; omega))
    · obtain rfl : k = (setL l).length := by omega
      have HON := Lib.hid (hst.end (by omega))
      have HLI := Lib.hid (HI3.out.below hst.1)
      have HBR := Lib.hid (HBW.out.trans (hst.1.mono (by have := HZ3.out; omega)))
      have HBB := Lib.hid (HBX.out.same (hst.1.block _ (by have := HZ3.out; omega)))
      have hzr : w.heap.size + 1 ≤ wr.heap.size := by have := HZ3.out; have := hst.1.size; omega
      have HZR := Lib.hid hzr
      clear hst hzr
      go_wp2_with (go_at_call 57; (with_reducible refine (norm_any _ _ (setL l) (ones (setL l).length) 1 wr HLI.out HON.out (by unfold InI; omega)).mono ?_); rintro e w4 ⟨vp, rfl, ⟨vl, vk, rfl, hq1, hq2, hq3⟩, hb4⟩; obtain ⟨al, nl, cl, rfl⟩ := hq1.form; obtain ⟨ak, nk, ck, rfl⟩ := hq2.form; have HQ1 := Lib.hid hq1; have HQ2 := Lib.hid hq2; have HQ3 := Lib.hid hq3; have HB4 := Lib.hid (HBR.out.trans (hb4.mono (by have := HZR.out; omega))); have hbb := HBB.out.below hb4; have kx := hbb.cell; have kf := hbb.free; clear hq1 hq2 hq3 hb4 hbb)
      refine bodyPost_ret (v := .tuple #[.agg #[.slice al nl cl, .slice ak nk ck, .int .i64 (clauseP l).1.bound], .int .i64 (clauseP l).2]) ?_ rfl ⟨_, rfl, ?_, below3 HB4.out _ (Nat.le_refl _) _ _ _⟩
      · unfold clauseP
        simp [results, Tryz.f30, go_sem, *]
      · have hzr := HZR.out
        exact ⟨_, _, rfl, (row3 HQ1.out w.heap.size (by omega) _ _ _).mono (by omega), (row3 HQ2.out w.heap.size (by omega) _ _ _).mono (by omega), HQ3.out⟩

end Go.Proofs.YtfhpfbakoiekpaaGreatDoor

/- Rows of constraints of the call's own; what turns where one is pushed; a map of rows of ints. -/
namespace Go.Proofs.YtfhpfbakoiekpaaGreatDoor
open Go.RowKit

/-- A constraint with its slices. -/
abbrev CQ := PBC × Value × Value
def cells3 (q : CQ) : List Value := [q.2.1, q.2.2, .int .i64 q.1.bound]
def ixC (l : List PBC) (i : Nat) : PBC := l.getD i default

def pbCell (c : PBC) (vl vk : Value) : Nat → Value
  | 0 => vl
  | 1 => vk
  | _ => .int .i64 c.bound

structure PBSl (w : World) (c : PBC) (vl vk : Value) : Prop where
  lits : Ints w vl c.lits
  coefs : Ints w vk c.coefs
  bound : InI c.bound

theorem PBSl.below {w w' : World} {c : PBC} {vl vk : Value} (h : PBSl w c vl vk) (hb : Below w.heap.size w w') : PBSl w' c vl vk := ⟨h.lits.below hb, h.coefs.below hb, h.bound⟩
theorem PBSl.is {w : World} {c : PBC} {vl vk : Value} (h : PBSl w c vl vk) : PBIs w (.agg #[vl, vk, .int .i64 c.bound]) c := ⟨_, _, rfl, h.lits, h.coefs, h.bound⟩

/-- A slice of constraints reads as a list. -/
def PBsIs (w : World) (v : Value) (l : List PBC) : Prop :=
  ∃ vl vk : Nat → Value, Rows w v 3 56 l.length (fun i => pbCell (ixC l i) (vl i) (vk i)) ∧ ∀ i, i < l.length → PBSl w (ixC l i) (vl i) (vk i)

theorem PBsIs.below {w w' : World} {v : Value} {l : List PBC} (h : PBsIs w v l) (hb : Below w.heap.size w w') : PBsIs w' v l :=
  let ⟨vl, vk, e, h1⟩ := h; ⟨vl, vk, e.below hb, fun i hi => (h1 i hi).below hb⟩

def PBCells (w : World) (b o : Nat) (c : PBC) (vl vk : Value) : Prop :=
  w.cell? ⟨b, o, none⟩ = some vl ∧ w.cell? ⟨b, o + 1, none⟩ = some vk ∧ w.cell? ⟨b, o + 2, none⟩ = some (.int .i64 c.bound)

theorem PBCells.below {w w' : World} {b o : Nat} {c : PBC} {vl vk : Value} (h : PBCells w b o c vl vk) (hb : Below w.heap.size w w') (hl : b < w.heap.size) : PBCells w' b o c vl vk :=
  ⟨(bcell hb _ _ hl).trans h.1, (bcell hb _ _ hl).trans h.2.1, (bcell hb _ _ hl).trans h.2.2⟩

theorem PBsIs.form {w : World} {v : Value} {l : List PBC} (h : PBsIs w v l) : ∃ a cap, v = .slice a l.length cap ∧ l.length ≤ cap ∧ l.length ≤ 1000000000000000 ∧ PBsIs w (.slice a l.length cap) l ∧
    (0 < l.length → ∃ b off, a = some ⟨b, off, none⟩ ∧ b < w.heap.size ∧ ∀ i, i < l.length → ∃ vl vk, PBCells w b (off + i * 3) (ixC l i) vl vk ∧ PBSl w (ixC l i) vl vk) := by
  have h0 := h
  obtain ⟨vl, vk, ⟨a, cap, rfl, h1, hm, h2, h3⟩, h4⟩ := h
  refine ⟨a, cap, rfl, h1, by omega, h0, fun hp => ?_⟩
  obtain ⟨b, off, e, hl, hc⟩ := h3 hp
  exact ⟨b, off, e, hl, fun i hi => ⟨vl i, vk i, ⟨hc i hi 0 (by omega), hc i hi 1 (by omega), hc i hi 2 (by omega)⟩, h4 i hi⟩⟩

theorem nil_pbs (w : World) : PBsIs w (.slice none 0 0) [] := ⟨fun _ => undef, fun _ => undef, ⟨none, 0, rfl, Nat.le_refl _, by unfold maxLen; omega, by simp, fun h => absurd h (by simp)⟩, fun i hi => absurd hi (by simp)⟩

/-! ### What turns -/
/-- A block of constraints, or a box of a slice of them. -/
def isC (w : World) (i : Nat) : Prop := ∃ c fz, w.heap[i]? = some (.cells c 43 fz) ∨ w.heap[i]? = some (.cells c 30 fz)

/-- From w to w' nothing but heap has turned; of what was there at most blocks of constraints from B on. -/
structure CLim (B : Nat) (w w' : World) : Prop where
  os : w'.os = w.os
  tape : w'.tape = w.tape
  output : w'.output = w.output
  size : w.heap.size ≤ w'.heap.size
  block : ∀ i, i < w.heap.size → (B ≤ i → ¬ isC w i) → w'.heap[i]? = w.heap[i]?

theorem CLim.trans {B : Nat} {a b c : World} (h : CLim B a b) (k : CLim B b c) : CLim B a c :=
  ⟨k.os.trans h.os, k.tape.trans h.tape, k.output.trans h.output, Nat.le_trans h.size k.size, fun i hi hn => by
    have e := h.block i hi hn
    refine (k.block i (Nat.lt_of_lt_of_le hi h.size) fun hB hc => hn hB ?_).trans e
    obtain ⟨c, fz, hc⟩ := hc
    rw [e] at hc
    exact ⟨c, fz, hc⟩⟩
theorem CLim.of_below {B : Nat} {w w' : World} (h : Below w.heap.size w w') : CLim B w w' := ⟨h.os, h.tape, h.output, h.size, fun i hi _ => h.block i hi⟩
theorem CLim.below {B : Nat} {w w' : World} (h : CLim B w w') (hB : B ≤ w.heap.size) : Below B w w' := ⟨h.os, h.tape, h.output, h.size, fun i hi => h.block i (by omega) fun h' => absurd hi (by omega)⟩
theorem CLim.blk {B : Nat} {w w' : World} (h : CLim B w w') {b : Nat} {c : List Value} {T : TypeId} (hb : Blk w b c T) (h1 : T ≠ 43) (h2 : T ≠ 30) : Blk w' b c T :=
  hb.same (h.block b hb.lt fun _ hc => by
    obtain ⟨c', fz, hc⟩ := hc
    unfold Blk at hb
    rw [hb] at hc
    rcases hc with hc | hc
    · injection hc with hc; injection hc with _ e _; exact h1 e
    · injection hc with hc; injection hc with _ e _; exact h2 e)
theorem CLim.qrow {B base : Nat} {w w' : World} (h : CLim B w w') {v : Value} {l : List Int} (hq : QRow base w v l) : QRow base w' v l :=
  hq.kept fun i _ hi hv => h.block i hi fun _ hc => by
    obtain ⟨c', fz, hc⟩ := hc
    rcases hq.2 with ⟨rfl, _⟩ | ⟨g, off, cap, cur, rfl, _, hg, _⟩
    · cases hv
    · have : g = i := by simpa [Value.ownBlock] using hv
      subst this
      rw [hg] at hc
      rcases hc with hc | hc
      · injection hc with hc; injection hc with _ e _; revert e; decide
      · injection hc with hc; injection hc with _ e _; revert e; decide
theorem CLim.map {B b : Nat} {w w' : World} (h : CLim B w w') {kv : Int → Value} {g : Int → Option Value} (hm : MapIs kv w b g) : MapIs kv w' b g :=
  hm.same (h.block b hm.lt fun _ hc => by
    obtain ⟨c', fz, hc⟩ := hc
    obtain ⟨es, clock, e, -⟩ := hm
    rw [e] at hc
    rcases hc with hc | hc <;> (injection hc with hc; cases hc))

/-! ### A row of constraints of the call's own -/
structure MineC (B : Nat) (v : Value) (L : List CQ) (w : World) : Prop where
  row : w.ownsRow B 30 3 v L.length (L.flatMap cells3)
  each : ∀ q ∈ L, QRow B w q.2.1 q.1.lits ∧ QRow B w q.2.2 q.1.coefs ∧ InI q.1.bound ∧ q.1.lits.length ≤ 65536 ∧ q.1.coefs.length ≤ 65536

theorem MineC.nil (B : Nat) (w : World) : MineC B (.slice none 0 0) [] w := ⟨⟨by simp, .inl ⟨rfl, rfl⟩⟩, fun q hq => by simp at hq⟩

section
variable {B n : Nat} {xs : List Value} {v : Value} {w w' : World} {L : List CQ}

/-- The row of constraints may turn: a row of ints does not. -/
theorem QRow.rowKeptC {u : Value} {l : List Int} {base : Nat} (h : QRow base w u l) (hr : w.ownsRow B 30 3 v n xs) (hg : w.grownBy w' v.ownBlock) : QRow base w' u l := by
  refine h.kept fun i hi hi2 hu => hg.block i hi2 (fun e => ?_)
  rcases hr.2 with ⟨rfl, _⟩ | ⟨g, cap, cur, rfl, hb, hgg, _⟩
  · cases e
  · simp only [Value.ownBlock, Option.some.injEq] at e
    subst e
    rcases h.2 with ⟨rfl, _⟩ | ⟨g', off, cap', cur', rfl, _, hgg', _⟩
    · cases hu
    · simp only [Value.ownBlock, Option.some.injEq] at hu
      subst hu
      rw [hgg'] at hgg
      have := Option.some.inj hgg
      injection this with _ h2 _
      revert h2; decide

theorem MineC.below (h : MineC B v L w) (hb : Below w.heap.size w w') : MineC B v L w' :=
  ⟨rowBelow h.row hb, fun q hq => let ⟨h1, h2, h3⟩ := h.each q hq; ⟨h1.below hb, h2.below hb, h3⟩⟩

theorem MineC.push {g cap : Nat} {q : CQ} (h : MineC B v L w) (hq : QRow B w q.2.1 q.1.lits ∧ QRow B w q.2.2 q.1.coefs ∧ InI q.1.bound ∧ q.1.lits.length ≤ 65536 ∧ q.1.coefs.length ≤ 65536)
    (hown : w'.ownsRow B 30 3 (.slice (some ⟨g, 0, none⟩) (L.length + 1) cap) (L.length + 1) (L.flatMap cells3 ++ cells3 q)) (hg : w.grownBy w' v.ownBlock) : MineC B (.slice (some ⟨g, 0, none⟩) (L.length + 1) cap) (L ++ [q]) w' := by
  refine ⟨by simpa using hown, fun q' hq' => ?_⟩
  simp only [List.mem_append, List.mem_singleton] at hq'
  rcases hq' with hq' | rfl
  · obtain ⟨h1, h2, h3⟩ := h.each q' hq'
    exact ⟨h1.rowKeptC h.row hg, h2.rowKeptC h.row hg, h3⟩
  · obtain ⟨h1, h2, h3⟩ := hq
    exact ⟨h1.rowKeptC h.row hg, h2.rowKeptC h.row hg, h3⟩

theorem flat3 : ∀ (L : List CQ) (i j : Nat), i < L.length → j < 3 → (L.flatMap cells3)[i * 3 + j]? = (cells3 (L.getD i default))[j]?
  | [], i, j, h, _ => absurd h (by simp)
  | q :: L, 0, j, _, hj => by
    rw [List.flatMap_cons, List.getElem?_append_left (by simp [cells3]; omega)]
    simp
  | q :: L, i + 1, j, h, hj => by
    rw [List.flatMap_cons, List.getElem?_append_right (by simp [cells3]; omega)]
    have := flat3 L i j (by simpa using h) hj
    rw [show (i + 1) * 3 + j - (cells3 q).length = i * 3 + j by simp [cells3]; omega, this]
    simp

theorem MineC.pbs (h : MineC B v L w) (l : List PBC) (hl : L.map (·.1) = l) (hfit : L.length * 56 ≤ 140737488351232) : PBsIs w v l := by
  have hlen' : l.length = L.length := by rw [← hl]; simp
  have hq : ∀ i, i < l.length → L.getD i default ∈ L ∧ (L.getD i default).1 = ixC l i := fun i hi => by
    have hi' : i < L.length := by omega
    have e : L.getD i default = L[i] := by simp [List.getD_eq_getElem?_getD, List.getElem?_eq_getElem hi']
    rw [e]
    refine ⟨List.getElem_mem hi', ?_⟩
    subst hl
    simp [ixC, List.getD_eq_getElem?_getD, List.getElem?_eq_getElem hi']
  refine ⟨fun i => (L.getD i default).2.1, fun i => (L.getD i default).2.2, ?_, fun i hi => ?_⟩
  · rw [hlen']
    rcases h.row.2 with ⟨rfl, h0⟩ | ⟨g, cap, cur, rfl, hb, hg, hn, hm, hs, hx⟩
    · exact ⟨none, 0, by rw [h0], by omega, by unfold maxLen; omega, by omega, fun hp => by omega⟩
    · refine ⟨_, cap, rfl, hn, hm, hfit, fun _ => ⟨g, 0, rfl, (Array.getElem?_eq_some_iff.1 hg).1, fun i hi j hj => ?_⟩⟩
      have h6 := flat3 L i j hi hj
      rw [← hx, List.getElem?_take_of_lt (by omega)] at h6
      rw [cell_of_row w g (0 + i * 3 + j) cur _ (0, 0) hg, Nat.zero_add]
      have e2 := (hq i (by omega)).2
      dsimp only
      rw [← e2]
      have : cur[i * 3 + j]? = cur.toList[i * 3 + j]? := by simp
      rw [this, h6]
      rcases (show j = 0 ∨ j = 1 ∨ j = 2 by omega) with rfl | rfl | rfl <;> rfl
  · obtain ⟨hm, e⟩ := hq i hi
    obtain ⟨h1, h2, h3, h4, h5⟩ := h.each _ hm
    rw [← e]
    exact ⟨h1.ints (by omega), h2.ints (by omega), h3⟩
end

/-- The box of the constraints so far; their slices lie in none of the blocks of A. -/
def OutC (B ob : Nat) (A : Nat → Prop) (l : List PBC) (w : World) : Prop :=
  ∃ v L, Blk w ob [v] 43 ∧ MineC B v L w ∧ L.map (·.1) = l ∧ ∀ q ∈ L, ∀ g, (q.2.1.ownBlock = some g ∨ q.2.2.ownBlock = some g) → ¬ A g

theorem OutC.below {B ob : Nat} {A : Nat → Prop} {l : List PBC} {w w' : World} (h : OutC B ob A l w) (hb : Below w.heap.size w w') : OutC B ob A l w' :=
  let ⟨v, L, h1, h2, h3⟩ := h; ⟨v, L, h1.below hb, h2.below hb, h3⟩

/-! ### A map from ints to rows of ints -/
def rowV (G : Int → Option Value) (x : Int) : Value := (G x).getD (.slice none 0 0)

structure SupM (B mb : Nat) (F : Int → List Int) (G : Int → Option Value) (w : World) : Prop where
  map : MapIs (Value.int .i64) w mb G
  row : ∀ x, QRow B w (rowV G x) (F x)
  far : ∀ x y, x ≠ y → ∀ g, (rowV G x).ownBlock = some g → (rowV G y).ownBlock ≠ some g

theorem SupM.below {B mb : Nat} {F : Int → List Int} {G : Int → Option Value} {w w' : World} (h : SupM B mb F G w) (hb : Below w.heap.size w w') : SupM B mb F G w' := ⟨h.map.below hb, fun x => (h.row x).below hb, h.far⟩
theorem SupM.clim {B mb C : Nat} {F : Int → List Int} {G : Int → Option Value} {w w' : World} (h : SupM B mb F G w) (hb : CLim C w w') : SupM B mb F G w' := ⟨hb.map h.map, fun x => hb.qrow (h.row x), h.far⟩

def setL' (F : Int → List Int) (x : Int) (l : List Int) : Int → List Int := fun y => if y = x then l else F y

/-- One more in the row of x: the row has grown from w to w1, and is laid into the map. -/
theorem SupM.push {B mb : Nat} {F : Int → List Int} {G : Int → Option Value} {w w1 w2 : World} {x b : Int} {v' : Value} (h : SupM B mb F G w) (hq : QRow B w1 v' (F x ++ [b])) (hg : w.grownBy w1 (rowV G x).ownBlock) (ho : v'.ownBlock = (rowV G x).ownBlock ∨ v'.ownBlock = some w.heap.size)
    (hm : MapIs (Value.int .i64) w2 mb (upd G x (some v'))) (hg2 : w1.grownBy w2 (some mb)) (hm1 : MapIs (Value.int .i64) w1 mb G) : SupM B mb (setL' F x (F x ++ [b])) (upd G x (some v')) w2 := by
  have e1 : rowV (upd G x (some v')) x = v' := by unfold rowV; rw [upd_same]; rfl
  have e2 : ∀ y, y ≠ x → rowV (upd G x (some v')) y = rowV G y := fun y hy => by unfold rowV; rw [upd_other _ _ hy]
  have hkeep : ∀ (u : Value) (l : List Int), QRow B w1 u l → QRow B w2 u l := fun u l hu => hu.kept fun i _ hi hv => hg2.block i hi fun e => by
    obtain ⟨es, clock, em, -⟩ := hm1
    rcases hu.2 with ⟨rfl, _⟩ | ⟨g, off, cap, cur, rfl, _, hgg, _⟩
    · cases hv
    · have e3 : g = i := by simpa [Value.ownBlock] using hv
      have e4 : mb = i := by simpa using e.symm
      subst e3 e4
      rw [em] at hgg
      cases hgg
  refine ⟨hm, fun y => ?_, fun y z hyz g hy hz => ?_⟩
  · unfold setL'
    by_cases hy : y = x
    · subst hy
      rw [if_pos rfl, e1]
      exact hkeep _ _ hq
    · rw [if_neg hy, e2 y hy]
      refine hkeep _ _ ((h.row y).kept fun i _ hi hv => hg.block i hi fun e => h.far y x hy i hv e.symm)
  · have hlt : ∀ y g, (rowV G y).ownBlock = some g → g < w.heap.size := fun y g e => ((h.row y).base e).2
    by_cases h1 : y = x
    · subst h1
      have h2 : z ≠ y := fun e => hyz e.symm
      rw [e1] at hy
      rw [e2 z h2] at hz
      rcases ho with ho | ho
      · rw [ho] at hy
        exact h.far y z hyz g hy hz
      · rw [ho] at hy
        have := hlt z g hz
        have := Option.some.inj hy
        omega
    · rw [e2 y h1] at hy
      by_cases h2 : z = x
      · subst h2
        rw [e1] at hz
        rcases ho with ho | ho
        · rw [ho] at hz
          exact h.far y z hyz g hy hz
        · rw [ho] at hz
          have := hlt y g hy
          have := Option.some.inj hz
          omega
      · rw [e2 z h2] at hz
        exact h.far y z hyz g hy hz

/-- The blocks of the rows. -/
def supB (G : Int → Option Value) (g : Nat) : Prop := ∃ x, (rowV G x).ownBlock = some g

theorem SupM.inB {B mb : Nat} {F : Int → List Int} {G : Int → Option Value} {w : World} (h : SupM B mb F G w) : ∀ g, supB G g → g < w.heap.size := fun _ ⟨x, e⟩ => ((h.row x).base e).2

theorem SupM.map1 {B mb : Nat} {F : Int → List Int} {G : Int → Option Value} {w w1 : World} {x : Int} (h : SupM B mb F G w) (hg : w.grownBy w1 (rowV G x).ownBlock) : MapIs (Value.int .i64) w1 mb G :=
  h.map.same (hg.block mb h.map.lt fun e => by
    obtain ⟨es, clock, em, -⟩ := h.map
    rcases (h.row x).2 with ⟨e2, _⟩ | ⟨g, off, cap, cur, e2, _, hgg, _⟩
    · rw [e2] at e; cases e
    · rw [e2] at e
      have : mb = g := by simpa [Value.ownBlock] using e
      subst this
      rw [em] at hgg
      cases hgg)

/-- A block of other cells stays where a row of the map grows. -/
theorem SupM.blk1 {B mb : Nat} {F : Int → List Int} {G : Int → Option Value} {w w1 w2 : World} {x : Int} {b : Nat} {c : List Value} {T : TypeId} (h : SupM B mb F G w) (hg : w.grownBy w1 (rowV G x).ownBlock) (hg2 : w1.grownBy w2 (some mb)) (hb : Blk w b c T) (hT : T ≠ 3) : Blk w2 b c T := by
  have h1 : Blk w1 b c T := hb.same (hg.block b hb.lt fun e => (h.row x).far hb hT e.symm)
  refine h1.same (hg2.block b h1.lt fun e => ?_)
  obtain ⟨es, clock, em, -⟩ := h.map1 hg
  have : b = mb := by simpa using e
  subst this
  unfold Blk at h1
  rw [em] at h1
  cases h1

/-- The constraints stay. -/
theorem SupM.out1 {B mb ob : Nat} {F : Int → List Int} {G : Int → Option Value} {w w1 w2 : World} {x : Int} {v' : Value} {l : List PBC} (h : SupM B mb F G w) (hg : w.grownBy w1 (rowV G x).ownBlock) (hg2 : w1.grownBy w2 (some mb)) (ho : v'.ownBlock = (rowV G x).ownBlock ∨ v'.ownBlock = some w.heap.size)
    (hO : OutC B ob (supB G) l w) : OutC B ob (supB (upd G x (some v'))) l w2 := by
  obtain ⟨v, L, h1, h2, h3, h4⟩ := hO
  have hm1 := h.map1 hg
  have keep : ∀ i, i < w.heap.size → (rowV G x).ownBlock ≠ some i → (∃ c T fz, w.heap[i]? = some (.cells c T fz)) → w2.heap[i]? = w.heap[i]? := fun i hi hne ⟨c, T, fz, hc⟩ => by
    have e1 := hg.block i hi fun e => hne e.symm
    refine (hg2.block i (Nat.lt_of_lt_of_le hi hg.size) fun e => ?_).trans e1
    obtain ⟨es, clock, em, -⟩ := hm1
    have : i = mb := by simpa using e
    subst this
    rw [em] at e1
    rw [← e1] at hc
    cases hc
  have hq : ∀ (u : Value) (k : List Int), QRow B w u k → (∀ g, u.ownBlock = some g → ¬ supB G g) → QRow B w2 u k := fun u k hu hn => hu.kept fun i _ hi hv => by
    refine keep i hi (fun e => hn i hv ⟨x, e⟩) ?_
    rcases hu.2 with ⟨rfl, _⟩ | ⟨g, off, cap, cur, rfl, _, hgg, _⟩
    · cases hv
    · have : g = i := by simpa [Value.ownBlock] using hv
      subst this
      exact ⟨_, _, _, hgg⟩
  refine ⟨v, L, h.blk1 hg hg2 h1 (by decide), ⟨?_, fun q hq' => ?_⟩, h3, fun q hq' g hg' hA => ?_⟩
  · refine ⟨h2.row.1, ?_⟩
    rcases h2.row.2 with hn | ⟨g, cap, cur, e, hb, hgg, rest⟩
    · exact .inl hn
    · refine .inr ⟨g, cap, cur, e, hb, ?_, rest⟩
      rw [keep g (Array.getElem?_eq_some_iff.1 hgg).1 (fun e2 => ?_) ⟨_, _, _, hgg⟩]
      · exact hgg
      · rcases (h.row x).2 with ⟨e3, _⟩ | ⟨g', off, cap', cur', e3, _, hgg', _⟩
        · rw [e3] at e2; cases e2
        · rw [e3] at e2
          have : g' = g := by simpa [Value.ownBlock] using e2
          subst this
          rw [hgg'] at hgg
          have := Option.some.inj hgg
          injection this with _ h5 _
          revert h5; decide
  · obtain ⟨q1, q2, q3⟩ := h2.each q hq'
    exact ⟨hq _ _ q1 fun g e => h4 q hq' g (.inl e), hq _ _ q2 fun g e => h4 q hq' g (.inr e), q3⟩
  · obtain ⟨y, hy⟩ := hA
    have hlt : g < w.heap.size := by
      obtain ⟨q1, q2, -⟩ := h2.each q hq'
      rcases hg' with e | e
      · exact (q1.base e).2
      · exact (q2.base e).2
    by_cases e : y = x
    · subst e
      have e1 : rowV (upd G y (some v')) y = v' := by unfold rowV; rw [upd_same]; rfl
      rw [e1] at hy
      rcases ho with ho | ho
      · rw [ho] at hy
        exact h4 q hq' g hg' ⟨y, hy⟩
      · rw [ho] at hy
        have := Option.some.inj hy
        omega
    · have e2 : rowV (upd G x (some v')) y = rowV G y := by unfold rowV; rw [upd_other _ _ e]
      rw [e2] at hy
      exact h4 q hq' g hg' ⟨y, hy⟩

theorem OwnI.qrow {base : Nat} {w : World} {v : Value} {l : List Int} (h : OwnI base w v l) : QRow base w v l := by
  refine ⟨h.2, ?_⟩
  rcases h.1.1.2 with ⟨e, e0⟩ | ⟨g, cap, cur, e, hb, hg, hn, hm, hs, hx⟩
  · exact .inl ⟨e, List.eq_nil_of_length_eq_zero e0⟩
  · refine .inr ⟨g, 0, cap, cur, e, hb, hg, hn, hm, by omega, fun i hi => ?_⟩
    have h4 : (cur.toList.take (l.length * 1))[i]? = some (.int .i64 (ix l i)) := by rw [hx]; simp [hi]
    rw [List.getElem?_take_of_lt (by omega)] at h4
    simpa using h4

end Go.Proofs.YtfhpfbakoiekpaaGreatDoor

/- pb.String: the walk. -/
namespace Go.Proofs.YtfhpfbakoiekpaaGreatDoor
open Go.RowKit Go.Shelf
attribute [local go_sem] Oper.semAt_some

set_option maxHeartbeats 4000000 in
set_option maxRecDepth 100000 in
theorem string_any (v : Value) (c : PBC) (w : World) (h : PBIs w v c) (hv : pbV c = true) (hsm : ∀ q ∈ c.lits.zip c.coefs, q.1.natAbs < 100 ∧ 0 ≤ q.2 ∧ q.2 < 100) (hbs : 0 ≤ c.bound ∧ c.bound < 100) (hln : c.lits.length = c.coefs.length ∧ c.lits.length ≤ 1000) :
    Calls Tryz.prog 25 #[v] w fun e w' => e = .returned (.string ⟨(strT c).toArray⟩) ∧ Below w.heap.size w w' := by
  obtain ⟨vl, vk, rfl, hL, hK, hbd⟩ := h
  obtain ⟨a1, c1, rfl, -, hl1, -, -⟩ := hL.form
  obtain ⟨a2, c2, rfl, -, hl2, -, -⟩ := hK.form
  have hal : Below w.heap.size w (w.alloc (.cells #[.slice a1 c.lits.length c1, .slice a2 c.coefs.length c2, .int .i64 c.bound] 30)) := bal (Below.refl _ _) _
  have HAL := Lib.hid hal
  have HC : Hid (PBIs (w.alloc (.cells #[.slice a1 c.lits.length c1, .slice a2 c.coefs.length c2, .int .i64 c.bound] 30)) (.agg #[.slice a1 c.lits.length c1, .slice a2 c.coefs.length c2, .int .i64 c.bound]) c) := Lib.hid ⟨_, _, rfl, hL.below hal, hK.below hal, hbd⟩
  have BB := Lib.hid (Blk.new w [.slice a1 c.lits.length c1, .slice a2 c.coefs.length c2, .int .i64 c.bound] 30)
  have HL := Lib.hid hL
  have HK := Lib.hid hK
  have HV := Lib.hid hv
  have HSM := Lib.hid hsm
  have hlz : (c.lits.zip c.coefs).length ≤ 1000 := by simp; omega
  have HLN := Lib.hid hln.1
  have hlm := hln.2
  clear hln
  clear hL hK hal hv hsm
  refine (callsIn_wide (n := 6)).1 ?_
  refine callsIn_of_wp_marks Tryz.func25 rfl trivial ?_ rfl
  simp only [Tryz.ntmps25, List.size_toArray, List.length_cons, List.length_nil, Nat.reduceAdd, Nat.reduceSub, Array.replicate_succ, Array.replicate_zero, List.push_toArray, List.append_toArray, List.nil_append, List.cons_append]
  gi_upto_region 1 with fail
  have kB := BB.out.cell
  have hltB := BB.out.lt
  generalize w.alloc (.cells #[.slice a1 c.lits.length c1, .slice a2 c.coefs.length c2, .int .i64 c.bound] 30) = w0 at *
  gi_wp2_with (first
    | (refine ⟨trivial, ?_⟩; gi_at_call 71; refine (callsIn_wide.2 (parts_any2 _ _ _ _ ⟨_, _, _, rfl⟩ ⟨_, _, _, rfl⟩)).mono ?_; rintro e w3 ⟨rfl, hb3, hp3, hs3⟩)
    | (refine ⟨trivial, ?_⟩; gi_at_call 43; refine (callsIn_wide.2 (pbValid_any _ c _ HC.out)).mono ?_; rintro e w1 ⟨e1, hb1⟩; rw [HV.out] at e1; subst e1; have HB1 := Lib.hid hb1; have kB1 := fun o => (bcell hb1 _ o hltB).trans (kB o); have hz1 : w.heap.size < w1.heap.size := (by have := hb1.size; omega); clear hb1))
  have hald := bal (Below.refl w1.heap.size w1) (.cells #[.pointer none, .slice none 0 0] 99)
  have hsz : (w1.alloc (.cells #[.pointer none, .slice none 0 0] 99)).heap.size = w1.heap.size + 1 := by simp
  have hbb := (Blk.new w1 [.pointer none, .slice none 0 0] 99).below hb3
  have HBW := Lib.hid (bon (bon HAL.out HB1.out) (hald.trans (hb3.mono (by omega))))
  have hbox1 := ((BB.out.below HB1.out).below hald).below hb3
  simp only [World.size_alloc] at hp3 hs3
  have HS0 : Hid (StSt w.heap.size w1.heap.size (w1.heap.size + 1) (w1.heap.size + 2) [.slice a1 c.lits.length c1, .slice a2 c.coefs.length c2, .int .i64 c.bound] w1 [] w3) := Lib.hid ⟨.inl ⟨Nat.le_refl _, .slice none 0 0, hbb, World.ownsRowF_nil _ _ _ _, by simp [Value.ownBlock]⟩, hp3, hbox1, hald.trans (hb3.mono (by omega)), by omega⟩
  have hst : PartSt w w3 [w1.heap.size] (w1.heap.size + 1) (.slice a1 c.lits.length c1) (.slice a2 c.coefs.length c2) c.bound := ⟨fun i hi => HBW.out.block i hi, HBW.out.size, hp3⟩
  have hz3 : w3.heap.size = w1.heap.size + 2 := by omega
  have HZ3 := Lib.hid hz3
  clear hz3 hsz hs3 hald hbb hbox1
  refine parts_loop HL.out HK.out HLN.out hst (fun s hs => by simp only [List.mem_cons, List.not_mem_nil, or_false] at hs; omega) (by simp <;> omega) (by omega) rfl rfl
    (fun pre W => StSt w.heap.size w1.heap.size (w1.heap.size + 1) (w1.heap.size + 2) [.slice a1 c.lits.length c1, .slice a2 c.coefs.length c2, .int .i64 c.bound] w1 (headT (pvs pre)) W)
    (fun _ _ _ => False)
    (StSt.own (by have := HZ3.out; omega)) (fun _ _ _ _ _ h _ _ => h)
    HS0.out ?a1 ?assign ?body ?done ?stop
  case assign =>
    intro l x W K hK
    gi_wp2
    exact hK
  case body =>
    rintro l pre x W hI hlt
    have hx := HSM.out x.1 x.2
    have HTL : Hid ((headT (pvs pre)).length ≤ 8000) := Lib.hid (by
      have h1 := headT_len (l := pvs pre) (fun q hq => by
        obtain ⟨y, _, rfl⟩ := List.mem_map.1 hq
        exact HSM.out y.1 y.2)
      rw [pvs_len] at h1
      omega)
    have HI := Lib.hid hI
    have hszW : w1.heap.size + 2 ≤ W.heap.size := hI.size
    clear hI
    obtain ⟨⟨x1, x2⟩, hxm⟩ := x
    dsimp only at hx ⊢
    obtain ⟨k2, rfl⟩ : ∃ k2 : Nat, x2 = k2 := ⟨x2.toNat, by omega⟩
    have hk2 : k2 < 100 := by omega
    obtain ⟨k1, hk1⟩ : ∃ k1 : Nat, x1.natAbs = k1 := ⟨_, rfl⟩
    have HX1 : Hid (-4611686018427387904 ≤ x1 ∧ x1 ≤ 4611686018427387904) := Lib.hid (by omega)
    have HD2 := Lib.hid (dec_len hk2)
    have hk1' : k1 < 100 := by omega
    have HD1 := Lib.hid (dec_len hk1')
    have hd1 := HD1.out
    have hd2 := HD2.out
    by_cases g1 : x1 < 0
    · gi_wp2_with (first
        | (refine ⟨trivial, ?_⟩; gi_at_call 72; (with_reducible refine (CallsIn.inRound l (callsIn_wide.2 (ws_txt HS5.out rfl hz1 ([120] ++ Lib.decDigits k1 ++ [32]) _ (cat3_list [120] (Lib.decDigits k1) [32]) (by have := HTL.out; have := HD2.out; have := HD1.out; simp; omega)))).mono ?_); rintro e W6 ⟨rfl, hs6, hl6, hk6⟩; have HS6 := Lib.hid hs6; have HL6 := Lib.hid hl6; have HK6 := Lib.hid hk6; clear hs6 hl6 hk6)
        | (refine ⟨trivial, ?_⟩; gi_at_call 73; (with_reducible refine (CallsIn.inRound l (callsIn_wide.2 (Tryz.strconv_Itoa_small k1 hk1' _))).mono ?_); rintro e Wi ⟨rfl, rfl⟩)
        | (refine ⟨trivial, ?_⟩; gi_at_call 74; refine (CallsIn.inRound l (callsIn_wide.2 (abs_any x1 HX1.out _))).mono ?_; rintro e Wi ⟨rfl, rfl⟩; rw [hk1])
        | (refine ⟨trivial, ?_⟩; gi_at_call 72; (with_reducible refine (CallsIn.inRound l (callsIn_wide.2 (ws_txt HS4.out rfl hz1 ([126]) _ (rfl) (by have := HTL.out; have := HD2.out; have := HD1.out; simp; omega)))).mono ?_); rintro e W5 ⟨rfl, hs5, hl5, hk5⟩; have HS5 := Lib.hid hs5; have HL5 := Lib.hid hl5; have HK5 := Lib.hid hk5; clear hs5 hl5 hk5)
        | (refine ⟨trivial, ?_⟩; gi_at_call 72; (with_reducible refine (CallsIn.inRound l (callsIn_wide.2 (ws_txt HI.out rfl hz1 (Lib.decDigits k2 ++ [32]) _ (cat_list (Lib.decDigits k2) [32]) (by have := HTL.out; have := HD2.out; have := HD1.out; simp; omega)))).mono ?_); rintro e W4 ⟨rfl, hs4, hl4, hk4⟩; have HS4 := Lib.hid hs4; have HL4 := Lib.hid hl4; have HK4 := Lib.hid hk4; clear hs4 hl4 hk4)
        | (refine ⟨trivial, ?_⟩; gi_at_call 73; (with_reducible refine (CallsIn.inRound l (callsIn_wide.2 (Tryz.strconv_Itoa_small k2 hk2 _))).mono ?_); rintro e Wi ⟨rfl, rfl⟩))
      refine ⟨(HK4.out.trans HK5.out).trans HK6.out, by rw [HZ3.out]; exact (HL4.out.trans HL5.out).trans HL6.out, ?_⟩
      have hfin := HS6.out
      show StSt _ _ _ _ _ _ (headT (pvs (pre ++ [⟨(x1, (k2 : Int)), hxm⟩]))) _
      rw [pvs_snoc, headT_snoc]
      simpa [itemT, g1, hk1, List.append_assoc] using hfin
    · gi_wp2_with (first
        | (refine ⟨trivial, ?_⟩; gi_at_call 72; (with_reducible refine (CallsIn.inRound l (callsIn_wide.2 (ws_txt HS4.out rfl hz1 ([120] ++ Lib.decDigits k1 ++ [32]) _ (cat3_list [120] (Lib.decDigits k1) [32]) (by have := HTL.out; have := HD2.out; have := HD1.out; simp; omega)))).mono ?_); rintro e W6 ⟨rfl, hs6, hl6, hk6⟩; have HS6 := Lib.hid hs6; have HL6 := Lib.hid hl6; have HK6 := Lib.hid hk6; clear hs6 hl6 hk6)
        | (refine ⟨trivial, ?_⟩; gi_at_call 73; (with_reducible refine (CallsIn.inRound l (callsIn_wide.2 (Tryz.strconv_Itoa_small k1 hk1' _))).mono ?_); rintro e Wi ⟨rfl, rfl⟩)
        | (refine ⟨trivial, ?_⟩; gi_at_call 74; refine (CallsIn.inRound l (callsIn_wide.2 (abs_any x1 HX1.out _))).mono ?_; rintro e Wi ⟨rfl, rfl⟩; rw [hk1])
        | (refine ⟨trivial, ?_⟩; gi_at_call 72; (with_reducible refine (CallsIn.inRound l (callsIn_wide.2 (ws_txt HI.out rfl hz1 (Lib.decDigits k2 ++ [32]) _ (cat_list (Lib.decDigits k2) [32]) (by have := HTL.out; have := HD2.out; have := HD1.out; simp; omega)))).mono ?_); rintro e W4 ⟨rfl, hs4, hl4, hk4⟩; have HS4 := Lib.hid hs4; have HL4 := Lib.hid hl4; have HK4 := Lib.hid hk4; clear hs4 hl4 hk4)
        | (refine ⟨trivial, ?_⟩; gi_at_call 73; (with_reducible refine (CallsIn.inRound l (callsIn_wide.2 (Tryz.strconv_Itoa_small k2 hk2 _))).mono ?_); rintro e Wi ⟨rfl, rfl⟩))
      refine ⟨HK4.out.trans HK6.out, by rw [HZ3.out]; exact HL4.out.trans HL6.out, ?_⟩
      have hfin := HS6.out
      show StSt _ _ _ _ _ _ (headT (pvs (pre ++ [⟨(x1, (k2 : Int)), hxm⟩]))) _
      rw [pvs_snoc, headT_snoc]
      unfold itemT
      rw [if_neg (show ¬ x1 < 0 by omega)]
      simpa [hk1, List.append_assoc] using hfin
  case done =>
    rintro D xs W hD hS hI hK
    have HTL : Hid ((headT (pvs xs)).length ≤ 8000) := Lib.hid (by
      have h1 := headT_len (l := pvs xs) (fun q hq => by
        obtain ⟨y, _, rfl⟩ := List.mem_map.1 hq
        exact HSM.out y.1 y.2)
      rw [hS] at h1 ⊢
      omega)
    obtain ⟨kb, hkb⟩ : ∃ kb : Nat, c.bound = kb := ⟨c.bound.toNat, by omega⟩
    have hkb2 : kb < 100 := by omega
    have HDB := Lib.hid (dec_len hkb2)
    have hdb := HDB.out
    have HF : Hid (strT c = headT (pvs xs) ++ ([62, 61, 32] ++ Lib.decDigits kb)) := Lib.hid (by unfold strT; rw [hS, hkb]; rfl)
    have HI := Lib.hid hI
    have kb1 := hI.box1.cell
    rw [hkb] at kb1
    have HK0 := Lib.hid hK
    have HBW1 := Lib.hid (bon HAL.out HB1.out)
    clear hS hI hK hkb
    gi_wp2_with (first
      | (refine ⟨trivial, ?_⟩; gi_at_call 75; refine (callsIn_wide.2 (Tryz.Builder_String_any_k w1.heap.size w1.heap.size _ _ HS4.out.bld (by have := HS4.out.size; omega))).mono ?_; rintro e W5 ⟨rfl, -, hb5, ho5⟩; have HB5 := Lib.hid hb5; have HO5 := Lib.hid ho5; clear hb5 ho5)
      | (refine ⟨trivial, ?_⟩; gi_at_call 72; (with_reducible refine (callsIn_wide.2 (ws_txt HI.out rfl hz1 ([62, 61, 32] ++ Lib.decDigits kb) _ (cat_list [62, 61, 32] (Lib.decDigits kb)) (by have := HTL.out; have := HDB.out; simp; omega))).mono ?_); rintro e W4 ⟨rfl, hs4, hl4, hk4⟩; have HS4 := Lib.hid hs4; have HK4 := Lib.hid hk4; clear hs4 hl4 hk4)
      | (refine ⟨trivial, ?_⟩; gi_at_call 73; (with_reducible refine (callsIn_wide.2 (Tryz.strconv_Itoa_small kb hkb2 _)).mono ?_); rintro e Wi ⟨rfl, rfl⟩))
    have hK4 := HK4.out.2 D _ HK0.out rfl
    have hz3 := HZ3.out
    have hK5 := HO5.out D _ hK4 (fun e => by have := Option.some.inj e; omega) (fun c fz e => by cases e)
    refine ⟨by simp, .inl ⟨_, _, rfl, run_takeDeferred hK5, ?_⟩⟩
    refine ⟨.string ⟨(headT (pvs xs) ++ ([62, 61, 32] ++ Lib.decDigits kb)).toArray⟩, by simp [results, Tryz.f25, go_sem], by rw [HF.out], ?_⟩
    exact (HBW1.out.trans ((HS4.out.below.trans HB5.out).mono (by omega))).trans (belowK_b (w := w) (Nat.le_refl _) W5 D _ _ (by omega) hK5 rfl rfl)
  case stop => rintro D e pre W hD hS ⟨⟩

end Go.Proofs.YtfhpfbakoiekpaaGreatDoor

/- pb.Holds, pb.Slack: their contracts. -/
namespace Go.Proofs.YtfhpfbakoiekpaaGreatDoor
open Go.RowKit Go.Shelf
attribute [local go_sem] Oper.semAt_some


/-- Where the loop is: the sum so far. -/
structure HSt (c : PBC) (H sb : Nat) (vl vk va : Value) (s0 : Int) (t : Int → Bool) (pre : List (PV c)) (W : World) : Prop where
  box : Blk W H [vl, vk, .int .i64 c.bound] 30
  abox : Blk W (H + 1) [va] 28
  sum : Blk W sb [.int .i64 (s0 + sumW t (pvs pre))] 3

theorem HSt.own {c : PBC} {H sb B : Nat} {vl vk va : Value} {s0 : Int} {t : Int → Bool} : OwnFrom B (fun pre W => HSt c H sb vl vk va s0 t pre W) := fun pre X Y row hs hg hrow => by
  have hr : ∀ r, row = some r → ∃ o : Obj, X.heap[r]? = some o ∧ o.isCells = false := fun r e => (hrow r e).2
  exact ⟨blk_ownP _ _ _ () X Y row hs.box hg hr, blk_ownP _ _ _ () X Y row hs.abox hg hr, blk_ownP _ _ _ () X Y row hs.sum hg hr⟩


end Go.Proofs.YtfhpfbakoiekpaaGreatDoor

/- Literal programs: rows of strings, of rules. -/
namespace Go.Proofs.YtfhpfbakoiekpaaGreatDoor
open Go.RowKit

theorem Blk.strs {w : World} {b : Nat} {l : List ByteArray} (h : Blk w b (l.map Value.string) 9) (hs : ∀ x ∈ l, x.size ≤ 1000) (hl : l.length ≤ 1000) : Strs w (.slice (some ⟨b, 0, none⟩) l.length l.length) l := by
  refine ⟨⟨_, l.length, rfl, Nat.le_refl _, by unfold maxLen; omega, by omega, fun _ => ⟨b, 0, rfl, h.lt, fun i hi => ?_⟩⟩, fun i => ?_⟩
  · rw [Nat.zero_add, h.cell]
    simp [ixS, List.getD_eq_getElem?_getD, hi]
  · unfold ixS
    rw [List.getD_eq_getElem?_getD]
    cases e : l[i]? with
    | none => decide
    | some x =>
      have := hs x (List.mem_of_getElem? e)
      simp only [Option.getD_some]
      omega

theorem Blk.rules {w : World} {b : Nat} {L : List RQ} (h : Blk w b (L.flatMap cells6) 54) (hs : ∀ q ∈ L, RuleSl w q.1 q.2.1 q.2.2.1 q.2.2.2) (hl : L.length ≤ 1000) : RulesIs w (.slice (some ⟨b, 0, none⟩) L.length L.length) (L.map (·.1)) := by
  have hg : ∀ i, i < L.length → L.getD i default ∈ L := fun i hi => by
    rw [List.getD_eq_getElem?_getD, List.getElem?_eq_getElem hi]
    exact List.getElem_mem hi
  have hx : ∀ i, i < L.length → ixR (L.map (·.1)) i = (L.getD i default).1 := fun i hi => by
    simp [ixR, List.getD_eq_getElem?_getD, hi]
  refine ⟨fun i => (L.getD i default).2.1, fun i => (L.getD i default).2.2.1, fun i => (L.getD i default).2.2.2, ⟨_, L.length, by rw [List.length_map], by rw [List.length_map]; exact Nat.le_refl _, by unfold maxLen; omega, by rw [List.length_map]; omega, fun _ => ⟨b, 0, rfl, h.lt, fun i hi j hj => ?_⟩⟩, fun i hi => ?_⟩
  · rw [List.length_map] at hi
    show _ = some (ruleCell (ixR (L.map (·.1)) i) (L.getD i default).2.1 (L.getD i default).2.2.1 (L.getD i default).2.2.2 j)
    rw [h.cell, hx i hi, Nat.zero_add, flat6 L i j hi hj]
    rcases (show j = 0 ∨ j = 1 ∨ j = 2 ∨ j = 3 ∨ j = 4 ∨ j = 5 by omega) with rfl | rfl | rfl | rfl | rfl | rfl <;> rfl
  · rw [List.length_map] at hi
    rw [hx i hi]
    exact hs _ (hg i hi)

theorem nil_mins (w : World) : MinsIs w (.slice none 0 0) [] := ⟨fun _ => undef, fun _ => undef, ⟨none, 0, rfl, Nat.le_refl _, by unfold maxLen; omega, by simp, fun h => absurd h (by simp)⟩, fun i hi => absurd hi (by simp)⟩
theorem inI_small {x : Int} (h : -1000000 ≤ x ∧ x ≤ 1000000) : InI x := by unfold InI; omega

end Go.Proofs.YtfhpfbakoiekpaaGreatDoor

/- ostlerlaw26: two, strings, Bits, Texts, all, small. -/
namespace Go.Proofs.YtfhpfbakoiekpaaGreatDoor
open Go.RowKit

/-! ### strings, Bits -/
theorem toList_inj {a b : ByteArray} (h : a.toList = b.toList) : a = b := by
  have h1 : a.data.toList = b.data.toList := by rw [← Lib.toList_data, ← Lib.toList_data]; exact h
  cases a; cases b; congr 1; exact Array.toList_inj.1 h1
theorem str_ne {a b : ByteArray} (h : ¬ a = b) : (a.toList == b.toList) = false := by
  rw [beq_eq_false_iff_ne]
  exact fun e => h (toList_inj e)
def StrsRel (l1 l2 : List ByteArray) (w : World) (i : Value) (wx : World) : Prop := ∃ k : Nat, k ≤ l1.length ∧ i = .int .i64 k ∧ (∀ j, j < k → ixS l1 j = ixS l2 j) ∧ Below w.heap.size w wx

theorem ixS_get {l : List ByteArray} {j : Nat} (hj : j < l.length) : ixS l j = l[j] := by simp [ixS, List.getD_eq_getElem?_getD, List.getElem?_eq_getElem hj]

theorem eq_of_ixS {l1 l2 : List ByteArray} (hl : l1.length = l2.length) (h : ∀ j, j < l1.length → ixS l1 j = ixS l2 j) : l1 = l2 := by
  apply List.ext_getElem hl
  intro i h1 h2
  have := h i h1
  rwa [ixS_get h1, ixS_get h2] at this

set_option maxHeartbeats 1000000 in
theorem strings_any (v1 v2 : Value) (l1 l2 : List ByteArray) (w : World) (h1 : Strs w v1 l1) (h2 : Strs w v2 l2) :
    Calls Tryz.prog 49 #[v1, v2] w fun e w' => e = .returned (.bool (decide (l1 = l2))) ∧ Below w.heap.size w w' := by
  obtain ⟨a1, c1, rfl, -, hl1, -, -, hcell1⟩ := h1.form
  obtain ⟨a2, c2, rfl, -, hl2, -, -, hcell2⟩ := h2.form
  have HC1 := Lib.hid hcell1
  have HC2 := Lib.hid hcell2
  clear h1 h2 hcell1 hcell2
  go_enter Tryz.func49, Tryz.ntmps49
  by_cases hlen : l1.length = l2.length
  · have hne : ((l1.length : Int) != (l2.length : Int)) = false := by simp [hlen]
    have hle := Lib.hid hlen
    clear hlen
    go_wp2
    go_loopw [13] (fun i wx => StrsRel l1 l2 w i wx) (fun i _ => l1.length - (intOf i).toNat)
    case atStart => exact ⟨0, by omega, rfl, fun j hj => absurd hj (Nat.not_lt_zero _), Below.refl _ _⟩
    case round =>
      obtain ⟨k, hk, rfl, hall, hb⟩ := hrel
      have HA := Lib.hid hall
      clear hall
      by_cases hlt : k < l1.length
      · obtain ⟨b1, o1, rfl, hb1, hc1⟩ := HC1.out (by omega)
        obtain ⟨b2, o2, rfl, hb2, hc2⟩ := HC2.out (by have := hle.out; omega)
        have hlt2 : k < l2.length := by have := hle.out; omega
        have hlr1 : b1 < wr.heap.size := Nat.lt_of_lt_of_le hb1 hb.size
        have hlr2 : b2 < wr.heap.size := Nat.lt_of_lt_of_le hb2 hb.size
        have q1 : ∀ e : Ext wr, e.world.cell? ⟨b1, o1 + k, none⟩ = some (.string (ixS l1 k)) := fun e => (bcell e.below _ _ hlr1).trans ((bcell hb _ _ hb1).trans (hc1 k hlt))
        have q2 : ∀ e : Ext wr, e.world.cell? ⟨b2, o2 + k, none⟩ = some (.string (ixS l2 k)) := fun e => (bcell e.below _ _ hlr2).trans ((bcell hb _ _ hb2).trans (hc2 k hlt2))
        by_cases he : ixS l1 k = ixS l2 k
        · have HN := Lib.hid (lt_succ_all HA.out he)
          clear hc1 hc2
          go_wp2
          refine wp_region_ext (by kernel_rfl) (by kernel_rfl) ?_
          repeat (go_big_quiet_step (fail))
          refine wpQuiet_nil ?_
          intro w9 hw'
          obtain ⟨e9, he9⟩ := hw'
          have hb9 := e9.below
          rw [← he9] at hb9
          clear he9 e9
          try dsimp only
          go_wp2
          first
            | (go_roundw
               case rel => (exact ⟨k + 1, by omega, by go_num, HN.out, bon hb hb9⟩)
               case measure => (simp [intOf]; omega))
            | (refine ⟨?_, ?_⟩
               · (exact ⟨k + 1, by omega, by go_num, HN.out, bon hb hb9⟩)
               · (simp [intOf]; omega))
        · have HF : Hid (decide (l1 = l2) = false) := Lib.hid (decide_eq_false fun e => he (by rw [e]))
          have hse := str_ne he
          clear hc1 hc2 he
          go_wp2
          refine wp_region_ext (by kernel_rfl) (by kernel_rfl) ?_
          repeat (go_big_quiet_step (fail))
          refine wpQuiet_nil ?_
          intro w9 hw'
          obtain ⟨e9, he9⟩ := hw'
          have hb9 := e9.below
          rw [← he9] at hb9
          clear he9 e9
          try dsimp only
          go_wp2
          go_ret
          exact ⟨ret_bool HF.out.symm, bon hb hb9⟩
      · have HF : Hid (decide (l1 = l2) = true) := Lib.hid (decide_eq_true (eq_of_ixS hle.out fun j hj => HA.out j (by omega)))
        go_wp2
        go_ret
        exact ⟨ret_bool HF.out.symm, hb⟩
  · have hne : ((l1.length : Int) != (l2.length : Int)) = true := by simp; omega
    have HF : Hid (decide (l1 = l2) = false) := Lib.hid (decide_eq_false fun e => hlen (by rw [e]))
    clear hlen
    go_wp2
    go_ret
    exact ⟨ret_bool HF.out.symm, Below.refl _ _⟩

set_option maxHeartbeats 1000000 in
theorem bits_any (v1 v2 : Value) (l1 l2 : List Int) (w : World) (h1 : Bytes8 w v1 l1) (h2 : Bytes8 w v2 l2) :
    Calls Tryz.prog 20 #[v1, v2] w fun e w' => e = .returned (.bool (decide (l1 = l2))) ∧ Below w.heap.size w w' := by
  obtain ⟨⟨a1, c1, rfl, -, -, hl1, hcell1⟩, hf1⟩ := h1
  obtain ⟨⟨a2, c2, rfl, -, -, hl2, hcell2⟩, hf2⟩ := h2
  have HC1 := Lib.hid hcell1
  have HC2 := Lib.hid hcell2
  clear hcell1 hcell2
  go_enter Tryz.func20, Tryz.ntmps20
  by_cases hlen : l1.length = l2.length
  · have hne : ((l1.length : Int) != (l2.length : Int)) = false := by simp [hlen]
    have hle := Lib.hid hlen
    clear hlen
    go_wp2
    go_loopw [13] (fun i wx => IntsRel l1 l2 w i wx) (fun i _ => l1.length - (intOf i).toNat)
    case atStart => exact ⟨0, by omega, rfl, fun j hj => absurd hj (Nat.not_lt_zero _), Below.refl _ _⟩
    case round =>
      obtain ⟨k, hk, rfl, hall, hb⟩ := hrel
      have HA := Lib.hid hall
      clear hall
      by_cases hlt : k < l1.length
      · obtain ⟨b1, o1, rfl, hb1, hc1⟩ := HC1.out (by omega)
        obtain ⟨b2, o2, rfl, hb2, hc2⟩ := HC2.out (by have := hle.out; omega)
        have hlt2 : k < l2.length := by have := hle.out; omega
        have hlr1 : b1 < wr.heap.size := Nat.lt_of_lt_of_le hb1 hb.size
        have hlr2 : b2 < wr.heap.size := Nat.lt_of_lt_of_le hb2 hb.size
        have q1 : ∀ e : Ext wr, e.world.cell? ⟨b1, o1 + k, none⟩ = some (.int .i8 (ix l1 k)) := fun e => (bcell e.below _ _ hlr1).trans ((bcell hb _ _ hb1).trans (hc1 k hlt))
        have q2 : ∀ e : Ext wr, e.world.cell? ⟨b2, o2 + k, none⟩ = some (.int .i8 (ix l2 k)) := fun e => (bcell e.below _ _ hlr2).trans ((bcell hb _ _ hb2).trans (hc2 k hlt2))
        by_cases he : ix l1 k = ix l2 k
        · have hq : (ix l1 k != ix l2 k) = false := by simp [he]
          have HN := Lib.hid (lt_succ_all HA.out he)
          clear he hc1 hc2
          go_wp2
          refine wp_region_ext (by kernel_rfl) (by kernel_rfl) ?_
          repeat (go_big_quiet_step (fail))
          refine wpQuiet_nil ?_
          intro w9 hw'
          obtain ⟨e9, he9⟩ := hw'
          have hb9 := e9.below
          rw [← he9] at hb9
          clear he9 e9
          try dsimp only
          go_wp2
          first
            | (go_roundw
               case rel => (exact ⟨k + 1, by omega, by go_num, HN.out, bon hb hb9⟩)
               case measure => (simp [intOf]; omega))
            | (refine ⟨?_, ?_⟩
               · (exact ⟨k + 1, by omega, by go_num, HN.out, bon hb hb9⟩)
               · (simp [intOf]; omega))
        · have hq : (ix l1 k != ix l2 k) = true := by simp [he]
          have HF : Hid (decide (l1 = l2) = false) := Lib.hid (decide_eq_false fun e => he (by rw [e]))
          clear he hc1 hc2
          go_wp2
          refine wp_region_ext (by kernel_rfl) (by kernel_rfl) ?_
          repeat (go_big_quiet_step (fail))
          refine wpQuiet_nil ?_
          intro w9 hw'
          obtain ⟨e9, he9⟩ := hw'
          have hb9 := e9.below
          rw [← he9] at hb9
          clear he9 e9
          try dsimp only
          go_wp2
          go_ret
          exact ⟨ret_bool HF.out.symm, bon hb hb9⟩
      · have HF : Hid (decide (l1 = l2) = true) := Lib.hid (decide_eq_true (eq_of_ix hle.out fun j hj => HA.out j (by omega)))
        go_wp2
        go_ret
        exact ⟨ret_bool HF.out.symm, hb⟩
  · have hne : ((l1.length : Int) != (l2.length : Int)) = true := by simp; omega
    have HF : Hid (decide (l1 = l2) = false) := Lib.hid (decide_eq_false fun e => hlen (by rw [e]))
    clear hlen
    go_wp2
    go_ret
    exact ⟨ret_bool HF.out.symm, Below.refl _ _⟩

/-! ### two -/
set_option maxHeartbeats 1000000 in
set_option maxRecDepth 100000 in
theorem two_any (w : World) :
    Calls Tryz.prog 48 #[] w fun e w' => ∃ v, e = .returned v ∧ (∃ an nn cn ar nr cr, v = .agg #[.int .i64 2, .slice an nn cn, .slice none 0 0, .slice ar nr cr, .slice none 0 0]) ∧ ProgIs w' v twoP ∧ Below w.heap.size w w' := by
  go_enter Tryz.func48, Tryz.ntmps48
  go_wp2
  generalize hW : World.alloc _ (.cells #[.bool false, .slice (some ⟨w.heap.size + 1 + 1, 0, none⟩) 1 1, .bool false, .int .i64 0, .slice (some ⟨w.heap.size + 1 + 1 + 1, 0, none⟩) 1 1, .slice none 0 0, .bool false, .slice (some ⟨w.heap.size + 1 + 1 + 1 + 1, 0, none⟩) 1 1, .bool false, .int .i64 0, .slice (some ⟨w.heap.size + 1 + 1 + 1 + 1 + 1, 0, none⟩) 1 1, .slice none 0 0] 54) = W1
  have b0 : Blk W1 w.heap.size [.int .i64 2, .slice (some ⟨w.heap.size + 1, 0, none⟩) 2 2, .slice none 0 0, .slice (some ⟨w.heap.size + 1 + 1 + 1 + 1 + 1 + 1, 0, none⟩) 2 2, .slice none 0 0] 27 := by rw [← hW]; (repeat first | (refine Blk.newAt _ _ _ ?_; first | rfl | (simp only [World.size_alloc]; done) | (simp only [World.size_alloc]; omega)) | refine Blk.alloc ?_ _)
  have b1 : Blk W1 (w.heap.size + 1) ([⟨#[97]⟩, ⟨#[98]⟩].map Value.string) 9 := by rw [← hW]; (repeat first | (refine Blk.newAt _ _ _ ?_; first | rfl | (simp only [World.size_alloc]; done) | (simp only [World.size_alloc]; omega)) | refine Blk.alloc ?_ _)
  have b2 : Blk W1 (w.heap.size + 1 + 1) [.int .i64 1] 3 := by rw [← hW]; (repeat first | (refine Blk.newAt _ _ _ ?_; first | rfl | (simp only [World.size_alloc]; done) | (simp only [World.size_alloc]; omega)) | refine Blk.alloc ?_ _)
  have b3 : Blk W1 (w.heap.size + 1 + 1 + 1) [.int .i64 (-2)] 3 := by rw [← hW]; (repeat first | (refine Blk.newAt _ _ _ ?_; first | rfl | (simp only [World.size_alloc]; done) | (simp only [World.size_alloc]; omega)) | refine Blk.alloc ?_ _)
  have b4 : Blk W1 (w.heap.size + 1 + 1 + 1 + 1) [.int .i64 2] 3 := by rw [← hW]; (repeat first | (refine Blk.newAt _ _ _ ?_; first | rfl | (simp only [World.size_alloc]; done) | (simp only [World.size_alloc]; omega)) | refine Blk.alloc ?_ _)
  have b5 : Blk W1 (w.heap.size + 1 + 1 + 1 + 1 + 1) [.int .i64 (-1)] 3 := by rw [← hW]; (repeat first | (refine Blk.newAt _ _ _ ?_; first | rfl | (simp only [World.size_alloc]; done) | (simp only [World.size_alloc]; omega)) | refine Blk.alloc ?_ _)
  have b6 : Blk W1 (w.heap.size + 1 + 1 + 1 + 1 + 1 + 1) ([((⟨false, [1], false, 0, [-2], []⟩ : GR), Value.slice (some ⟨w.heap.size + 1 + 1, 0, none⟩) 1 1, Value.slice (some ⟨w.heap.size + 1 + 1 + 1, 0, none⟩) 1 1, Value.slice none 0 0), ((⟨false, [2], false, 0, [-1], []⟩ : GR), Value.slice (some ⟨w.heap.size + 1 + 1 + 1 + 1, 0, none⟩) 1 1, Value.slice (some ⟨w.heap.size + 1 + 1 + 1 + 1 + 1, 0, none⟩) 1 1, Value.slice none 0 0)].flatMap cells6) 54 := by rw [← hW]; (repeat first | (refine Blk.newAt _ _ _ ?_; first | rfl | (simp only [World.size_alloc]; done) | (simp only [World.size_alloc]; omega)) | refine Blk.alloc ?_ _)
  have hb : Below w.heap.size w W1 := by rw [← hW]; exact bal (bal (bal (bal (bal (bal (bal (Below.refl _ _) _) _) _) _) _) _) _
  have kx := b0.cell
  clear hW
  refine bodyPost_ret (v := .agg #[.int .i64 2, .slice (some ⟨w.heap.size + 1, 0, none⟩) 2 2, .slice none 0 0, .slice (some ⟨w.heap.size + 1 + 1 + 1 + 1 + 1 + 1, 0, none⟩) 2 2, .slice none 0 0]) (by simp [results, Tryz.f48, go_sem, kx]) rfl ⟨_, rfl, ⟨_, _, _, _, _, _, rfl⟩, ⟨_, _, _, _, rfl, inI_small (by decide), b1.strs (by simp; decide) (by simp), nil_ints _, b6.rules (fun q hq => ?_) (by simp), nil_mins _⟩, hb⟩
  simp only [List.mem_cons, List.not_mem_nil, or_false] at hq
  rcases hq with rfl | rfl
  · exact ⟨b2.ints1 (inI_small (by decide)), b3.ints1 (inI_small (by decide)), nil_ints _, (by unfold InI; decide : InI 0)⟩
  · exact ⟨b4.ints1 (inI_small (by decide)), b5.ints1 (inI_small (by decide)), nil_ints _, (by unfold InI; decide : InI 0)⟩

/-! ### small -/
/-! ### all -/
/-! ### Texts -/
theorem row_below {B E sz n : Nat} {v : Value} {xs : List Value} {w w' : World} (h : w.ownsRow B E sz v n xs) (hb : Below w.heap.size w w') : w'.ownsRow B E sz v n xs :=
  h.kept (row := none) ⟨hb.os, hb.tape, hb.output, hb.size, fun k hk _ => hb.block k hk⟩ (by cases v.ownBlock <;> simp)
theorem row_base {B E sz n : Nat} {v : Value} {xs : List Value} {w : World} (h : w.ownsRow B E sz v n xs) {g : Nat} (e : v.ownBlock = some g) : B ≤ g ∧ g < w.heap.size := by
  rcases h.2 with ⟨rfl, _⟩ | ⟨g', cap, cur, rfl, hb, hg, _⟩
  · cases e
  · have : g' = g := by simpa [Value.ownBlock] using e
    subst this
    exact ⟨hb, (Array.getElem?_eq_some_iff.1 hg).1⟩
theorem row_form {B E sz n : Nat} {v : Value} {xs : List Value} {w : World} (h : w.ownsRow B E sz v n xs) : ∃ a n c, v = .slice a n c := by
  rcases h.2 with ⟨rfl, _⟩ | ⟨g', cap, cur, rfl, _⟩ <;> exact ⟨_, _, _, rfl⟩

def TxtRel (l : List PBC) (w : World) (v i : Value) (wx : World) : Prop :=
  ∃ k : Nat, k ≤ l.length ∧ i = .int .i64 k ∧ wx.ownsRow w.heap.size 9 1 v k ((textL (l.take k)).map Value.string) ∧ Below w.heap.size w wx

theorem smallC_at {l : List PBC} (h : l.all smallC = true) {k : Nat} (hk : k < l.length) : smallC (ixC l k) = true := by
  have e : ixC l k = l[k] := by simp [ixC, List.getD_eq_getElem?_getD, hk]
  rw [e]
  exact List.all_eq_true.1 h _ (List.getElem_mem hk)

theorem string_small (v : Value) (c : PBC) (w : World) (h : PBIs w v c) (hs : smallC c = true) :
    Calls Tryz.prog 25 #[v] w fun e w' => e = .returned (.string ⟨(strT c).toArray⟩) ∧ Below w.heap.size w w' := by
  unfold smallC at hs
  simp only [Bool.and_eq_true, decide_eq_true_eq, List.all_eq_true] at hs
  exact string_any v c w h hs.1.1.1 hs.1.1.2 hs.1.2 hs.2

set_option maxHeartbeats 1000000 in
set_option maxRecDepth 100000 in
theorem texts_any (v : Value) (l : List PBC) (w : World) (h : PBsIs w v l) (hs : l.all smallC = true) (hl : l.length ≤ 1000000) :
    Calls Tryz.prog 50 #[v] w fun e w' => ∃ vo, e = .returned vo ∧ w'.ownsRow w.heap.size 9 1 vo l.length ((textL l).map Value.string) ∧ Below w.heap.size w w' := by
  obtain ⟨i0, hi, hz0, hz1, hz2⟩ := info_parts infoS
  obtain ⟨a1, c1, rfl, -, hl1, -, hcell⟩ := h.form
  have HC := Lib.hid hcell
  have HSM := Lib.hid hs
  clear h hcell hs
  go_enter Tryz.func50, Tryz.ntmps50
  go_wp2
  go_loopw [3, 8] (fun v i wx => TxtRel l w v i wx) (fun _ i _ => l.length - (intOf i).toNat)
  case atStart => exact ⟨0, Nat.zero_le _, rfl, World.ownsRow_nil _ _ _ _, Below.refl _ _⟩
  case round =>
    obtain ⟨k, hk, rfl, hrow, hb⟩ := hrel
    have HR := Lib.hid hrow
    have HB := Lib.hid hb
    by_cases hlt : k < l.length
    · obtain ⟨b, off, rfl, hbl, hc⟩ := HC.out (by omega)
      obtain ⟨vl, vk, hcc, hsl⟩ := hc k hlt
      obtain ⟨k0, k1, k2⟩ := hcc.below hb hbl
      obtain ⟨al, cl, rfl, -⟩ := hsl.lits.form
      obtain ⟨ak, ck, rfl, -⟩ := hsl.coefs.form
      have hal := bal (Below.refl wr.heap.size wr) (.cells #[.slice al (ixC l k).lits.length cl, .slice ak (ixC l k).coefs.length ck, .int .i64 (ixC l k).bound] 30)
      have HPB := Lib.hid (hsl.is.below (bon hb hal))
      have HAL := Lib.hid hal
      have HSK := Lib.hid (smallC_at HSM.out hlt)
      have HTK : Hid (textL (l.take (k + 1)) = textL (l.take k) ++ [⟨(strT (ixC l k)).toArray⟩]) := Lib.hid (by
        have e : ixC l k = l[k] := by simp [ixC, List.getD_eq_getElem?_getD, hlt]
        rw [e, List.take_succ_eq_append_getElem hlt]
        show textL (l.take k ++ [l[k]]) = _
        simp only [textL, List.map_append, List.map_cons, List.map_nil])
      obtain ⟨av, nv, cv, rfl⟩ := row_form hrow
      clear hb hc hcc hsl hal hrow
      have hzb := HB.out.size
      go_wp2_with (first
        | (at_builtin; refine wpList_append_own _ rfl _ _ 22 rfl w.heap.size 9 i0 _ 1 16 Tryz.underlying22 hi hz0 hz1 hz2 rfl (by decide) _ k ((textL (l.take k)).map Value.string) rfl (row_below HR.out (bal HB3.out _)) ⟨w3.heap.size, 0, none⟩ 1 1 [.string ⟨(strT (ixC l k)).toArray⟩] rfl rfl (newsOf (Blk.new w3 [.string ⟨(strT (ixC l k)).toArray⟩] 9)) (by simp [Value.oneCell']) (by unfold maxLen; omega) (by omega) (by simp; omega) ?_; intro v' w4 hown hgrow _; obtain ⟨g', cap', rfl⟩ := ownsRow_succ hown; have HB4 := Lib.hid (below_grown (bon HB.out HB3.out) (fun g e => (row_base HR.out e).1) hgrow); have HR4 := Lib.hid hown; clear hown hgrow)
        | (go_at_call 25; (with_reducible refine (string_small _ _ _ HPB.out HSK.out).mono ?_); rintro e w3 ⟨rfl, hb3⟩; have HB3 := Lib.hid (bon HAL.out hb3); have hz3 : wr.heap.size ≤ w3.heap.size := HB3.out.size; clear hb3))
      first
        | (go_roundw
           case rel => (exact ⟨k + 1, hlt, by go_num, by rw [HTK.out, List.map_append]; exact HR4.out, HB4.out⟩)
           case measure => (simp [intOf]; omega))
        | (refine ⟨?_, ?_⟩
           · (exact ⟨k + 1, hlt, by go_num, by rw [HTK.out, List.map_append]; exact HR4.out, HB4.out⟩)
           · (simp [intOf]; omega))
    · obtain rfl : k = l.length := by omega
      rw [List.take_length] at HR
      clear hrow hb
      go_wp2
      go_ret
      exact ⟨_, rfl, HR.out, HB.out⟩

end Go.Proofs.YtfhpfbakoiekpaaGreatDoor
