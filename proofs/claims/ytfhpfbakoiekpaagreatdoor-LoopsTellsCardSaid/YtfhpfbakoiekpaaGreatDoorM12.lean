/- My texts Cls, CpR, Rn1, Two, merged. -/
import Derived.Test.YtfhpfbakoiekpaaGreatDoorM11
import Derived.Deep.OwnRows
import Derived.Test.YtfhpfbakoiekpaaGreatDoorM09
import Derived.Test.YtfhpfbakoiekpaaGreatDoorM10
import Derived.Test.YtfhpfbakoiekpaaGreatDoorM08

/- pb.Clause. -/
namespace Go.Proofs.YtfhpfbakoiekpaaGreatDoor
open Go.RowKit

theorem made_row (z : Value) (n : Nat) : madeCells #[z] n = (List.replicate n z).toArray := by
  apply Array.ext
  · simp [size_madeCells]
  · intro i h1 h2
    simp [madeCells, Nat.mod_one]

def oneCells (N k : Nat) : List Value := List.replicate k (Value.int .i64 1) ++ List.replicate (N - k) (Value.int .i64 0)

theorem oneCells_set {N k : Nat} (hk : k < N) : (oneCells N k).set k (.int .i64 1) = oneCells N (k + 1) := by
  unfold oneCells
  rw [List.set_append_right _ _ (by simp)]
  obtain ⟨m, hm⟩ : ∃ m, N - k = m + 1 := ⟨N - k - 1, by omega⟩
  rw [hm, show N - (k + 1) = m by omega, List.length_replicate, Nat.sub_self, List.replicate_succ, List.set_cons_zero, List.replicate_succ', List.append_assoc]
  rfl

def OneSt (W : World) (N k : Nat) (wx : World) : Prop := Below W.heap.size W wx ∧ Blk wx W.heap.size (oneCells N k) 3

def OneRel (W : World) (N : Nat) (i : Value) (wx : World) : Prop := ∃ k : Nat, k ≤ N ∧ i = .int .i64 k ∧ OneSt W N k wx

theorem OneSt.start (W : World) (N : Nat) : OneSt W N 0 (W.alloc (.cells (madeCells #[.int .i64 0] N) 3)) := by
  refine ⟨bal (Below.refl _ _) _, ?_⟩
  have := Blk.new W (List.replicate N (Value.int .i64 0)) 3
  rw [← made_row] at this
  simpa [oneCells] using this

theorem OneSt.step {W wx : World} {N k : Nat} (h : OneSt W N k wx) (hk : k < N) : OneSt W N (k + 1) (wx.setCell ⟨W.heap.size, k, none⟩ (.int .i64 1)) := by
  refine ⟨h.1.setCell (p := ⟨W.heap.size, k, none⟩) (Nat.le_refl _) _, ?_⟩
  have := h.2.set k (.int .i64 1)
  rwa [oneCells_set hk] at this

theorem OneSt.end {W wx : World} {N : Nat} (h : OneSt W N N wx) (hN : N * 8 ≤ 140737488351232) : Ints wx (.slice (some ⟨W.heap.size, 0, none⟩) N N) (ones N) := by
  have h2 := h.2
  have e : oneCells N N = (ones N).map (Value.int .i64) := by simp [oneCells, ones]
  rw [e] at h2
  have hl : (ones N).length = N := by simp [ones]
  have := h2.ints (fitI fun x hx => by obtain rfl := List.eq_of_mem_replicate hx; unfold InI; omega) (by rw [hl]; exact hN)
  rwa [hl] at this

theorem setL_len (l : List Int) : (setL l).length ≤ l.length := by
  have h1 := Lib.compact_length_le (srt l)
  rw [compact_set, sortI_len] at h1
  exact h1

set_option maxHeartbeats 4000000 in
set_option maxRecDepth 100000 in
theorem clause_any (v : Value) (l : List Int) (w : World) (h : Ints w v l) :
    Calls Tryz.prog 30 #[v] w fun e w' => ∃ vp, e = .returned (.tuple #[vp, .int .i64 (clauseP l).2]) ∧ PBQ w.heap.size w' vp (clauseP l).1 ∧ Below w.heap.size w w' := by
  have h0 := h
  obtain ⟨a1, c1, rfl, -, hl1, -, -⟩ := h.form
  have h8 : l.length * 8 ≤ 140737488351232 := by obtain ⟨⟨_, _, _, _, _, h, _⟩, _⟩ := h0; exact h
  have hN := setL_len l
  have hal0 := bal (Below.refl w.heap.size w) (.cells #[.slice none 0 0, .slice none 0 0, .int .i64 0] 30)
  have HAL := Lib.hid hal0
  have HB0 := Lib.hid (Blk.new w pbZ 30)
  have HI := Lib.hid (h0.below hal0)
  have hz0 : (w.alloc (.cells #[.slice none 0 0, .slice none 0 0, .int .i64 0] 30)).heap.size = w.heap.size + 1 := by simp
  have HZ0 := Lib.hid hz0
  clear hal0 h h0 hz0
  have hmk : ∀ w : World, (Instr.makeSlice 23 (.int .i64 ((setL l).length : Int)) (.int .i64 ((setL l).length : Int))).run Tryz.prog w = .ok (.slice (some ⟨w.heap.size, 0, none⟩) (setL l).length (setL l).length) (w.alloc (.cells (madeCells #[.int .i64 0] (setL l).length) 3)) := fun w => run_make_row' _ _ _ _ Tryz.underlying23 infoI rfl .i64 .i64 (setL l).length (by omega) (by omega) w
  go_enter Tryz.func30, Tryz.ntmps30
  go_upto_region 1 with fail
  generalize w.alloc (.cells #[.slice none 0 0, .slice none 0 0, .int .i64 0] 30) = W0 at *
  go_upto_region 4 with (first
    | (go_at_call 87; (with_reducible refine (compactI_own HO.out).mono ?_); rintro e w3 ⟨a3, c3, rfl, hi3, hg3⟩; rw [compact_set] at hi3 ⊢; have HI3 := Lib.hid hi3; have HB3 := Lib.hid (HB2.out.grown hg3 (by have := HB2.out.size; omega) (fun g e => by have := (HO.out.1.1.2); rcases this with ⟨e2, _⟩ | ⟨g', cap, cur, e2, hb, _⟩; (rw [e2] at e; cases e); (rw [e2] at e; simp only [Value.ownBlock, Option.some.injEq] at e; omega))); clear hi3 hg3)
    | (go_at_call 88; (with_reducible refine (sorted_any l W0 _ _ W0.heap.size HI.out HB1.out HK1.out).mono ?_); rintro e w2 ⟨vo, rfl, ho, hb2⟩; have HO := Lib.hid ho; have HB2 := Lib.hid (HB1.out.trans (hb2.mono hz1)); have hz2 := hb2.size; clear ho hb2)
    | (go_at_call 89; (with_reducible refine (values_any _ _ _ _).mono ?_); rintro e w1 ⟨rfl, hb1, hk1, hs1⟩; have HB1 := Lib.hid hb1; have HK1 := Lib.hid hk1; have hz1 := hb1.size; clear hb1 hk1 hs1))
  have HBW := Lib.hid (HAL.out.trans (HB3.out.mono HAL.out.size))
  have HBX := Lib.hid (HB0.out.same (HB3.out.block _ (by have := HZ0.out; omega)))
  have HST := Lib.hid (OneSt.start w3 (setL l).length)
  have HZ3 : Hid (w.heap.size + 1 ≤ w3.heap.size) := Lib.hid (by have := HB3.out.size; have := HZ0.out; omega)
  clear hmk hz1 hz2
  go_loopw [15] (fun i wx => OneRel w3 (setL l).length i wx) (fun i _ => (setL l).length - (intOf i).toNat)
  case atStart => exact ⟨0, Nat.zero_le _, rfl, HST.out⟩
  case round =>
    obtain ⟨k, hk, rfl, hst⟩ := hrel
    have HSK := Lib.hid hst
    by_cases hlt : k < (setL l).length
    · have kc := hst.2.cell k
      have kf := hst.2.free k
      have hg : (oneCells (setL l).length k)[k]? = some (.int .i64 0) := by
        unfold oneCells
        rw [List.getElem?_append_right (by simp), List.length_replicate, Nat.sub_self, List.getElem?_replicate, if_pos (by omega)]
      rw [hg] at kc
      have HN := Lib.hid (hst.step hlt)
      clear hst hg
      go_wp2
      first
        | (go_roundw
           case rel => (exact ⟨k + 1, hlt, by go_num, HN.out⟩)
           case measure => (simp [intOf]; omega))
        | (refine ⟨?_, ?_⟩
           · (exact ⟨k + 1, hlt, by go_num, HN.out⟩)
           · (simp [intOf]; omega))
    · obtain rfl : k = (setL l).length := by omega
      have HON := Lib.hid (hst.end (by omega))
      have HLI := Lib.hid (HI3.out.below hst.1)
      have HBR := Lib.hid (HBW.out.trans (hst.1.mono (by have := HZ3.out; omega)))
      have HBB := Lib.hid (HBX.out.same (hst.1.block _ (by have := HZ3.out; omega)))
      have hzr : w.heap.size + 1 ≤ wr.heap.size := by have := HZ3.out; have := hst.1.size; omega
      have HZR := Lib.hid hzr
      clear hst hzr
      go_wp2_with (go_at_call 57; (with_reducible refine (norm_any _ _ (setL l) (ones (setL l).length) 1 wr HLI.out HON.out (by unfold InI; omega)).mono ?_); rintro e w4 ⟨vp, rfl, ⟨vl, vk, rfl, hq1, hq2, hq3⟩, hb4⟩; obtain ⟨al, nl, cl, rfl⟩ := hq1.form; obtain ⟨ak, nk, ck, rfl⟩ := hq2.form; have HQ1 := Lib.hid hq1; have HQ2 := Lib.hid hq2; have HQ3 := Lib.hid hq3; have HB4 := Lib.hid (HBR.out.trans (hb4.mono (by have := HZR.out; omega))); have hbb := HBB.out.below hb4; have kx := hbb.cell; have kf := hbb.free; clear hq1 hq2 hq3 hb4 hbb)
      refine bodyPost_ret (v := .tuple #[.agg #[.slice al nl cl, .slice ak nk ck, .int .i64 (clauseP l).1.bound], .int .i64 (clauseP l).2]) ?_ rfl ⟨_, rfl, ?_, below3 HB4.out _ (Nat.le_refl _) _ _ _⟩
      · unfold clauseP
        simp [results, Tryz.f30, go_sem, *]
      · have hzr := HZR.out
        exact ⟨_, _, rfl, (row3 HQ1.out w.heap.size (by omega) _ _ _).mono (by omega), (row3 HQ2.out w.heap.size (by omega) _ _ _).mono (by omega), HQ3.out⟩

end Go.Proofs.YtfhpfbakoiekpaaGreatDoor

/- Rows of constraints of the call's own; what turns where one is pushed; a map of rows of ints. -/
namespace Go.Proofs.YtfhpfbakoiekpaaGreatDoor
open Go.RowKit

/-- A constraint with its slices. -/
abbrev CQ := PBC × Value × Value
def cells3 (q : CQ) : List Value := [q.2.1, q.2.2, .int .i64 q.1.bound]
def ixC (l : List PBC) (i : Nat) : PBC := l.getD i default

def pbCell (c : PBC) (vl vk : Value) : Nat → Value
  | 0 => vl
  | 1 => vk
  | _ => .int .i64 c.bound

structure PBSl (w : World) (c : PBC) (vl vk : Value) : Prop where
  lits : Ints w vl c.lits
  coefs : Ints w vk c.coefs
  bound : InI c.bound

theorem PBSl.below {w w' : World} {c : PBC} {vl vk : Value} (h : PBSl w c vl vk) (hb : Below w.heap.size w w') : PBSl w' c vl vk := ⟨h.lits.below hb, h.coefs.below hb, h.bound⟩
theorem PBSl.is {w : World} {c : PBC} {vl vk : Value} (h : PBSl w c vl vk) : PBIs w (.agg #[vl, vk, .int .i64 c.bound]) c := ⟨_, _, rfl, h.lits, h.coefs, h.bound⟩

/-- A slice of constraints reads as a list. -/
def PBsIs (w : World) (v : Value) (l : List PBC) : Prop :=
  ∃ vl vk : Nat → Value, Rows w v 3 56 l.length (fun i => pbCell (ixC l i) (vl i) (vk i)) ∧ ∀ i, i < l.length → PBSl w (ixC l i) (vl i) (vk i)

theorem PBsIs.below {w w' : World} {v : Value} {l : List PBC} (h : PBsIs w v l) (hb : Below w.heap.size w w') : PBsIs w' v l :=
  let ⟨vl, vk, e, h1⟩ := h; ⟨vl, vk, e.below hb, fun i hi => (h1 i hi).below hb⟩

def PBCells (w : World) (b o : Nat) (c : PBC) (vl vk : Value) : Prop :=
  w.cell? ⟨b, o, none⟩ = some vl ∧ w.cell? ⟨b, o + 1, none⟩ = some vk ∧ w.cell? ⟨b, o + 2, none⟩ = some (.int .i64 c.bound)

theorem PBCells.below {w w' : World} {b o : Nat} {c : PBC} {vl vk : Value} (h : PBCells w b o c vl vk) (hb : Below w.heap.size w w') (hl : b < w.heap.size) : PBCells w' b o c vl vk :=
  ⟨(bcell hb _ _ hl).trans h.1, (bcell hb _ _ hl).trans h.2.1, (bcell hb _ _ hl).trans h.2.2⟩

theorem PBsIs.form {w : World} {v : Value} {l : List PBC} (h : PBsIs w v l) : ∃ a cap, v = .slice a l.length cap ∧ l.length ≤ cap ∧ l.length ≤ 1000000000000000 ∧ PBsIs w (.slice a l.length cap) l ∧
    (0 < l.length → ∃ b off, a = some ⟨b, off, none⟩ ∧ b < w.heap.size ∧ ∀ i, i < l.length → ∃ vl vk, PBCells w b (off + i * 3) (ixC l i) vl vk ∧ PBSl w (ixC l i) vl vk) := by
  have h0 := h
  obtain ⟨vl, vk, ⟨a, cap, rfl, h1, hm, h2, h3⟩, h4⟩ := h
  refine ⟨a, cap, rfl, h1, by omega, h0, fun hp => ?_⟩
  obtain ⟨b, off, e, hl, hc⟩ := h3 hp
  exact ⟨b, off, e, hl, fun i hi => ⟨vl i, vk i, ⟨hc i hi 0 (by omega), hc i hi 1 (by omega), hc i hi 2 (by omega)⟩, h4 i hi⟩⟩

/-! ### What turns -/
/-- A block of constraints, or a box of a slice of them. -/
def isC (w : World) (i : Nat) : Prop := ∃ c fz, w.heap[i]? = some (.cells c 43 fz) ∨ w.heap[i]? = some (.cells c 30 fz)

/-- From w to w' nothing but heap has turned; of what was there at most blocks of constraints from B on. -/
structure CLim (B : Nat) (w w' : World) : Prop where
  os : w'.os = w.os
  tape : w'.tape = w.tape
  output : w'.output = w.output
  size : w.heap.size ≤ w'.heap.size
  block : ∀ i, i < w.heap.size → (B ≤ i → ¬ isC w i) → w'.heap[i]? = w.heap[i]?

theorem CLim.trans {B : Nat} {a b c : World} (h : CLim B a b) (k : CLim B b c) : CLim B a c :=
  ⟨k.os.trans h.os, k.tape.trans h.tape, k.output.trans h.output, Nat.le_trans h.size k.size, fun i hi hn => by
    have e := h.block i hi hn
    refine (k.block i (Nat.lt_of_lt_of_le hi h.size) fun hB hc => hn hB ?_).trans e
    obtain ⟨c, fz, hc⟩ := hc
    rw [e] at hc
    exact ⟨c, fz, hc⟩⟩
theorem CLim.of_below {B : Nat} {w w' : World} (h : Below w.heap.size w w') : CLim B w w' := ⟨h.os, h.tape, h.output, h.size, fun i hi _ => h.block i hi⟩
theorem CLim.below {B : Nat} {w w' : World} (h : CLim B w w') (hB : B ≤ w.heap.size) : Below B w w' := ⟨h.os, h.tape, h.output, h.size, fun i hi => h.block i (by omega) fun h' => absurd hi (by omega)⟩
theorem CLim.blk {B : Nat} {w w' : World} (h : CLim B w w') {b : Nat} {c : List Value} {T : TypeId} (hb : Blk w b c T) (h1 : T ≠ 43) (h2 : T ≠ 30) : Blk w' b c T :=
  hb.same (h.block b hb.lt fun _ hc => by
    obtain ⟨c', fz, hc⟩ := hc
    unfold Blk at hb
    rw [hb] at hc
    rcases hc with hc | hc
    · injection hc with hc; injection hc with _ e _; exact h1 e
    · injection hc with hc; injection hc with _ e _; exact h2 e)
theorem CLim.map {B b : Nat} {w w' : World} (h : CLim B w w') {kv : Int → Value} {g : Int → Option Value} (hm : MapIs kv w b g) : MapIs kv w' b g :=
  hm.same (h.block b hm.lt fun _ hc => by
    obtain ⟨c', fz, hc⟩ := hc
    obtain ⟨es, clock, e, -⟩ := hm
    rw [e] at hc
    rcases hc with hc | hc <;> (injection hc with hc; cases hc))

/-! ### A row of constraints of the call's own -/
structure MineC (B : Nat) (v : Value) (L : List CQ) (w : World) : Prop where
  row : w.ownsRow B 30 3 v L.length (L.flatMap cells3)
  each : ∀ q ∈ L, QRow B w q.2.1 q.1.lits ∧ QRow B w q.2.2 q.1.coefs ∧ InI q.1.bound ∧ q.1.lits.length ≤ 65536 ∧ q.1.coefs.length ≤ 65536

theorem MineC.nil (B : Nat) (w : World) : MineC B (.slice none 0 0) [] w := ⟨⟨by simp, .inl ⟨rfl, rfl⟩⟩, fun q hq => by simp at hq⟩

section
variable {B n : Nat} {xs : List Value} {v : Value} {w w' : World} {L : List CQ}

/-- The row of constraints may turn: a row of ints does not. -/
theorem QRow.rowKeptC {u : Value} {l : List Int} {base : Nat} (h : QRow base w u l) (hr : w.ownsRow B 30 3 v n xs) (hg : w.grownBy w' v.ownBlock) : QRow base w' u l := by
  refine h.kept fun i hi hi2 hu => hg.block i hi2 (fun e => ?_)
  rcases hr.2 with ⟨rfl, _⟩ | ⟨g, cap, cur, rfl, hb, hgg, _⟩
  · cases e
  · simp only [Value.ownBlock, Option.some.injEq] at e
    subst e
    rcases h.2 with ⟨rfl, _⟩ | ⟨g', off, cap', cur', rfl, _, hgg', _⟩
    · cases hu
    · simp only [Value.ownBlock, Option.some.injEq] at hu
      subst hu
      rw [hgg'] at hgg
      have := Option.some.inj hgg
      injection this with _ h2 _
      revert h2; decide

theorem MineC.below (h : MineC B v L w) (hb : Below w.heap.size w w') : MineC B v L w' :=
  ⟨rowBelow h.row hb, fun q hq => let ⟨h1, h2, h3⟩ := h.each q hq; ⟨h1.below hb, h2.below hb, h3⟩⟩

theorem MineC.push {g cap : Nat} {q : CQ} (h : MineC B v L w) (hq : QRow B w q.2.1 q.1.lits ∧ QRow B w q.2.2 q.1.coefs ∧ InI q.1.bound ∧ q.1.lits.length ≤ 65536 ∧ q.1.coefs.length ≤ 65536)
    (hown : w'.ownsRow B 30 3 (.slice (some ⟨g, 0, none⟩) (L.length + 1) cap) (L.length + 1) (L.flatMap cells3 ++ cells3 q)) (hg : w.grownBy w' v.ownBlock) : MineC B (.slice (some ⟨g, 0, none⟩) (L.length + 1) cap) (L ++ [q]) w' := by
  refine ⟨by simpa using hown, fun q' hq' => ?_⟩
  simp only [List.mem_append, List.mem_singleton] at hq'
  rcases hq' with hq' | rfl
  · obtain ⟨h1, h2, h3⟩ := h.each q' hq'
    exact ⟨h1.rowKeptC h.row hg, h2.rowKeptC h.row hg, h3⟩
  · obtain ⟨h1, h2, h3⟩ := hq
    exact ⟨h1.rowKeptC h.row hg, h2.rowKeptC h.row hg, h3⟩

end

/-- The box of the constraints so far; their slices lie in none of the blocks of A. -/
def OutC (B ob : Nat) (A : Nat → Prop) (l : List PBC) (w : World) : Prop :=
  ∃ v L, Blk w ob [v] 43 ∧ MineC B v L w ∧ L.map (·.1) = l ∧ ∀ q ∈ L, ∀ g, (q.2.1.ownBlock = some g ∨ q.2.2.ownBlock = some g) → ¬ A g

theorem OutC.below {B ob : Nat} {A : Nat → Prop} {l : List PBC} {w w' : World} (h : OutC B ob A l w) (hb : Below w.heap.size w w') : OutC B ob A l w' :=
  let ⟨v, L, h1, h2, h3⟩ := h; ⟨v, L, h1.below hb, h2.below hb, h3⟩

/-! ### A map from ints to rows of ints -/
def rowV (G : Int → Option Value) (x : Int) : Value := (G x).getD (.slice none 0 0)

structure SupM (B mb : Nat) (F : Int → List Int) (G : Int → Option Value) (w : World) : Prop where
  map : MapIs (Value.int .i64) w mb G
  row : ∀ x, QRow B w (rowV G x) (F x)
  far : ∀ x y, x ≠ y → ∀ g, (rowV G x).ownBlock = some g → (rowV G y).ownBlock ≠ some g

theorem SupM.below {B mb : Nat} {F : Int → List Int} {G : Int → Option Value} {w w' : World} (h : SupM B mb F G w) (hb : Below w.heap.size w w') : SupM B mb F G w' := ⟨h.map.below hb, fun x => (h.row x).below hb, h.far⟩
def setL' (F : Int → List Int) (x : Int) (l : List Int) : Int → List Int := fun y => if y = x then l else F y

/-- One more in the row of x: the row has grown from w to w1, and is laid into the map. -/
theorem SupM.push {B mb : Nat} {F : Int → List Int} {G : Int → Option Value} {w w1 w2 : World} {x b : Int} {v' : Value} (h : SupM B mb F G w) (hq : QRow B w1 v' (F x ++ [b])) (hg : w.grownBy w1 (rowV G x).ownBlock) (ho : v'.ownBlock = (rowV G x).ownBlock ∨ v'.ownBlock = some w.heap.size)
    (hm : MapIs (Value.int .i64) w2 mb (upd G x (some v'))) (hg2 : w1.grownBy w2 (some mb)) (hm1 : MapIs (Value.int .i64) w1 mb G) : SupM B mb (setL' F x (F x ++ [b])) (upd G x (some v')) w2 := by
  have e1 : rowV (upd G x (some v')) x = v' := by unfold rowV; rw [upd_same]; rfl
  have e2 : ∀ y, y ≠ x → rowV (upd G x (some v')) y = rowV G y := fun y hy => by unfold rowV; rw [upd_other _ _ hy]
  have hkeep : ∀ (u : Value) (l : List Int), QRow B w1 u l → QRow B w2 u l := fun u l hu => hu.kept fun i _ hi hv => hg2.block i hi fun e => by
    obtain ⟨es, clock, em, -⟩ := hm1
    rcases hu.2 with ⟨rfl, _⟩ | ⟨g, off, cap, cur, rfl, _, hgg, _⟩
    · cases hv
    · have e3 : g = i := by simpa [Value.ownBlock] using hv
      have e4 : mb = i := by simpa using e.symm
      subst e3 e4
      rw [em] at hgg
      cases hgg
  refine ⟨hm, fun y => ?_, fun y z hyz g hy hz => ?_⟩
  · unfold setL'
    by_cases hy : y = x
    · subst hy
      rw [if_pos rfl, e1]
      exact hkeep _ _ hq
    · rw [if_neg hy, e2 y hy]
      refine hkeep _ _ ((h.row y).kept fun i _ hi hv => hg.block i hi fun e => h.far y x hy i hv e.symm)
  · have hlt : ∀ y g, (rowV G y).ownBlock = some g → g < w.heap.size := fun y g e => ((h.row y).base e).2
    by_cases h1 : y = x
    · subst h1
      have h2 : z ≠ y := fun e => hyz e.symm
      rw [e1] at hy
      rw [e2 z h2] at hz
      rcases ho with ho | ho
      · rw [ho] at hy
        exact h.far y z hyz g hy hz
      · rw [ho] at hy
        have := hlt z g hz
        have := Option.some.inj hy
        omega
    · rw [e2 y h1] at hy
      by_cases h2 : z = x
      · subst h2
        rw [e1] at hz
        rcases ho with ho | ho
        · rw [ho] at hz
          exact h.far y z hyz g hy hz
        · rw [ho] at hz
          have := hlt y g hy
          have := Option.some.inj hz
          omega
      · rw [e2 z h2] at hz
        exact h.far y z hyz g hy hz

/-- The blocks of the rows. -/
def supB (G : Int → Option Value) (g : Nat) : Prop := ∃ x, (rowV G x).ownBlock = some g

theorem SupM.inB {B mb : Nat} {F : Int → List Int} {G : Int → Option Value} {w : World} (h : SupM B mb F G w) : ∀ g, supB G g → g < w.heap.size := fun _ ⟨x, e⟩ => ((h.row x).base e).2

end Go.Proofs.YtfhpfbakoiekpaaGreatDoor

/- ostlerref24: Var, Literal, insert, Equal. -/
namespace Go.Proofs.YtfhpfbakoiekpaaGreatDoor
open Go.RowKit

theorem rvar_any (x : Int) (w : World) (hx : -9223372036854775808 < x ∧ x ≤ 9223372036854775807) : Calls Tryz.prog 104 #[.int .i64 x] w fun e w' => e = .returned (.int .i64 (x.natAbs : Int)) ∧ w = w' := by
  by_cases h : x < 0
  · go_enter Tryz.func104, Tryz.ntmps104
    go_wp2
    go_ret
    exact ⟨ret_int (by omega), rfl⟩
  · go_enter Tryz.func104, Tryz.ntmps104
    go_wp2
    go_ret
    exact ⟨ret_int (by omega), rfl⟩

theorem rlit_any (x : Int) (w : World) (hx : InI x) : Calls Tryz.prog 103 #[.int .i64 x] w fun e w' => e = .returned (.bool (plitB x)) ∧ w = w' := by
  unfold InI at hx
  have HF : Hid (plitB x = decide (x ≠ 0 ∧ -65536 ≤ x ∧ x ≤ 65536)) := Lib.hid rfl
  by_cases h0 : x = 0
  · have h0' : (x != 0) = false := by simp [h0]
    have HG : Hid (plitB x = false) := Lib.hid (by rw [HF.out]; exact decide_eq_false (by omega))
    clear h0
    go_enter Tryz.func103, Tryz.ntmps103
    go_wp2
    go_ret
    exact ⟨ret_bool HG.out.symm, rfl⟩
  · have h0' : (x != 0) = true := by simp [h0]
    by_cases h1 : -65536 ≤ x
    · by_cases h2 : x ≤ 65536
      · have HG : Hid (plitB x = true) := Lib.hid (by rw [HF.out]; exact decide_eq_true (by omega))
        clear h0
        go_enter Tryz.func103, Tryz.ntmps103
        go_wp2
        go_ret
        exact ⟨ret_bool HG.out.symm, rfl⟩
      · have HG : Hid (plitB x = false) := Lib.hid (by rw [HF.out]; exact decide_eq_false (by omega))
        clear h0
        go_enter Tryz.func103, Tryz.ntmps103
        go_wp2
        go_ret
        exact ⟨ret_bool HG.out.symm, rfl⟩
    · have HG : Hid (plitB x = false) := Lib.hid (by rw [HF.out]; exact decide_eq_false (by omega))
      clear h0
      go_enter Tryz.func103, Tryz.ntmps103
      go_wp2
      go_ret
      exact ⟨ret_bool HG.out.symm, rfl⟩

/-! ### insert -/
theorem hq_base {B : Nat} {w : World} {v : Value} {l : List Int} (h : QRow B w v l) {g : Nat} (e : v.ownBlock = some g) : B ≤ g := by
  rcases h.2 with ⟨rfl, _⟩ | ⟨g', off, cap, cur, rfl, hb, _⟩
  · cases e
  · have : g' = g := by simpa [Value.ownBlock] using e
    omega

def InsRel (l : List Int) (v : Int) (w : World) (o pl i : Value) (wx : World) : Prop :=
  ∃ k : Nat, k ≤ l.length ∧ i = .int .i64 k ∧ pl = .bool (insTo l v k).2 ∧ QRow w.heap.size wx o (insTo l v k).1 ∧ Below w.heap.size w wx

set_option maxHeartbeats 4000000 in
set_option maxRecDepth 100000 in
theorem insert_any (vl : Value) (l : List Int) (v : Int) (w : World) (h : Ints w vl l) (hv : InI v) (hl : l.length ≤ 1000000) :
    Calls Tryz.prog 122 #[vl, .int .i64 v] w fun e w' => ∃ vo, e = .returned vo ∧ QRow w.heap.size w' vo (insR l v) ∧ Below w.heap.size w w' := by
  have hfit := h.2
  have HFIT : Hid (∀ i, InI (ix l i)) := Lib.hid hfit
  obtain ⟨a1, c1, rfl, -, hl1, -, hcell⟩ := h.form
  have HC := Lib.hid hcell
  have HV := Lib.hid hv
  clear h hcell hv hfit
  go_enter Tryz.func122, Tryz.ntmps122
  go_wp2
  go_loopw [5, 6, 7] (fun o pl i wx => InsRel l v w o pl i wx) (fun _ _ i _ => l.length - (intOf i).toNat)
  case atStart => exact ⟨0, Nat.zero_le _, rfl, rfl, QRow.nil _ _, Below.refl _ _⟩
  case round =>
    obtain ⟨k, hk, rfl, rfl, hq, hb⟩ := hrel
    have HQ := Lib.hid hq
    have HB := Lib.hid hb
    have hlen := insTo_len l v k
    have hzr := hb.size
    obtain ⟨av, nv, cv, rfl⟩ := hq.form
    have HST : Hid (insTo l v (k + 1) = ((if ix l k = v then (if v ≤ ix l k ∧ (insTo l v k).2 = false then (insTo l v k).1 ++ [v] else (insTo l v k).1) else (if v ≤ ix l k ∧ (insTo l v k).2 = false then (insTo l v k).1 ++ [v] else (insTo l v k).1) ++ [ix l k]), (insTo l v k).2 || decide (v ≤ ix l k))) := Lib.hid rfl
    have HRR : Hid (k = l.length → insR l v = if (insTo l v k).2 then (insTo l v k).1 else (insTo l v k).1 ++ [v]) := Lib.hid (fun e => by subst e; rfl)
    clear hq
    generalize insTo l v k = TP at *
    obtain ⟨T, pl⟩ := TP
    dsimp only at HQ HST HRR hlen ⊢
    by_cases hlt : k < l.length
    · obtain ⟨b, off, rfl, hbl, hc⟩ := HC.out (by omega)
      have hk1 := (bcell hb _ _ hbl).trans (hc k hlt)
      have hblr : b < wr.heap.size := Nat.lt_of_lt_of_le hbl hb.size
      have HXI := Lib.hid (HFIT.out k)
      generalize ix l k = x at *
      clear hc hb
      by_cases hP : v ≤ x ∧ pl = false
      · obtain ⟨hvx, rfl⟩ := hP
        by_cases hxv : x = v
        · have hxe : (x != v) = false := by simp [hxv]
          have HN : Hid (insTo l v (k + 1) = (T ++ [v], true)) := Lib.hid (by rw [HST.out, if_pos hxv, if_pos ⟨hvx, rfl⟩, decide_eq_true hvx]; rfl)
          clear hxv
          go_wp2_with (at_builtin; refine wpList_appendQ rfl _ _ 23 Tryz.underlying23 rfl w.heap.size _ T v rfl (HQ.out.kept (w' := wr.alloc (.cells #[.int .i64 v] 3)) (fun i h1 h2 _ => Below.heap_alloc _ _ _ h2)) wr.heap.size 1 rfl (Blk.new wr [.int .i64 v] _) HV.out (by omega) (by simp; omega) ?_; intro v4 w4 hq4 hg4 hl4; have HB4 := Lib.hid (below_push HB.out HQ.out (Nat.le_refl _) hg4); have HQ4 := Lib.hid hq4; have hz4 := HB4.out.size; have hk4 : w4.cell? ⟨b, off + k, none⟩ = some (.int .i64 x) := (World.cell?_of_block ((hg4.block b (by simp; omega) (fun e => by have := (hq_base HQ.out e.symm); omega)).trans (Below.heap_alloc _ _ _ hblr))).trans hk1; obtain ⟨av4, nv4, cv4, rfl⟩ := hq4.form; clear hq4 hg4 hl4)
          first
            | (go_roundw
               case rel => (exact ⟨k + 1, hlt, by go_num, by rw [HN.out], by rw [HN.out]; exact HQ4.out, HB4.out⟩)
               case measure => (simp [intOf]; omega))
            | (refine ⟨?_, ?_⟩
               · (exact ⟨k + 1, hlt, by go_num, by rw [HN.out], by rw [HN.out]; exact HQ4.out, HB4.out⟩)
               · (simp [intOf]; omega))
        · have hxe : (x != v) = true := by simp [hxv]
          have HN : Hid (insTo l v (k + 1) = (T ++ [v] ++ [x], true)) := Lib.hid (by rw [HST.out, if_neg hxv, if_pos ⟨hvx, rfl⟩, decide_eq_true hvx]; rfl)
          have hl5 : ((T ++ [v]).length + 1) * 8 ≤ 140737488351232 := by simp; omega
          clear hxv
          go_upto_region 10 with (at_builtin; refine wpList_appendQ rfl _ _ 23 Tryz.underlying23 rfl w.heap.size _ T v rfl (HQ.out.kept (w' := wr.alloc (.cells #[.int .i64 v] 3)) (fun i h1 h2 _ => Below.heap_alloc _ _ _ h2)) wr.heap.size 1 rfl (Blk.new wr [.int .i64 v] _) HV.out (by omega) (by simp; omega) ?_; intro v4 w4 hq4 hg4 hl4; have HB4 := Lib.hid (below_push HB.out HQ.out (Nat.le_refl _) hg4); have HQ4 := Lib.hid hq4; have hz4 := HB4.out.size; have hk4 : w4.cell? ⟨b, off + k, none⟩ = some (.int .i64 x) := (World.cell?_of_block ((hg4.block b (by simp; omega) (fun e => by have := (hq_base HQ.out e.symm); omega)).trans (Below.heap_alloc _ _ _ hblr))).trans hk1; obtain ⟨av4, nv4, cv4, rfl⟩ := hq4.form; clear hq4 hg4 hl4)
          go_wp2_with (at_builtin; go_must (refine wpList_appendQ rfl _ _ 23 Tryz.underlying23 rfl w.heap.size _ (T ++ [v]) x rfl (HQ4.out.kept (w' := w4.alloc (.cells #[.int .i64 x] 3)) (fun i h1 h2 _ => Below.heap_alloc _ _ _ h2)) w4.heap.size 1 rfl (Blk.new w4 [.int .i64 x] _) HXI.out hl5 (by simp; omega) ?_); intro v5 w5 hq5 hg5 hl5; have HB5 := Lib.hid (below_push HB4.out HQ4.out (Nat.le_refl _) hg5); have HQ5 := Lib.hid hq5; clear hq5 hg5 hl5)
          first
            | (go_roundw
               case rel => (exact ⟨k + 1, hlt, by go_num, by rw [HN.out], by rw [HN.out]; exact HQ5.out, HB5.out⟩)
               case measure => (simp [intOf]; omega))
            | (refine ⟨?_, ?_⟩
               · (exact ⟨k + 1, hlt, by go_num, by rw [HN.out], by rw [HN.out]; exact HQ5.out, HB5.out⟩)
               · (simp [intOf]; omega))
      · by_cases hxv : x = v
        · have hxe : (x != v) = false := by simp [hxv]
          have HN : Hid (insTo l v (k + 1) = (T, pl || decide (v ≤ x))) := Lib.hid (by rw [HST.out, if_pos hxv, if_neg hP])
          cases pl with
          | true =>
            have hvx : v ≤ x := by omega
            clear hxv
            go_wp2_with fail
            first
              | (go_roundw
                 case rel => (exact ⟨k + 1, hlt, by go_num, by simp [HN.out], by rw [HN.out]; exact HQ.out, HB.out⟩)
                 case measure => (simp [intOf]; omega))
              | (refine ⟨?_, ?_⟩
                 · (exact ⟨k + 1, hlt, by go_num, by simp [HN.out], by rw [HN.out]; exact HQ.out, HB.out⟩)
                 · (simp [intOf]; omega))
          | false => exact absurd ⟨by omega, rfl⟩ hP
        · have hxe : (x != v) = true := by simp [hxv]
          have HN : Hid (insTo l v (k + 1) = (T ++ [x], pl || decide (v ≤ x))) := Lib.hid (by rw [HST.out, if_neg hxv, if_neg hP])
          clear hxv
          cases pl with
          | true =>
            by_cases hvx : v ≤ x
            · go_wp2_with (at_builtin; refine wpList_appendQ rfl _ _ 23 Tryz.underlying23 rfl w.heap.size _ T (x) rfl (HQ.out.kept (w' := wr.alloc (.cells #[.int .i64 (x)] 3)) (fun i h1 h2 _ => Below.heap_alloc _ _ _ h2)) wr.heap.size 1 rfl (Blk.new wr [.int .i64 (x)] _) HXI.out (by omega) (by simp; omega) ?_; intro v4 w4 hq4 hg4 hl4; have HB4 := Lib.hid (below_push HB.out HQ.out (Nat.le_refl _) hg4); have HQ4 := Lib.hid hq4; have hz4 := HB4.out.size; obtain ⟨av4, nv4, cv4, rfl⟩ := hq4.form; clear hq4 hg4 hl4)
              first
                | (go_roundw
                   case rel => (exact ⟨k + 1, hlt, by go_num, by simp [HN.out], by rw [HN.out]; exact HQ4.out, HB4.out⟩)
                   case measure => (simp [intOf]; omega))
                | (refine ⟨?_, ?_⟩
                   · (exact ⟨k + 1, hlt, by go_num, by simp [HN.out], by rw [HN.out]; exact HQ4.out, HB4.out⟩)
                   · (simp [intOf]; omega))
            · go_wp2_with (at_builtin; refine wpList_appendQ rfl _ _ 23 Tryz.underlying23 rfl w.heap.size _ T (x) rfl (HQ.out.kept (w' := wr.alloc (.cells #[.int .i64 (x)] 3)) (fun i h1 h2 _ => Below.heap_alloc _ _ _ h2)) wr.heap.size 1 rfl (Blk.new wr [.int .i64 (x)] _) HXI.out (by omega) (by simp; omega) ?_; intro v4 w4 hq4 hg4 hl4; have HB4 := Lib.hid (below_push HB.out HQ.out (Nat.le_refl _) hg4); have HQ4 := Lib.hid hq4; have hz4 := HB4.out.size; obtain ⟨av4, nv4, cv4, rfl⟩ := hq4.form; clear hq4 hg4 hl4)
              first
                | (go_roundw
                   case rel => (exact ⟨k + 1, hlt, by go_num, by simp [HN.out], by rw [HN.out]; exact HQ4.out, HB4.out⟩)
                   case measure => (simp [intOf]; omega))
                | (refine ⟨?_, ?_⟩
                   · (exact ⟨k + 1, hlt, by go_num, by simp [HN.out], by rw [HN.out]; exact HQ4.out, HB4.out⟩)
                   · (simp [intOf]; omega))
          | false =>
            have hvx : ¬ v ≤ x := fun h => hP ⟨h, rfl⟩
            have HVX := Lib.hid (decide_eq_false hvx)
            clear hP
            go_wp2_with (at_builtin; refine wpList_appendQ rfl _ _ 23 Tryz.underlying23 rfl w.heap.size _ T (x) rfl (HQ.out.kept (w' := wr.alloc (.cells #[.int .i64 (x)] 3)) (fun i h1 h2 _ => Below.heap_alloc _ _ _ h2)) wr.heap.size 1 rfl (Blk.new wr [.int .i64 (x)] _) HXI.out (by omega) (by simp; omega) ?_; intro v4 w4 hq4 hg4 hl4; have HB4 := Lib.hid (below_push HB.out HQ.out (Nat.le_refl _) hg4); have HQ4 := Lib.hid hq4; have hz4 := HB4.out.size; obtain ⟨av4, nv4, cv4, rfl⟩ := hq4.form; clear hq4 hg4 hl4)
            first
              | (go_roundw
                 case rel => (exact ⟨k + 1, hlt, by go_num, by simp [HN.out, HVX.out], by rw [HN.out]; exact HQ4.out, HB4.out⟩)
                 case measure => (simp [intOf]; omega))
              | (refine ⟨?_, ?_⟩
                 · (exact ⟨k + 1, hlt, by go_num, by simp [HN.out, HVX.out], by rw [HN.out]; exact HQ4.out, HB4.out⟩)
                 · (simp [intOf]; omega))
    · obtain rfl : k = l.length := by omega
      have HR := Lib.hid (HRR.out rfl)
      cases pl with
      | true =>
        clear hb
        go_wp2
        go_ret
        exact ⟨_, rfl, by rw [HR.out]; exact HQ.out, HB.out⟩
      | false =>
        clear hb
        go_wp2_with (at_builtin; refine wpList_appendQ rfl _ _ 23 Tryz.underlying23 rfl w.heap.size _ T (v) rfl (HQ.out.kept (w' := wr.alloc (.cells #[.int .i64 (v)] 3)) (fun i h1 h2 _ => Below.heap_alloc _ _ _ h2)) wr.heap.size 1 rfl (Blk.new wr [.int .i64 (v)] _) HV.out (by omega) (by simp; omega) ?_; intro v4 w4 hq4 hg4 hl4; have HB4 := Lib.hid (below_push HB.out HQ.out (Nat.le_refl _) hg4); have HQ4 := Lib.hid hq4; have hz4 := HB4.out.size; obtain ⟨av4, nv4, cv4, rfl⟩ := hq4.form; clear hq4 hg4 hl4)
        go_ret
        exact ⟨_, rfl, by rw [HR.out]; exact HQ4.out, HB4.out⟩

/-! ### Equal -/
structure EqSt (w : World) (c d : PBC) (vl vk ul uk : Value) (W : World) : Prop where
  b1 : Blk W w.heap.size [vl, vk, .int .i64 c.bound] 30
  b2 : Blk W (w.heap.size + 1) [ul, uk, .int .i64 d.bound] 30
  below : Below w.heap.size w W

def EqRel (w : World) (c d : PBC) (vl vk ul uk : Value) (l m : List Int) (i : Value) (wx : World) : Prop :=
  ∃ k : Nat, k ≤ l.length ∧ i = .int .i64 k ∧ (∀ j, j < k → ix l j = ix m j) ∧ EqSt w c d vl vk ul uk wx

theorem EqSt.on {w : World} {c d : PBC} {vl vk ul uk : Value} {W W' : World} (h : EqSt w c d vl vk ul uk W) (hb : Below W.heap.size W W') : EqSt w c d vl vk ul uk W' := ⟨h.b1.below hb, h.b2.below hb, bon h.below hb⟩

theorem pbc_eq {c d : PBC} (h1 : c.bound = d.bound) (h2 : c.lits = d.lits) (h3 : c.coefs = d.coefs) : c = d := by
  cases c; cases d; simp_all

set_option maxHeartbeats 4000000 in
set_option maxRecDepth 100000 in
theorem requal_any (v u : Value) (c d : PBC) (w : World) (h1 : PBIs w v c) (h2 : PBIs w u d) :
    Calls Tryz.prog 13 #[v, u] w fun e w' => e = .returned (.bool (decide (c = d))) ∧ Below w.heap.size w w' := by
  obtain ⟨vl, vk, rfl, hvl, hvk, hbc⟩ := h1
  obtain ⟨ul, uk, rfl, hul, huk, hbd⟩ := h2
  unfold InI at hbc hbd
  obtain ⟨a1, c1, rfl, -, hl1, -, hc1⟩ := hvl.form
  obtain ⟨a2, c2, rfl, -, hl2, -, hc2⟩ := hvk.form
  obtain ⟨a3, c3, rfl, -, hl3, -, hc3⟩ := hul.form
  obtain ⟨a4, c4, rfl, -, hl4, -, hc4⟩ := huk.form
  have HC1 := Lib.hid hc1
  have HC2 := Lib.hid hc2
  have HC3 := Lib.hid hc3
  have HC4 := Lib.hid hc4
  have F1 := Lib.hid hvl.2
  have F2 := Lib.hid hvk.2
  have F3 := Lib.hid hul.2
  have F4 := Lib.hid huk.2
  clear hvl hvk hul huk hc1 hc2 hc3 hc4
  go_enter Tryz.func13, Tryz.ntmps13
  go_upto_region 1 with fail
  have hst : EqSt w c d (.slice a1 c.lits.length c1) (.slice a2 c.coefs.length c2) (.slice a3 d.lits.length c3) (.slice a4 d.coefs.length c4) ((w.alloc (.cells #[.slice a1 c.lits.length c1, .slice a2 c.coefs.length c2, .int .i64 c.bound] 30)).alloc (.cells #[.slice a3 d.lits.length c3, .slice a4 d.coefs.length c4, .int .i64 d.bound] 30)) :=
    ⟨(Blk.new w [.slice a1 c.lits.length c1, .slice a2 c.coefs.length c2, .int .i64 c.bound] _).alloc _, Blk.new2 w _ [.slice a3 d.lits.length c3, .slice a4 d.coefs.length c4, .int .i64 d.bound] _, bal (bal (Below.refl _ _) _) _⟩
  have HS := Lib.hid hst
  have kx1 := hst.b1.cell
  have kx2 := hst.b2.cell
  clear hst
  generalize (w.alloc (.cells #[.slice a1 c.lits.length c1, .slice a2 c.coefs.length c2, .int .i64 c.bound] 30)).alloc (.cells #[.slice a3 d.lits.length c3, .slice a4 d.coefs.length c4, .int .i64 d.bound] 30) = W at *
  by_cases e1 : c.bound = d.bound
  · have g1 : (c.bound != d.bound) = false := by simp [e1]
    by_cases e2 : c.lits.length = d.lits.length
    · have g2 : ((c.lits.length : Int) != (d.lits.length : Int)) = false := by simp [e2]
      by_cases e3 : c.coefs.length = d.coefs.length
      · have g3 : ((c.coefs.length : Int) != (d.coefs.length : Int)) = false := by simp [e3]
        have HE1 := Lib.hid e1
        have HE2 := Lib.hid e2
        have HE3 := Lib.hid e3
        clear e1 e2 e3
        go_upto_region 4 with fail
        go_loopw [5] (fun i wx => EqRel w c d (.slice a1 c.lits.length c1) (.slice a2 c.coefs.length c2) (.slice a3 d.lits.length c3) (.slice a4 d.coefs.length c4) c.lits d.lits i wx) (fun i _ => c.lits.length - (intOf i).toNat)
        case atStart => exact ⟨0, Nat.zero_le _, rfl, fun j hj => absurd hj (Nat.not_lt_zero _), HS.out⟩
        case round =>
          clear kx1 kx2
          obtain ⟨k, hk, rfl, hall, hst⟩ := hrel
          have HALL := Lib.hid hall
          have HSR := Lib.hid hst
          have kr1 := hst.b1.cell
          have kr2 := hst.b2.cell
          clear hall hst
          by_cases hlt : k < c.lits.length
          · have hlt2 : k < d.lits.length := by have := HE2.out; omega
            obtain ⟨b, o, rfl, hb, hc⟩ := HC1.out (by omega)
            obtain ⟨b', o', rfl, hb', hc'⟩ := HC3.out (by omega)
            have q1 := (bcell HSR.out.below _ _ hb).trans (hc k hlt)
            have q2 := (bcell HSR.out.below _ _ hb').trans (hc' k hlt2)
            have hz := HSR.out.below.size
            have ke1 : ∀ e : Ext wr, e.world.cell? ⟨b, o + k, none⟩ = some (.int .i64 (ix c.lits k)) := fun e => (bcell e.below _ _ (by omega)).trans q1
            have ke2 : ∀ e : Ext wr, e.world.cell? ⟨b', o' + k, none⟩ = some (.int .i64 (ix d.lits k)) := fun e => (bcell e.below _ _ (by omega)).trans q2
            have kp1 : ∀ e : Ext wr, ∀ o, e.world.cell? ⟨w.heap.size, o, none⟩ = _ := fun e o => (bcell e.below _ o HSR.out.b1.lt).trans (HSR.out.b1.cell o)
            have kp2 : ∀ e : Ext wr, ∀ o, e.world.cell? ⟨w.heap.size + 1, o, none⟩ = _ := fun e o => (bcell e.below _ o HSR.out.b2.lt).trans (HSR.out.b2.cell o)
            have f1 := F1.out k
            have f2 := F3.out k
            clear hc hc' q1 q2
            by_cases he : ix c.lits k = ix d.lits k
            · have HN := Lib.hid (lt_succ_all HALL.out he)
              have he' : (ix c.lits k != ix d.lits k) = false := by simp [he]
              clear he
              go_wp2
              refine wp_region_ext (by kernel_rfl) (by kernel_rfl) ?_
              repeat (go_big_quiet_step (fail))
              refine wpQuiet_nil ?_
              intro w9 hw'
              obtain ⟨e9, he9⟩ := hw'
              have hb9 := e9.below
              rw [← he9] at hb9
              clear he9 e9
              try dsimp only
              go_wp2
              first
                | (go_roundw
                   case rel => (exact ⟨k + 1, hlt, by go_num, HN.out, HSR.out.on hb9⟩)
                   case measure => (simp [intOf]; omega))
                | (refine ⟨?_, ?_⟩
                   · (exact ⟨k + 1, hlt, by go_num, HN.out, HSR.out.on hb9⟩)
                   · (simp [intOf]; omega))
            · have HF : Hid (decide (c = d) = false) := Lib.hid (decide_eq_false fun e => he (by rw [e]))
              have he' : (ix c.lits k != ix d.lits k) = true := by simp [he]
              clear he
              go_wp2
              refine wp_region_ext (by kernel_rfl) (by kernel_rfl) ?_
              repeat (go_big_quiet_step (fail))
              refine wpQuiet_nil ?_
              intro w9 hw'
              obtain ⟨e9, he9⟩ := hw'
              have hb9 := e9.below
              rw [← he9] at hb9
              clear he9 e9
              try dsimp only
              go_wp2
              go_ret
              exact ⟨ret_bool HF.out.symm, bon HSR.out.below hb9⟩
          · obtain rfl : k = c.lits.length := by omega
            have HEQ : Hid (c.lits = d.lits) := Lib.hid (eq_of_ix HE2.out fun j hj => HALL.out j hj)
            go_upto_region 9 with fail
            obtain ⟨wo, rfl⟩ : ∃ wo : World, wo = wr := ⟨_, rfl⟩
            go_loopw [6] (fun i wx => EqRel w c d (.slice a1 c.lits.length c1) (.slice a2 c.coefs.length c2) (.slice a3 d.lits.length c3) (.slice a4 d.coefs.length c4) c.coefs d.coefs i wx) (fun i _ => c.coefs.length - (intOf i).toNat)
            case atStart => exact ⟨0, Nat.zero_le _, rfl, fun j hj => absurd hj (Nat.not_lt_zero _), HSR.out⟩
            case round =>
              clear kr1 kr2
              obtain ⟨k, hk, rfl, hall, hst⟩ := hrel
              have HALL := Lib.hid hall
              have HSR := Lib.hid hst
              have kr1 := hst.b1.cell
              have kr2 := hst.b2.cell
              clear hall hst
              by_cases hlt : k < c.coefs.length
              · have hlt2 : k < d.coefs.length := by have := HE3.out; omega
                obtain ⟨b, o, rfl, hb, hc⟩ := HC2.out (by omega)
                obtain ⟨b', o', rfl, hb', hc'⟩ := HC4.out (by omega)
                have q1 := (bcell HSR.out.below _ _ hb).trans (hc k hlt)
                have q2 := (bcell HSR.out.below _ _ hb').trans (hc' k hlt2)
                have hz := HSR.out.below.size
                have ke1 : ∀ e : Ext wr, e.world.cell? ⟨b, o + k, none⟩ = some (.int .i64 (ix c.coefs k)) := fun e => (bcell e.below _ _ (by omega)).trans q1
                have ke2 : ∀ e : Ext wr, e.world.cell? ⟨b', o' + k, none⟩ = some (.int .i64 (ix d.coefs k)) := fun e => (bcell e.below _ _ (by omega)).trans q2
                have kp1 : ∀ e : Ext wr, ∀ o, e.world.cell? ⟨w.heap.size, o, none⟩ = _ := fun e o => (bcell e.below _ o HSR.out.b1.lt).trans (HSR.out.b1.cell o)
                have kp2 : ∀ e : Ext wr, ∀ o, e.world.cell? ⟨w.heap.size + 1, o, none⟩ = _ := fun e o => (bcell e.below _ o HSR.out.b2.lt).trans (HSR.out.b2.cell o)
                have f1 := F2.out k
                have f2 := F4.out k
                clear hc hc' q1 q2
                by_cases he : ix c.coefs k = ix d.coefs k
                · have HN := Lib.hid (lt_succ_all HALL.out he)
                  have he' : (ix c.coefs k != ix d.coefs k) = false := by simp [he]
                  clear he
                  go_wp2
                  refine wp_region_ext (by kernel_rfl) (by kernel_rfl) ?_
                  repeat (go_big_quiet_step (fail))
                  refine wpQuiet_nil ?_
                  intro w9 hw'
                  obtain ⟨e9, he9⟩ := hw'
                  have hb9 := e9.below
                  rw [← he9] at hb9
                  clear he9 e9
                  try dsimp only
                  go_wp2
                  first
                    | (go_roundw
                       case rel => (exact ⟨k + 1, hlt, by go_num, HN.out, HSR.out.on hb9⟩)
                       case measure => (simp [intOf]; omega))
                    | (refine ⟨?_, ?_⟩
                       · (exact ⟨k + 1, hlt, by go_num, HN.out, HSR.out.on hb9⟩)
                       · (simp [intOf]; omega))
                · have HF : Hid (decide (c = d) = false) := Lib.hid (decide_eq_false fun e => he (by rw [e]))
                  have he' : (ix c.coefs k != ix d.coefs k) = true := by simp [he]
                  clear he
                  go_wp2
                  refine wp_region_ext (by kernel_rfl) (by kernel_rfl) ?_
                  repeat (go_big_quiet_step (fail))
                  refine wpQuiet_nil ?_
                  intro w9 hw'
                  obtain ⟨e9, he9⟩ := hw'
                  have hb9 := e9.below
                  rw [← he9] at hb9
                  clear he9 e9
                  try dsimp only
                  go_wp2
                  go_ret
                  exact ⟨ret_bool HF.out.symm, bon HSR.out.below hb9⟩
              · obtain rfl : k = c.coefs.length := by omega
                have HF : Hid (decide (c = d) = true) := Lib.hid (decide_eq_true (pbc_eq HE1.out HEQ.out (eq_of_ix HE3.out fun j hj => HALL.out j hj)))
                go_wp2
                go_ret
                exact ⟨ret_bool HF.out.symm, HSR.out.below⟩
      · have g3 : ((c.coefs.length : Int) != (d.coefs.length : Int)) = true := by simp; omega
        have HF : Hid (decide (c = d) = false) := Lib.hid (decide_eq_false fun e => e3 (by rw [e]))
        clear e1 e2 e3
        go_wp2
        go_ret
        exact ⟨ret_bool HF.out.symm, HS.out.below⟩
    · have g2 : ((c.lits.length : Int) != (d.lits.length : Int)) = true := by simp; omega
      have HF : Hid (decide (c = d) = false) := Lib.hid (decide_eq_false fun e => e2 (by rw [e]))
      clear e1 e2
      go_wp2
      go_ret
      exact ⟨ret_bool HF.out.symm, HS.out.below⟩
  · have g1 : (c.bound != d.bound) = true := by simp [e1]
    have HF : Hid (decide (c = d) = false) := Lib.hid (decide_eq_false fun e => e1 (by rw [e]))
    clear e1
    go_wp2
    go_ret
    exact ⟨ret_bool HF.out.symm, HS.out.below⟩

end Go.Proofs.YtfhpfbakoiekpaaGreatDoor

/- 'a.F, a.G = append(a.F, x), append(a.G, y)' where other operations stand between: NrmR's predicate at other places of the listing. -/
namespace Go.Proofs.YtfhpfbakoiekpaaGreatDoor
open Go.RowKit

/-- Where the fourteen operations of the statement stand. -/
def sg (l : List Nat) (r : Nat) : Nat := l.getD r (1000 + r)
def okB (l E : List Nat) : Bool :=
  ((List.range l.length).all fun i => (List.range l.length).all fun j => i == j || l.getD i 0 != l.getD j 0) && l.all (fun x => decide (x < 1000)) && E.all (fun x => decide (x < 1000)) && l.all (fun x => !E.contains x)

theorem sg_inj {l E : List Nat} (h : okB l E = true) {r s : Nat} (e : sg l r = sg l s) : r = s := by
  unfold okB at h
  simp only [Bool.and_eq_true, List.all_eq_true, List.mem_range, Bool.or_eq_true, beq_iff_eq, bne_iff_ne, decide_eq_true_eq] at h
  obtain ⟨⟨⟨h1, h2⟩, -⟩, -⟩ := h
  unfold sg at e
  have hg : ∀ i (hi : i < l.length), l.getD i (1000 + i) = l[i] := fun i hi => by simp [List.getD_eq_getElem?_getD, hi]
  have hn : ∀ i, l.length ≤ i → l.getD i (1000 + i) = 1000 + i := fun i hi => by rw [List.getD_eq_getElem?_getD, List.getElem?_eq_none hi]; rfl
  have hb : ∀ i (hi : i < l.length), l[i] < 1000 := fun i hi => h2 _ (List.getElem_mem hi)
  rcases Nat.lt_or_ge r l.length with hr | hr <;> rcases Nat.lt_or_ge s l.length with hs | hs
  · rcases h1 r hr s hs with h3 | h3
    · exact h3
    · rw [hg r hr, hg s hs] at e
      exact absurd (by simpa [List.getD_eq_getElem?_getD, hr, hs] using e) h3
  · rw [hg r hr, hn s hs] at e
    have := hb r hr
    omega
  · rw [hn r hr, hg s hs] at e
    have := hb s hs
    omega
  · rw [hn r hr, hn s hs] at e
    omega

theorem sg_out {l E : List Nat} (h : okB l E = true) {i : Nat} (hi : E.contains i = true) (r : Nat) : sg l r ≠ i := by
  unfold okB at h
  simp only [Bool.and_eq_true, List.all_eq_true, decide_eq_true_eq, Bool.not_eq_true'] at h
  obtain ⟨⟨⟨-, h2⟩, h3⟩, h4⟩ := h
  rintro rfl
  unfold sg at hi
  rcases Nat.lt_or_ge r l.length with hr | hr
  · have e : l.getD r (1000 + r) = l[r] := by simp [List.getD_eq_getElem?_getD, hr]
    rw [e, h4 _ (List.getElem_mem hr)] at hi
    cases hi
  · have e : l.getD r (1000 + r) = 1000 + r := by rw [List.getD_eq_getElem?_getD, List.getElem?_eq_none hr]; rfl
    rw [e] at hi
    have := h3 _ (List.contains_iff_mem.1 hi)
    omega

theorem upd_sg {α : Type} {l E : List Nat} (h : okB l E = true) (f : Nat → α) (r0 : Nat) (v : α) : (fun r => updN f (sg l r0) v (sg l r)) = updN (fun r => f (sg l r)) r0 v := by
  funext r
  unfold updN
  by_cases e : r = r0
  · subst e; rw [if_pos rfl, if_pos rfl]
  · rw [if_neg (fun e2 => e (sg_inj h e2)), if_neg e]

theorem upd_ex {α : Type} {l E : List Nat} (h : okB l E = true) (f : Nat → α) {i : Nat} (hi : E.contains i = true) (v : α) : (fun r => updN f i v (sg l r)) = fun r => f (sg l r) := by
  funext r
  unfold updN
  rw [if_neg (sg_out h hi r)]

structure TS (l E : List Nat) (Q : Nat → Value) (w : World) (ob : Nat) (v1 v2 bd : Value) (l1 l2 : List Int) (x y : Int) (vals : Nat → Value) (L : Nat → Bool) (wx : World) : Prop where
  t : TW w ob v1 v2 bd l1 l2 x y (fun r => vals (sg l r)) (fun r => L (sg l r)) wx
  q : ∀ i, E.contains i = true → L i = true → vals i = Q i

section
variable {l E : List Nat} {Q : Nat → Value} {w : World} {ob : Nat} {v1 v2 bd : Value} {l1 l2 : List Int} {x y : Int} {vals : Nat → Value} {L : Nat → Bool} {wx : World}

theorem TS.start (hb : Blk w ob [v1, v2, bd] 30) (h1 : QRow (ob + 1) w v1 l1) (h2 : QRow (ob + 1) w v2 l2) (hf : Far v1 v2) : TS l E Q w ob v1 v2 bd l1 l2 x y (fun _ => undef) (fun _ => false) w.drew :=
  ⟨TW.start hb h1 h2 hf, fun _ _ h => Bool.noConfusion h⟩

theorem TS.keepQ (ok : okB l E = true) (h : ∀ i, E.contains i = true → L i = true → vals i = Q i) (r : Nat) (v : Value) : ∀ i, E.contains i = true → updN L (sg l r) true i = true → updN vals (sg l r) v i = Q i := fun i hi hL => by
  have hne : i ≠ sg l r := fun e => sg_out ok hi r e.symm
  unfold updN at hL ⊢
  rw [if_neg hne] at hL ⊢
  exact h i hi hL

theorem TS.extra (ok : okB l E = true) (h : TS l E Q w ob v1 v2 bd l1 l2 x y vals L wx) (i : Nat) (hi : E.contains i = true) : TS l E Q w ob v1 v2 bd l1 l2 x y (updN vals i (Q i)) (updN L i true) wx := by
  refine ⟨by rw [upd_ex ok vals hi, upd_ex ok L hi]; exact h.t, fun j hj hL => ?_⟩
  unfold updN at hL ⊢
  by_cases e : j = i
  · subst e; rw [if_pos rfl]
  · rw [if_neg e] at hL ⊢; exact h.q j hj hL

theorem TS.quiet (ok : okB l E = true) (h : TS l E Q w ob v1 v2 bd l1 l2 x y vals L wx) (r : Nat) (hr : r = 0 ∨ r = 1 ∨ r = 2 ∨ r = 5 ∨ r = 6 ∨ r = 7 ∨ r = 10 ∨ r = 12) : TS l E Q w ob v1 v2 bd l1 l2 x y (updN vals (sg l r) (quietV ob v1 v2 x y r)) (updN L (sg l r) true) wx :=
  ⟨by rw [upd_sg ok, upd_sg ok]; exact h.t.quiet r hr, TS.keepQ ok h.q r _⟩
theorem TS.build3 (ok : okB l E = true) (h : TS l E Q w ob v1 v2 bd l1 l2 x y vals L wx) : TS l E Q w ob v1 v2 bd l1 l2 x y (updN vals (sg l 3) (.slice (some ⟨wx.heap.size, 0, none⟩) 1 1)) (updN L (sg l 3) true) (wx.alloc (.cells #[.int .i64 x] 3)) :=
  ⟨by rw [upd_sg ok, upd_sg ok]; exact h.t.build3, TS.keepQ ok h.q 3 _⟩
theorem TS.build8 (ok : okB l E = true) (h : TS l E Q w ob v1 v2 bd l1 l2 x y vals L wx) (hx : ∀ g, v1.ownBlock = some g → g < wx.heap.size) : TS l E Q w ob v1 v2 bd l1 l2 x y (updN vals (sg l 8) (.slice (some ⟨wx.heap.size, 0, none⟩) 1 1)) (updN L (sg l 8) true) (wx.alloc (.cells #[.int .i64 y] 3)) :=
  ⟨by rw [upd_sg ok, upd_sg ok]; exact h.t.build8 hx, TS.keepQ ok h.q 8 _⟩
theorem TS.app4 (ok : okB l E = true) (h : TS l E Q w ob v1 v2 bd l1 l2 x y vals L wx) (h4 : L (sg l 4) = false) (h9 : L (sg l 9) = false) (h11 : L (sg l 11) = false) {v' : Value} {w' : World} (hq : QRow (ob + 1) w' v' (l1 ++ [x])) (hg : wx.grownBy w' v1.ownBlock) (ho : v'.ownBlock = v1.ownBlock ∨ v'.ownBlock = some wx.heap.size) :
    TS l E Q w ob v1 v2 bd l1 l2 x y (updN vals (sg l 4) v') (updN L (sg l 4) true) w' :=
  ⟨by rw [upd_sg ok, upd_sg ok]; exact h.t.app4 h4 h9 h11 hq hg ho, TS.keepQ ok h.q 4 _⟩
theorem TS.app9 (ok : okB l E = true) (h : TS l E Q w ob v1 v2 bd l1 l2 x y vals L wx) (h4 : L (sg l 4) = true) (h9 : L (sg l 9) = false) (h13 : L (sg l 13) = false) {v' : Value} {w' : World} (hq : QRow (ob + 1) w' v' (l2 ++ [y])) (hg : wx.grownBy w' v2.ownBlock) (ho : v'.ownBlock = v2.ownBlock ∨ v'.ownBlock = some wx.heap.size) :
    TS l E Q w ob v1 v2 bd l1 l2 x y (updN vals (sg l 9) v') (updN L (sg l 9) true) w' :=
  ⟨by rw [upd_sg ok, upd_sg ok]; exact h.t.app9 h4 h9 h13 hq hg ho, TS.keepQ ok h.q 9 _⟩
theorem TS.store (ok : okB l E = true) (h : TS l E Q w ob v1 v2 bd l1 l2 x y vals L wx) (r : Nat) (h4 : L (sg l 4) = true) (h9 : L (sg l 9) = true) (hr : r = 11 ∨ r = 13) (u : Value) :
    TS l E Q w ob v1 v2 bd l1 l2 x y (updN vals (sg l r) u) (updN L (sg l r) true) (wx.setCell ⟨ob, if r = 11 then 0 else 1, none⟩ (if r = 11 then vals (sg l 4) else vals (sg l 9))) :=
  ⟨by rw [upd_sg ok, upd_sg ok]; exact h.t.store r h4 h9 hr u, TS.keepQ ok h.q r _⟩
theorem TS.end (h : TS l E Q w ob v1 v2 bd l1 l2 x y vals L wx) (hL : ∀ r, r < 14 → L (sg l r) = true) : Blk wx ob [vals (sg l 4), vals (sg l 9), bd] 30 ∧ QRow (ob + 1) wx (vals (sg l 4)) (l1 ++ [x]) ∧ QRow (ob + 1) wx (vals (sg l 9)) (l2 ++ [y]) ∧ Far (vals (sg l 4)) (vals (sg l 9)) ∧ Below ob w wx :=
  h.t.end hL
end

/-- One element of a row of the call's own is overwritten. -/
theorem QRow.setAt {base g off n cap : Nat} {w : World} {l : List Int} (h : QRow base w (.slice (some ⟨g, off, none⟩) n cap) l) {i : Nat} (hi : i < l.length) {x : Int} (hx : InI x) : QRow base (w.setCell ⟨g, off + i, none⟩ (.int .i64 x)) (.slice (some ⟨g, off, none⟩) n cap) (l.set i x) ∧ w.frozen? ⟨g, off + i, none⟩ = false ∧ w.cell? ⟨g, off + i, none⟩ = some (.int .i64 (ix l i)) := by
  rcases h.2 with ⟨e, _⟩ | ⟨g', off', cap', cur, e, hb, hg, h1, h2, h3, h4⟩
  · cases e
  · simp only [Value.slice.injEq, Option.some.injEq, Addr.mk.injEq] at e
    obtain ⟨⟨rfl, rfl, -⟩, rfl, rfl⟩ := e
    have hB : Blk w g cur.toList 3 := by unfold Blk; rw [hg]
    refine ⟨⟨fitI fun y hy => ?_, .inr ⟨g, off, cap, cur.setIfInBounds (off + i) (.int .i64 x), by rw [List.length_set], hb, ?_, by rw [List.length_set]; exact h1, h2, ?_, fun j hj => ?_⟩⟩, hB.free _, ?_⟩
    · rcases List.mem_or_eq_of_mem_set hy with h5 | rfl
      · obtain ⟨j, hj, rfl⟩ := List.mem_iff_getElem.1 h5
        have h6 := h.1 j
        unfold ix at h6
        rw [List.getD_eq_getElem?_getD, List.getElem?_eq_getElem hj] at h6
        exact h6
      · exact hx
    · have := hB.set (off + i) (.int .i64 x)
      unfold Blk at this
      rw [this, show (cur.toList.set (off + i) (Value.int .i64 x)).toArray = cur.setIfInBounds (off + i) (.int .i64 x) from Array.toList_inj.1 (by simp)]
    · simpa using h3
    · rw [List.length_set] at hj
      by_cases e : j = i
      · subst e
        have hlt : off + j < cur.size := by have := h4 j hj; exact (Array.getElem?_eq_some_iff.1 this).1
        rw [Array.getElem?_setIfInBounds_self_of_lt hlt]
        simp [ix, List.getD_eq_getElem?_getD, hj]
      · rw [Array.getElem?_setIfInBounds_ne (by omega), h4 j hj]
        unfold ix
        rw [List.getD_eq_getElem?_getD, List.getD_eq_getElem?_getD, List.getElem?_set_ne (Ne.symm e)]
    · have := h4 i hi
      simp [World.cell?, hg, this]

end Go.Proofs.YtfhpfbakoiekpaaGreatDoor
