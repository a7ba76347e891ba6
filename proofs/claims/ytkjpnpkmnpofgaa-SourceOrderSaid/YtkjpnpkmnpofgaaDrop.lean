/- The closure that removes a source: lose$1. -/
import Derived.Test.YtkjpnpkmnpofgaaQueue
import Derived.Test.YtkjpnpkmnpofgaaSrc3
namespace Go.Proofs.Ytkjpnpkmnpofgaa
open Go.RowKit

/-- A search under way: the object, the box of its pointer, the queue. -/
structure QS (base c1 q : Nat) (s : SP) (p : GP) (F K : Int → Int) (clock : Int) (a : List Int) (l : List Int) (w : World) : Prop where
  src : Src base s p F K clock a w
  box : Blk w c1 [.pointer (some ⟨s.b, 0, none⟩)] 31
  queue : ∃ vq, Blk w q [vq] 23 ∧ QRow base w vq l
  lo : base ≤ c1 ∧ base ≤ q

theorem setI_fit {F : Int → Int} (h : ∀ x, InI (F x)) (x : Int) {v : Int} (hv : InI v) : ∀ y, InI (setI F x v y) := fun y => by
  unfold setI; split
  · exact hv
  · exact h y

section
variable {base c1 q : Nat} {s : SP} {p : GP} {F K : Int → Int} {clock : Int} {a l : List Int} {w : World}

theorem Src.dropF (h : Src base s p F K clock a w) (x : Int) {w' : World} (hm : MapIs (Value.int .i64) w' s.bf (upd (mapI F) x none)) (hg : w.grownBy w' (some s.bf)) : Src base s p (setI F x 0) K clock a w' := by
  have hn := h.ne1
  have ht := h.top
  have hh := h.hi
  exact h.turn hg (by simp [SP.mut]) (fun va hb => hb.same (hg.block _ hb.lt (fun e => hn.1 (Option.some.inj e)))) (by rw [mapI_del]; exact hm)
    (h.rank.same (hg.block _ h.rank.lt (fun e => h.ne (Option.some.inj e).symm))) (setI_fit h.fitF x (by unfold InI; omega)) h.fitK h.fitC

theorem Src.dropK (h : Src base s p F K clock a w) (x : Int) {w' : World} (hm : MapIs (Value.int .i64) w' s.bk (upd (mapI K) x none)) (hg : w.grownBy w' (some s.bk)) : Src base s p F (setI K x 0) clock a w' := by
  have hn := h.ne1
  have ht := h.top
  have hh := h.hi
  exact h.turn hg (by simp [SP.mut]) (fun va hb => hb.same (hg.block _ hb.lt (fun e => hn.2 (Option.some.inj e)))) (h.frm.same (hg.block _ h.frm.lt (fun e => h.ne (Option.some.inj e))))
    (by rw [mapI_del]; exact hm) h.fitF (setI_fit h.fitK x (by unfold InI; omega)) h.fitC

theorem QRow.far {v : Value} {b : Nat} {c : List Value} {T : TypeId} (h : QRow base w v l) (hb : Blk w b c T) (hT : T ≠ 3) : v.ownBlock ≠ some b := by
  intro e
  rcases h.2 with ⟨rfl, _⟩ | ⟨g, off, cap, cur, rfl, _, hg, _⟩
  · cases e
  · have : g = b := by simpa [Value.ownBlock] using e
    subst this
    unfold Blk at hb
    rw [hg] at hb
    have := Option.some.inj hb
    injection this with _ h2 _
    exact hT h2.symm

theorem QRow.form {v : Value} (h : QRow base w v l) : ∃ a n c, v = .slice a n c := by
  rcases h.2 with ⟨rfl, _⟩ | ⟨g, off, cap, cur, rfl, _⟩
  · exact ⟨_, _, _, rfl⟩
  · exact ⟨_, _, _, rfl⟩

theorem QS.push {vq v' : Value} {x : Int} {w4 : World} (hs : Src base s p F K clock a w) (hb : Blk w c1 [.pointer (some ⟨s.b, 0, none⟩)] 31) (hq : Blk w q [vq] 23) (hr : QRow base w vq l) (hlo : base ≤ c1 ∧ base ≤ q)
    (hq4 : QRow base w4 v' (l ++ [x])) (hg : (w.alloc (.cells #[.int .i64 x] 3)).grownBy w4 vq.ownBlock) (hl : v'.ownBlock = vq.ownBlock ∨ v'.ownBlock = some (w.alloc (.cells #[.int .i64 x] 3)).heap.size) :
    Blk w4 q [vq] 23 ∧ QS base c1 q s p F K clock a (l ++ [x]) (w4.setCell ⟨q, 0, none⟩ v') ∧ Lim base [] w (w4.setCell ⟨q, 0, none⟩ v') := by
  have hne1 := hr.far hq (by decide)
  have hne2 := hr.far hb (by decide)
  have ht := hs.top
  have hcq : c1 ≠ q := by
    rintro rfl
    unfold Blk at hb hq
    rw [hb] at hq
    have := Option.some.inj hq
    injection this with _ h2 _
    revert h2; decide
  have hlow : ∀ i, i < base → some i ≠ vq.ownBlock := fun i hi e => by
    rcases hr.2 with ⟨rfl, _⟩ | ⟨g, off, cap, cur, rfl, hbg, _⟩
    · cases e
    · simp only [Value.ownBlock, Option.some.injEq] at e; omega
  have hb4 : Blk w4 c1 [.pointer (some ⟨s.b, 0, none⟩)] 31 := (hb.alloc _).same (hg.block _ (hb.alloc _).lt (fun e => hne2 e.symm))
  have hq4' : Blk w4 q [vq] 23 := (hq.alloc _).same (hg.block _ (hq.alloc _).lt (fun e => hne1 e.symm))
  have hsz : w.heap.size < w4.heap.size := by have := hg.size; simp at this; omega
  have hkeep : ∀ i, i < base → (w4.setCell ⟨q, 0, none⟩ v').heap[i]? = w.heap[i]? := fun i hi =>
    (Below.heap_setCell _ _ _ _ (show i ≠ q by omega)).trans ((hg.block i (by simp; omega) (hlow i hi)).trans (Below.heap_alloc _ _ _ (by omega)))
  refine ⟨hq4', ⟨hs.keep (by simp [World.setCell]; omega) hkeep, hb4.setOther _ _ hcq, ⟨v', hq4'.set 0 v', hq4.kept (fun i _ hi ho => Below.heap_setCell _ _ _ _ ?_)⟩, hlo⟩, ⟨hg.os, hg.tape, hg.output, by simp [World.setCell]; omega, fun i hi _ => hkeep i hi⟩⟩
  rintro rfl
  rcases hl with hl | hl
  · exact hne1 (hl.symm.trans ho)
  · rw [hl] at ho
    have := hq.lt
    simp at ho; omega

set_option maxHeartbeats 4000000 in
set_option maxRecDepth 100000 in
theorem drop_any (h : QS base c1 q s p F K clock a l w) (x : Int) (hx : InI x) (hlen : (l.length + 1) * 8 ≤ 140737488351232) :
    Calls Try.prog 67 #[.int .i64 x, .pointer (some ⟨c1, 0, none⟩), .pointer (some ⟨q, 0, none⟩)] w fun e w' => e = .returned (.tuple #[]) ∧ Lim base s.mut w w' ∧
      if 0 < F x then QS base c1 q s p (setI F x 0) (setI K x 0) clock a (l ++ [x]) w' else w' = w := by
  obtain ⟨hs, hb1, ⟨vq, hq, hqr⟩, hlo⟩ := h
  have kb := hb1.cell
  have HS := Lib.hid hs
  by_cases hF : 0 < F x
  · have hF' : decide (0 < F x) = true := decide_eq_true hF
    obtain ⟨va, ho, -⟩ := hs.obj
    have ko := ho.cell
    have kq := hq.cell
    have hn := hs.ne1
    have ht := hs.top
    have hh := hs.hi
    have hmF := hs.frm
    have hzq := hq.lt
    have hzc := hb1.lt
    have hzb := ho.lt
    have HQ := Lib.hid hq
    have HB := Lib.hid hb1
    have HQR := Lib.hid hqr
    clear hs ho hq hqr hb1
    go_enter Try.func67, Try.ntmps67
    go_wp2_with (first
      | (go_at_call 42; refine (founded_any HS.out x).mono ?_; rintro e w1 ⟨rfl, rfl⟩)
      | (at_builtin; refine wpList_appendQ rfl _ _ 23 Try.underlying23 rfl base vq l x rfl (HQR3.out.kept (w' := w3.alloc (.cells #[.int .i64 x] 3)) (fun i h1 h2 _ => Below.heap_alloc _ _ _ h2)) w3.heap.size 1 rfl (Blk.new w3 [.int .i64 x] _) hx hlen (by simp; omega) ?_; intro v4 w4 hq4 hg4 hl4; obtain ⟨a4, n4, c4, rfl⟩ := hq4.form; have hpp := QS.push HS3.out HB3.out HQ3.out HQR3.out hlo hq4 hg4 hl4; have kf4 := hpp.1.free; have kq4 := hpp.1.cell; have HPP := Lib.hid hpp; clear hpp hq4 hg4 hl4)
      | (at_delete; refine wpList_mdel (mapI K) s.bk x kvInt 48 3 3 Try.underlying48 Try.underlying3 rfl _ _ rfl rfl rfl HM2.out ?_; intro w3 hm3 hg3 hs3; have HS3 := Lib.hid (HS2.out.dropK x hm3 hg3); have kb3 := fun o => (World.cell?_of_block (a := ⟨c1, o, none⟩) (hg3.block c1 (by omega) (by simp; omega))).trans (kb2 o); have ko3 := fun o => (World.cell?_of_block (a := ⟨s.b, o, none⟩) (hg3.block s.b (by omega) (by simp; omega))).trans (ko2 o); have kq3 := fun o => (World.cell?_of_block (a := ⟨q, o, none⟩) (hg3.block q (by omega) (by simp; omega))).trans (kq2 o); have HG3 := Lib.hid hg3; have HB3 := Lib.hid (HB.out.same ((hg3.block c1 (by omega) (by simp; omega)).trans (HG2.out.block c1 (by omega) (by simp; omega)))); have HQ3 := Lib.hid (HQ.out.same ((hg3.block q (by omega) (by simp; omega)).trans (HG2.out.block q (by omega) (by simp; omega)))); have HQR3 := Lib.hid (HQR.out.kept (w' := w3) (fun i h1 h2 _ => (hg3.block i (by omega) (by simp; omega)).trans (HG2.out.block i (by omega) (by simp; omega)))); have hz3 : base ≤ w3.heap.size := (by omega); clear hg3 hm3 kb2 ko2 kq2 hs2 hs3)
      | (at_delete; refine wpList_mdel (mapI F) s.bf x kvInt 48 3 3 Try.underlying48 Try.underlying3 rfl _ _ rfl rfl rfl hmF ?_; intro w2 hm2 hg2 hs2; have HS2 := Lib.hid (HS.out.dropF x hm2 hg2); have HM2 := Lib.hid HS2.out.rank; have kb2 := fun o => (World.cell?_of_block (a := ⟨c1, o, none⟩) (hg2.block c1 (by omega) (by simp; omega))).trans (kb o); have ko2 := fun o => (World.cell?_of_block (a := ⟨s.b, o, none⟩) (hg2.block s.b (by omega) (by simp; omega))).trans (ko o); have kq2 := fun o => (World.cell?_of_block (a := ⟨q, o, none⟩) (hg2.block q (by omega) (by simp; omega))).trans (kq o); have HG2 := Lib.hid hg2; clear hg2 hm2 kb ko kq))
    refine bodyPost_end (v := .tuple #[]) ?_ rfl ?_
    · simp [results, Try.results67, go_sem]
    · refine ⟨rfl, ?_, ?_⟩
      · exact ((Lim.of_grown HG2.out (.inl (by simp [SP.mut])) ht.2).trans (Lim.of_grown HG3.out (.inl (by simp [SP.mut])) (by have := HG2.out.size; omega))).trans (HPP.out.2.2.mono (Nat.le_refl _) (fun i hi _ => by cases hi))
      · first | exact HPP.out.2.1 | (rw [if_pos hF]; exact HPP.out.2.1)
  · have hF' : decide (0 < F x) = false := decide_eq_false hF
    clear hs
    go_enter Try.func67, Try.ntmps67
    go_wp2_with (go_at_call 42; refine (founded_any HS.out x).mono ?_; rintro e w1 ⟨rfl, rfl⟩)
    refine bodyPost_end (v := .tuple #[]) ?_ rfl ?_
    · simp [results, Try.results67, go_sem]
    · exact ⟨rfl, .refl _ _ _, by first | rfl | rw [if_neg (show ¬ 0 < F x by omega)]⟩

end

end Go.Proofs.Ytkjpnpkmnpofgaa
