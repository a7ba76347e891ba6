/- The closure that finds a source: gain$1. -/
import Derived.Test.YtkjpnpkmnpofgaaTry1
import Derived.Test.YtkjpnpkmnpofgaaEntry
import Derived.Deep.DeepCutAuto
namespace Go.Proofs.Ytkjpnpkmnpofgaa
open Go.RowKit

section
variable {base c1 q : Nat} {s : SP} {p : GP} {F K : Int → Int} {clock : Int} {a l : List Int} {w : World}

/-- The rule i can found atoms now. -/
def candB (p : GP) (a : List Int) (F K : Int → Int) (clock i : Int) : Bool := availB p a F K i.toNat (clock + 1)

def TryPost (base c1 q : Nat) (s : SP) (p : GP) (F K : Int → Int) (clock : Int) (a l : List Int) (x : Int) (w' : World) : Prop :=
  (¬ 0 < F x ∧ offB a x = false ∧ ∃ i, i ∈ s.Rh x ∧ candB p a F K clock i = true ∧ QS base c1 q s p (setI F x (i + 1)) (setI K x (clock + 1)) (clock + 1) a (l ++ [x]) w') ∨
  ((0 < F x ∨ offB a x = true ∨ ∀ i, i ∈ s.Rh x → candB p a F K clock i = false) ∧ QS base c1 q s p F K clock a l w')

theorem QS.below {w' : World} (h : QS base c1 q s p F K clock a l w) (hb : Below w.heap.size w w') : QS base c1 q s p F K clock a l w' := by
  obtain ⟨vq, h1, h2⟩ := h.queue
  exact ⟨h.src.below hb, h.box.below hb, ⟨vq, h1.below hb, h2.kept (fun i _ hi _ => hb.block i hi)⟩, h.lo⟩

theorem grownBy_setCell (w : World) (b o : Nat) (v : Value) : w.grownBy (w.setCell ⟨b, o, none⟩ v) (some b) :=
  ⟨rfl, rfl, rfl, by simp [World.setCell], fun k _ hk => Below.heap_setCell _ _ _ _ (fun e => hk (by rw [e]))⟩

theorem Src.tick (h : Src base s p F K clock a w) (c : Int) (hc : 0 ≤ c ∧ InI c) : Src base s p F K c a (w.setCell ⟨s.b, 9, none⟩ (.int .i64 c)) := by
  have hn := h.ne1
  exact h.turn (grownBy_setCell _ _ _ _) (by simp [SP.mut]) (fun va hb => hb.set 9 _) (h.frm.setCell _ _ _) (h.rank.setCell _ _ _) h.fitF h.fitK hc

theorem QS.tick (h : QS base c1 q s p F K clock a l w) (c : Int) (hc : 0 ≤ c ∧ InI c) : QS base c1 q s p F K c a l (w.setCell ⟨s.b, 9, none⟩ (.int .i64 c)) := by
  obtain ⟨vq, h1, h2⟩ := h.queue
  have ht := h.src.top
  have hh := h.src.hi
  have hlo := h.lo
  exact ⟨h.src.tick c hc, h.box.setOther _ _ (by omega), ⟨vq, h1.setOther _ _ (by omega), h2.kept (fun i hi _ _ => Below.heap_setCell _ _ _ _ (show i ≠ s.b by omega))⟩, h.lo⟩

/-- The worlds in which all of W stands but for the two maps that a search turns. -/
structure KeepS (s : SP) (W : World) where
  world : World
  size : W.heap.size ≤ world.heap.size
  block : ∀ i, i < W.heap.size → i ≠ s.bf → i ≠ s.bk → world.heap[i]? = W.heap[i]?

instance instKeepS (s : SP) (W : World) : Nonempty (KeepS s W) := ⟨⟨W, Nat.le_refl _, fun _ _ _ _ => rfl⟩⟩

theorem KeepS.fix {m : Nat} {W : World} (h : Src m s p F K clock a W) (e : KeepS s W) : FixC s p e.world :=
  h.fix e.world (fun i _ hi hn => e.block i (by have := h.top; omega) (fun h => hn (by simp [SP.mut, h])) (fun h => hn (by simp [SP.mut, h]))) e.size

theorem KeepS.cell {W : World} (e : KeepS s W) (b o : Nat) (hb : b < W.heap.size) (h1 : b ≠ s.bf) (h2 : b ≠ s.bk) : e.world.cell? ⟨b, o, none⟩ = W.cell? ⟨b, o, none⟩ := World.cell?_of_block (e.block b hb h1 h2)

/-- An entry of one of the two maps has been set. -/
theorem QS.setF {w' : World} (h : QS base c1 q s p F K clock a l w) (x v : Int) (hv : v ≠ 0 ∧ InI v) (hm : MapIs (Value.int .i64) w' s.bf (upd (mapI F) x (some (.int .i64 v)))) (hg : w.grownBy w' (some s.bf)) : QS base c1 q s p (setI F x v) K clock a l w' := by
  obtain ⟨vq, h1, h2⟩ := h.queue
  have ht := h.src.top
  have hh := h.src.hi
  have hlo := h.lo
  have hn := h.src.ne1
  refine ⟨h.src.turn hg (by simp [SP.mut]) (fun va hb => hb.same (hg.block _ hb.lt (fun e => hn.1 (Option.some.inj e)))) (by rw [mapI_set hv.1]; exact hm) (h.src.rank.same (hg.block _ h.src.rank.lt (fun e => h.src.ne (Option.some.inj e).symm))) (setI_fit h.src.fitF x hv.2) h.src.fitK h.src.fitC,
    h.box.same (hg.block _ h.box.lt (fun e => by have := Option.some.inj e; omega)), ⟨vq, h1.same (hg.block _ h1.lt (fun e => by have := Option.some.inj e; omega)), h2.kept (fun i hi hi2 _ => hg.block i hi2 (fun e => by have := Option.some.inj e; omega))⟩, h.lo⟩

theorem QS.setK {w' : World} (h : QS base c1 q s p F K clock a l w) (x v : Int) (hv : v ≠ 0 ∧ InI v) (hm : MapIs (Value.int .i64) w' s.bk (upd (mapI K) x (some (.int .i64 v)))) (hg : w.grownBy w' (some s.bk)) : QS base c1 q s p F (setI K x v) clock a l w' := by
  obtain ⟨vq, h1, h2⟩ := h.queue
  have ht := h.src.top
  have hh := h.src.hi
  have hlo := h.lo
  have hn := h.src.ne1
  refine ⟨h.src.turn hg (by simp [SP.mut]) (fun va hb => hb.same (hg.block _ hb.lt (fun e => hn.2 (Option.some.inj e)))) (h.src.frm.same (hg.block _ h.src.frm.lt (fun e => h.src.ne (Option.some.inj e)))) (by rw [mapI_set hv.1]; exact hm) h.src.fitF (setI_fit h.src.fitK x hv.2) h.src.fitC,
    h.box.same (hg.block _ h.box.lt (fun e => by have := Option.some.inj e; omega)), ⟨vq, h1.same (hg.block _ h1.lt (fun e => by have := Option.some.inj e; omega)), h2.kept (fun i hi hi2 _ => hg.block i hi2 (fun e => by have := Option.some.inj e; omega))⟩, h.lo⟩

set_option maxHeartbeats 4000000 in
set_option maxRecDepth 100000 in
theorem try_any (h : QS base c1 q s p F K clock a l w) (x : Int) (hx : 1 ≤ x ∧ x ≤ 4000) (hlen : (l.length + 1) * 8 ≤ 140737488351232) (hclk : clock < 4611686018427387904) :
    Calls Try.prog 69 #[.int .i64 x, .pointer (some ⟨c1, 0, none⟩), .pointer (some ⟨q, 0, none⟩)] w fun e w' => e = .returned (.tuple #[]) ∧ Lim base s.mut w w' ∧ TryPost base c1 q s p F K clock a l x w' := by
  have hqs := Lib.hid h
  obtain ⟨hs, hb1, -, hlo⟩ := h
  have kb := hb1.cell
  have HS := Lib.hid hs
  by_cases hF : 0 < F x
  · have hF' : decide (0 < F x) = true := decide_eq_true hF
    have HP : Hid (TryPost base c1 q s p F K clock a l x w) := Lib.hid (.inr ⟨.inl hF, hqs.out⟩)
    clear hs hb1
    go_enter Try.func69, Try.ntmps69
    go_wp2_with (go_at_call 42; refine (founded_any HS.out x).mono ?_; rintro e w1 ⟨rfl, rfl⟩)
    refine bodyPost_ret (v := .tuple #[]) ?_ rfl ?_
    · simp [results, Try.results69, go_sem]
    · exact ⟨rfl, .refl _ _ _, HP.out⟩
  have hF' : decide (0 < F x) = false := decide_eq_false hF
  cases ho : offB a x with
  | true =>
    have HP : Hid (TryPost base c1 q s p F K clock a l x w) := Lib.hid (.inr ⟨.inr (.inl ho), hqs.out⟩)
    clear hs hb1
    go_enter Try.func69, Try.ntmps69
    go_wp2_with (first | (go_at_call 43; refine (off_any HS.out x (by omega) (by omega)).mono ?_; rintro e w2 ⟨rfl, rfl⟩) | (go_at_call 42; refine (founded_any HS.out x).mono ?_; rintro e w1 ⟨rfl, rfl⟩))
    refine bodyPost_ret (v := .tuple #[]) ?_ rfl ?_
    · simp [results, Try.results69, go_sem]
    · exact ⟨rfl, .refl _ _ _, HP.out⟩
  | false =>
    have hfx := hs.now
    have hrow := hfx.headRow x
    obtain ⟨ah, ch, hvh, -, hlh, hih, hch⟩ := hrow.form
    have hlk : (Instr.lookup 50 (.map (some s.bh)) (.int .i64 x) false).run Try.prog w = .ok (.slice ah (s.Rh x).length ch) w := by
      have := hfx.heads.lookup kvInt Try.underlying50 Try.underlying3 (Try.zeroValue23 w) x
      rw [← hvh]; exact this
    have hel : ∀ j, j < (s.Rh x).length → ∃ i : Nat, ix (s.Rh x) j = i ∧ i < p.rules.length := fun j hj => by
      have hm : ix (s.Rh x) j ∈ s.Rh x := by
        have : ix (s.Rh x) j = (s.Rh x)[j] := by simp [ix, List.getD_eq_getElem?_getD, List.getElem?_eq_getElem hj]
        rw [this]; exact List.getElem_mem hj
      have := ((hs.rowsH x).2 _).1 hm
      simp only [List.take_zero, List.not_mem_nil, and_false, or_false] at this
      exact ⟨(ix (s.Rh x) j).toNat, by omega, by omega⟩
    have HG : Hid (∀ w', Below w.heap.size w w' → ∀ j, j < (s.Rh x).length → Calls Try.prog 71 #[.int .i64 (ix (s.Rh x) j), .pointer (some ⟨c1, 0, none⟩)] w' fun e w'' => e = .returned (.bool (candB p a F K clock (ix (s.Rh x) j))) ∧ Below w'.heap.size w' w'') := Lib.hid (fun w' hb j hj => by
      obtain ⟨i, e, hi⟩ := hel j hj
      rw [e]
      exact cand_any (hs.below hb) (hb1.below hb) i hi (by omega))
    obtain ⟨va, hob, -⟩ := hs.obj
    have ko := hob.cell
    have HI := Lib.hid hih
    have zb := hob.lt
    have VPr := (validP hs.valid).rules
    have HC := Lib.hid hch
    have HEL := Lib.hid hel
    have HB1 := Lib.hid hb1
    clear hrow hfx hs hb1 hob hih hch hel hvh
    go_enter Try.func69, Try.ntmps69
    have hzc := HB1.out.lt
    go_upto_region 4 with (first | (go_at_call 70; refine (indexFunc_any _ _ _ HI.out (candB p a F K clock) _ HG.out).mono ?_; rintro e w3 ⟨r, rfl, hr, hb3⟩; have kb3 := fun o => (bcell hb3 c1 o hzc).trans (kb o); have ko3 := fun o => (bcell hb3 s.b o zb).trans (ko o); have HQ3 := Lib.hid (hqs.out.below hb3); have fo3 := (HQ3.out.src.obj.choose_spec).1.free; have hcl := HQ3.out.src.fitC; rcases hr with ⟨rfl, hnone⟩ | ⟨k, hk, rfl, hcand, hfirst⟩) | (go_at_call 43; refine (off_any HS.out x (by omega) (by omega)).mono ?_; rintro e w2 ⟨rfl, rfl⟩) | (go_at_call 42; refine (founded_any HS.out x).mono ?_; rintro e w1 ⟨rfl, rfl⟩))
    · have HP : Hid (TryPost base c1 q s p F K clock a l x w3) := Lib.hid (.inr ⟨.inr (.inr (fun i hi => by
        obtain ⟨j, hj, rfl⟩ := List.mem_iff_getElem.1 hi
        have := hnone j hj
        rwa [show ix (s.Rh x) j = (s.Rh x)[j] by simp [ix, List.getD_eq_getElem?_getD, List.getElem?_eq_getElem hj]] at this)), HQ3.out⟩)
      refine bodyPost_end (v := .tuple #[]) ?_ rfl ?_
      · simp [results, Try.results69, go_sem]
      · exact ⟨rfl, .of_below hb3 (by have := HS.out.top; omega), HP.out⟩
    · have hi4 := HEL.out k hk
      have HQ4 := Lib.hid (HQ3.out.tick (clock + 1) (by unfold InI; unfold InI at hcl; omega))
      have hbw4 := hb3
      have HL4 : Hid (Lim base s.mut w3 (w3.setCell ⟨s.b, 9, none⟩ (.int .i64 (clock + 1)))) := Lib.hid (.setCell _ (.inl (by simp [SP.mut])))
      generalize w3.setCell ⟨s.b, 9, none⟩ (.int .i64 (clock + 1)) = W4 at HQ4 HL4 ⊢
      have hs4 := HQ4.out.src
      obtain ⟨va4, hob4, -⟩ := hs4.obj
      have hn4 := hs4.ne1
      have ht4 := hs4.top
      have hh4 := hs4.hi
      have hlo4 := HQ4.out.lo
      have hzc4 := HQ4.out.box.lt
      have k1 : ∀ e : Ext W4, ∀ o, e.world.cell? ⟨c1, o, none⟩ = [Value.pointer (some ⟨s.b, 0, none⟩)][o]? := fun e o => (bcell e.below _ o hzc4).trans (HQ4.out.box.cell o)
      have k2 : ∀ e : Ext W4, ∀ o, e.world.cell? ⟨s.b, o, none⟩ = [Value.int .i64 p.n, s.vn, nilS, s.vr, nilS, .map (some s.bh), .map (some s.bu), .map (some s.bf), .map (some s.bk), .int .i64 (clock + 1), va4][o]? := fun e o => (bcell e.below _ o hob4.lt).trans (hob4.cell o)
      have k3 : ∀ e : KeepS s W4, ∀ o, e.world.cell? ⟨c1, o, none⟩ = [Value.pointer (some ⟨s.b, 0, none⟩)][o]? := fun e o => (e.cell _ o hzc4 (by omega) (by omega)).trans (HQ4.out.box.cell o)
      have k4 : ∀ e : KeepS s W4, ∀ o, e.world.cell? ⟨s.b, o, none⟩ = [Value.int .i64 p.n, s.vn, nilS, s.vr, nilS, .map (some s.bh), .map (some s.bu), .map (some s.bf), .map (some s.bk), .int .i64 (clock + 1), va4][o]? := fun e o => (e.cell _ o hob4.lt hn4.1 hn4.2).trans (hob4.cell o)
      have hfx := hs4.now
      obtain ⟨ai, ci, hvi, -, -, hii, hci⟩ := (hfx.headRow x).form
      obtain ⟨b5, off5, hai, hbl5, hc5⟩ := hci (by omega)
      subst hai
      have k5 : ∀ e : KeepS s W4, (Instr.lookup 50 (.map (some s.bh)) (.int .i64 x) false).run Try.prog e.world = .ok (.slice (some ⟨b5, off5, none⟩) (s.Rh x).length ci) e.world := fun e => by
        have := (KeepS.fix hs4 e).heads.lookup kvInt Try.underlying50 Try.underlying3 (Try.zeroValue23 e.world) x
        rw [← hvi]; exact this
      have k6 : ∀ e : KeepS s W4, e.world.cell? ⟨b5, off5 + k, none⟩ = some (.int .i64 (ix (s.Rh x) k)) := fun e => by
        obtain ⟨a6, c6, hv6, -, -, -, hc6⟩ := ((KeepS.fix hs4 e).headRow x).form
        obtain ⟨b6, off6, ha6, -, hc6⟩ := hc6 (by omega)
        rw [hvi] at hv6
        simp only [Value.slice.injEq] at hv6
        rw [ha6] at hv6
        simp only [Option.some.injEq, Addr.mk.injEq, and_true, true_and] at hv6
        obtain ⟨⟨rfl, rfl⟩, -⟩ := hv6
        exact hc6 k hk
      obtain ⟨i4, hi4, hi4'⟩ := hi4
      have HI4 := Lib.hid hi4
      have hbi : -9223372036854775808 ≤ ix (s.Rh x) k ∧ ix (s.Rh x) k + 1 ≤ 9223372036854775807 := by
        have := VPr; omega
      clear hc5 hci hii hvi hfx hs4 hob4 hlk ko ko3 kb kb3 fo3 HC HG hi4
      refine wp_region_tail' 25 (fun w' => ∃ e : KeepS s W4, w' = e.world) (fun _ _ _ _ _ _ => False) (fun _ => false) (by kernel_rfl) (by kernel_rfl) (by kernel_rfl) (fun w' hb => ⟨⟨w', hb.size, fun i hi _ _ => hb.block i hi⟩, rfl⟩) (fun _ _ _ _ _ _ _ h _ => h) ?_
      simp only [List.take_succ_cons, List.take_zero, List.drop_succ_cons, List.drop_zero]
      iterate 9 (refine walkP_head (by kernel_rfl) rfl rfl rfl (fun K hK => ?_); go_big_quiet_op; refine hK _ ?_; clear hK K)
      iterate 12 (refine walkP_late (by kernel_rfl) rfl rfl rfl (fun K hK => ?_); go_big_quiet_op; refine hK _ ?_; clear hK K)
      iterate 4 (refine walkP_head (by kernel_rfl) rfl rfl rfl (fun K hK => ?_); go_big_quiet_op; refine hK _ ?_; clear hK K)
      intro wx hbx q1 q2 q3
      clear q1 q2 q3
      have HQX := Lib.hid (HQ4.out.below hbx)
      have hsx := HQX.out.src
      have hne := hsx.ne
      refine ⟨rfl, rfl, wp_mentry s.bf x kvInt 48 3 3 Try.underlying48 Try.underlying3 (Try.zeroValue3 wx) _ _ rfl rfl rfl hsx.frm ?_⟩
      intro wa v0 ca hma hga hsa
      have HA : Hid (∃ e : KeepS s W4, wa = e.world) := Lib.hid ⟨⟨wa, by have := hbx.size; omega, fun i hi h1 h2 => (hga.block i (by have := hbx.size; omega) (fun e => h1 (Option.some.inj e))).trans (hbx.block i hi)⟩, rfl⟩
      refine ⟨HA.out, rfl, rfl, ?_⟩
      go_simp
      refine ⟨HA.out, rfl, rfl, wp_mstore s.bf x ca (.int .i64 (ix (s.Rh x) k + 1)) kvInt 48 _ _ _ rfl rfl rfl rfl hma ?_⟩
      intro wb hmb hgb hsb
      have hgab : wx.grownBy wb (some s.bf) := ⟨hgb.os.trans hga.os, hgb.tape.trans hga.tape, hgb.output.trans hga.output, by omega, fun i hi h => (hgb.block i (by omega) h).trans (hga.block i hi h)⟩
      have HQB := Lib.hid (HQX.out.setF x (ix (s.Rh x) k + 1) ⟨by have := HI4.out; omega, by unfold InI; have := HI4.out; omega⟩ hmb hgab)
      have HB : Hid (∃ e : KeepS s W4, wb = e.world) := Lib.hid ⟨⟨wb, by have := hbx.size; omega, fun i hi h1 h2 => (hgab.block i (by have := hbx.size; omega) (fun e => h1 (Option.some.inj e))).trans (hbx.block i hi)⟩, rfl⟩
      refine ⟨HB.out, rfl, rfl, wp_mentry s.bk x kvInt 48 3 3 Try.underlying48 Try.underlying3 (Try.zeroValue3 wb) _ _ rfl rfl rfl HQB.out.src.rank ?_⟩
      intro wc v1 cb hmc hgc hsc
      have HC : Hid (∃ e : KeepS s W4, wc = e.world) := Lib.hid ⟨⟨wc, by have := hbx.size; omega, fun i hi h1 h2 => (hgc.block i (by have := hbx.size; omega) (fun e => h2 (Option.some.inj e))).trans ((hgab.block i (by have := hbx.size; omega) (fun e => h1 (Option.some.inj e))).trans (hbx.block i hi))⟩, rfl⟩
      refine ⟨HC.out, rfl, rfl, ?_⟩
      go_simp
      refine ⟨HC.out, rfl, rfl, wp_mstore s.bk x cb (.int .i64 (clock + 1)) kvInt 48 _ _ _ rfl rfl rfl rfl hmc ?_⟩
      intro wd hmd hgd hsd
      have hgcd : wb.grownBy wd (some s.bk) := ⟨hgd.os.trans hgc.os, hgd.tape.trans hgc.tape, hgd.output.trans hgc.output, by omega, fun i hi h => (hgd.block i (by omega) h).trans (hgc.block i hi h)⟩
      have HQD := Lib.hid (HQB.out.setK x (clock + 1) ⟨by omega, by unfold InI; omega⟩ hmd hgcd)
      have HD : Hid (∃ e : KeepS s W4, wd = e.world) := Lib.hid ⟨⟨wd, by have := hbx.size; omega, fun i hi h1 h2 => (hgcd.block i (by have := hbx.size; omega) (fun e => h2 (Option.some.inj e))).trans ((hgab.block i (by have := hbx.size; omega) (fun e => h1 (Option.some.inj e))).trans (hbx.block i hi))⟩, rfl⟩
      refine ⟨HD.out, ?_⟩
      simp only [tailW]
      have HL3 : Hid (Lim base s.mut W4 wd) := Lib.hid ((Lim.of_below hbx ht4.2).trans ((Lim.of_grown hgab (.inl (by simp [SP.mut])) (by have := hbx.size; omega)).trans (Lim.of_grown hgcd (.inl (by simp [SP.mut])) (by have := hbx.size; omega))))
      have HLT : Hid (Lim base s.mut w wd) := Lib.hid (((Lim.of_below hb3 (by have := HS.out.top; omega)).trans HL4.out).trans HL3.out)
      have hmem : ix (s.Rh x) k ∈ s.Rh x := by
        rw [show ix (s.Rh x) k = (s.Rh x)[k] by simp [ix, List.getD_eq_getElem?_getD, List.getElem?_eq_getElem hk]]; exact List.getElem_mem hk
      have HMEM := Lib.hid hmem
      have HCAND := Lib.hid hcand
      have HF0 : Hid (¬ 0 < F x) := Lib.hid (by omega)
      clear hmem hcand hfirst hmd hgd hmc hgc hma hga hmb hgb hgab hgcd hsa hsb hsc hsd hbx k1 k2 k3 k4 k5 k6 hsx
      obtain ⟨vq, hq1, hq2⟩ := HQD.out.queue
      have kq := hq1.cell
      have hzD := HQD.out.src.top
      have HQ1 := Lib.hid hq1
      have HQ2 := Lib.hid hq2
      clear hq1 hq2
      have hxI : InI x := by unfold InI; omega
      go_wp2_with (first
        | (at_builtin; refine wpList_appendQ rfl _ _ 23 Try.underlying23 rfl base vq l x rfl (HQ2.out.kept (w' := wd.alloc (.cells #[.int .i64 x] 3)) (fun i h1 h2 _ => Below.heap_alloc _ _ _ h2)) wd.heap.size 1 rfl (Blk.new wd [.int .i64 x] _) hxI hlen (by simp; omega) ?_; intro v4 w4 hq4 hg4 hl4; obtain ⟨a4, n4, c4, rfl⟩ := hq4.form; have hpp := QS.push HQD.out.src HQD.out.box HQ1.out HQ2.out hlo hq4 hg4 hl4; have kf4 := hpp.1.free; have kq4 := hpp.1.cell; have HPP := Lib.hid hpp; clear hpp hq4 hg4 hl4))
      refine bodyPost_end (v := .tuple #[]) ?_ rfl ?_
      · simp [results, Try.results69, go_sem]
      · exact ⟨rfl, HLT.out.trans (HPP.out.2.2.mono (Nat.le_refl _) (fun i hi _ => by cases hi)), .inl ⟨(by have := HF0.out; omega), ho, _, HMEM.out, HCAND.out, HPP.out.2.1⟩⟩

end

end Go.Proofs.Ytkjpnpkmnpofgaa
