/- My texts Lv6, Lv9, Vld, Mk0, Lp8R, App, Mk1, merged. -/
import Derived.Test.YteblddnoegbalaaGreatM12
import Derived.Test.YteblddnoegbalaaGreatM11
import Derived.Test.YteblddnoegbalaaGreatM07
import Derived.Test.YteblddnoegbalaaGreatM04
import Derived.Test.YteblddnoegbalaaGreatM03
import Derived.Test.YteblddnoegbalaaGreatM00
import Derived.Test.YteblddnoegbalaaGreatProg
import Derived.WalkKit
import Derived.Lib.Hide
import Derived.Deep.QuietTactic
import Derived.BigQuiet
import Derived.Lib.Bytealg
import Derived.MapKept
import Derived.Maps.OwnSet
import Derived.Maps.OwnOps
import Derived.WalkSpells
import Derived.Lib.SliceRun
import Derived.Test.YteblddnoegbalaaGreatM02
import Derived.Test.YteblddnoegbalaaGreatM01
import Derived.Deep.AppendLies
import Derived.Deep.DeepCutAuto
import Derived.Test.YteblddnoegbalaaGreatM05
import Derived.RangeFuncNested
import Derived.RangeFuncBound
import Derived.RangeFuncCalls
import Derived.RangeFuncLeaves
import Derived.OwnWalkIn
import Derived.TacticsInMore
import Derived.LoopNIn
import Derived.LoopIn
import Derived.Stop.RegionWithIn
import Derived.Shelf.Abstract
import Derived.Test.YteblddnoegbalaaGreatM06
import Derived.Sort.QuietThIn
import Derived.Laws.EntriesVeiled
import Derived.Deep.AppendSrc
import Derived.Test.YteblddnoegbalaaGreatM10
import Derived.Test.YteblddnoegbalaaGreatM09
import Derived.Test.YteblddnoegbalaaGreatM08
import Derived.Maps.RangeWalk
import Derived.Lib.SlicesCompact
import Derived.Shelf.Sort.Plain
import Derived.Shelf.Slices.CompactI
import Derived.Shelf.Slices.In.SortNone
import Derived.Shelf.Strconv.Itoa3
import Derived.Shelf.Strings.BuilderK
import Derived.Shelf.Slices.SearchI
import Derived.Shelf.Slices.Empties
import Derived.Sort.OwnSortedInts
import Derived.RangeFuncBox
import Derived.Maps.OwnIn
import Derived.Lib.RowBridge
import Derived.Deep.OwnRows

namespace Go.Proofs.YteblddnoegbalaaGreat
open Go.RowKit
section
variable {w : World} {sb fb ab : Nat} {u : SU} {a : List Int}
set_option maxHeartbeats 4000000 in
set_option maxRecDepth 100000 in
theorem ex4_anyV (h : EnvUV w sb fb ab u a) (hok : SUok u) :
    Calls Tryz.prog 245 #[.pointer (some ⟨sb, 0, none⟩), .pointer (some ⟨fb, 0, none⟩)] w fun e w' => e = .returned (.bool (ex4V u a)) ∧ Below w.heap.size w w' := by
  have HE := Lib.hid h
  obtain ⟨vh, vb, vw, vs, h0, hsl, hS, hb⟩ := h.sup
  have kx : ∀ e : Ext w, ∀ o, e.world.cell? ⟨sb, o, none⟩ = [Value.bool u.r.choice, vh, .bool u.r.sum, .int .i64 u.r.bound, vb, vw, .int .i64 u.b, vs][o]? := fun e o => (bcell e.below _ o h0.lt).trans (h0.cell o)
  have ks := h0.cell
  have HSU : Hid (SupIs w (.agg #[.bool u.r.choice, vh, .bool u.r.sum, .int .i64 u.r.bound, vb, vw, .int .i64 u.b, vs]) u) := Lib.hid ⟨_, _, _, _, rfl, hsl, hS, hb⟩
  have HOK := Lib.hid hok
  have hbd := hok.bound
  clear h h0 hsl hS hok
  cases hs : u.r.sum with
  | true =>
    have HF : Hid (ex4V u a = decide (wgt u (fun l => !inB a l) u.r.body.length < u.r.bound)) := Lib.hid (by unfold ex4V; rw [hs, Bool.true_and])
    have HSM := Lib.hid hs
    have hwl := wgt_le HOK.out HSM.out (fun l => !inB a l) u.r.body.length (Nat.le_refl _)
    have hsm := (HOK.out.wts HSM.out).2.2 u.r.body.length (by have := (HOK.out.wts HSM.out).1; omega)
    rw [hs] at HSU
    simp only [hs] at kx
    have HW : Hid (∀ e : Ext w, Calls Tryz.prog 246 #[.agg #[.bool u.r.choice, vh, .bool true, .int .i64 u.r.bound, vb, vw, .int .i64 u.b, vs], .func (.func 247) #[] #[.pointer (some ⟨fb, 0, none⟩)]] e.world fun e2 w' => e2 = .returned (.int .i64 (wgt u (fun l => !inB a l) u.r.body.length)) ∧ Below e.world.heap.size e.world w') := Lib.hid (fun e => wgt_notV _ u _ (HSU.out.below e.below) HOK.out HSM.out (fun l => !inB a l) _ (fun w' hb' l h1 h2 => (not_inV ((HE.out.below e.below).below hb') l ⟨h1, h2⟩).mono fun e w'' ⟨e1, e2⟩ => ⟨e1, e2 ▸ Below.refl _ _⟩))
    clear hs ks
    go_enter Tryz.func245, Tryz.ntmps245
    go_upto_region 1 with fail
    refine wp_region_ext (by kernel_rfl) (by kernel_rfl) ?_
    repeat (go_big_quiet_step ((go_at_call 246; exact Calls.ext_of (HW.out _))))
    refine wpQuiet_nil ?_
    intro w9 hw'
    obtain ⟨e9, he9⟩ := hw'
    have hb9 := e9.below
    rw [← he9] at hb9
    clear he9 e9
    try dsimp only
    go_wp2
    go_ret
    exact ⟨ret_bool HF.out.symm, hb9⟩
  | false =>
    have HF : Hid (ex4V u a = false) := Lib.hid (by unfold ex4V; rw [hs, Bool.false_and])
    simp only [hs] at ks
    simp only [hs] at kx
    clear hs ks
    go_enter Tryz.func245, Tryz.ntmps245
    go_upto_region 1 with fail
    refine wp_region_ext (by kernel_rfl) (by kernel_rfl) ?_
    repeat (go_big_quiet_step (fail))
    refine wpQuiet_nil ?_
    intro w9 hw'
    obtain ⟨e9, he9⟩ := hw'
    have hb9 := e9.below
    rw [← he9] at hb9
    clear he9 e9
    try dsimp only
    go_wp2
    go_ret
    exact ⟨ret_bool HF.out.symm, hb9⟩
end
theorem ex5v_imp {x : Value} {w : World} {b : Bool} (h : Calls Tryz.prog 239 #[x] w fun e w' => e = .returned (.bool b) ∧ Below w.heap.size w w') :
    Calls Tryz.prog 249 #[.func (.func 239) #[x] #[]] w fun e w' => e = .returned (.bool b) ∧ Below w.heap.size w w' := by
  have H := Lib.hid h
  clear h
  go_enter Tryz.func249, Tryz.ntmps249
  go_wp2_with (go_at_call 239; (with_reducible refine (H.out).mono ?_); rintro e w1 ⟨rfl, hb1⟩; have HB1 := Lib.hid hb1; clear hb1)
  go_ret
  exact ⟨rfl, HB1.out⟩
theorem ex5v_1 {x y : Value} {w : World} {b : Bool} (h : Calls Tryz.prog 240 #[x, y] w fun e w' => e = .returned (.bool b) ∧ Below w.heap.size w w') :
    Calls Tryz.prog 249 #[.func (.func 240) #[] #[x, y]] w fun e w' => e = .returned (.bool b) ∧ Below w.heap.size w w' := by
  have H := Lib.hid h
  clear h
  go_enter Tryz.func249, Tryz.ntmps249
  go_wp2_with (go_at_call 240; (with_reducible refine (H.out).mono ?_); rintro e w1 ⟨rfl, hb1⟩; have HB1 := Lib.hid hb1; clear hb1)
  go_ret
  exact ⟨rfl, HB1.out⟩
theorem ex5v_2 {x y : Value} {w : World} {b : Bool} (h : Calls Tryz.prog 241 #[x, y] w fun e w' => e = .returned (.bool b) ∧ Below w.heap.size w w') :
    Calls Tryz.prog 249 #[.func (.func 241) #[] #[x, y]] w fun e w' => e = .returned (.bool b) ∧ Below w.heap.size w w' := by
  have H := Lib.hid h
  clear h
  go_enter Tryz.func249, Tryz.ntmps249
  go_wp2_with (go_at_call 241; (with_reducible refine (H.out).mono ?_); rintro e w1 ⟨rfl, hb1⟩; have HB1 := Lib.hid hb1; clear hb1)
  go_ret
  exact ⟨rfl, HB1.out⟩
theorem ex5v_3 {x y : Value} {w : World} {b : Bool} (h : Calls Tryz.prog 242 #[x, y] w fun e w' => e = .returned (.bool b) ∧ Below w.heap.size w w') :
    Calls Tryz.prog 249 #[.func (.func 242) #[] #[x, y]] w fun e w' => e = .returned (.bool b) ∧ Below w.heap.size w w' := by
  have H := Lib.hid h
  clear h
  go_enter Tryz.func249, Tryz.ntmps249
  go_wp2_with (go_at_call 242; (with_reducible refine (H.out).mono ?_); rintro e w1 ⟨rfl, hb1⟩; have HB1 := Lib.hid hb1; clear hb1)
  go_ret
  exact ⟨rfl, HB1.out⟩
theorem ex5v_4 {x y : Value} {w : World} {b : Bool} (h : Calls Tryz.prog 245 #[x, y] w fun e w' => e = .returned (.bool b) ∧ Below w.heap.size w w') :
    Calls Tryz.prog 249 #[.func (.func 245) #[] #[x, y]] w fun e w' => e = .returned (.bool b) ∧ Below w.heap.size w w' := by
  have H := Lib.hid h
  clear h
  go_enter Tryz.func249, Tryz.ntmps249
  go_wp2_with (go_at_call 245; (with_reducible refine (H.out).mono ?_); rintro e w1 ⟨rfl, hb1⟩; have HB1 := Lib.hid hb1; clear hb1)
  go_ret
  exact ⟨rfl, HB1.out⟩
set_option maxHeartbeats 1000000 in
theorem idxF_anyV (p n : Nat) (fs : List Value) (w : World) (hn : n ≤ 1000) (h : Blk w p fs 27) (hl : fs.length = n) (g : Nat → Bool)
    (hg : ∀ w', Below w.heap.size w w' → ∀ j, j < n → ∀ v, fs[j]? = some v → Calls Tryz.prog 249 #[v] w' fun e w'' => e = .returned (.bool (g j)) ∧ Below w'.heap.size w' w'') :
    Calls Tryz.prog 258 #[.slice (some ⟨p, 0, none⟩) n n, .func (.func 249) #[] #[]] w fun e w' => ∃ r, e = .returned (.int .i64 r) ∧ IxP n g r ∧ Below w.heap.size w w' := by
  have HG := Lib.hid hg
  have HBK := Lib.hid h
  clear h hg
  go_enter Tryz.func258, Tryz.ntmps258
  go_wp2
  go_loopw [8] (fun i wx => IxR n g w i wx) (fun i _ => n - (intOf i).toNat)
  case atStart => exact ⟨0, by omega, rfl, fun j hj => absurd hj (Nat.not_lt_zero _), Below.refl _ _⟩
  case round =>
    obtain ⟨k, hk, rfl, hall, hb⟩ := hrel
    have HA := Lib.hid hall
    clear hall
    by_cases hlt : k < n
    · obtain ⟨v, hv⟩ : ∃ v, fs[k]? = some v := ⟨fs[k]'(by omega), List.getElem?_eq_getElem (by omega)⟩
      have hk1 : wr.cell? ⟨p, k, none⟩ = some v := (bcell hb _ _ HBK.out.lt).trans ((HBK.out.cell _).trans hv)
      have HC := Lib.hid (HG.out _ hb k hlt v hv)
      clear hv
      cases g1 : g k with
      | true =>
        have HK : Hid (_ = true) := Lib.hid g1
        rw [g1] at HC
        clear g1
        go_wp2_with (go_at_call 249; refine (HC.out).mono ?_; rintro e w1 ⟨rfl, hb1⟩)
        go_ret
        exact ⟨_, rfl, .inr ⟨k, hlt, rfl, HK.out, HA.out⟩, bon hb hb1⟩
      | false =>
        have HN := Lib.hid (lt_succ_all HA.out g1)
        rw [g1] at HC
        clear g1
        go_wp2_with (go_at_call 249; refine (HC.out).mono ?_; rintro e w1 ⟨rfl, hb1⟩)
        first
          | (go_roundw
             case rel => (exact ⟨k + 1, by omega, by go_num, HN.out, bon hb hb1⟩)
             case measure => (simp [intOf]; omega))
          | (refine ⟨?_, ?_⟩
             · (exact ⟨k + 1, by omega, by go_num, HN.out, bon hb hb1⟩)
             · (simp [intOf]; omega))
    · have HN : Hid (∀ j, j < n → g j = false) := Lib.hid (fun j hj => HA.out j (by omega))
      go_wp2
      go_ret
      exact ⟨_, rfl, .inl ⟨rfl, HN.out⟩, hb⟩
set_option maxHeartbeats 1000000 in
theorem ctnF_anyV (p n : Nat) (fs : List Value) (w : World) (hn : n ≤ 1000) (h : Blk w p fs 27) (hl : fs.length = n) (g : Nat → Bool)
    (hg : ∀ w', Below w.heap.size w w' → ∀ j, j < n → ∀ v, fs[j]? = some v → Calls Tryz.prog 249 #[v] w' fun e w'' => e = .returned (.bool (g j)) ∧ Below w'.heap.size w' w'') :
    Calls Tryz.prog 248 #[.slice (some ⟨p, 0, none⟩) n n, .func (.func 249) #[] #[]] w fun e w' => e = .returned (.bool (anyR n g)) ∧ Below w.heap.size w w' := by
  have HI := Lib.hid (idxF_anyV p n fs w hn h hl g hg)
  clear h hg
  go_enter Tryz.func248, Tryz.ntmps248
  go_wp2_with (go_at_call 258; refine (HI.out).mono ?_; rintro e w1 ⟨r, rfl, hr, hb1⟩; have HR := Lib.hid hr; clear hr)
  go_ret
  exact ⟨ret_bool HR.out.any, hb1⟩
def excV (u : SU) (a : List Int) : Bool := impB u || inB a u.b || ex2V u a || ex3V u a || ex4V u a
def excGV (u : SU) (a : List Int) : Nat → Bool
  | 0 => impB u
  | 1 => inB a u.b
  | 2 => ex2V u a
  | 3 => ex3V u a
  | _ => ex4V u a
theorem exc_anyV (u : SU) (a : List Int) : anyR 5 (excGV u a) = excV u a := by
  have e : List.range 5 = [0, 1, 2, 3, 4] := rfl
  unfold anyR
  rw [e]
  simp [excGV, excV, Bool.or_assoc]
theorem env_newV {w : World} {vh vb vw vs : Value} {u : SU} {ab : Nat} {a : List Int} (h : SupIs w (.agg #[.bool u.r.choice, vh, .bool u.r.sum, .int .i64 u.r.bound, vb, vw, .int .i64 u.b, vs]) u) (ha : InV w ab a) :
    EnvUV ((w.alloc (.cells #[.bool u.r.choice, vh, .bool u.r.sum, .int .i64 u.r.bound, vb, vw, .int .i64 u.b, vs] 233)).alloc (.cells #[.func (.func 164) #[] #[.pointer (some ⟨ab, 0, none⟩)]] 105)) w.heap.size (w.heap.size + 1) ab u a ∧
    Below w.heap.size w ((w.alloc (.cells #[.bool u.r.choice, vh, .bool u.r.sum, .int .i64 u.r.bound, vb, vw, .int .i64 u.b, vs] 233)).alloc (.cells #[.func (.func 164) #[] #[.pointer (some ⟨ab, 0, none⟩)]] 105)) := by
  obtain ⟨_, _, _, _, e, hsl, hS, hb⟩ := h
  simp only [Value.agg.injEq, Array.mk.injEq, List.cons.injEq, and_true] at e
  obtain ⟨-, rfl, -, -, rfl, rfl, -, rfl⟩ := e
  have hal := bal (Below.refl w.heap.size w) (.cells #[.bool u.r.choice, vh, .bool u.r.sum, .int .i64 u.r.bound, vb, vw, .int .i64 u.b, vs] 233)
  have hbk := Blk.new w [.bool u.r.choice, vh, .bool u.r.sum, .int .i64 u.r.bound, vb, vw, .int .i64 u.b, vs] 233
  have hsup : SupB _ w.heap.size u := ⟨vh, vb, vw, vs, hbk, hsl.below hal, hS.below hal, hb⟩
  have hz : (w.alloc (.cells #[.bool u.r.choice, vh, .bool u.r.sum, .int .i64 u.r.bound, vb, vw, .int .i64 u.b, vs] 233)).heap.size = w.heap.size + 1 := World.size_alloc ..
  have ha1 := ha.below hal
  generalize w.alloc (.cells #[.bool u.r.choice, vh, .bool u.r.sum, .int .i64 u.r.bound, vb, vw, .int .i64 u.b, vs] 233) = W1 at *
  have hal1 := bal (Below.refl W1.heap.size W1) (.cells #[.func (.func 164) #[] #[.pointer (some ⟨ab, 0, none⟩)]] 105)
  have hb1 := Blk.new W1 [.func (.func 164) #[] #[.pointer (some ⟨ab, 0, none⟩)]] 105
  rw [hz] at hb1
  exact ⟨⟨hsup.below hal1, hb1, ha1.below hal1⟩, hal.trans (hal1.mono (by omega))⟩
theorem ways_anyV {W : World} {x : Value} {sb fb ab : Nat} {u : SU} {a : List Int} (h : EnvUV W sb fb ab u a) (hs : SupIs W x u) (hok : SUok u) :
    Calls Tryz.prog 248 #[.slice (some ⟨W.heap.size, 0, none⟩) 5 5, .func (.func 249) #[] #[]] (W.alloc (.cells #[.func (.func 239) #[x] #[], .func (.func 240) #[] #[.pointer (some ⟨fb, 0, none⟩), .pointer (some ⟨sb, 0, none⟩)], .func (.func 241) #[] #[.pointer (some ⟨sb, 0, none⟩), .pointer (some ⟨fb, 0, none⟩)], .func (.func 242) #[] #[.pointer (some ⟨sb, 0, none⟩), .pointer (some ⟨fb, 0, none⟩)], .func (.func 245) #[] #[.pointer (some ⟨sb, 0, none⟩), .pointer (some ⟨fb, 0, none⟩)]] 27)) fun e w' => e = .returned (.bool (excV u a)) ∧ Below W.heap.size W w' := by
  have hbk := Blk.new W [.func (.func 239) #[x] #[], .func (.func 240) #[] #[.pointer (some ⟨fb, 0, none⟩), .pointer (some ⟨sb, 0, none⟩)], .func (.func 241) #[] #[.pointer (some ⟨sb, 0, none⟩), .pointer (some ⟨fb, 0, none⟩)], .func (.func 242) #[] #[.pointer (some ⟨sb, 0, none⟩), .pointer (some ⟨fb, 0, none⟩)], .func (.func 245) #[] #[.pointer (some ⟨sb, 0, none⟩), .pointer (some ⟨fb, 0, none⟩)]] 27
  have hal := bal (Below.refl W.heap.size W) (.cells #[.func (.func 239) #[x] #[], .func (.func 240) #[] #[.pointer (some ⟨fb, 0, none⟩), .pointer (some ⟨sb, 0, none⟩)], .func (.func 241) #[] #[.pointer (some ⟨sb, 0, none⟩), .pointer (some ⟨fb, 0, none⟩)], .func (.func 242) #[] #[.pointer (some ⟨sb, 0, none⟩), .pointer (some ⟨fb, 0, none⟩)], .func (.func 245) #[] #[.pointer (some ⟨sb, 0, none⟩), .pointer (some ⟨fb, 0, none⟩)]] 27)
  refine (ctnF_anyV _ 5 _ _ (by omega) hbk rfl (excGV u a) fun w' hb' j hj v hv => ?_).mono fun e w' ⟨he, hb'⟩ => ⟨by rw [he, exc_anyV], hal.trans (hb'.mono hal.size)⟩
  have hbw := hal.trans (hb'.mono hal.size)
  have hE := h.below hbw
  match j, hj, hv with
  | 0, _, hv => cases hv; exact ex5v_imp (impossible_any _ _ _ (hs.below hbw) hok)
  | 1, _, hv => cases hv; exact ex5v_1 ((ex1_anyV hE hok).mono fun e w'' ⟨e1, e2⟩ => ⟨e1, e2 ▸ Below.refl _ _⟩)
  | 2, _, hv => cases hv; exact ex5v_2 (ex2_anyV hE hok)
  | 3, _, hv => cases hv; exact ex5v_3 (ex3_anyV hE hok)
  | 4, _, hv => cases hv; exact ex5v_4 (ex4_anyV hE hok)
set_option maxHeartbeats 4000000 in
set_option maxRecDepth 100000 in
theorem excluded_anyV (v : Value) (u : SU) (ab : Nat) (a : List Int) (w : World) (h : SupIs w v u) (hok : SUok u) (ha : InV w ab a) :
    Calls Tryz.prog 216 #[v, .func (.func 164) #[] #[.pointer (some ⟨ab, 0, none⟩)]] w fun e w' => e = .returned (.bool (excV u a)) ∧ Below w.heap.size w w' := by
  have h0 := h
  obtain ⟨vh, vb, vw, vs, rfl, -, -, -⟩ := h
  obtain ⟨hE, hal⟩ := env_newV h0 ha
  have hw := ways_anyV hE (h0.below hal) hok
  simp only [World.size_alloc] at hw
  have HW := Lib.hid hw
  have HAL := Lib.hid hal
  clear hw hal hE h0 ha hok
  go_enter Tryz.func216, Tryz.ntmps216
  go_upto_region 2 with fail
  go_wp2_with (go_at_call 248; (with_reducible refine HW.out.mono ?_); rintro e w2 ⟨rfl, hb2⟩; have HB2 := Lib.hid hb2; clear hb2)
  go_ret
  exact ⟨rfl, HAL.out.trans (HB2.out.mono (by omega))⟩
end Go.Proofs.YteblddnoegbalaaGreat
namespace Go.Proofs.YteblddnoegbalaaGreat
open Go.RowKit Go.Shelf
attribute [local go_sem] Oper.semAt_some
def allExcV (p : GP) (S a : List Int) : Bool := (supsTo p S p.rules.length).all fun u => excV u a
theorem sus_memV {w : World} {l : List (SupV w)} {p : GP} {S a : List Int} (h : sus l = supsTo p S p.rules.length) : (∀ u ∈ sus l, excV u a = true) → allExcV p S a = true := by
  intro h2
  unfold allExcV
  rw [← h, List.all_eq_true]
  exact h2
theorem sus_someV {w : World} {l : List (SupV w)} {p : GP} {S a : List Int} {k : Nat} (hk : k ≤ p.rules.length) (h : sus l = supsTo p S k) {u : SU} (hu : u ∈ sus l) (he : excV u a = false) : allExcV p S a = false := by
  unfold allExcV
  rw [List.all_eq_false]
  exact ⟨u, supsTo_sub p S _ k hk (h ▸ hu), by simp [he]⟩
set_option maxHeartbeats 4000000 in
set_option maxRecDepth 100000 in
theorem all_anyV (p : GP) (S a : List Int) (ab : Nat) (v vset : Value) (w : World) (hP : ProgIs w v p) (hS : Ints w vset S) (ha : InV w ab a) (hok : ∀ k, k < p.rules.length → SUok (supAt p S k)) :
    Calls Tryz.prog 166 #[v, vset, .func (.func 164) #[] #[.pointer (some ⟨ab, 0, none⟩)]] w fun e w' => e = .returned (.bool (allExcV p S a)) ∧ Below w.heap.size w w' := by
  have hP0 := Lib.hid hP
  obtain ⟨vn, vs, vr, vm, rfl, hPS⟩ := hP
  obtain ⟨a1, c1, rfl, -, hl1, -, -⟩ := hPS.rules.form
  obtain ⟨a4, c4, rfl, -, hl4, -, -⟩ := hS.form
  have HS := Lib.hid hS
  have HA := Lib.hid ha
  have HOK := Lib.hid hok
  clear hPS hS ha hok
  refine (callsIn_wide (n := 6)).1 ?_
  refine callsIn_of_wp_marks Tryz.func166 rfl trivial ?_ rfl
  simp only [Tryz.ntmps166, List.size_toArray, List.length_cons, List.length_nil, Nat.reduceAdd, Nat.reduceSub, Array.replicate_succ, Array.replicate_zero, List.push_toArray, List.append_toArray, List.nil_append, List.cons_append]
  have bI := (Blk.new2 w (.cells #[.int .i64 p.n, vn, vs, .slice a1 p.rules.length c1, vm] 33) [.func (.func 164) #[] #[.pointer (some ⟨ab, 0, none⟩)]] 105).alloc (.cells #[.bool false] 4)
  have bR := Blk.new ((w.alloc (.cells #[.int .i64 p.n, vn, vs, .slice a1 p.rules.length c1, vm] 33)).alloc (.cells #[.func (.func 164) #[] #[.pointer (some ⟨ab, 0, none⟩)]] 105)) [.bool false] 4
  have hb0 : Below w.heap.size w (((w.alloc (.cells #[.int .i64 p.n, vn, vs, .slice a1 p.rules.length c1, vm] 33)).alloc (.cells #[.func (.func 164) #[] #[.pointer (some ⟨ab, 0, none⟩)]] 105)).alloc (.cells #[.bool false] 4)) := bal (bal (bal (Below.refl _ _) _) _) _
  have BI := Lib.hid bI
  have BR := Lib.hid bR
  have HB0 := Lib.hid hb0
  clear bI bR hb0
  gi_wp2_with (refine ⟨trivial, ?_⟩; gi_at_call 215; refine (callsIn_wide.2 (supports_any _ _ _ _ _ _ _ _ _ _ _)).mono ?_; rintro e w1 ⟨rfl, hb1, hp1, hs1⟩)
  have bI := BI.out.below hb1
  have bR := BR.out.below hb1
  have hbw : Below w.heap.size w w1 := bon HB0.out hb1
  simp only [World.size_alloc] at hp1 hs1 bR
  clear hb1 BI BR HB0
  have hz := hs1.lt
  refine wpIn_rangeFunc_ownH rfl (by omega) (gf := 236) (lb := #[.pointer (some ⟨w.heap.size + 1 + 1 + 1, 0, none⟩), .pointer (some ⟨w.heap.size + 1 + 1 + 1 + 1, 0, none⟩)]) rfl trivial (enters_of Tryz.func236 (by kernel_rfl) rfl)
    (sups_stops p S w w1 vn vs (.slice a1 p.rules.length c1) vm (.slice a4 S.length c4) hP0.out HS.out (w.heap.size + 1 + 1) _ _ ⟨hbw, hp1, hs1⟩ (by omega) ⟨by omega, by omega⟩ HOK.out 5 (by omega))
    (fun h k => h.trans k) (fun W l o o' hl h hc hw => .of_below (belowK_b (w := w1) (Nat.le_refl _) W l o o' hl h hc hw) (Nat.le_refl _)) (Below.refl _ _) (fun _ => rfl)
    (fun pre W => (∀ u ∈ sus pre, excV u a = true) ∧ Below w1.heap.size w1 W)
    (fun c pre W => (Blk W (w.heap.size + 1 + 1) [.bool false] 4 ∧ (c = .ret ∧ ∃ u ∈ sus pre, excV u a = false)) ∧ Below w.heap.size w W)
    (OwnFrom.and (ownFrom_pure _ _) (ownFrom_below (Nat.le_refl _) (Nat.le_refl _)))
    (fun c => OwnFrom.and (OwnFrom.and (Own.from (blk_own _ _ _) _) (ownFrom_pure _ _)) (ownFrom_below (Nat.le_refl _) (by omega)))
    ⟨by intro u hu; simp [sus] at hu, Below.refl _ _⟩
    (fun x a' W => ∃ Bx vh vb vw vs9, x.1.1 = .agg #[.bool x.1.2.r.choice, vh, .bool x.1.2.r.sum, .int .i64 x.1.2.r.bound, vb, vw, .int .i64 x.1.2.b, vs9] ∧ Blk W Bx [.bool x.1.2.r.choice, vh, .bool x.1.2.r.sum, .int .i64 x.1.2.r.bound, vb, vw, .int .i64 x.1.2.b, vs9] 233 ∧ a' = { tmps := #[.agg #[.int .i64 p.n, vn, vs, .slice a1 p.rules.length c1, vm], .slice a4 S.length c4, .func (.func 164) #[] #[.pointer (some ⟨ab, 0, none⟩)], .pointer (some ⟨w.heap.size, 0, none⟩), undef, .pointer (some ⟨w.heap.size + 1, 0, none⟩), .pointer (some ⟨w.heap.size + 1 + 1, 0, none⟩), .pointer (some ⟨Bx, 0, none⟩), .agg #[.int .i64 p.n, vn, vs, .slice a1 p.rules.length c1, vm], .slice a4 S.length c4, .func (.func 236) #[] #[.pointer (some ⟨w.heap.size + 1 + 1 + 1, 0, none⟩), .pointer (some ⟨w.heap.size + 1 + 1 + 1 + 1, 0, none⟩)], x.1.1, undef, undef, undef, undef], defers := [] })
    (fun x a' _ X Y row hs hg hr => by obtain ⟨Bx, vh, vb, vw, vs9, h2, h3, h4⟩ := hs; exact ⟨Bx, vh, vb, vw, vs9, h2, blk_own Bx _ _ () X Y row h3 hg (fun r e => (hr r e).2), h4⟩)
    ?assign ?body ?done ?stop
  case assign =>
    rintro l pre x W K ⟨hall, hB⟩ hK
    obtain ⟨vh, vb, vw, vs9, hx, ⟨x1, x2, x3, rfl⟩, ⟨x4, x5, x6, rfl⟩, ⟨x7, x8, x9, rfl⟩, ⟨y1, y2, y3, rfl⟩⟩ := x.form
    have HX := Lib.hid hx
    have hbn := Blk.new W [.bool x.1.2.r.choice, (.slice x1 x2 x3), .bool x.1.2.r.sum, .int .i64 x.1.2.r.bound, (.slice x4 x5 x6), (.slice x7 x8 x9), .int .i64 x.1.2.b, (.slice y1 y2 y3)] 233
    have HBN := Lib.hid hbn
    dsimp only
    rw [hx]
    clear hx hbn
    gi_wp2
    exact hK _ _ ((KeepsOthers.alloc _ _).from _) (.of_below (bal (Below.refl _ _) _) hB.size) ⟨hall, hB.alloc hB.size _⟩ ⟨W.heap.size, _, _, _, _, HX.out, HBN.out, by rw [HX.out]⟩
  case body =>
    rintro l pre x a' W hl ⟨r, hr⟩ ⟨hall, hB⟩ ⟨Bx, vh, vb, vw, vs9, hx, bX, rfl⟩ hlt
    have kx := bX.cell
    have ki := (bI.below hB).cell 0
    have bRW := bR.below hB
    have hBw : Below w.heap.size w W := bon hbw hB
    have HE : Hid (Calls Tryz.prog 216 #[.agg #[.bool x.1.2.r.choice, vh, .bool x.1.2.r.sum, .int .i64 x.1.2.r.bound, vb, vw, .int .i64 x.1.2.b, vs9], .func (.func 164) #[] #[.pointer (some ⟨ab, 0, none⟩)]] W fun e w' => e = .returned (.bool (excV x.1.2 a)) ∧ Below W.heap.size W w') := Lib.hid (excluded_anyV _ x.1.2 ab a W (hx ▸ x.2.1.below hBw) x.2.2 (HA.out.below hBw))
    have HBX := Lib.hid hB
    have HBW := Lib.hid hBw
    have HALL := Lib.hid hall
    clear hB hBw hall
    cases he : excV x.1.2 a with
    | true =>
      have HEX : Hid (_ = true) := Lib.hid he
      rw [he] at HE
      clear he
      gi_wp2_with (refine ⟨trivial, ?_⟩; gi_at_call 216; refine (CallsIn.inRound l (callsIn_wide.2 HE.out)).mono ?_; rintro e w2 ⟨rfl, hb2⟩)
      refine ⟨keeps_below hb2, .of_below hb2 HBX.out.size, fun u hu => ?_, bon HBX.out hb2⟩
      rw [sus_snoc] at hu
      rcases List.mem_append.1 hu with h | h
      · exact HALL.out u h
      · obtain rfl := List.mem_singleton.1 h
        exact HEX.out
    | false =>
      have HEX : Hid (_ = false) := Lib.hid he
      rw [he] at HE
      clear he
      gi_wp2_with (refine ⟨trivial, ?_⟩; gi_at_call 216; refine (CallsIn.inRound l (callsIn_wide.2 HE.out)).mono ?_; rintro e w2 ⟨rfl, hb2⟩; have kc := (bRW.below hb2).cell 0; have kf := (bRW.below hb2).free 0)
      exact ⟨(keeps_below hb2).trans ((KeepsOthers.setCell _ _ _).from _), ⟨(bRW.below hb2).set 0 _, rfl, x.1.2, by rw [sus_snoc]; simp, HEX.out⟩, (bon HBW.out hb2).setCell (p := ⟨w.heap.size + 1 + 1, 0, none⟩) (by simp; omega) _⟩
  case done =>
    rintro D xs W hD hS ⟨hall, hB⟩ hK
    have bRW := bR.below hB
    have kc := bRW.cell 0
    have kf := bRW.free 0
    have hBw : Below w.heap.size w W := bon hbw hB
    gi_wp2
    have hK' := (KeepsOthers.setCell W ⟨w.heap.size + 1 + 1, 0, none⟩ (.bool true)).same D _ hK rfl
    refine ⟨by simp, .inl ⟨_, _, rfl, run_takeDeferred hK', ?_⟩⟩
    have hc5 := cell_kept (World.cell?_setCell_same' W ⟨w.heap.size + 1 + 1, 0, none⟩ (.bool true) (by rw [kc]; rfl)) (grownBy_putObj' _ D (.deferred none)) (fun r e => by cases e; exact ⟨_, hK', rfl⟩)
    refine ⟨.bool true, ?_, by rw [sus_memV hS hall], (hBw.setCell (p := ⟨w.heap.size + 1 + 1, 0, none⟩) (by simp; omega) _).trans (belowK_b (w := w) (Nat.le_refl _) _ D _ _ (by omega) hK' rfl rfl)⟩
    simp [results, Tryz.f166, go_sem, hc5]
  case stop =>
    rintro D c pre W hD ⟨k, hk, hS⟩ ⟨⟨bRW, rfl, u, hu, he⟩, hB⟩ hK
    gi_wp2
    refine ⟨by simp, .inl ⟨_, _, rfl, run_takeDeferred hK, ?_⟩⟩
    have hc5 := cell_kept (bRW.cell 0) (grownBy_putObj' _ D (.deferred none)) (fun r e => by cases e; exact ⟨_, hK, rfl⟩)
    refine ⟨.bool false, ?_, by rw [sus_someV hk hS hu he], hB.trans (belowK_b (w := w) (Nat.le_refl _) W D _ _ (by omega) hK rfl rfl)⟩
    simp [results, Tryz.f166, go_sem, hc5]
end Go.Proofs.YteblddnoegbalaaGreat
namespace Go.Proofs.YteblddnoegbalaaGreat
open Go.RowKit
set_option maxHeartbeats 1000000 in
theorem v2_any (l : Int) (fb cb : Nat) (L : List Int) (w : World) (hf : Blk w fb [.func (.func 164) #[] #[.pointer (some ⟨cb, 0, none⟩)]] 105) (h : InV w cb L) (hl : 1 ≤ l.natAbs ∧ l.natAbs ≤ 1000000) :
    Calls Tryz.prog 165 #[.int .i64 l, .pointer (some ⟨fb, 0, none⟩)] w fun e w' => e = .returned (.bool (inB L (-l))) ∧ w = w' := by
  have k0 := hf.cell 0
  have H := Lib.hid h
  have hl2 : 1 ≤ (-l).natAbs ∧ (-l).natAbs ≤ 1000000 := by omega
  have HL2 := Lib.hid hl2
  clear hf h hl2
  go_enter Tryz.func165, Tryz.ntmps165
  go_wp2_with (go_at_call 164; (with_reducible refine (inV_any (-l) cb L _ H.out HL2.out).mono ?_); rintro e w1 ⟨rfl, rfl⟩)
  go_ret
  exact ⟨rfl, rfl⟩
set_option maxHeartbeats 1000000 in
theorem idx_v2 (v : Value) (l : List Int) (w : World) (h : Ints w v l) (g : Nat → Bool) (cap : Value)
    (hg : ∀ w', Below w.heap.size w w' → ∀ j, j < l.length → Calls Tryz.prog 165 #[.int .i64 (ix l j), cap] w' fun e w'' => e = .returned (.bool (g j)) ∧ Below w'.heap.size w' w'') :
    Calls Tryz.prog 150 #[v, .func (.func 165) #[] #[cap]] w fun e w' => ∃ r, e = .returned (.int .i64 r) ∧ IxP l.length g r ∧ Below w.heap.size w w' := by
  obtain ⟨a1, c1, rfl, -, hl1, -, hcell⟩ := h.form
  have HG := Lib.hid hg
  clear h hg
  go_enter Tryz.func150, Tryz.ntmps150
  go_wp2
  go_loopw [8] (fun i wx => IxR l.length g w i wx) (fun i _ => l.length - (intOf i).toNat)
  case atStart => exact ⟨0, by omega, rfl, fun j hj => absurd hj (Nat.not_lt_zero _), Below.refl _ _⟩
  case round =>
    obtain ⟨k, hk, rfl, hall, hb⟩ := hrel
    have HA := Lib.hid hall
    clear hall
    by_cases hlt : k < l.length
    · obtain ⟨b, off, rfl, hbl, hc⟩ := hcell (by omega)
      have hk1 := (bcell hb _ _ hbl).trans (hc k hlt)
      clear hc hcell
      cases g1 : g k with
      | true =>
        have HK : Hid (_ = true) := Lib.hid g1
        have HC := Lib.hid (HG.out _ hb k hlt)
        rw [g1] at HC
        clear g1
        go_wp2_with (go_at_call 165; refine (HC.out).mono ?_; rintro e w1 ⟨rfl, hb1⟩)
        go_ret
        exact ⟨_, rfl, .inr ⟨k, hlt, rfl, HK.out, HA.out⟩, bon hb hb1⟩
      | false =>
        have HN := Lib.hid (lt_succ_all HA.out g1)
        have HC := Lib.hid (HG.out _ hb k hlt)
        rw [g1] at HC
        clear g1
        go_wp2_with (go_at_call 165; refine (HC.out).mono ?_; rintro e w1 ⟨rfl, hb1⟩)
        first
          | (go_roundw
             case rel => (exact ⟨k + 1, by omega, by go_num, HN.out, bon hb hb1⟩)
             case measure => (simp [intOf]; omega))
          | (refine ⟨?_, ?_⟩
             · (exact ⟨k + 1, by omega, by go_num, HN.out, bon hb hb1⟩)
             · (simp [intOf]; omega))
    · have HN : Hid (∀ j, j < l.length → g j = false) := Lib.hid (fun j hj => HA.out j (by omega))
      go_wp2
      go_ret
      exact ⟨_, rfl, .inl ⟨rfl, HN.out⟩, hb⟩
set_option maxHeartbeats 1000000 in
theorem ctn_v2 (v : Value) (l : List Int) (w : World) (h : Ints w v l) (g : Nat → Bool) (cap : Value)
    (hg : ∀ w', Below w.heap.size w w' → ∀ j, j < l.length → Calls Tryz.prog 165 #[.int .i64 (ix l j), cap] w' fun e w'' => e = .returned (.bool (g j)) ∧ Below w'.heap.size w' w'') :
    Calls Tryz.prog 101 #[v, .func (.func 165) #[] #[cap]] w fun e w' => e = .returned (.bool (anyR l.length g)) ∧ Below w.heap.size w w' := by
  have HI := Lib.hid (idx_v2 v l w h g cap hg)
  obtain ⟨a1, c1, rfl, -⟩ := h.form
  clear h hg
  go_enter Tryz.func101, Tryz.ntmps101
  go_wp2_with (go_at_call 150; refine (HI.out).mono ?_; rintro e w1 ⟨r, rfl, hr, hb1⟩; have HR := Lib.hid hr; clear hr)
  go_ret
  exact ⟨ret_bool HR.out.any, hb1⟩
def validC (p : GP) (S : List Int) (c : PBC) : Bool := decide (validE p = 0) && (setB' p.n S && (pbV c && (decide (c.bound = 1) && (anyR S.length (fun j => inB c.lits (-(ix S j))) && allExcV p S c.lits))))
theorem setB_pos {n : Int} {S : List Int} (h : setB' n S = true) {j : Nat} (hj : j < S.length) : 1 ≤ ix S j ∧ ix S j ≤ n := by
  unfold setB' at h
  rw [Bool.and_eq_true] at h
  have := allR_get h.1 j hj
  unfold setTo at this
  simp only [Bool.and_eq_true, decide_eq_true_eq] at this
  exact this.1
set_option maxHeartbeats 4000000 in
set_option maxRecDepth 100000 in
theorem lval_any (vp vset vc : Value) (p : GP) (S : List Int) (c : PBC) (w : World) (hP : ProgIs w vp p) (hS : Ints w vset S) (hC : PBIs w vc c) :
    Calls Tryz.prog 117 #[vp, vset, vc] w fun e w' => e = .returned (.bool (validC p S c)) ∧ Below w.heap.size w w' := by
  have hP0 := hP
  have hC0 := hC
  obtain ⟨vn, vs, vr, vm, rfl, hPS⟩ := hP
  obtain ⟨a1, c1, rfl, -, hl1, -, -⟩ := hPS.rules.form
  obtain ⟨a4, c4, rfl, -, hl4, -, -⟩ := hS.form
  obtain ⟨vl, vk, rfl, hL, hK, hbd⟩ := hC
  obtain ⟨a5, c5, rfl, -⟩ := hL.form
  obtain ⟨a6, c6, rfl, -⟩ := hK.form
  have hal : Below w.heap.size w ((w.alloc (.cells #[.int .i64 p.n, vn, vs, .slice a1 p.rules.length c1, vm] 33)).alloc (.cells #[.slice a5 c.lits.length c5, .slice a6 c.coefs.length c6, .int .i64 c.bound] 25)) := bal (bal (Below.refl _ _) _) _
  have hb1 := (Blk.new w [.int .i64 p.n, vn, vs, .slice a1 p.rules.length c1, vm] 33).alloc (.cells #[.slice a5 c.lits.length c5, .slice a6 c.coefs.length c6, .int .i64 c.bound] 25)
  have hb2 := Blk.new2 w (.cells #[.int .i64 p.n, vn, vs, .slice a1 p.rules.length c1, vm] 33) [.slice a5 c.lits.length c5, .slice a6 c.coefs.length c6, .int .i64 c.bound] 25
  have HP := Lib.hid (hP0.below hal)
  have HS := Lib.hid (hS.below hal)
  have HC := Lib.hid (hC0.below hal)
  have HU : Hid (InV _ (w.heap.size + 1) c.lits) := Lib.hid ⟨_, _, _, hb2, hL.below hal⟩
  have HAL := Lib.hid hal
  have HBK := Lib.hid hb1
  have HBC := Lib.hid hb2
  unfold InI at hbd
  clear hP0 hPS hS hC0 hL hK hal hb1 hb2
  go_enter Tryz.func117, Tryz.ntmps117
  go_upto_region 1 with fail
  have kx := HBK.out.cell
  have kc := HBC.out.cell
  generalize (w.alloc (.cells #[.int .i64 p.n, vn, vs, .slice a1 p.rules.length c1, vm] 33)).alloc (.cells #[.slice a5 c.lits.length c5, .slice a6 c.coefs.length c6, .int .i64 c.bound] 25) = W at *
  have HF : Hid (validC p S c = (decide (validE p = 0) && (setB' p.n S && (pbV c && (decide (c.bound = 1) && (anyR S.length (fun j => inB c.lits (-(ix S j))) && allExcV p S c.lits)))))) := Lib.hid rfl
  by_cases hv : validE p = 0
  · have HV := Lib.hid hv
    have HOK : Hid (∀ k, k < p.rules.length → SUok (supAt p S k)) := Lib.hid (fun k hk => supAt_ok hv S hk)
    have HN : Hid (p.n ≤ 1000000) := Lib.hid (by have := (validP hv).n; omega)
    rw [decide_eq_true hv, Bool.true_and] at HF
    clear hv
    cases h2 : setB' p.n S with
    | false =>
      rw [h2, Bool.false_and] at HF
      have HI := Lib.hid h2
      clear h2
      go_wp2_with (first | (go_at_call 39; (with_reducible refine (valid_any _ p W HP.out).mono ?_); rintro e w1 ⟨he, hb1⟩; rw [HV.out] at he; subst he; have HB1 := Lib.hid hb1; have kx1 := fun o => (bcell hb1 _ o HBK.out.lt).trans (HBK.out.cell o); have kc1 := fun o => (bcell hb1 _ o HBC.out.lt).trans (HBC.out.cell o); clear hb1) | (go_at_call 163; (with_reducible refine (isSet_any _ _ p S _ (HP.out.below HB1.out) (HS.out.below HB1.out)).mono ?_); rintro e w2 ⟨he, hb2⟩; rw [HI.out] at he; subst he; have HB2 := Lib.hid (bon HB1.out hb2); have kx2 := fun o => (bcell HB2.out _ o HBK.out.lt).trans (HBK.out.cell o); have kc2 := fun o => (bcell HB2.out _ o HBC.out.lt).trans (HBC.out.cell o); clear hb2))
      go_ret
      exact ⟨ret_bool HF.out.symm, HAL.out.trans (HB2.out.mono HAL.out.size)⟩
    | true =>
      rw [h2, Bool.true_and] at HF
      have HI := Lib.hid h2
      clear h2
      cases h3 : pbV c with
      | false =>
        rw [h3, Bool.false_and] at HF
        have HPV := Lib.hid h3
        clear h3
        go_wp2_with (first | (go_at_call 39; (with_reducible refine (valid_any _ p W HP.out).mono ?_); rintro e w1 ⟨he, hb1⟩; rw [HV.out] at he; subst he; have HB1 := Lib.hid hb1; have kx1 := fun o => (bcell hb1 _ o HBK.out.lt).trans (HBK.out.cell o); have kc1 := fun o => (bcell hb1 _ o HBC.out.lt).trans (HBC.out.cell o); clear hb1) | (go_at_call 163; (with_reducible refine (isSet_any _ _ p S _ (HP.out.below HB1.out) (HS.out.below HB1.out)).mono ?_); rintro e w2 ⟨he, hb2⟩; rw [HI.out] at he; subst he; have HB2 := Lib.hid (bon HB1.out hb2); have kx2 := fun o => (bcell HB2.out _ o HBK.out.lt).trans (HBK.out.cell o); have kc2 := fun o => (bcell HB2.out _ o HBC.out.lt).trans (HBC.out.cell o); clear hb2) | (go_at_call 30; (with_reducible refine (pbValid_any _ c _ (HC.out.below HB2.out)).mono ?_); rintro e w3 ⟨he, hb3⟩; rw [HPV.out] at he; subst he; have HB3 := Lib.hid (bon HB2.out hb3); have kx3 := fun o => (bcell HB3.out _ o HBK.out.lt).trans (HBK.out.cell o); have kc3 := fun o => (bcell HB3.out _ o HBC.out.lt).trans (HBC.out.cell o); clear hb3))
        go_ret
        exact ⟨ret_bool HF.out.symm, HAL.out.trans (HB3.out.mono HAL.out.size)⟩
      | true =>
        rw [h3, Bool.true_and] at HF
        have HPV := Lib.hid h3
        clear h3
        by_cases h4 : c.bound = 1
        · rw [decide_eq_true h4, Bool.true_and] at HF
          have hbe : (c.bound != 1) = false := by simp [h4]
          have HB4E := Lib.hid h4
          clear h4
          go_upto_region 4 with (first | (go_at_call 39; (with_reducible refine (valid_any _ p W HP.out).mono ?_); rintro e w1 ⟨he, hb1⟩; rw [HV.out] at he; subst he; have HB1 := Lib.hid hb1; have kx1 := fun o => (bcell hb1 _ o HBK.out.lt).trans (HBK.out.cell o); have kc1 := fun o => (bcell hb1 _ o HBC.out.lt).trans (HBC.out.cell o); clear hb1) | (go_at_call 163; (with_reducible refine (isSet_any _ _ p S _ (HP.out.below HB1.out) (HS.out.below HB1.out)).mono ?_); rintro e w2 ⟨he, hb2⟩; rw [HI.out] at he; subst he; have HB2 := Lib.hid (bon HB1.out hb2); have kx2 := fun o => (bcell HB2.out _ o HBK.out.lt).trans (HBK.out.cell o); have kc2 := fun o => (bcell HB2.out _ o HBC.out.lt).trans (HBC.out.cell o); clear hb2) | (go_at_call 30; (with_reducible refine (pbValid_any _ c _ (HC.out.below HB2.out)).mono ?_); rintro e w3 ⟨he, hb3⟩; rw [HPV.out] at he; subst he; have HB3 := Lib.hid (bon HB2.out hb3); have kx3 := fun o => (bcell HB3.out _ o HBK.out.lt).trans (HBK.out.cell o); have kc3 := fun o => (bcell HB3.out _ o HBC.out.lt).trans (HBC.out.cell o); clear hb3))
          have hal5 := bal (Below.refl w3.heap.size w3) (.cells #[.func (.func 164) #[] #[.pointer (some ⟨w.heap.size + 1, 0, none⟩)]] 105)
          have HF5 := Lib.hid (Blk.new w3 [.func (.func 164) #[] #[.pointer (some ⟨w.heap.size + 1, 0, none⟩)]] 105)
          have HB5 := Lib.hid (bon HB3.out hal5)
          have kf5 := HF5.out.cell
          have kx5 := fun o => (bcell HB5.out _ o HBK.out.lt).trans (HBK.out.cell o)
          have hz3 := HB3.out.size
          have HZ3 := Lib.hid hz3
          clear hal5 hz3 kx1 kx2 kx3 kc1 kc2 kc3 kx kc
          generalize w3.alloc (.cells #[.func (.func 164) #[] #[.pointer (some ⟨w.heap.size + 1, 0, none⟩)]] 105) = W5 at *
          have HCT : Hid (Calls Tryz.prog 101 #[.slice a4 S.length c4, .func (.func 165) #[] #[.pointer (some ⟨w3.heap.size, 0, none⟩)]] W5 fun e w' => e = .returned (.bool (anyR S.length (fun j => inB c.lits (-(ix S j))))) ∧ Below W5.heap.size W5 w') := Lib.hid (ctn_v2 _ S W5 (HS.out.below HB5.out) (fun j => inB c.lits (-(ix S j))) _ (fun w' hb' j hj => (v2_any (ix S j) w3.heap.size (w.heap.size + 1) c.lits w' (HF5.out.below hb') (HU.out.below (bon HB5.out hb')) (by have := setB_pos HI.out hj; have := HN.out; omega)).mono fun e w'' ⟨e1, e2⟩ => ⟨e1, e2 ▸ Below.refl _ _⟩))
          cases h6 : anyR S.length (fun j => inB c.lits (-(ix S j))) with
          | false =>
            rw [h6] at HCT
            rw [h6, Bool.false_and] at HF
            clear h6
            go_wp2_with (go_at_call 101; (with_reducible refine (HCT.out).mono ?_); rintro e w6 ⟨rfl, hb6⟩; have HB6 := Lib.hid (bon HB5.out hb6); clear hb6)
            go_ret
            exact ⟨ret_bool HF.out.symm, HAL.out.trans (HB6.out.mono HAL.out.size)⟩
          | true =>
            rw [h6] at HCT
            rw [h6, Bool.true_and] at HF
            clear h6
            go_wp2_with (first
              | (go_at_call 166; (with_reducible refine (all_anyV p S c.lits _ _ _ _ (HP.out.below HB6.out) (HS.out.below HB6.out) (HU.out.below HB6.out) HOK.out).mono ?_); rintro e w7 ⟨rfl, hb7⟩; have HB7 := Lib.hid (bon HB6.out hb7); clear hb7)
              | (go_at_call 101; (with_reducible refine (HCT.out).mono ?_); rintro e w6 ⟨rfl, hb6⟩; have HB6 := Lib.hid (bon HB5.out hb6); have kx6 := fun o => (bcell HB6.out _ o HBK.out.lt).trans (HBK.out.cell o); have kf6 := (HF5.out.below hb6).cell; clear hb6))
            go_ret
            exact ⟨ret_bool HF.out.symm, HAL.out.trans (HB7.out.mono HAL.out.size)⟩
        · rw [decide_eq_false h4, Bool.false_and] at HF
          have hbe : (c.bound != 1) = true := by simp [h4]
          clear h4
          go_wp2_with (first | (go_at_call 39; (with_reducible refine (valid_any _ p W HP.out).mono ?_); rintro e w1 ⟨he, hb1⟩; rw [HV.out] at he; subst he; have HB1 := Lib.hid hb1; have kx1 := fun o => (bcell hb1 _ o HBK.out.lt).trans (HBK.out.cell o); have kc1 := fun o => (bcell hb1 _ o HBC.out.lt).trans (HBC.out.cell o); clear hb1) | (go_at_call 163; (with_reducible refine (isSet_any _ _ p S _ (HP.out.below HB1.out) (HS.out.below HB1.out)).mono ?_); rintro e w2 ⟨he, hb2⟩; rw [HI.out] at he; subst he; have HB2 := Lib.hid (bon HB1.out hb2); have kx2 := fun o => (bcell HB2.out _ o HBK.out.lt).trans (HBK.out.cell o); have kc2 := fun o => (bcell HB2.out _ o HBC.out.lt).trans (HBC.out.cell o); clear hb2) | (go_at_call 30; (with_reducible refine (pbValid_any _ c _ (HC.out.below HB2.out)).mono ?_); rintro e w3 ⟨he, hb3⟩; rw [HPV.out] at he; subst he; have HB3 := Lib.hid (bon HB2.out hb3); have kx3 := fun o => (bcell HB3.out _ o HBK.out.lt).trans (HBK.out.cell o); have kc3 := fun o => (bcell HB3.out _ o HBC.out.lt).trans (HBC.out.cell o); clear hb3))
          go_ret
          exact ⟨ret_bool HF.out.symm, HAL.out.trans (HB3.out.mono HAL.out.size)⟩
  · rw [decide_eq_false hv, Bool.false_and] at HF
    go_wp2_with (go_at_call 39; (with_reducible refine (valid_any _ p W HP.out).mono ?_); rintro e w1 ⟨rfl, hb1⟩; have HB1 := Lib.hid hb1; clear hb1)
    go_ret
    exact ⟨ret_bool HF.out.symm, HAL.out.trans (HB1.out.mono HAL.out.size)⟩
end Go.Proofs.YteblddnoegbalaaGreat
namespace Go.Proofs.YteblddnoegbalaaGreat
def reas2 (u : SU) (a : List Int) : List Int :=
  match (oth u).find? (fun h => offB a (-h)) with
  | some h => [-h]
  | none => u.r.body.filter (fun l => !(intB u.S l || !offB a l))
def reas1 (u : SU) (a : List Int) : List Int :=
  if u.r.sum then reas2 u a
  else match u.r.body.find? (fun l => offB a l) with
    | some l => [l]
    | none => reas2 u a
def reasP (u : SU) (a : List Int) : List Int :=
  if impB u then [] else if offB a u.b then [u.b] else reas1 u a
def reasAll (a : List Int) (l : List SU) : List Int := l.flatMap (fun u => reasP u a)
theorem reasAll_snoc (a : List Int) (l : List SU) (u : SU) : reasAll a (l ++ [u]) = reasAll a l ++ reasP u a := by simp [reasAll]
end Go.Proofs.YteblddnoegbalaaGreat
namespace Go.Proofs.YteblddnoegbalaaGreat
open Go.RowKit
attribute [local go_sem] Oper.semAt_some
def SUok2 (u : SU) : Prop := SUok u ∧ u.r.body.length ≤ 8002
abbrev SupW (w : World) := { x : Value × SU // SupIs w x.1 x.2 ∧ SUok2 x.2 }
def suw {w : World} (l : List (SupW w)) : List SU := l.map (·.1.2)
theorem SupW.form {w : World} (x : SupW w) : ∃ vh vb vw vs, x.1.1 = .agg #[.bool x.1.2.r.choice, vh, .bool x.1.2.r.sum, .int .i64 x.1.2.r.bound, vb, vw, .int .i64 x.1.2.b, vs] ∧ (∃ a n c, vh = .slice a n c) ∧ (∃ a n c, vb = .slice a n c) ∧ (∃ a n c, vw = .slice a n c) ∧ ∃ a n c, vs = .slice a n c := by
  obtain ⟨vh, vb, vw, vs, e, h1, h2, h3⟩ := x.2.1
  obtain ⟨⟨_, _, e1, -⟩, -⟩ := h1.head
  obtain ⟨⟨_, _, e2, -⟩, -⟩ := h1.body
  obtain ⟨⟨_, _, e3, -⟩, -⟩ := h1.wts
  obtain ⟨⟨_, _, e4, -⟩, -⟩ := h2
  exact ⟨_, _, _, _, e, ⟨_, _, _, e1⟩, ⟨_, _, _, e2⟩, ⟨_, _, _, e3⟩, ⟨_, _, _, e4⟩⟩
end Go.Proofs.YteblddnoegbalaaGreat
namespace Go.Proofs.YteblddnoegbalaaGreat
open Go.RowKit
theorem map_ix (m : List Int) (j : Nat) (hj : j < m.length) : (m.map (Value.int .i64))[j]? = some (.int .i64 (ix m j)) := by
  simp [ix, List.getD_eq_getElem?_getD, List.getElem?_eq_getElem hj]
theorem Ints.src {w : World} {x : Value} {m : List Int} (h : Ints w x m) : _root_.Go.Src Tryz.prog 1 23 x m.length (m.map (Value.int .i64)) w := by
  obtain ⟨a, c, rfl, -, -, -, hc⟩ := h.form
  cases m with
  | nil =>
    cases a with
    | none => exact _root_.Go.Src.ofNil w Tryz.underlying23 c
    | some a => exact _root_.Go.Src.ofSlice w Tryz.underlying23 a 0 c [] (by simp) (fun j u hu => by simp at hu) (fun u hu => by simp at hu)
  | cons y m =>
    obtain ⟨b, off, rfl, -, hcc⟩ := hc (by simp)
    refine _root_.Go.Src.ofSlice w Tryz.underlying23 ⟨b, off, none⟩ _ c ((y :: m).map (Value.int .i64)) (by simp) (fun j u hu => ?_) (fun u hu => ?_)
    · have hj : j < (y :: m).length := by have := (List.getElem?_eq_some_iff.1 hu).1; simpa using this
      have hadd : (⟨b, off, none⟩ : Addr).add j = ⟨b, off + j, none⟩ := by unfold Addr.add; split <;> simp_all
      rw [hadd, hcc j hj, ← hu, map_ix _ j hj]
    · obtain ⟨z, -, rfl⟩ := List.mem_map.1 hu
      simp [Value.oneCell']
theorem ix_app (l m : List Int) (i : Nat) : ix (l ++ m) i = if i < l.length then ix l i else ix m (i - l.length) := by
  split
  · rename_i h; simp [ix, List.getElem?_append_left h]
  · rename_i h; simp [ix, List.getElem?_append_right (Nat.le_of_not_lt h)]
theorem Fits.app {l m : List Int} (h : Fits l) (k : Fits m) : Fits (l ++ m) := fun i => by
  rw [ix_app]; split
  · exact h i
  · exact k _
theorem run_appendQs (base : Nat) (T ty : TypeId) (hT : Tryz.prog.underlying T = some (.slice 3)) (hTT : T = 23) (w : World) (v : Value) (l : List Int) (h : QRow base w v l) (x : Value) (m : List Int) (hx : Ints w x m)
    (hlen : (l.length + m.length) * 8 ≤ 140737488351232) (hbase : base ≤ w.heap.size) :
    ∃ v' w', (Builtin.append_ #[T, T] ty #[v, x]).run Tryz.prog w = .ok v' w' ∧ QRow base w' v' (l ++ m) ∧ w.grownBy w' v.ownBlock ∧ (v'.ownBlock = v.ownBlock ∨ v'.ownBlock = some w.heap.size) := by
  subst hTT
  have hi := infoI
  obtain ⟨i, hi, he⟩ := Option.map_eq_some_iff.1 hi
  simp only [Prod.mk.injEq] at he
  obtain ⟨hz, hs, hby⟩ := he
  have hsrc := hx.src
  have hsrc' : _root_.Go.Src Tryz.prog i.size 23 x m.length (m.map (Value.int .i64)) w := by rw [hs]; exact hsrc
  have hfit := h.1.app hx.2
  have zc : ∀ n, (Builtin.zeroCells (Value.int .i64 0).cells n).size = n := fun n => by simp [Builtin.zeroCells, Value.cells]
  have grow : ∀ (cur : Array Value) (cap : Nat), cur.size = cap → cap ≤ maxLen → l.length + m.length ≤ cap → (∀ i, i < l.length → cur[i]? = some (.int .i64 (ix l i))) → (∀ i, i < m.length → cur[l.length + i]? = some (.int .i64 (ix m i))) →
      QRow base (w.drew.alloc (.cells cur 3)) (.slice (some ⟨w.heap.size, 0, none⟩) (l.length + m.length) cap) (l ++ m) ∧ ∀ row, w.grownBy (w.drew.alloc (.cells cur 3)) row := by
    intro cur cap h1 h2 h3 h4 h5
    refine ⟨⟨hfit, .inr ⟨w.heap.size, 0, cap, cur, by simp, hbase, heap_alloc_new w.drew _, by simpa using h3, h2, by omega, fun j hj => ?_⟩⟩, fun row => ⟨rfl, rfl, rfl, by simp, fun k hk _ => Below.heap_alloc w.drew _ _ hk⟩⟩
    simp only [List.length_append] at hj
    rw [ix_app, Nat.zero_add]
    split
    · rename_i hlt; exact h4 j hlt
    · have := h5 (j - l.length) (by omega)
      rw [show l.length + (j - l.length) = j by omega] at this
      exact this
  have growAt : ∀ (b0 : Option Addr) (cap : Nat) (olds : List Value), (Builtin.firstCells i.size l.length (.slice b0 l.length cap)).run Tryz.prog w.drew = .ok olds.toArray w.drew → olds = (List.range l.length).map (fun i => Value.int .i64 (ix l i)) → cap < l.length + m.length →
      ∃ v' w', (Builtin.append_ #[23, 23] ty #[.slice b0 l.length cap, x]).run Tryz.prog w = .ok v' w' ∧ QRow base w' v' (l ++ m) ∧ (∀ row, w.grownBy w' row) ∧ v'.ownBlock = some w.heap.size := by
    intro b0 cap olds hold holds hlt
    have hr := run_append_grow_src (P := Tryz.prog) w 23 23 ty 3 i _ hT hi hz b0 l.length cap olds hold x m.length _ hsrc' hlt (by omega) (growslice_fits hlt (by rw [hby]; omega))
    have hge := grownCap_ge w (l.length + m.length) cap 3
    have hlo : olds.length = l.length := by rw [holds]; simp
    obtain ⟨q1, q2⟩ := grow ((olds ++ m.map (Value.int .i64)).toArray ++ Builtin.zeroCells (Value.int .i64 0).cells (grownCap w (l.length + m.length) cap 3 - (l.length + m.length))) (grownCap w (l.length + m.length) cap 3)
      (by simp only [Array.size_append, List.size_toArray, List.length_append, List.length_map, hlo, zc]; omega) (grownCap_le_maxLen w (l.length + m.length) cap 3 (by unfold maxLen; omega)) hge
      (fun j hj => by
        rw [Array.getElem?_append_left (by simp; omega), List.getElem?_toArray, List.getElem?_append_left (by omega), holds]
        simp [hj])
      (fun j hj => by
        rw [Array.getElem?_append_left (by simp; omega), List.getElem?_toArray, List.getElem?_append_right (by omega), hlo, Nat.add_sub_cancel_left]
        exact map_ix m j hj)
    exact ⟨_, _, hr, q1, q2, rfl⟩
  rcases h.2 with ⟨rfl, rfl⟩ | ⟨g, off, cap, cur, rfl, hbg, hg, hnc, hcm, hcs, hcell⟩
  · cases m with
    | nil =>
      refine ⟨.slice none 0 0, w, ?_, QRow.nil _ _, ⟨rfl, rfl, rfl, Nat.le_refl _, fun _ _ _ => rfl⟩, .inl rfl⟩
      have h0 : (Builtin.firstCells i.size 0 x).run Tryz.prog w = .ok #[] w := hsrc'.cells
      simp [Builtin.append_, run_underlying hT, sizeOf, typeInfo, hi, hsrc'.len, h0]
    | cons y m =>
      obtain ⟨v', w', h1, h2, h3, h4⟩ := growAt none 0 [] (by exact run_firstCells_none (P := Tryz.prog) w.drew i.size 0 0 0) rfl (by simp)
      exact ⟨v', w', h1, h2, h3 _, .inr h4⟩
  · by_cases hroom : l.length + m.length ≤ cap
    · have hst := run_storeCells_at Tryz.prog g (off + l.length) 3 (m.map (Value.int .i64)) 0 cur w hg (by simp only [List.length_map]; omega) (by simp [Value.oneCell'])
      simp only [Nat.add_zero, List.length_map] at hst
      refine ⟨.slice (some ⟨g, off, none⟩) (l.length + m.length) cap, w.setRow g (cur.toList.take (off + l.length) ++ m.map (Value.int .i64) ++ cur.toList.drop (off + l.length + m.length)).toArray, ?_, ⟨hfit, .inr ⟨g, off, cap, (cur.toList.take (off + l.length) ++ m.map (Value.int .i64) ++ cur.toList.drop (off + l.length + m.length)).toArray, by simp, hbg, setRow_heap w g cur _ 3 _ hg, by simpa using hroom, hcm, ?_, fun j hj => ?_⟩⟩, ⟨rfl, rfl, rfl, by simp, fun k _ hk => setRow_other w g k _ (fun e => hk (by simp [Value.ownBlock, e]))⟩, .inl rfl⟩
      · have hadd : (⟨g, off, none⟩ : Addr).add (l.length * i.size) = ⟨g, off + l.length, none⟩ := by rw [hs]; unfold Addr.add; split <;> simp_all
        simp [Builtin.append_, run_underlying hT, sizeOf, typeInfo, hi, hsrc'.len, hroom, hsrc'.cells, hadd, hst]
      · simp only [List.size_toArray, List.length_append, List.length_take, List.length_drop, Array.length_toList, List.length_map]
        omega
      · simp only [List.length_append] at hj
        rw [ix_app]
        split
        · rename_i hlt
          rw [← hcell j hlt]
          simp only [List.getElem?_toArray, List.append_assoc]
          rw [List.getElem?_append_left (by simp; omega), List.getElem?_take_of_lt (by omega)]
          simp
        · simp only [List.getElem?_toArray, List.append_assoc]
          rw [List.getElem?_append_right (by simp; omega)]
          have : min (off + l.length) cur.size = off + l.length := by omega
          simp only [List.length_take, Array.length_toList, this]
          rw [List.getElem?_append_left (by simp; omega), show off + j - (off + l.length) = j - l.length by omega]
          exact map_ix m _ (by omega)
    · have holds : ∀ j u, ((List.range l.length).map (fun i => Value.int .i64 (ix l i)))[j]? = some u → w.drew.cell? ((⟨g, off, none⟩ : Addr).add j) = some u := by
        intro j u hu
        have hadd : (⟨g, off, none⟩ : Addr).add j = ⟨g, off + j, none⟩ := by unfold Addr.add; split <;> simp_all
        have hj : j < l.length := by
          have := (List.getElem?_eq_some_iff.1 hu).1; simpa using this
        rw [hadd]
        show w.cell? _ = _
        rw [cell_of_row w g (off + j) cur 3 (0, 0) hg, hcell j hj]
        simpa [hj] using hu
      obtain ⟨v', w', h1, h2, h3, h4⟩ := growAt (some ⟨g, off, none⟩) cap _ (run_firstCells_some (P := Tryz.prog) w.drew i.size l.length ⟨g, off, none⟩ l.length cap _ (by rw [hs]; simp) holds) rfl (by omega)
      exact ⟨v', w', h1, h2, h3 _, .inr h4⟩
theorem wpList_appendQs {ops : Array Oper} {rest : List Oper} {o : Oper} {a : Act} {w : World} {Q : Exit → Act → World → Prop} (hgd : o.guard = none) (s x : Operand)
    (ho : o.op = .call { callee := .builtin .append, args := #[s, x], argTypes := #[23, 23] }) (base : Nat) (v y : Value) (l m : List Int) (hs : a.eval s = v) (hx : a.eval x = y) (h : QRow base w v l) (hy : Ints w y m)
    (hlen : (l.length + m.length) * 8 ≤ 140737488351232) (hbase : base ≤ w.heap.size)
    (hK : ∀ v' w', QRow base w' v' (l ++ m) → w.grownBy w' v.ownBlock → (v'.ownBlock = v.ownBlock ∨ v'.ownBlock = some w.heap.size) → wpList Tryz.prog ops Q rest (a.put o.dst v') w') : wpList Tryz.prog ops Q (o :: rest) a w :=
  wpList_plain hgd fun _ hK' => by
    obtain ⟨v', w', hr, h2, h3, h4⟩ := run_appendQs base 23 o.type Tryz.underlying23 rfl w v l h y m hy hlen hbase
    unfold Oper.wp execOp
    simp only [ho, resolve, invoke, builtin, Sem.run_bind, Sem.run_pure, Result.andThen_ok, List.map_toArray, List.map_cons, List.map_nil, hs, hx, hr]
    exact hK' _ _ (hK v' w' h2 h3 h4)
theorem QRow.ownR {B : Nat} {w w' : World} {v : Value} {l : List Int} {row : Option Nat} (h : QRow B w v l) (hg : w.grownBy w' row) (hr : ∀ r, row = some r → ∃ o : Obj, w.heap[r]? = some o ∧ o.isCells = false) : QRow B w' v l := by
  rcases h.2 with ⟨rfl, e⟩ | ⟨g, off, cap, cur, rfl, hb, hgg, h1, h2, h3, h4⟩
  · exact ⟨h.1, .inl ⟨rfl, e⟩⟩
  · refine h.kept fun i _ hi e => hg.block i hi fun e2 => ?_
    simp only [Value.ownBlock, Option.some.injEq] at e
    subst e
    obtain ⟨o, ho, hc⟩ := hr _ e2.symm
    rw [hgg] at ho
    cases ho
    cases hc
theorem reasP_len (u : SU) (a : List Int) : (reasP u a).length ≤ u.r.body.length + 1 := by
  unfold reasP
  split
  · simp
  · split
    · simp
    · have h2 : (reas2 u a).length ≤ u.r.body.length + 1 := by
        unfold reas2
        split
        · simp
        · have := List.length_filter_le (fun l => !(intB u.S l || !offB a l)) u.r.body
          omega
      unfold reas1
      split
      · exact h2
      · split
        · simp
        · exact h2
def MkI (a : List Int) (x0 : Int) (w1 : World) (n6 : Nat) (sl : List SU) (W : World) : Prop :=
  ∃ v, Blk W (w1.heap.size + 1) [v] 23 ∧ QRow w1.heap.size W v ([x0] ++ reasAll a sl) ∧ Below w1.heap.size w1 W ∧ ([x0] ++ reasAll a sl).length ≤ 1 + 8003 * sl.length ∧ (∀ g, v.ownBlock = some g → g = w1.heap.size ∨ n6 ≤ g) ∧ n6 ≤ W.heap.size
theorem MkI.ownR {B n6 : Nat} {a : List Int} {x0 : Int} {w1 : World} (hB : w1.heap.size ≤ B) {wi : World} : OwnFrom B (fun (pre : List (SupW wi)) W => MkI a x0 w1 n6 (suw pre) W) := fun pre X Y row hs hg hrow => by
  have hr : ∀ r, row = some r → ∃ o : Obj, X.heap[r]? = some o ∧ o.isCells = false := fun r e => (hrow r e).2
  obtain ⟨v, h1, h2, h3, h4, h5, h6⟩ := hs
  exact ⟨v, blk_own _ _ _ () X Y row h1 hg hr, h2.ownR hg hr, h3.grown hg h3.size (fun k e => by have := (hrow k e).1; omega), h4, h5, Nat.le_trans h6 hg.size⟩
theorem MkI.on {n6 : Nat} {a : List Int} {x0 : Int} {w1 W W' : World} {sl : List SU} (h : MkI a x0 w1 n6 sl W) (hb : Below W.heap.size W W') : MkI a x0 w1 n6 sl W' :=
  let ⟨v, h1, h2, h3, h4, h5, h6⟩ := h; ⟨v, h1.below hb, h2.below hb, h3.trans (hb.mono h3.size), h4, h5, Nat.le_trans h6 hb.size⟩
theorem MkI.start {a : List Int} {x0 : Int} {w1 W6 : World} (hx : InI x0) (hb6 : Below (w1.heap.size + 1 + 1) ((w1.alloc (.cells #[.int .i64 x0] 3)).alloc (.cells #[.slice (some ⟨w1.heap.size, 0, none⟩) 1 1] 23)) W6) : MkI a x0 w1 W6.heap.size [] W6 := by
  have hb := (Blk.new w1 [.int .i64 x0] 3).alloc (.cells #[.slice (some ⟨w1.heap.size, 0, none⟩) 1 1] 23)
  have hz : ((w1.alloc (.cells #[.int .i64 x0] 3)).alloc (.cells #[.slice (some ⟨w1.heap.size, 0, none⟩) 1 1] 23)).heap.size = w1.heap.size + 1 + 1 := by simp
  rw [← hz] at hb6
  refine ⟨_, (Blk.new2 w1 _ [_] _).below hb6, QRow.below ⟨fitI fun x h => by obtain rfl := List.mem_singleton.1 (by simpa [reasAll] using h); exact hx, .inr ⟨w1.heap.size, 0, 1, _, by simp [reasAll], Nat.le_refl _, hb, by simp [reasAll], by unfold maxLen; omega, by simp, fun i hi => ?_⟩⟩ hb6, (bal (bal (Below.refl _ _) _) _).trans (hb6.mono (by omega)), by simp [reasAll], fun g e => .inl ?_, Nat.le_refl _⟩
  · simp [reasAll] at hi
    subst hi
    rfl
  · simpa [Value.ownBlock] using e.symm
theorem keeps_row {B base : Nat} {W W' : World} {v : Value} {l : List Int} (hq : QRow base W v l) (hg : W.grownBy W' v.ownBlock) : KeepsFrom B W W' :=
  ⟨hg.size, fun k o _ hk hc => (hg.block k (Array.getElem?_eq_some_iff.1 hk).1 (fun e => by
    rcases hq.2 with ⟨rfl, _⟩ | ⟨g, off, cap, cur, rfl, _, hgg, _⟩
    · cases e
    · obtain rfl : k = g := Option.some.inj e
      rw [hgg] at hk
      cases hk
      cases hc)).trans hk⟩
theorem MkI.push {a : List Int} {x0 : Int} {w1 W2 W3 : World} {n6 : Nat} {sl : List SU} {u : SU} {v v' : Value} (hb : Blk W2 (w1.heap.size + 1) [v] 23) (hq : QRow w1.heap.size W2 v ([x0] ++ reasAll a sl)) (hB : Below w1.heap.size w1 W2) (hlen : ([x0] ++ reasAll a sl).length ≤ 1 + 8003 * sl.length) (hown : ∀ g, v.ownBlock = some g → g = w1.heap.size ∨ n6 ≤ g) (hn : n6 ≤ W2.heap.size)
    (hu : u.r.body.length ≤ 8002) (hq3 : QRow w1.heap.size W3 v' (([x0] ++ reasAll a sl) ++ reasP u a)) (hg : W2.grownBy W3 v.ownBlock) (ho : v'.ownBlock = v.ownBlock ∨ v'.ownBlock = some W2.heap.size) :
    Blk W3 (w1.heap.size + 1) [v] 23 ∧ MkI a x0 w1 n6 (sl ++ [u]) (W3.setCell ⟨w1.heap.size + 1, 0, none⟩ v') ∧ Lim n6 [w1.heap.size, w1.heap.size + 1] W2 (W3.setCell ⟨w1.heap.size + 1, 0, none⟩ v') ∧ KeepsFrom n6 W2 (W3.setCell ⟨w1.heap.size + 1, 0, none⟩ v') := by
  have hb3 : Blk W3 (w1.heap.size + 1) [v] 23 := hb.same (hg.block _ hb.lt (fun e => (hq.far hb (by decide)) e.symm))
  refine ⟨hb3, ⟨v', by simpa using hb3.set 0 v', ?_, (hB.grown hg hB.size (fun k e => (hq.base e).1)).setCell (p := ⟨w1.heap.size + 1, 0, none⟩) (by show w1.heap.size ≤ w1.heap.size + 1; omega) _, ?_, fun g e => ?_, by rw [size_set]; exact Nat.le_trans hn hg.size⟩, ?_, (keeps_row hq hg).trans ((KeepsOthers.setCell _ _ _).from _)⟩
  · rw [reasAll_snoc, ← List.append_assoc]
    have hne : v'.ownBlock ≠ some (w1.heap.size + 1) := hq3.far hb3 (by decide)
    exact hq3.kept fun i _ _ e => Below.heap_setCell _ _ _ _ (fun e2 => hne (by rw [e, e2]))
  · rw [reasAll_snoc]
    have := reasP_len u a
    simp only [List.length_append, List.length_cons, List.length_nil] at *
    omega
  · rcases ho with h | h
    · exact hown g (h ▸ e)
    · rw [h] at e
      have := Option.some.inj e
      exact .inr (by omega)
  · refine Lim.trans ⟨hg.os, hg.tape, hg.output, hg.size, fun k hk hs => hg.block k (by omega) (fun e => ?_)⟩ (Lim.setCell _ (.inl (by simp)))
    simp only [List.mem_cons, List.not_mem_nil, or_false, not_or] at hs
    have := hown k e.symm
    omega
end Go.Proofs.YteblddnoegbalaaGreat
