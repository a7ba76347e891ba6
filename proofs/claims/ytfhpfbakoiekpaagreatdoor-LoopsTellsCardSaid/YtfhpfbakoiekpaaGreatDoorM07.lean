/- My texts Lp6, Lp7, Rf27a, Rf26a, merged. -/
import Derived.Test.YtfhpfbakoiekpaaGreatDoorM06
import Derived.RangeFuncNested
import Derived.RangeFuncBound
import Derived.RangeFuncCalls
import Derived.RangeFuncLeaves
import Derived.WalkKit
import Derived.OwnWalkIn
import Derived.TacticsInMore
import Derived.LoopNIn
import Derived.LoopIn
import Derived.Stop.RegionWithIn
import Derived.Test.YtfhpfbakoiekpaaGreatDoorM05

/- loops: support.excluded, with Unfounded's closure: the fourth way, the list of ways. -/
namespace Go.Proofs.YtfhpfbakoiekpaaGreatDoor
open Go.RowKit


section
variable {w : World} {sb fb ab : Nat} {u : SU} {a : List Int}

set_option maxHeartbeats 4000000 in
set_option maxRecDepth 100000 in
theorem ex4_any (h : EnvU w sb fb ab u a) (hok : SUok u) :
    Calls Tryz.prog 130 #[.pointer (some ⟨sb, 0, none⟩), .pointer (some ⟨fb, 0, none⟩)] w fun e w' => e = .returned (.bool (ex4 u a)) ∧ Below w.heap.size w w' := by
  have HE := Lib.hid h
  obtain ⟨vh, vb, vw, vs, h0, hsl, hS, hb⟩ := h.sup
  have kx : ∀ e : Ext w, ∀ o, e.world.cell? ⟨sb, o, none⟩ = [Value.bool u.r.choice, vh, .bool u.r.sum, .int .i64 u.r.bound, vb, vw, .int .i64 u.b, vs][o]? := fun e o => (bcell e.below _ o h0.lt).trans (h0.cell o)
  have ks := h0.cell
  have HSU : Hid (SupIs w (.agg #[.bool u.r.choice, vh, .bool u.r.sum, .int .i64 u.r.bound, vb, vw, .int .i64 u.b, vs]) u) := Lib.hid ⟨_, _, _, _, rfl, hsl, hS, hb⟩
  have HOK := Lib.hid hok
  have hbd := hok.bound
  clear h h0 hsl hS hok
  cases hs : u.r.sum with
  | true =>
    have HF : Hid (ex4 u a = decide (wgt u (fun l => !offB a l) u.r.body.length < u.r.bound)) := Lib.hid (by unfold ex4; rw [hs, Bool.true_and])
    have HSM := Lib.hid hs
    have hwl := wgt_le HOK.out HSM.out (fun l => !offB a l) u.r.body.length (Nat.le_refl _)
    have hsm := (HOK.out.wts HSM.out).2.2 u.r.body.length (by have := (HOK.out.wts HSM.out).1; omega)
    rw [hs] at HSU
    simp only [hs] at kx
    have HW : Hid (∀ e : Ext w, Calls Tryz.prog 117 #[.agg #[.bool u.r.choice, vh, .bool true, .int .i64 u.r.bound, vb, vw, .int .i64 u.b, vs], .func (.func 131) #[] #[.pointer (some ⟨fb, 0, none⟩)]] e.world fun e2 w' => e2 = .returned (.int .i64 (wgt u (fun l => !offB a l) u.r.body.length)) ∧ Below e.world.heap.size e.world w') := Lib.hid (fun e => wgt_not _ u _ (HSU.out.below e.below) HOK.out HSM.out (fun l => !offB a l) _ (fun w' hb' l h1 h2 => (not_in ((HE.out.below e.below).below hb') l ⟨h1, h2⟩).mono fun e w'' ⟨e1, e2⟩ => ⟨e1, e2 ▸ Below.refl _ _⟩))
    clear hs ks
    go_enter Tryz.func130, Tryz.ntmps130
    go_upto_region 1 with fail
    refine wp_region_ext (by kernel_rfl) (by kernel_rfl) ?_
    repeat (go_big_quiet_step ((go_at_call 117; exact Calls.ext_of (HW.out _))))
    refine wpQuiet_nil ?_
    intro w9 hw'
    obtain ⟨e9, he9⟩ := hw'
    have hb9 := e9.below
    rw [← he9] at hb9
    clear he9 e9
    try dsimp only
    go_wp2
    go_ret
    exact ⟨ret_bool HF.out.symm, hb9⟩
  | false =>
    have HF : Hid (ex4 u a = false) := Lib.hid (by unfold ex4; rw [hs, Bool.false_and])
    simp only [hs] at ks
    simp only [hs] at kx
    clear hs ks
    go_enter Tryz.func130, Tryz.ntmps130
    go_upto_region 1 with fail
    refine wp_region_ext (by kernel_rfl) (by kernel_rfl) ?_
    repeat (go_big_quiet_step (fail))
    refine wpQuiet_nil ?_
    intro w9 hw'
    obtain ⟨e9, he9⟩ := hw'
    have hb9 := e9.below
    rw [← he9] at hb9
    clear he9 e9
    try dsimp only
    go_wp2
    go_ret
    exact ⟨ret_bool HF.out.symm, hb9⟩
end

theorem ex5_imp {x : Value} {w : World} {b : Bool} (h : Calls Tryz.prog 80 #[x] w fun e w' => e = .returned (.bool b) ∧ Below w.heap.size w w') :
    Calls Tryz.prog 133 #[.func (.func 80) #[x] #[]] w fun e w' => e = .returned (.bool b) ∧ Below w.heap.size w w' := by
  have H := Lib.hid h
  clear h
  go_enter Tryz.func133, Tryz.ntmps133
  go_wp2_with (go_at_call 80; (with_reducible refine (H.out).mono ?_); rintro e w1 ⟨rfl, hb1⟩; have HB1 := Lib.hid hb1; clear hb1)
  go_ret
  exact ⟨rfl, HB1.out⟩
theorem ex5_1 {x y : Value} {w : World} {b : Bool} (h : Calls Tryz.prog 126 #[x, y] w fun e w' => e = .returned (.bool b) ∧ Below w.heap.size w w') :
    Calls Tryz.prog 133 #[.func (.func 126) #[] #[x, y]] w fun e w' => e = .returned (.bool b) ∧ Below w.heap.size w w' := by
  have H := Lib.hid h
  clear h
  go_enter Tryz.func133, Tryz.ntmps133
  go_wp2_with (go_at_call 126; (with_reducible refine (H.out).mono ?_); rintro e w1 ⟨rfl, hb1⟩; have HB1 := Lib.hid hb1; clear hb1)
  go_ret
  exact ⟨rfl, HB1.out⟩
theorem ex5_2 {x y : Value} {w : World} {b : Bool} (h : Calls Tryz.prog 127 #[x, y] w fun e w' => e = .returned (.bool b) ∧ Below w.heap.size w w') :
    Calls Tryz.prog 133 #[.func (.func 127) #[] #[x, y]] w fun e w' => e = .returned (.bool b) ∧ Below w.heap.size w w' := by
  have H := Lib.hid h
  clear h
  go_enter Tryz.func133, Tryz.ntmps133
  go_wp2_with (go_at_call 127; (with_reducible refine (H.out).mono ?_); rintro e w1 ⟨rfl, hb1⟩; have HB1 := Lib.hid hb1; clear hb1)
  go_ret
  exact ⟨rfl, HB1.out⟩
theorem ex5_3 {x y : Value} {w : World} {b : Bool} (h : Calls Tryz.prog 128 #[x, y] w fun e w' => e = .returned (.bool b) ∧ Below w.heap.size w w') :
    Calls Tryz.prog 133 #[.func (.func 128) #[] #[x, y]] w fun e w' => e = .returned (.bool b) ∧ Below w.heap.size w w' := by
  have H := Lib.hid h
  clear h
  go_enter Tryz.func133, Tryz.ntmps133
  go_wp2_with (go_at_call 128; (with_reducible refine (H.out).mono ?_); rintro e w1 ⟨rfl, hb1⟩; have HB1 := Lib.hid hb1; clear hb1)
  go_ret
  exact ⟨rfl, HB1.out⟩
theorem ex5_4 {x y : Value} {w : World} {b : Bool} (h : Calls Tryz.prog 130 #[x, y] w fun e w' => e = .returned (.bool b) ∧ Below w.heap.size w w') :
    Calls Tryz.prog 133 #[.func (.func 130) #[] #[x, y]] w fun e w' => e = .returned (.bool b) ∧ Below w.heap.size w w' := by
  have H := Lib.hid h
  clear h
  go_enter Tryz.func133, Tryz.ntmps133
  go_wp2_with (go_at_call 130; (with_reducible refine (H.out).mono ?_); rintro e w1 ⟨rfl, hb1⟩; have HB1 := Lib.hid hb1; clear hb1)
  go_ret
  exact ⟨rfl, HB1.out⟩

set_option maxHeartbeats 1000000 in
theorem idxF_any (p n : Nat) (fs : List Value) (w : World) (hn : n ≤ 1000) (h : Blk w p fs 32) (hl : fs.length = n) (g : Nat → Bool)
    (hg : ∀ w', Below w.heap.size w w' → ∀ j, j < n → ∀ v, fs[j]? = some v → Calls Tryz.prog 133 #[v] w' fun e w'' => e = .returned (.bool (g j)) ∧ Below w'.heap.size w' w'') :
    Calls Tryz.prog 152 #[.slice (some ⟨p, 0, none⟩) n n, .func (.func 133) #[] #[]] w fun e w' => ∃ r, e = .returned (.int .i64 r) ∧ IxP n g r ∧ Below w.heap.size w w' := by
  have HG := Lib.hid hg
  have HBK := Lib.hid h
  clear h hg
  go_enter Tryz.func152, Tryz.ntmps152
  go_wp2
  go_loopw [8] (fun i wx => IxR n g w i wx) (fun i _ => n - (intOf i).toNat)
  case atStart => exact ⟨0, by omega, rfl, fun j hj => absurd hj (Nat.not_lt_zero _), Below.refl _ _⟩
  case round =>
    obtain ⟨k, hk, rfl, hall, hb⟩ := hrel
    have HA := Lib.hid hall
    clear hall
    by_cases hlt : k < n
    · obtain ⟨v, hv⟩ : ∃ v, fs[k]? = some v := ⟨fs[k]'(by omega), List.getElem?_eq_getElem (by omega)⟩
      have hk1 : wr.cell? ⟨p, k, none⟩ = some v := (bcell hb _ _ HBK.out.lt).trans ((HBK.out.cell _).trans hv)
      have HC := Lib.hid (HG.out _ hb k hlt v hv)
      clear hv
      cases g1 : g k with
      | true =>
        have HK : Hid (_ = true) := Lib.hid g1
        rw [g1] at HC
        clear g1
        go_wp2_with (go_at_call 133; refine (HC.out).mono ?_; rintro e w1 ⟨rfl, hb1⟩)
        go_ret
        exact ⟨_, rfl, .inr ⟨k, hlt, rfl, HK.out, HA.out⟩, bon hb hb1⟩
      | false =>
        have HN := Lib.hid (lt_succ_all HA.out g1)
        rw [g1] at HC
        clear g1
        go_wp2_with (go_at_call 133; refine (HC.out).mono ?_; rintro e w1 ⟨rfl, hb1⟩)
        first
          | (go_roundw
             case rel => (exact ⟨k + 1, by omega, by go_num, HN.out, bon hb hb1⟩)
             case measure => (simp [intOf]; omega))
          | (refine ⟨?_, ?_⟩
             · (exact ⟨k + 1, by omega, by go_num, HN.out, bon hb hb1⟩)
             · (simp [intOf]; omega))
    · have HN : Hid (∀ j, j < n → g j = false) := Lib.hid (fun j hj => HA.out j (by omega))
      go_wp2
      go_ret
      exact ⟨_, rfl, .inl ⟨rfl, HN.out⟩, hb⟩

set_option maxHeartbeats 1000000 in
theorem ctnF_any (p n : Nat) (fs : List Value) (w : World) (hn : n ≤ 1000) (h : Blk w p fs 32) (hl : fs.length = n) (g : Nat → Bool)
    (hg : ∀ w', Below w.heap.size w w' → ∀ j, j < n → ∀ v, fs[j]? = some v → Calls Tryz.prog 133 #[v] w' fun e w'' => e = .returned (.bool (g j)) ∧ Below w'.heap.size w' w'') :
    Calls Tryz.prog 132 #[.slice (some ⟨p, 0, none⟩) n n, .func (.func 133) #[] #[]] w fun e w' => e = .returned (.bool (anyR n g)) ∧ Below w.heap.size w w' := by
  have HI := Lib.hid (idxF_any p n fs w hn h hl g hg)
  clear h hg
  go_enter Tryz.func132, Tryz.ntmps132
  go_wp2_with (go_at_call 152; refine (HI.out).mono ?_; rintro e w1 ⟨r, rfl, hr, hb1⟩; have HR := Lib.hid hr; clear hr)
  go_ret
  exact ⟨ret_bool HR.out.any, hb1⟩

/-- Whether the assignment excludes the support. -/
def exc (u : SU) (a : List Int) : Bool := impB u || offB a u.b || ex2 u a || ex3 u a || ex4 u a

def excG (u : SU) (a : List Int) : Nat → Bool
  | 0 => impB u
  | 1 => offB a u.b
  | 2 => ex2 u a
  | 3 => ex3 u a
  | _ => ex4 u a

theorem exc_any (u : SU) (a : List Int) : anyR 5 (excG u a) = exc u a := by
  have e : List.range 5 = [0, 1, 2, 3, 4] := rfl
  unfold anyR
  rw [e]
  simp [excG, exc, Bool.or_assoc]

theorem env_new {w : World} {vh vb vw vs : Value} {u : SU} {ab : Nat} {a : List Int} (h : SupIs w (.agg #[.bool u.r.choice, vh, .bool u.r.sum, .int .i64 u.r.bound, vb, vw, .int .i64 u.b, vs]) u) (ha : InU w ab a) :
    EnvU ((w.alloc (.cells #[.bool u.r.choice, vh, .bool u.r.sum, .int .i64 u.r.bound, vb, vw, .int .i64 u.b, vs] 63)).alloc (.cells #[.func (.func 39) #[] #[.pointer (some ⟨ab, 0, none⟩)]] 73)) w.heap.size (w.heap.size + 1) ab u a ∧
    Below w.heap.size w ((w.alloc (.cells #[.bool u.r.choice, vh, .bool u.r.sum, .int .i64 u.r.bound, vb, vw, .int .i64 u.b, vs] 63)).alloc (.cells #[.func (.func 39) #[] #[.pointer (some ⟨ab, 0, none⟩)]] 73)) := by
  obtain ⟨_, _, _, _, e, hsl, hS, hb⟩ := h
  simp only [Value.agg.injEq, Array.mk.injEq, List.cons.injEq, and_true] at e
  obtain ⟨-, rfl, -, -, rfl, rfl, -, rfl⟩ := e
  have hal := bal (Below.refl w.heap.size w) (.cells #[.bool u.r.choice, vh, .bool u.r.sum, .int .i64 u.r.bound, vb, vw, .int .i64 u.b, vs] 63)
  have hbk := Blk.new w [.bool u.r.choice, vh, .bool u.r.sum, .int .i64 u.r.bound, vb, vw, .int .i64 u.b, vs] 63
  have hsup : SupB _ w.heap.size u := ⟨vh, vb, vw, vs, hbk, hsl.below hal, hS.below hal, hb⟩
  have hz : (w.alloc (.cells #[.bool u.r.choice, vh, .bool u.r.sum, .int .i64 u.r.bound, vb, vw, .int .i64 u.b, vs] 63)).heap.size = w.heap.size + 1 := World.size_alloc ..
  have ha1 := ha.below hal
  generalize w.alloc (.cells #[.bool u.r.choice, vh, .bool u.r.sum, .int .i64 u.r.bound, vb, vw, .int .i64 u.b, vs] 63) = W1 at *
  have hal1 := bal (Below.refl W1.heap.size W1) (.cells #[.func (.func 39) #[] #[.pointer (some ⟨ab, 0, none⟩)]] 73)
  have hb1 := Blk.new W1 [.func (.func 39) #[] #[.pointer (some ⟨ab, 0, none⟩)]] 73
  rw [hz] at hb1
  exact ⟨⟨hsup.below hal1, hb1, ha1.below hal1⟩, hal.trans (hal1.mono (by omega))⟩

theorem ways_any {W : World} {x : Value} {sb fb ab : Nat} {u : SU} {a : List Int} (h : EnvU W sb fb ab u a) (hs : SupIs W x u) (hok : SUok u) :
    Calls Tryz.prog 132 #[.slice (some ⟨W.heap.size, 0, none⟩) 5 5, .func (.func 133) #[] #[]] (W.alloc (.cells #[.func (.func 80) #[x] #[], .func (.func 126) #[] #[.pointer (some ⟨fb, 0, none⟩), .pointer (some ⟨sb, 0, none⟩)], .func (.func 127) #[] #[.pointer (some ⟨sb, 0, none⟩), .pointer (some ⟨fb, 0, none⟩)], .func (.func 128) #[] #[.pointer (some ⟨sb, 0, none⟩), .pointer (some ⟨fb, 0, none⟩)], .func (.func 130) #[] #[.pointer (some ⟨sb, 0, none⟩), .pointer (some ⟨fb, 0, none⟩)]] 32)) fun e w' => e = .returned (.bool (exc u a)) ∧ Below W.heap.size W w' := by
  have hbk := Blk.new W [.func (.func 80) #[x] #[], .func (.func 126) #[] #[.pointer (some ⟨fb, 0, none⟩), .pointer (some ⟨sb, 0, none⟩)], .func (.func 127) #[] #[.pointer (some ⟨sb, 0, none⟩), .pointer (some ⟨fb, 0, none⟩)], .func (.func 128) #[] #[.pointer (some ⟨sb, 0, none⟩), .pointer (some ⟨fb, 0, none⟩)], .func (.func 130) #[] #[.pointer (some ⟨sb, 0, none⟩), .pointer (some ⟨fb, 0, none⟩)]] 32
  have hal := bal (Below.refl W.heap.size W) (.cells #[.func (.func 80) #[x] #[], .func (.func 126) #[] #[.pointer (some ⟨fb, 0, none⟩), .pointer (some ⟨sb, 0, none⟩)], .func (.func 127) #[] #[.pointer (some ⟨sb, 0, none⟩), .pointer (some ⟨fb, 0, none⟩)], .func (.func 128) #[] #[.pointer (some ⟨sb, 0, none⟩), .pointer (some ⟨fb, 0, none⟩)], .func (.func 130) #[] #[.pointer (some ⟨sb, 0, none⟩), .pointer (some ⟨fb, 0, none⟩)]] 32)
  refine (ctnF_any _ 5 _ _ (by omega) hbk rfl (excG u a) fun w' hb' j hj v hv => ?_).mono fun e w' ⟨he, hb'⟩ => ⟨by rw [he, exc_any], hal.trans (hb'.mono hal.size)⟩
  have hbw := hal.trans (hb'.mono hal.size)
  have hE := h.below hbw
  match j, hj, hv with
  | 0, _, hv => cases hv; exact ex5_imp (impossible_any _ _ _ (hs.below hbw) hok)
  | 1, _, hv => cases hv; exact ex5_1 ((ex1_any hE hok).mono fun e w'' ⟨e1, e2⟩ => ⟨e1, e2 ▸ Below.refl _ _⟩)
  | 2, _, hv => cases hv; exact ex5_2 (ex2_any hE hok)
  | 3, _, hv => cases hv; exact ex5_3 (ex3_any hE hok)
  | 4, _, hv => cases hv; exact ex5_4 (ex4_any hE hok)

set_option maxHeartbeats 4000000 in
set_option maxRecDepth 100000 in
theorem excluded_any (v : Value) (u : SU) (ab : Nat) (a : List Int) (w : World) (h : SupIs w v u) (hok : SUok u) (ha : InU w ab a) :
    Calls Tryz.prog 99 #[v, .func (.func 39) #[] #[.pointer (some ⟨ab, 0, none⟩)]] w fun e w' => e = .returned (.bool (exc u a)) ∧ Below w.heap.size w w' := by
  have h0 := h
  obtain ⟨vh, vb, vw, vs, rfl, -, -, -⟩ := h
  obtain ⟨hE, hal⟩ := env_new h0 ha
  have hw := ways_any hE (h0.below hal) hok
  simp only [World.size_alloc] at hw
  have HW := Lib.hid hw
  have HAL := Lib.hid hal
  clear hw hal hE h0 ha hok
  go_enter Tryz.func99, Tryz.ntmps99
  go_upto_region 2 with fail
  go_wp2_with (go_at_call 132; (with_reducible refine HW.out.mono ?_); rintro e w2 ⟨rfl, hb2⟩; have HB2 := Lib.hid hb2; clear hb2)
  go_ret
  exact ⟨rfl, HAL.out.trans (HB2.out.mono (by omega))⟩

end Go.Proofs.YtfhpfbakoiekpaaGreatDoor

/- loops: the iterator supports$1. -/
namespace Go.Proofs.YtfhpfbakoiekpaaGreatDoor
open Go.RowKit
attribute [local go_sem] Oper.semAt_some


set_option maxHeartbeats 1000000 in
theorem sup11_any (S : List Int) (b : Nat) (vs : Value) (x : Int) (w : World) (h : Blk w b [vs] 23) (hS : Ints w vs S) :
    Calls Tryz.prog 78 #[.int .i64 x, .pointer (some ⟨b, 0, none⟩)] w fun e w' => e = .returned (.bool (decide (x ∈ S))) ∧ w = w' := by
  obtain ⟨a4, c4, rfl, -, hl4, -, -⟩ := hS.form
  have k0 := h.cell 0
  have HS := Lib.hid hS
  clear h hS
  go_enter Tryz.func78, Tryz.ntmps78
  go_wp2_with (go_at_call 27; (with_reducible refine (contains_any _ _ x _ HS.out).mono ?_); rintro e w1 ⟨rfl, rfl⟩)
  go_ret
  exact ⟨rfl, rfl⟩

set_option maxHeartbeats 1000000 in
theorem idx_sup (v : Value) (l : List Int) (w : World) (h : Ints w v l) (g : Nat → Bool) (cap : Value)
    (hg : ∀ w', Below w.heap.size w w' → ∀ j, j < l.length → Calls Tryz.prog 78 #[.int .i64 (ix l j), cap] w' fun e w'' => e = .returned (.bool (g j)) ∧ Below w'.heap.size w' w'') :
    Calls Tryz.prog 81 #[v, .func (.func 78) #[] #[cap]] w fun e w' => ∃ r, e = .returned (.int .i64 r) ∧ IxP l.length g r ∧ Below w.heap.size w w' := by
  obtain ⟨a1, c1, rfl, -, hl1, -, hcell⟩ := h.form
  have HG := Lib.hid hg
  clear h hg
  go_enter Tryz.func81, Tryz.ntmps81
  go_wp2
  go_loopw [8] (fun i wx => IxR l.length g w i wx) (fun i _ => l.length - (intOf i).toNat)
  case atStart => exact ⟨0, by omega, rfl, fun j hj => absurd hj (Nat.not_lt_zero _), Below.refl _ _⟩
  case round =>
    obtain ⟨k, hk, rfl, hall, hb⟩ := hrel
    have HA := Lib.hid hall
    clear hall
    by_cases hlt : k < l.length
    · obtain ⟨b, off, rfl, hbl, hc⟩ := hcell (by omega)
      have hk1 := (bcell hb _ _ hbl).trans (hc k hlt)
      clear hc hcell
      cases g1 : g k with
      | true =>
        have HK : Hid (_ = true) := Lib.hid g1
        have HC := Lib.hid (HG.out _ hb k hlt)
        rw [g1] at HC
        clear g1
        go_wp2_with (go_at_call 78; refine (HC.out).mono ?_; rintro e w1 ⟨rfl, hb1⟩)
        go_ret
        exact ⟨_, rfl, .inr ⟨k, hlt, rfl, HK.out, HA.out⟩, bon hb hb1⟩
      | false =>
        have HN := Lib.hid (lt_succ_all HA.out g1)
        have HC := Lib.hid (HG.out _ hb k hlt)
        rw [g1] at HC
        clear g1
        go_wp2_with (go_at_call 78; refine (HC.out).mono ?_; rintro e w1 ⟨rfl, hb1⟩)
        first
          | (go_roundw
             case rel => (exact ⟨k + 1, by omega, by go_num, HN.out, bon hb hb1⟩)
             case measure => (simp [intOf]; omega))
          | (refine ⟨?_, ?_⟩
             · (exact ⟨k + 1, by omega, by go_num, HN.out, bon hb hb1⟩)
             · (simp [intOf]; omega))
    · have HN : Hid (∀ j, j < l.length → g j = false) := Lib.hid (fun j hj => HA.out j (by omega))
      go_wp2
      go_ret
      exact ⟨_, rfl, .inl ⟨rfl, HN.out⟩, hb⟩

set_option maxHeartbeats 1000000 in
theorem ctn_sup (v : Value) (l : List Int) (w : World) (h : Ints w v l) (g : Nat → Bool) (cap : Value)
    (hg : ∀ w', Below w.heap.size w w' → ∀ j, j < l.length → Calls Tryz.prog 78 #[.int .i64 (ix l j), cap] w' fun e w'' => e = .returned (.bool (g j)) ∧ Below w'.heap.size w' w'') :
    Calls Tryz.prog 45 #[v, .func (.func 78) #[] #[cap]] w fun e w' => e = .returned (.bool (anyR l.length g)) ∧ Below w.heap.size w w' := by
  have HI := Lib.hid (idx_sup v l w h g cap hg)
  obtain ⟨a1, c1, rfl, -⟩ := h.form
  clear h hg
  go_enter Tryz.func45, Tryz.ntmps45
  go_wp2_with (go_at_call 81; refine (HI.out).mono ?_; rintro e w1 ⟨r, rfl, hr, hb1⟩; have HR := Lib.hid hr; clear hr)
  go_ret
  exact ⟨ret_bool HR.out.any, hb1⟩

/-- A head of the rule lies in the set. -/
def headIn (S : List Int) (r : GR) : Bool := anyR r.head.length (fun j => decide (ix r.head j ∈ S))

def supAt (p : GP) (S : List Int) (k : Nat) : SU := ⟨ixR p.rules k, bodyI p k, S⟩

/-- The supports among the first k rules. -/
def supsTo (p : GP) (S : List Int) : Nat → List SU
  | 0 => []
  | k + 1 => if headIn S (ixR p.rules k) then supsTo p S k ++ [supAt p S k] else supsTo p S k

theorem supsTo_len (p : GP) (S : List Int) : ∀ k, (supsTo p S k).length ≤ k
  | 0 => by simp [supsTo]
  | k + 1 => by
    have := supsTo_len p S k
    unfold supsTo
    split
    · simp; omega
    · omega

/-- A support as a value of the world in which the program was handed over. -/
abbrev SupV (w : World) := { x : Value × SU // SupIs w x.1 x.2 ∧ SUok x.2 }
def sus {w : World} (l : List (SupV w)) : List SU := l.map (·.1.2)
theorem sus_snoc {w : World} (l : List (SupV w)) (x : SupV w) : sus (l ++ [x]) = sus l ++ [x.1.2] := by simp [sus]
theorem sus_len {w : World} (l : List (SupV w)) : (sus l).length = l.length := by simp [sus]

/-- What the iterator leans on. -/
structure SupSt (wi w : World) (p : GP) (S : List Int) (pb sb : Nat) (vn vs vr vm vset : Value) : Prop where
  below : Below wi.heap.size wi w
  pb : Blk w pb [.int .i64 p.n, vn, vs, vr, vm] 27
  sb : Blk w sb [vset] 23

theorem SupSt.on {wi w w' : World} {p : GP} {S : List Int} {pb sb : Nat} {vn vs vr vm vset : Value} (h : SupSt wi w p S pb sb vn vs vr vm vset) (hb : Below w.heap.size w w') : SupSt wi w' p S pb sb vn vs vr vm vset :=
  ⟨h.below.trans (hb.mono h.below.size), h.pb.below hb, h.sb.below hb⟩

theorem SupSt.lim {wi w0 w w' : World} {p : GP} {S : List Int} {pb sb rb : Nat} {vn vs vr vm vset : Value} (h : SupSt wi w p S pb sb vn vs vr vm vset) (hl : Lim w0.heap.size [rb] w w') (hN : wi.heap.size ≤ w0.heap.size) (hrb : wi.heap.size ≤ rb) (hp : pb < w0.heap.size ∧ pb ≠ rb) (hs : sb < w0.heap.size ∧ sb ≠ rb) : SupSt wi w' p S pb sb vn vs vr vm vset :=
  ⟨h.below.trans ((hl.mono hN (fun i hi _ => hi)).below (fun i hi => by simp only [List.mem_singleton] at hi; omega)), h.pb.same (hl.block _ hp.1 (by simpa using hp.2)), h.sb.same (hl.block _ hs.1 (by simpa using hs.2))⟩

theorem grown_of_below {w w' : World} (h : Below w.heap.size w w') : w.grownBy w' none := ⟨h.os, h.tape, h.output, h.size, fun k hk _ => h.block k hk⟩

theorem AbidesFrom.below {β : Type} {B : Nat} {J : β → World → Prop} (h : AbidesFrom B J) {s : β} {w w' : World} (hs : J s w) (hb : Below w.heap.size w w') : J s w' :=
  h s w w' none hs (grown_of_below hb) (fun r e => by cases e)

end Go.Proofs.YtfhpfbakoiekpaaGreatDoor

/- ostlerref27: internal, Touches, way1, way2, way4, way5. -/
namespace Go.Proofs.YtfhpfbakoiekpaaGreatDoor
open Go.RowKit

def w1B (r : GR) (S : List Int) : Bool := !r.sum && anyR r.body.length (fun j => intB S (ix r.body j))
def w4B (r : GR) (D : List Int) : Bool := !r.sum && anyR r.body.length (fun j => decide (ix r.body j ∈ D))
def w5B (r : GR) (S D : List Int) : Bool := !r.choice && anyR r.head.length (fun j => !decide (ix r.head j ∈ S) && decide (-(ix r.head j) ∈ D))
def w2S (r : GR) (S D : List Int) : Nat → Int
  | 0 => 0
  | k + 1 => w2S r S D k + (if (!intB S (ix r.body k) && !decide (ix r.body k ∈ D)) = true then ix r.w k else 0)
def w2B (r : GR) (S D : List Int) : Bool := r.sum && decide (w2S r S D r.body.length < r.bound)

theorem w2S_bound {r : GR} (h : BodyOk r) (hs : r.sum = true) (S D : List Int) : ∀ k : Nat, k ≤ r.body.length → 0 ≤ w2S r S D k ∧ w2S r S D k ≤ 1048576 * k
  | 0, _ => by simp [w2S]
  | k + 1, hk => by
    have ih := w2S_bound h hs S D k (by omega)
    have hw := h.w hs k (by have := h.wlen hs; omega)
    unfold w2S
    split <;> omega

set_option maxHeartbeats 1000000 in
theorem rint_any (vm : Value) (S : List Int) (x : Int) (w : World) (h : Ints w vm S) :
    Calls Tryz.prog 93 #[vm, .int .i64 x] w fun e w' => e = .returned (.bool (intB S x)) ∧ w = w' := by
  obtain ⟨a1, c1, rfl, -⟩ := h.form
  by_cases hp : 0 < x
  · have HF : Hid (intB S x = decide (x ∈ S)) := Lib.hid (by unfold intB; rw [decide_eq_true hp, Bool.true_and])
    have H := Lib.hid (in_any _ _ _ h x)
    clear h
    go_enter Tryz.func93, Tryz.ntmps93
    go_wp2_with (go_at_call 31; (with_reducible refine (H.out).mono ?_); rintro e w1 ⟨rfl, rfl⟩)
    go_ret
    exact ⟨ret_bool HF.out.symm, rfl⟩
  · have HF : Hid (intB S x = false) := Lib.hid (by unfold intB; rw [decide_eq_false hp, Bool.false_and])
    clear h
    go_enter Tryz.func93, Tryz.ntmps93
    go_wp2
    go_ret
    exact ⟨ret_bool HF.out.symm, rfl⟩


set_option maxHeartbeats 4000000 in
set_option maxRecDepth 100000 in
theorem rtou_any (v vm : Value) (r : GR) (S : List Int) (w : World) (hr : RuleIs w v r) (hm : Ints w vm S) :
    Calls Tryz.prog 33 #[v, vm] w fun e w' => e = .returned (.bool (headIn S r)) ∧ Below w.heap.size w w' := by
  obtain ⟨vh, vb, vw, rfl, hsl⟩ := hr
  obtain ⟨ah, ch, rfl, -, hlh, -, hch⟩ := hsl.head.form
  obtain ⟨ab, cb, rfl, -, hlb, -, hcb⟩ := hsl.body.form
  obtain ⟨aw, cw, rfl, -, hlw, -, hcw⟩ := hsl.wts.form
  have hal := bal (Below.refl w.heap.size w) (.cells #[.bool r.choice, .slice ah r.head.length ch, .bool r.sum, .int .i64 r.bound, .slice ab r.body.length cb, .slice aw r.w.length cw] 54)
  have HAL := Lib.hid hal
  have kq := (Blk.new w [.bool r.choice, .slice ah r.head.length ch, .bool r.sum, .int .i64 r.bound, .slice ab r.body.length cb, .slice aw r.w.length cw] 54).cell
  have hbd := hsl.bound
  unfold InI at hbd
  have HCH : Hid (∀ j, j < r.head.length → ∃ b off, ah = some ⟨b, off, none⟩ ∧ (w.alloc (.cells #[.bool r.choice, .slice ah r.head.length ch, .bool r.sum, .int .i64 r.bound, .slice ab r.body.length cb, .slice aw r.w.length cw] 54)).cell? ⟨b, off + j, none⟩ = some (.int .i64 (ix r.head j))) := Lib.hid (fun j hj => by
    obtain ⟨b, off, e, hl, hc⟩ := hch (by omega)
    exact ⟨b, off, e, (bcell hal _ _ hl).trans (hc j hj)⟩)
  have HM := Lib.hid (hm.below hal)
  obtain ⟨a1, c1, rfl, -⟩ := hm.form
  have HF : Hid (headIn S r = anyR r.head.length (fun j => decide (ix r.head j ∈ S))) := Lib.hid rfl
  clear hsl hm hcb hcw hch hal
  go_enter Tryz.func33, Tryz.ntmps33
  go_upto_region 2 with fail
  generalize w.alloc (.cells #[.bool r.choice, .slice ah r.head.length ch, .bool r.sum, .int .i64 r.bound, .slice ab r.body.length cb, .slice aw r.w.length cw] 54) = W0 at *
  go_loop [5] (fun i => ∃ k : Nat, k ≤ r.head.length ∧ i = .int .i64 k ∧ Hid (∀ j, j < k → decide (ix r.head j ∈ S) = false)) (fun i => r.head.length - (intOf i).toNat)
  case atStart => exact ⟨0, Nat.zero_le _, rfl, Lib.hid (fun j hj => absurd hj (Nat.not_lt_zero _))⟩
  case round =>
    obtain ⟨k, hk, rfl, HA⟩ := hrel
    by_cases hlt : k < r.head.length
    · obtain ⟨b2, o2, rfl, hc1⟩ := HCH.out k hlt
      cases hh : decide (ix r.head k ∈ S) with
      | false =>
        have HG := Lib.hid hh
        have HN := Lib.hid (lt_succ_all HA.out hh)
        clear hh
        go_wp2_with (go_at_call 31; (with_reducible refine (in_any _ S _ HM.out _).mono ?_); rintro e w1 ⟨e1, rfl⟩; rw [HG.out] at e1; subst e1)
        first
          | (go_round
             case rel => (exact ⟨k + 1, by omega, by go_num, HN⟩)
             case measure => (simp [intOf]; omega))
          | (refine ⟨?_, ?_⟩
             · (exact ⟨k + 1, by omega, by go_num, HN⟩)
             · (simp [intOf]; omega))
      | true =>
        have HG := Lib.hid hh
        have HN : Hid (headIn S r = true) := Lib.hid (by rw [HF.out]; exact anyR_true k hlt hh)
        clear hh
        go_wp2_with (go_at_call 31; (with_reducible refine (in_any _ S _ HM.out _).mono ?_); rintro e w1 ⟨e1, rfl⟩; rw [HG.out] at e1; subst e1)
        go_ret
        exact ⟨ret_bool HN.out.symm, HAL.out⟩
    · have HN : Hid (headIn S r = false) := Lib.hid (by rw [HF.out, anyR_false (fun j hj => HA.out j (by omega))])
      go_wp2
      go_ret
      exact ⟨ret_bool HN.out.symm, HAL.out⟩


set_option maxHeartbeats 4000000 in
set_option maxRecDepth 100000 in
theorem rway1_any (v vm : Value) (r : GR) (S : List Int) (w : World) (hr : RuleIs w v r) (hm : Ints w vm S) :
    Calls Tryz.prog 91 #[v, vm] w fun e w' => e = .returned (.bool (w1B r S)) ∧ Below w.heap.size w w' := by
  obtain ⟨vh, vb, vw, rfl, hsl⟩ := hr
  obtain ⟨ah, ch, rfl, -, hlh, -, hch⟩ := hsl.head.form
  obtain ⟨ab, cb, rfl, -, hlb, -, hcb⟩ := hsl.body.form
  obtain ⟨aw, cw, rfl, -, hlw, -, hcw⟩ := hsl.wts.form
  have hal := bal (Below.refl w.heap.size w) (.cells #[.bool r.choice, .slice ah r.head.length ch, .bool r.sum, .int .i64 r.bound, .slice ab r.body.length cb, .slice aw r.w.length cw] 54)
  have HAL := Lib.hid hal
  have kq := (Blk.new w [.bool r.choice, .slice ah r.head.length ch, .bool r.sum, .int .i64 r.bound, .slice ab r.body.length cb, .slice aw r.w.length cw] 54).cell
  have hbd := hsl.bound
  unfold InI at hbd
  have HCB : Hid (∀ j, j < r.body.length → ∃ b off, ab = some ⟨b, off, none⟩ ∧ (w.alloc (.cells #[.bool r.choice, .slice ah r.head.length ch, .bool r.sum, .int .i64 r.bound, .slice ab r.body.length cb, .slice aw r.w.length cw] 54)).cell? ⟨b, off + j, none⟩ = some (.int .i64 (ix r.body j))) := Lib.hid (fun j hj => by
    obtain ⟨b, off, e, hl, hc⟩ := hcb (by omega)
    exact ⟨b, off, e, (bcell hal _ _ hl).trans (hc j hj)⟩)
  have HM := Lib.hid (hm.below hal)
  obtain ⟨a1, c1, rfl, -⟩ := hm.form
  cases hs : r.sum with
  | true =>
    rw [hs] at HAL HM HCB kq
    have HF : Hid (w1B r S = false) := Lib.hid (by unfold w1B; rw [hs]; rfl)
    clear hsl hm hcb hcw hch hal hs
    go_enter Tryz.func91, Tryz.ntmps91
    go_upto_region 2 with fail
    generalize w.alloc (.cells #[.bool r.choice, .slice ah r.head.length ch, .bool true, .int .i64 r.bound, .slice ab r.body.length cb, .slice aw r.w.length cw] 54) = W0 at *
    go_loop [5] (fun i => ∃ k : Nat, k ≤ r.body.length ∧ i = .int .i64 k) (fun i => r.body.length - (intOf i).toNat)
    case atStart => exact ⟨0, Nat.zero_le _, rfl⟩
    case round =>
      obtain ⟨k, hk, rfl⟩ := hrel
      by_cases hlt : k < r.body.length
      · go_wp2
        first
          | (go_round
             case rel => (exact ⟨k + 1, by omega, by go_num⟩)
             case measure => (simp [intOf]; omega))
          | (refine ⟨?_, ?_⟩
             · (exact ⟨k + 1, by omega, by go_num⟩)
             · (simp [intOf]; omega))
      · go_wp2
        go_ret
        exact ⟨ret_bool HF.out.symm, HAL.out⟩
  | false =>
    rw [hs] at HAL HM HCB kq
    have HF : Hid (w1B r S = anyR r.body.length (fun j => intB S (ix r.body j))) := Lib.hid (by unfold w1B; rw [hs]; rfl)
    clear hsl hm hcb hcw hch hal hs
    go_enter Tryz.func91, Tryz.ntmps91
    go_upto_region 2 with fail
    generalize w.alloc (.cells #[.bool r.choice, .slice ah r.head.length ch, .bool false, .int .i64 r.bound, .slice ab r.body.length cb, .slice aw r.w.length cw] 54) = W0 at *
    go_loop [5] (fun i => ∃ k : Nat, k ≤ r.body.length ∧ i = .int .i64 k ∧ Hid (∀ j, j < k → intB S (ix r.body j) = false)) (fun i => r.body.length - (intOf i).toNat)
    case atStart => exact ⟨0, Nat.zero_le _, rfl, Lib.hid (fun j hj => absurd hj (Nat.not_lt_zero _))⟩
    case round =>
      obtain ⟨k, hk, rfl, HA⟩ := hrel
      by_cases hlt : k < r.body.length
      · obtain ⟨b2, o2, rfl, hc1⟩ := HCB.out k hlt
        cases hh : intB S (ix r.body k) with
        | false =>
          have HG := Lib.hid hh
          have HN := Lib.hid (lt_succ_all HA.out hh)
          clear hh
          go_wp2_with (go_at_call 93; (with_reducible refine (rint_any _ S _ _ HM.out).mono ?_); rintro e w1 ⟨e1, rfl⟩; rw [HG.out] at e1; subst e1)
          first
            | (go_round
               case rel => (exact ⟨k + 1, by omega, by go_num, HN⟩)
               case measure => (simp [intOf]; omega))
            | (refine ⟨?_, ?_⟩
               · (exact ⟨k + 1, by omega, by go_num, HN⟩)
               · (simp [intOf]; omega))
        | true =>
          have HG := Lib.hid hh
          have HN : Hid (w1B r S = true) := Lib.hid (by rw [HF.out]; exact anyR_true k hlt hh)
          clear hh
          go_wp2_with (go_at_call 93; (with_reducible refine (rint_any _ S _ _ HM.out).mono ?_); rintro e w1 ⟨e1, rfl⟩; rw [HG.out] at e1; subst e1)
          go_ret
          exact ⟨ret_bool HN.out.symm, HAL.out⟩
      · have HN : Hid (w1B r S = false) := Lib.hid (by rw [HF.out, anyR_false (fun j hj => HA.out j (by omega))])
        go_wp2
        go_ret
        exact ⟨ret_bool HN.out.symm, HAL.out⟩

set_option maxHeartbeats 4000000 in
set_option maxRecDepth 100000 in
theorem rway4_any (v vm : Value) (r : GR) (D : List Int) (w : World) (hr : RuleIs w v r) (hm : Ints w vm D) :
    Calls Tryz.prog 100 #[v, vm] w fun e w' => e = .returned (.bool (w4B r D)) ∧ Below w.heap.size w w' := by
  obtain ⟨vh, vb, vw, rfl, hsl⟩ := hr
  obtain ⟨ah, ch, rfl, -, hlh, -, hch⟩ := hsl.head.form
  obtain ⟨ab, cb, rfl, -, hlb, -, hcb⟩ := hsl.body.form
  obtain ⟨aw, cw, rfl, -, hlw, -, hcw⟩ := hsl.wts.form
  have hal := bal (Below.refl w.heap.size w) (.cells #[.bool r.choice, .slice ah r.head.length ch, .bool r.sum, .int .i64 r.bound, .slice ab r.body.length cb, .slice aw r.w.length cw] 54)
  have HAL := Lib.hid hal
  have kq := (Blk.new w [.bool r.choice, .slice ah r.head.length ch, .bool r.sum, .int .i64 r.bound, .slice ab r.body.length cb, .slice aw r.w.length cw] 54).cell
  have hbd := hsl.bound
  unfold InI at hbd
  have HCB : Hid (∀ j, j < r.body.length → ∃ b off, ab = some ⟨b, off, none⟩ ∧ (w.alloc (.cells #[.bool r.choice, .slice ah r.head.length ch, .bool r.sum, .int .i64 r.bound, .slice ab r.body.length cb, .slice aw r.w.length cw] 54)).cell? ⟨b, off + j, none⟩ = some (.int .i64 (ix r.body j))) := Lib.hid (fun j hj => by
    obtain ⟨b, off, e, hl, hc⟩ := hcb (by omega)
    exact ⟨b, off, e, (bcell hal _ _ hl).trans (hc j hj)⟩)
  have HM := Lib.hid (hm.below hal)
  obtain ⟨a1, c1, rfl, -⟩ := hm.form
  cases hs : r.sum with
  | true =>
    rw [hs] at HAL HM HCB kq
    have HF : Hid (w4B r D = false) := Lib.hid (by unfold w4B; rw [hs]; rfl)
    clear hsl hm hcb hcw hch hal hs
    go_enter Tryz.func100, Tryz.ntmps100
    go_upto_region 2 with fail
    generalize w.alloc (.cells #[.bool r.choice, .slice ah r.head.length ch, .bool true, .int .i64 r.bound, .slice ab r.body.length cb, .slice aw r.w.length cw] 54) = W0 at *
    go_loop [5] (fun i => ∃ k : Nat, k ≤ r.body.length ∧ i = .int .i64 k) (fun i => r.body.length - (intOf i).toNat)
    case atStart => exact ⟨0, Nat.zero_le _, rfl⟩
    case round =>
      obtain ⟨k, hk, rfl⟩ := hrel
      by_cases hlt : k < r.body.length
      · go_wp2
        first
          | (go_round
             case rel => (exact ⟨k + 1, by omega, by go_num⟩)
             case measure => (simp [intOf]; omega))
          | (refine ⟨?_, ?_⟩
             · (exact ⟨k + 1, by omega, by go_num⟩)
             · (simp [intOf]; omega))
      · go_wp2
        go_ret
        exact ⟨ret_bool HF.out.symm, HAL.out⟩
  | false =>
    rw [hs] at HAL HM HCB kq
    have HF : Hid (w4B r D = anyR r.body.length (fun j => decide (ix r.body j ∈ D))) := Lib.hid (by unfold w4B; rw [hs]; rfl)
    clear hsl hm hcb hcw hch hal hs
    go_enter Tryz.func100, Tryz.ntmps100
    go_upto_region 2 with fail
    generalize w.alloc (.cells #[.bool r.choice, .slice ah r.head.length ch, .bool false, .int .i64 r.bound, .slice ab r.body.length cb, .slice aw r.w.length cw] 54) = W0 at *
    go_loop [5] (fun i => ∃ k : Nat, k ≤ r.body.length ∧ i = .int .i64 k ∧ Hid (∀ j, j < k → decide (ix r.body j ∈ D) = false)) (fun i => r.body.length - (intOf i).toNat)
    case atStart => exact ⟨0, Nat.zero_le _, rfl, Lib.hid (fun j hj => absurd hj (Nat.not_lt_zero _))⟩
    case round =>
      obtain ⟨k, hk, rfl, HA⟩ := hrel
      by_cases hlt : k < r.body.length
      · obtain ⟨b2, o2, rfl, hc1⟩ := HCB.out k hlt
        cases hh : decide (ix r.body k ∈ D) with
        | false =>
          have HG := Lib.hid hh
          have HN := Lib.hid (lt_succ_all HA.out hh)
          clear hh
          go_wp2_with (go_at_call 31; (with_reducible refine (in_any _ D _ HM.out _).mono ?_); rintro e w1 ⟨e1, rfl⟩; rw [HG.out] at e1; subst e1)
          first
            | (go_round
               case rel => (exact ⟨k + 1, by omega, by go_num, HN⟩)
               case measure => (simp [intOf]; omega))
            | (refine ⟨?_, ?_⟩
               · (exact ⟨k + 1, by omega, by go_num, HN⟩)
               · (simp [intOf]; omega))
        | true =>
          have HG := Lib.hid hh
          have HN : Hid (w4B r D = true) := Lib.hid (by rw [HF.out]; exact anyR_true k hlt hh)
          clear hh
          go_wp2_with (go_at_call 31; (with_reducible refine (in_any _ D _ HM.out _).mono ?_); rintro e w1 ⟨e1, rfl⟩; rw [HG.out] at e1; subst e1)
          go_ret
          exact ⟨ret_bool HN.out.symm, HAL.out⟩
      · have HN : Hid (w4B r D = false) := Lib.hid (by rw [HF.out, anyR_false (fun j hj => HA.out j (by omega))])
        go_wp2
        go_ret
        exact ⟨ret_bool HN.out.symm, HAL.out⟩

set_option maxHeartbeats 4000000 in
set_option maxRecDepth 100000 in
theorem rway5_any (v vm vd : Value) (r : GR) (S D : List Int) (w : World) (hr : RuleIs w v r) (hm : Ints w vm S) (hd : Ints w vd D) (hneg : ∀ j, j < r.head.length → -9223372036854775808 < ix r.head j) :
    Calls Tryz.prog 101 #[v, vm, vd] w fun e w' => e = .returned (.bool (w5B r S D)) ∧ Below w.heap.size w w' := by
  obtain ⟨vh, vb, vw, rfl, hsl⟩ := hr
  obtain ⟨ah, ch, rfl, -, hlh, -, hch⟩ := hsl.head.form
  obtain ⟨ab, cb, rfl, -, hlb, -, hcb⟩ := hsl.body.form
  obtain ⟨aw, cw, rfl, -, hlw, -, hcw⟩ := hsl.wts.form
  have hal := bal (Below.refl w.heap.size w) (.cells #[.bool r.choice, .slice ah r.head.length ch, .bool r.sum, .int .i64 r.bound, .slice ab r.body.length cb, .slice aw r.w.length cw] 54)
  have HAL := Lib.hid hal
  have kq := (Blk.new w [.bool r.choice, .slice ah r.head.length ch, .bool r.sum, .int .i64 r.bound, .slice ab r.body.length cb, .slice aw r.w.length cw] 54).cell
  have hbd := hsl.bound
  unfold InI at hbd
  have HCH : Hid (∀ j, j < r.head.length → ∃ b off, ah = some ⟨b, off, none⟩ ∧ (w.alloc (.cells #[.bool r.choice, .slice ah r.head.length ch, .bool r.sum, .int .i64 r.bound, .slice ab r.body.length cb, .slice aw r.w.length cw] 54)).cell? ⟨b, off + j, none⟩ = some (.int .i64 (ix r.head j))) := Lib.hid (fun j hj => by
    obtain ⟨b, off, e, hl, hc⟩ := hch (by omega)
    exact ⟨b, off, e, (bcell hal _ _ hl).trans (hc j hj)⟩)
  have HM := Lib.hid (hm.below hal)
  have HD := Lib.hid (hd.below hal)
  obtain ⟨a1, c1, rfl, -⟩ := hm.form
  obtain ⟨a2, c2, rfl, -⟩ := hd.form
  have HNG : Hid (∀ j, j < r.head.length → IntKind.i64.wrap (-(ix r.head j)) = -(ix r.head j)) := Lib.hid (fun j hj => by
    have h1 := hneg j hj
    have h2 := hsl.head.2 j
    unfold InI at h2
    rw [IntKind.wrap_i64]; omega)
  cases hs : r.choice with
  | true =>
    rw [hs] at HAL HM HD HCH kq
    have HF : Hid (w5B r S D = false) := Lib.hid (by unfold w5B; rw [hs]; rfl)
    clear hsl hm hd hcb hcw hch hal hs hneg
    go_enter Tryz.func101, Tryz.ntmps101
    go_upto_region 2 with fail
    generalize w.alloc (.cells #[.bool true, .slice ah r.head.length ch, .bool r.sum, .int .i64 r.bound, .slice ab r.body.length cb, .slice aw r.w.length cw] 54) = W0 at *
    go_loop [7] (fun i => ∃ k : Nat, k ≤ r.head.length ∧ i = .int .i64 k) (fun i => r.head.length - (intOf i).toNat)
    case atStart => exact ⟨0, Nat.zero_le _, rfl⟩
    case round =>
      obtain ⟨k, hk, rfl⟩ := hrel
      by_cases hlt : k < r.head.length
      · go_wp2
        first
          | (go_round
             case rel => (exact ⟨k + 1, by omega, by go_num⟩)
             case measure => (simp [intOf]; omega))
          | (refine ⟨?_, ?_⟩
             · (exact ⟨k + 1, by omega, by go_num⟩)
             · (simp [intOf]; omega))
      · go_wp2
        go_ret
        exact ⟨ret_bool HF.out.symm, HAL.out⟩
  | false =>
    rw [hs] at HAL HM HD HCH kq
    have HF : Hid (w5B r S D = anyR r.head.length (fun j => !decide (ix r.head j ∈ S) && decide (-(ix r.head j) ∈ D))) := Lib.hid (by unfold w5B; rw [hs]; rfl)
    clear hsl hm hd hcb hcw hch hal hs hneg
    go_enter Tryz.func101, Tryz.ntmps101
    go_upto_region 2 with fail
    generalize w.alloc (.cells #[.bool false, .slice ah r.head.length ch, .bool r.sum, .int .i64 r.bound, .slice ab r.body.length cb, .slice aw r.w.length cw] 54) = W0 at *
    go_loop [7] (fun i => ∃ k : Nat, k ≤ r.head.length ∧ i = .int .i64 k ∧ Hid (∀ j, j < k → (!decide (ix r.head j ∈ S) && decide (-(ix r.head j) ∈ D)) = false)) (fun i => r.head.length - (intOf i).toNat)
    case atStart => exact ⟨0, Nat.zero_le _, rfl, Lib.hid (fun j hj => absurd hj (Nat.not_lt_zero _))⟩
    case round =>
      obtain ⟨k, hk, rfl, HA⟩ := hrel
      by_cases hlt : k < r.head.length
      · obtain ⟨b2, o2, rfl, hc1⟩ := HCH.out k hlt
        have hng := HNG.out k hlt
        cases h1 : decide (ix r.head k ∈ S) with
        | true =>
          have HG1 := Lib.hid h1
          have HN := Lib.hid (lt_succ_all HA.out (show (!decide (ix r.head k ∈ S) && decide (-(ix r.head k) ∈ D)) = false by rw [h1]; rfl))
          clear h1
          go_wp2_with (go_at_call 31; (with_reducible refine (in_any _ S _ HM.out _).mono ?_); rintro e w1 ⟨e1, rfl⟩; rw [HG1.out] at e1; subst e1)
          first
            | (go_round
               case rel => (exact ⟨k + 1, by omega, by go_num, HN⟩)
               case measure => (simp [intOf]; omega))
            | (refine ⟨?_, ?_⟩
               · (exact ⟨k + 1, by omega, by go_num, HN⟩)
               · (simp [intOf]; omega))
        | false =>
          have HG1 := Lib.hid h1
          cases h2 : decide (-(ix r.head k) ∈ D) with
          | false =>
            have HG2 := Lib.hid h2
            have HN := Lib.hid (lt_succ_all HA.out (show (!decide (ix r.head k ∈ S) && decide (-(ix r.head k) ∈ D)) = false by rw [h1, h2]; rfl))
            clear h1 h2
            go_wp2_with (first | (go_at_call 31; (with_reducible refine (in_any _ D _ HD.out _).mono ?_); rintro e w1 ⟨e1, rfl⟩; rw [HG2.out] at e1; subst e1) | (go_at_call 31; (with_reducible refine (in_any _ S _ HM.out _).mono ?_); rintro e w1 ⟨e1, rfl⟩; rw [HG1.out] at e1; subst e1))
            first
              | (go_round
                 case rel => (exact ⟨k + 1, by omega, by go_num, HN⟩)
                 case measure => (simp [intOf]; omega))
              | (refine ⟨?_, ?_⟩
                 · (exact ⟨k + 1, by omega, by go_num, HN⟩)
                 · (simp [intOf]; omega))
          | true =>
            have HG2 := Lib.hid h2
            have HN : Hid (w5B r S D = true) := Lib.hid (by rw [HF.out]; exact anyR_true k hlt (by rw [h1, h2]; rfl))
            clear h1 h2
            go_wp2_with (first | (go_at_call 31; (with_reducible refine (in_any _ D _ HD.out _).mono ?_); rintro e w1 ⟨e1, rfl⟩; rw [HG2.out] at e1; subst e1) | (go_at_call 31; (with_reducible refine (in_any _ S _ HM.out _).mono ?_); rintro e w1 ⟨e1, rfl⟩; rw [HG1.out] at e1; subst e1))
            go_ret
            exact ⟨ret_bool HN.out.symm, HAL.out⟩
      · have HN : Hid (w5B r S D = false) := Lib.hid (by rw [HF.out, anyR_false (fun j hj => HA.out j (by omega))])
        go_wp2
        go_ret
        exact ⟨ret_bool HN.out.symm, HAL.out⟩

def W2Rel (r : GR) (S D : List Int) (s i : Value) : Prop := ∃ k : Nat, k ≤ r.body.length ∧ i = .int .i64 k ∧ s = .int .i64 (w2S r S D k)
set_option maxHeartbeats 4000000 in
set_option maxRecDepth 100000 in
theorem rway2_any (v vm vd : Value) (r : GR) (S D : List Int) (w : World) (hr : RuleIs w v r) (hm : Ints w vm S) (hd : Ints w vd D) (hok : BodyOk r) :
    Calls Tryz.prog 92 #[v, vm, vd] w fun e w' => e = .returned (.bool (w2B r S D)) ∧ Below w.heap.size w w' := by
  obtain ⟨vh, vb, vw, rfl, hsl⟩ := hr
  obtain ⟨ah, ch, rfl, -, hlh, -, hch⟩ := hsl.head.form
  obtain ⟨ab, cb, rfl, -, hlb, -, hcb⟩ := hsl.body.form
  obtain ⟨aw, cw, rfl, -, hlw, -, hcw⟩ := hsl.wts.form
  have hal := bal (Below.refl w.heap.size w) (.cells #[.bool r.choice, .slice ah r.head.length ch, .bool r.sum, .int .i64 r.bound, .slice ab r.body.length cb, .slice aw r.w.length cw] 54)
  have HAL := Lib.hid hal
  have kq := (Blk.new w [.bool r.choice, .slice ah r.head.length ch, .bool r.sum, .int .i64 r.bound, .slice ab r.body.length cb, .slice aw r.w.length cw] 54).cell
  have hbd := hsl.bound
  unfold InI at hbd
  have HCB : Hid (∀ j, j < r.body.length → ∃ b off, ab = some ⟨b, off, none⟩ ∧ (w.alloc (.cells #[.bool r.choice, .slice ah r.head.length ch, .bool r.sum, .int .i64 r.bound, .slice ab r.body.length cb, .slice aw r.w.length cw] 54)).cell? ⟨b, off + j, none⟩ = some (.int .i64 (ix r.body j))) := Lib.hid (fun j hj => by
    obtain ⟨b, off, e, hl, hc⟩ := hcb (by omega)
    exact ⟨b, off, e, (bcell hal _ _ hl).trans (hc j hj)⟩)
  have HCW : Hid (∀ j, j < r.w.length → ∃ b off, aw = some ⟨b, off, none⟩ ∧ (w.alloc (.cells #[.bool r.choice, .slice ah r.head.length ch, .bool r.sum, .int .i64 r.bound, .slice ab r.body.length cb, .slice aw r.w.length cw] 54)).cell? ⟨b, off + j, none⟩ = some (.int .i64 (ix r.w j))) := Lib.hid (fun j hj => by
    obtain ⟨b, off, e, hl, hc⟩ := hcw (by omega)
    exact ⟨b, off, e, (bcell hal _ _ hl).trans (hc j hj)⟩)
  have HM := Lib.hid (hm.below hal)
  have HD := Lib.hid (hd.below hal)
  obtain ⟨a1, c1, rfl, -⟩ := hm.form
  obtain ⟨a2, c2, rfl, -⟩ := hd.form
  have hlen := hok.len
  cases hs : r.sum with
  | false =>
    rw [hs] at HAL HM HD HCB HCW kq
    have HF : Hid (w2B r S D = false) := Lib.hid (by unfold w2B; rw [hs]; rfl)
    clear hsl hm hd hcb hcw hch hal hs hok
    go_enter Tryz.func92, Tryz.ntmps92
    go_upto_region 3 with fail
    generalize w.alloc (.cells #[.bool r.choice, .slice ah r.head.length ch, .bool false, .int .i64 r.bound, .slice ab r.body.length cb, .slice aw r.w.length cw] 54) = W0 at *
    go_loop [8] (fun i => ∃ k : Nat, k ≤ r.body.length ∧ i = .int .i64 k) (fun i => r.body.length - (intOf i).toNat)
    case atStart => exact ⟨0, Nat.zero_le _, rfl⟩
    case round =>
      obtain ⟨k, hk, rfl⟩ := hrel
      by_cases hlt : k < r.body.length
      · go_wp2
        first
          | (go_round
             case rel => (exact ⟨k + 1, by omega, by go_num⟩)
             case measure => (simp [intOf]; omega))
          | (refine ⟨?_, ?_⟩
             · (exact ⟨k + 1, by omega, by go_num⟩)
             · (simp [intOf]; omega))
      · go_wp2
        go_ret
        exact ⟨ret_bool HF.out.symm, HAL.out⟩
  | true =>
    rw [hs] at HAL HM HD HCB HCW kq
    have HF : Hid (w2B r S D = decide (w2S r S D r.body.length < r.bound)) := Lib.hid (by unfold w2B; rw [hs]; rfl)
    have HWB : Hid (∀ k, k ≤ r.body.length → 0 ≤ w2S r S D k ∧ w2S r S D k ≤ 1048576 * k) := Lib.hid (fun k hk => w2S_bound hok hs S D k hk)
    have HWL := Lib.hid (hok.wlen hs)
    have HW : Hid (∀ j, j < r.w.length → 0 ≤ ix r.w j ∧ ix r.w j ≤ 1048576) := Lib.hid (hok.w hs)
    clear hsl hm hd hcb hcw hch hal hs hok
    go_enter Tryz.func92, Tryz.ntmps92
    go_upto_region 3 with fail
    generalize w.alloc (.cells #[.bool r.choice, .slice ah r.head.length ch, .bool true, .int .i64 r.bound, .slice ab r.body.length cb, .slice aw r.w.length cw] 54) = W0 at *
    go_loop [7, 8] (fun s i => W2Rel r S D s i) (fun _ i => r.body.length - (intOf i).toNat)
    case atStart => exact ⟨0, Nat.zero_le _, rfl, rfl⟩
    case round =>
      obtain ⟨k, hk, rfl, rfl⟩ := hrel
      have hb1 := HWB.out k hk
      by_cases hlt : k < r.body.length
      · obtain ⟨b2, o2, rfl, hc1⟩ := HCB.out k hlt
        have hlw : k < r.w.length := by rw [HWL.out]; exact hlt
        obtain ⟨b3, o3, rfl, hc2⟩ := HCW.out k hlw
        have hw1 := HW.out k hlw
        have HN : Hid (w2S r S D (k + 1) = w2S r S D k + (if (!intB S (ix r.body k) && !decide (ix r.body k ∈ D)) = true then ix r.w k else 0)) := Lib.hid rfl
        cases h1 : intB S (ix r.body k) with
        | true =>
          rw [h1] at HN
          have HG := Lib.hid h1
          clear h1
          go_wp2_with (go_at_call 93; (with_reducible refine (rint_any _ S _ _ HM.out).mono ?_); rintro e w1 ⟨e1, rfl⟩; rw [HG.out] at e1; subst e1)
          first
            | (go_round
               case rel => (exact ⟨k + 1, hlt, by go_num, by rw [HN.out]; simp⟩)
               case measure => (simp [intOf]; omega))
            | (refine ⟨?_, ?_⟩
               · (exact ⟨k + 1, hlt, by go_num, by rw [HN.out]; simp⟩)
               · (simp [intOf]; omega))
        | false =>
          rw [h1] at HN
          have HG := Lib.hid h1
          clear h1
          cases h2 : decide (ix r.body k ∈ D) with
          | true =>
            rw [h2] at HN
            have HG2 := Lib.hid h2
            clear h2
            go_wp2_with (first | (go_at_call 31; (with_reducible refine (in_any _ D _ HD.out _).mono ?_); rintro e w1 ⟨e1, rfl⟩; rw [HG2.out] at e1; subst e1) | (go_at_call 93; (with_reducible refine (rint_any _ S _ _ HM.out).mono ?_); rintro e w1 ⟨e1, rfl⟩; rw [HG.out] at e1; subst e1))
            first
              | (go_round
                 case rel => (exact ⟨k + 1, hlt, by go_num, by rw [HN.out]; simp⟩)
                 case measure => (simp [intOf]; omega))
              | (refine ⟨?_, ?_⟩
                 · (exact ⟨k + 1, hlt, by go_num, by rw [HN.out]; simp⟩)
                 · (simp [intOf]; omega))
          | false =>
            rw [h2] at HN
            have HG2 := Lib.hid h2
            clear h2
            go_wp2_with (first | (go_at_call 31; (with_reducible refine (in_any _ D _ HD.out _).mono ?_); rintro e w1 ⟨e1, rfl⟩; rw [HG2.out] at e1; subst e1) | (go_at_call 93; (with_reducible refine (rint_any _ S _ _ HM.out).mono ?_); rintro e w1 ⟨e1, rfl⟩; rw [HG.out] at e1; subst e1))
            first
              | (go_round
                 case rel => (exact ⟨k + 1, hlt, by go_num, by rw [HN.out]; simp⟩)
                 case measure => (simp [intOf]; omega))
              | (refine ⟨?_, ?_⟩
                 · (exact ⟨k + 1, hlt, by go_num, by rw [HN.out]; simp⟩)
                 · (simp [intOf]; omega))
      · obtain rfl : k = r.body.length := by omega
        by_cases hlt2 : w2S r S D r.body.length < r.bound
        · have HN : Hid (w2B r S D = true) := Lib.hid (by rw [HF.out, decide_eq_true hlt2])
          go_wp2
          go_ret
          exact ⟨ret_bool HN.out.symm, HAL.out⟩
        · have HN : Hid (w2B r S D = false) := Lib.hid (by rw [HF.out, decide_eq_false hlt2])
          go_wp2
          go_ret
          exact ⟨ret_bool HN.out.symm, HAL.out⟩

end Go.Proofs.YtfhpfbakoiekpaaGreatDoor

/- ostlerref26: True, Body, bit, Set. -/
namespace Go.Proofs.YtfhpfbakoiekpaaGreatDoor
open Go.RowKit

/-! ### Set -/
def RsRel (n : Int) (m : List Int) (c : List Value) (w : World) (i : Value) (wx : World) : Prop :=
  ∃ k : Nat, k ≤ m.length ∧ i = .int .i64 k ∧ (∀ j, j < k → setTo n m j = true) ∧ Blk wx w.heap.size c 27 ∧ Below w.heap.size w wx

set_option maxHeartbeats 4000000 in
set_option maxRecDepth 100000 in
theorem rset_any (v vm : Value) (p : GP) (m : List Int) (w : World) (h : ProgIs w v p) (hm : Ints w vm m) :
    Calls Tryz.prog 65 #[v, vm] w fun e w' => e = .returned (.bool (setQ p.n m)) ∧ Below w.heap.size w w' := by
  obtain ⟨vn, vsh, vr, vmn, rfl, hn, -⟩ := h
  obtain ⟨a1, c1, rfl, -, hl1, -, hcell⟩ := hm.form
  have hal := bal (Below.refl w.heap.size w) (.cells #[.int .i64 p.n, vn, vsh, vr, vmn] 27)
  have HAL := Lib.hid hal
  have HBK := Lib.hid (Blk.new w [.int .i64 p.n, vn, vsh, vr, vmn] 27)
  unfold InI at hn
  clear hal hm
  go_enter Tryz.func65, Tryz.ntmps65
  go_upto_region 2 with fail
  generalize w.alloc (.cells #[.int .i64 p.n, vn, vsh, vr, vmn] 27) = W0 at *
  go_loopw [5] (fun i wx => RsRel p.n m [.int .i64 p.n, vn, vsh, vr, vmn] w i wx) (fun i _ => m.length - (intOf i).toNat)
  case atStart => exact ⟨0, Nat.zero_le _, rfl, fun j hj => absurd hj (Nat.not_lt_zero _), HBK.out, HAL.out⟩
  case round =>
    obtain ⟨k, hk, rfl, hall, hbx, hb⟩ := hrel
    have HA := Lib.hid hall
    have HX := Lib.hid hbx
    have HB := Lib.hid hb
    have HF : Hid (∀ k, k < m.length → setTo p.n m k = false → setQ p.n m = false) := Lib.hid (fun k hk h => by unfold setQ; rw [allR_false k hk h])
    by_cases hlt : k < m.length
    · obtain ⟨b, off, rfl, hbl, hc⟩ := hcell (by omega)
      have hl1' : b < wr.heap.size := Nat.lt_of_lt_of_le hbl hb.size
      have hlx := hbx.lt
      have HCC : Hid (∀ j, j < m.length → ∀ e : Ext wr, e.world.cell? ⟨b, off + j, none⟩ = some (.int .i64 (ix m j))) := Lib.hid (fun j hj e => (bcell e.below _ _ hl1').trans ((bcell hb _ _ hbl).trans (hc j hj)))
      have q1 := HCC.out k hlt
      have q2 : ∀ e : Ext wr, e.world.cell? ⟨w.heap.size, 0, none⟩ = some (.int .i64 p.n) := fun e => (bcell e.below _ _ hlx).trans (hbx.cell 0)
      have HK := Lib.hid (show setTo p.n m k = (decide (1 ≤ ix m k ∧ ix m k ≤ p.n) && (k == 0 || decide (ix m (k - 1) < ix m k))) from rfl)
      have HG : Hid (setTo p.n m k = true → ∀ j, j < k + 1 → setTo p.n m j = true) := Lib.hid (fun h => lt_succ_all HA.out h)
      have HFK : Hid (setTo p.n m k = false → setQ p.n m = false) := Lib.hid (HF.out k hlt)
      clear hc hcell hall hbx hb HF
      by_cases c1 : ix m k < 1
      · have HN := Lib.hid (HFK.out (by rw [HK.out, decide_eq_false (by omega)]; rfl))
        have d1 : decide (ix m k < 1) = true := decide_eq_true c1
        go_wp2
        refine wp_region_ext (by kernel_rfl) (by kernel_rfl) ?_
        repeat (go_big_quiet_step (fail))
        refine wpQuiet_nil ?_
        intro w9 hw'
        obtain ⟨e9, he9⟩ := hw'
        have hb9 := e9.below
        rw [← he9] at hb9
        clear he9 e9
        try dsimp only
        go_wp2
        go_ret
        exact ⟨ret_bool HN.out.symm, bon HB.out hb9⟩
      · have d1 : decide (ix m k < 1) = false := decide_eq_false c1
        by_cases c2 : p.n < ix m k
        · have HN := Lib.hid (HFK.out (by rw [HK.out, decide_eq_false (by omega)]; rfl))
          have d2 : decide (p.n < ix m k) = true := decide_eq_true c2
          go_wp2
          refine wp_region_ext (by kernel_rfl) (by kernel_rfl) ?_
          repeat (go_big_quiet_step (fail))
          refine wpQuiet_nil ?_
          intro w9 hw'
          obtain ⟨e9, he9⟩ := hw'
          have hb9 := e9.below
          rw [← he9] at hb9
          clear he9 e9
          try dsimp only
          go_wp2
          go_ret
          exact ⟨ret_bool HN.out.symm, bon HB.out hb9⟩
        · have d2 : decide (p.n < ix m k) = false := decide_eq_false c2
          by_cases c3 : k = 0
          · subst c3
            have q10 : ∀ e : Ext wr, e.world.cell? ⟨b, off, none⟩ = some (.int .i64 (ix m 0)) := q1
            have HN := Lib.hid (HG.out (by rw [HK.out, decide_eq_true (by omega)]; rfl))
            go_wp2
            refine wp_region_ext (by kernel_rfl) (by kernel_rfl) ?_
            repeat (go_big_quiet_step (fail))
            refine wpQuiet_nil ?_
            intro w9 hw'
            obtain ⟨e9, he9⟩ := hw'
            have hb9 := e9.below
            rw [← he9] at hb9
            clear he9 e9
            try dsimp only
            go_wp2
            first
              | (go_roundw
                 case rel => (exact ⟨1, by omega, by go_num, HN.out, HX.out.below hb9, bon HB.out hb9⟩)
                 case measure => (simp [intOf]; omega))
              | (refine ⟨?_, ?_⟩
                 · (exact ⟨1, by omega, by go_num, HN.out, HX.out.below hb9, bon HB.out hb9⟩)
                 · (simp [intOf]; omega))
          · have c3' : 0 < k := by omega
            have d3 : decide (0 < k) = true := decide_eq_true c3'
            have q0 := HCC.out (k - 1) (by omega)
            by_cases c4 : ix m k ≤ ix m (k - 1)
            · have HN := Lib.hid (HFK.out (by rw [HK.out, show decide (ix m (k - 1) < ix m k) = false from decide_eq_false (by omega), show (k == 0) = false from beq_eq_false_iff_ne.2 c3]; simp))
              have d4 : decide (ix m k ≤ ix m (k - 1)) = true := decide_eq_true c4
              go_wp2
              refine wp_region_ext (by kernel_rfl) (by kernel_rfl) ?_
              repeat (go_big_quiet_step (fail))
              refine wpQuiet_nil ?_
              intro w9 hw'
              obtain ⟨e9, he9⟩ := hw'
              have hb9 := e9.below
              rw [← he9] at hb9
              clear he9 e9
              try dsimp only
              go_wp2
              go_ret
              exact ⟨ret_bool HN.out.symm, bon HB.out hb9⟩
            · have HN := Lib.hid (HG.out (by rw [HK.out, show decide (ix m (k - 1) < ix m k) = true from decide_eq_true (by omega), show decide (1 ≤ ix m k ∧ ix m k ≤ p.n) = true from decide_eq_true (by omega)]; simp))
              have d4 : decide (ix m k ≤ ix m (k - 1)) = false := decide_eq_false c4
              go_wp2
              refine wp_region_ext (by kernel_rfl) (by kernel_rfl) ?_
              repeat (go_big_quiet_step (fail))
              refine wpQuiet_nil ?_
              intro w9 hw'
              obtain ⟨e9, he9⟩ := hw'
              have hb9 := e9.below
              rw [← he9] at hb9
              clear he9 e9
              try dsimp only
              go_wp2
              first
                | (go_roundw
                   case rel => (exact ⟨k + 1, by omega, by go_num, HN.out, HX.out.below hb9, bon HB.out hb9⟩)
                   case measure => (simp [intOf]; omega))
                | (refine ⟨?_, ?_⟩
                   · (exact ⟨k + 1, by omega, by go_num, HN.out, HX.out.below hb9, bon HB.out hb9⟩)
                   · (simp [intOf]; omega))
    · have HN : Hid (setQ p.n m = true) := Lib.hid (by unfold setQ; rw [allR_true (fun j hj => HA.out j (by omega))])
      go_wp2
      go_ret
      exact ⟨ret_bool HN.out.symm, HB.out⟩

/-! ### Body -/
end Go.Proofs.YtfhpfbakoiekpaaGreatDoor
