/- My texts Lv9, Pb2, PbL, merged. -/
import Derived.Test.YtfhikjmddclmgaaGreatDoorM09
import Derived.Test.YtfhikjmddclmgaaGreatDoorM10
import Derived.Shelf.Abstract

/- loops (for Valid; printed by dupv.py): all: a range over the supports. -/
namespace Go.Proofs.YtfhikjmddclmgaaGreatDoor
open Go.RowKit Go.Shelf
attribute [local go_sem] Oper.semAt_some

/-- Every support of the set is excluded. -/
def allExcV (p : GP) (S a : List Int) : Bool := (supsTo p S p.rules.length).all fun u => excV u a

theorem sus_memV {w : World} {l : List (SupV w)} {p : GP} {S a : List Int} (h : sus l = supsTo p S p.rules.length) : (∀ u ∈ sus l, excV u a = true) → allExcV p S a = true := by
  intro h2
  unfold allExcV
  rw [← h, List.all_eq_true]
  exact h2

theorem sus_someV {w : World} {l : List (SupV w)} {p : GP} {S a : List Int} {k : Nat} (hk : k ≤ p.rules.length) (h : sus l = supsTo p S k) {u : SU} (hu : u ∈ sus l) (he : excV u a = false) : allExcV p S a = false := by
  unfold allExcV
  rw [List.all_eq_false]
  exact ⟨u, supsTo_sub p S _ k hk (h ▸ hu), by simp [he]⟩

set_option maxHeartbeats 4000000 in
set_option maxRecDepth 100000 in
theorem all_anyV (p : GP) (S a : List Int) (ab : Nat) (v vset : Value) (w : World) (hP : ProgIs w v p) (hS : Ints w vset S) (ha : InV w ab a) (hok : ∀ k, k < p.rules.length → SUok (supAt p S k)) :
    Calls Tryz.prog 37 #[v, vset, .func (.func 43) #[] #[.pointer (some ⟨ab, 0, none⟩)]] w fun e w' => e = .returned (.bool (allExcV p S a)) ∧ Below w.heap.size w w' := by
  have hP0 := Lib.hid hP
  obtain ⟨vn, vs, vr, vm, rfl, hPS⟩ := hP
  obtain ⟨a1, c1, rfl, -, hl1, -, -⟩ := hPS.rules.form
  obtain ⟨a4, c4, rfl, -, hl4, -, -⟩ := hS.form
  have HS := Lib.hid hS
  have HA := Lib.hid ha
  have HOK := Lib.hid hok
  clear hPS hS ha hok
  refine (callsIn_wide (n := 6)).1 ?_
  refine callsIn_of_wp_marks Tryz.func37 rfl trivial ?_ rfl
  simp only [Tryz.ntmps37, List.size_toArray, List.length_cons, List.length_nil, Nat.reduceAdd, Nat.reduceSub, Array.replicate_succ, Array.replicate_zero, List.push_toArray, List.append_toArray, List.nil_append, List.cons_append]
  have bI := (Blk.new2 w (.cells #[.int .i64 p.n, vn, vs, .slice a1 p.rules.length c1, vm] 27) [.func (.func 43) #[] #[.pointer (some ⟨ab, 0, none⟩)]] 77).alloc (.cells #[.bool false] 4)
  have bR := Blk.new ((w.alloc (.cells #[.int .i64 p.n, vn, vs, .slice a1 p.rules.length c1, vm] 27)).alloc (.cells #[.func (.func 43) #[] #[.pointer (some ⟨ab, 0, none⟩)]] 77)) [.bool false] 4
  have hb0 : Below w.heap.size w (((w.alloc (.cells #[.int .i64 p.n, vn, vs, .slice a1 p.rules.length c1, vm] 27)).alloc (.cells #[.func (.func 43) #[] #[.pointer (some ⟨ab, 0, none⟩)]] 77)).alloc (.cells #[.bool false] 4)) := bal (bal (bal (Below.refl _ _) _) _) _
  have BI := Lib.hid bI
  have BR := Lib.hid bR
  have HB0 := Lib.hid hb0
  clear bI bR hb0
  gi_wp2_with (refine ⟨trivial, ?_⟩; gi_at_call 29; refine (callsIn_wide.2 (supports_any _ _ _ _ _ _ _ _ _ _ _)).mono ?_; rintro e w1 ⟨rfl, hb1, hp1, hs1⟩)
  have bI := BI.out.below hb1
  have bR := BR.out.below hb1
  have hbw : Below w.heap.size w w1 := bon HB0.out hb1
  simp only [World.size_alloc] at hp1 hs1 bR
  clear hb1 BI BR HB0
  have hz := hs1.lt
  refine wpIn_rangeFunc_ownH rfl (by omega) (gf := 67) (lb := #[.pointer (some ⟨w.heap.size + 1 + 1 + 1, 0, none⟩), .pointer (some ⟨w.heap.size + 1 + 1 + 1 + 1, 0, none⟩)]) rfl trivial (enters_of Tryz.func67 (by kernel_rfl) rfl)
    (sups_stops p S w w1 vn vs (.slice a1 p.rules.length c1) vm (.slice a4 S.length c4) hP0.out HS.out (w.heap.size + 1 + 1) _ _ ⟨hbw, hp1, hs1⟩ (by omega) ⟨by omega, by omega⟩ HOK.out 5 (by omega))
    (fun h k => h.trans k) (fun W l o o' hl h hc hw => .of_below (belowK_b (w := w1) (Nat.le_refl _) W l o o' hl h hc hw) (Nat.le_refl _)) (Below.refl _ _) (fun _ => rfl)
    (fun pre W => (∀ u ∈ sus pre, excV u a = true) ∧ Below w1.heap.size w1 W)
    (fun c pre W => (Blk W (w.heap.size + 1 + 1) [.bool false] 4 ∧ (c = .ret ∧ ∃ u ∈ sus pre, excV u a = false)) ∧ Below w.heap.size w W)
    (OwnFrom.and (ownFrom_pure _ _) (ownFrom_below (Nat.le_refl _) (Nat.le_refl _)))
    (fun c => OwnFrom.and (OwnFrom.and (Own.from (blk_own _ _ _) _) (ownFrom_pure _ _)) (ownFrom_below (Nat.le_refl _) (by omega)))
    ⟨by intro u hu; simp [sus] at hu, Below.refl _ _⟩
    (fun x a' W => ∃ Bx vh vb vw vs9, x.1.1 = .agg #[.bool x.1.2.r.choice, vh, .bool x.1.2.r.sum, .int .i64 x.1.2.r.bound, vb, vw, .int .i64 x.1.2.b, vs9] ∧ Blk W Bx [.bool x.1.2.r.choice, vh, .bool x.1.2.r.sum, .int .i64 x.1.2.r.bound, vb, vw, .int .i64 x.1.2.b, vs9] 68 ∧ a' = { tmps := #[.agg #[.int .i64 p.n, vn, vs, .slice a1 p.rules.length c1, vm], .slice a4 S.length c4, .func (.func 43) #[] #[.pointer (some ⟨ab, 0, none⟩)], .pointer (some ⟨w.heap.size, 0, none⟩), undef, .pointer (some ⟨w.heap.size + 1, 0, none⟩), .pointer (some ⟨w.heap.size + 1 + 1, 0, none⟩), .pointer (some ⟨Bx, 0, none⟩), .agg #[.int .i64 p.n, vn, vs, .slice a1 p.rules.length c1, vm], .slice a4 S.length c4, .func (.func 67) #[] #[.pointer (some ⟨w.heap.size + 1 + 1 + 1, 0, none⟩), .pointer (some ⟨w.heap.size + 1 + 1 + 1 + 1, 0, none⟩)], x.1.1, undef, undef, undef, undef], defers := [] })
    (fun x a' _ X Y row hs hg hr => by obtain ⟨Bx, vh, vb, vw, vs9, h2, h3, h4⟩ := hs; exact ⟨Bx, vh, vb, vw, vs9, h2, blk_own Bx _ _ () X Y row h3 hg (fun r e => (hr r e).2), h4⟩)
    ?assign ?body ?done ?stop
  case assign =>
    rintro l pre x W K ⟨hall, hB⟩ hK
    obtain ⟨vh, vb, vw, vs9, hx, ⟨x1, x2, x3, rfl⟩, ⟨x4, x5, x6, rfl⟩, ⟨x7, x8, x9, rfl⟩, ⟨y1, y2, y3, rfl⟩⟩ := x.form
    have HX := Lib.hid hx
    have hbn := Blk.new W [.bool x.1.2.r.choice, (.slice x1 x2 x3), .bool x.1.2.r.sum, .int .i64 x.1.2.r.bound, (.slice x4 x5 x6), (.slice x7 x8 x9), .int .i64 x.1.2.b, (.slice y1 y2 y3)] 68
    have HBN := Lib.hid hbn
    dsimp only
    rw [hx]
    clear hx hbn
    gi_wp2
    exact hK _ _ ((KeepsOthers.alloc _ _).from _) (.of_below (bal (Below.refl _ _) _) hB.size) ⟨hall, hB.alloc hB.size _⟩ ⟨W.heap.size, _, _, _, _, HX.out, HBN.out, by rw [HX.out]⟩
  case body =>
    rintro l pre x a' W hl ⟨r, hr⟩ ⟨hall, hB⟩ ⟨Bx, vh, vb, vw, vs9, hx, bX, rfl⟩ hlt
    have kx := bX.cell
    have ki := (bI.below hB).cell 0
    have bRW := bR.below hB
    have hBw : Below w.heap.size w W := bon hbw hB
    have HE : Hid (Calls Tryz.prog 83 #[.agg #[.bool x.1.2.r.choice, vh, .bool x.1.2.r.sum, .int .i64 x.1.2.r.bound, vb, vw, .int .i64 x.1.2.b, vs9], .func (.func 43) #[] #[.pointer (some ⟨ab, 0, none⟩)]] W fun e w' => e = .returned (.bool (excV x.1.2 a)) ∧ Below W.heap.size W w') := Lib.hid (excluded_anyV _ x.1.2 ab a W (hx ▸ x.2.1.below hBw) x.2.2 (HA.out.below hBw))
    have HBX := Lib.hid hB
    have HBW := Lib.hid hBw
    have HALL := Lib.hid hall
    clear hB hBw hall
    cases he : excV x.1.2 a with
    | true =>
      have HEX : Hid (_ = true) := Lib.hid he
      rw [he] at HE
      clear he
      gi_wp2_with (refine ⟨trivial, ?_⟩; gi_at_call 83; refine (CallsIn.inRound l (callsIn_wide.2 HE.out)).mono ?_; rintro e w2 ⟨rfl, hb2⟩)
      refine ⟨keeps_below hb2, .of_below hb2 HBX.out.size, fun u hu => ?_, bon HBX.out hb2⟩
      rw [sus_snoc] at hu
      rcases List.mem_append.1 hu with h | h
      · exact HALL.out u h
      · obtain rfl := List.mem_singleton.1 h
        exact HEX.out
    | false =>
      have HEX : Hid (_ = false) := Lib.hid he
      rw [he] at HE
      clear he
      gi_wp2_with (refine ⟨trivial, ?_⟩; gi_at_call 83; refine (CallsIn.inRound l (callsIn_wide.2 HE.out)).mono ?_; rintro e w2 ⟨rfl, hb2⟩; have kc := (bRW.below hb2).cell 0; have kf := (bRW.below hb2).free 0)
      exact ⟨(keeps_below hb2).trans ((KeepsOthers.setCell _ _ _).from _), ⟨(bRW.below hb2).set 0 _, rfl, x.1.2, by rw [sus_snoc]; simp, HEX.out⟩, (bon HBW.out hb2).setCell (p := ⟨w.heap.size + 1 + 1, 0, none⟩) (by simp; omega) _⟩
  case done =>
    rintro D xs W hD hS ⟨hall, hB⟩ hK
    have bRW := bR.below hB
    have kc := bRW.cell 0
    have kf := bRW.free 0
    have hBw : Below w.heap.size w W := bon hbw hB
    gi_wp2
    have hK' := (KeepsOthers.setCell W ⟨w.heap.size + 1 + 1, 0, none⟩ (.bool true)).same D _ hK rfl
    refine ⟨by simp, .inl ⟨_, _, rfl, run_takeDeferred hK', ?_⟩⟩
    have hc5 := cell_kept (World.cell?_setCell_same' W ⟨w.heap.size + 1 + 1, 0, none⟩ (.bool true) (by rw [kc]; rfl)) (grownBy_putObj' _ D (.deferred none)) (fun r e => by cases e; exact ⟨_, hK', rfl⟩)
    refine ⟨.bool true, ?_, by rw [sus_memV hS hall], (hBw.setCell (p := ⟨w.heap.size + 1 + 1, 0, none⟩) (by simp; omega) _).trans (belowK_b (w := w) (Nat.le_refl _) _ D _ _ (by omega) hK' rfl rfl)⟩
    simp [results, Tryz.f37, go_sem, hc5]
  case stop =>
    rintro D c pre W hD ⟨k, hk, hS⟩ ⟨⟨bRW, rfl, u, hu, he⟩, hB⟩ hK
    gi_wp2
    refine ⟨by simp, .inl ⟨_, _, rfl, run_takeDeferred hK, ?_⟩⟩
    have hc5 := cell_kept (bRW.cell 0) (grownBy_putObj' _ D (.deferred none)) (fun r e => by cases e; exact ⟨_, hK, rfl⟩)
    refine ⟨.bool false, ?_, by rw [sus_someV hk hS hu he], hB.trans (belowK_b (w := w) (Nat.le_refl _) W D _ _ (by omega) hK rfl rfl)⟩
    simp [results, Tryz.f37, go_sem, hc5]

end Go.Proofs.YtfhikjmddclmgaaGreatDoor

/- pb.Valid: its contract. -/
namespace Go.Proofs.YtfhikjmddclmgaaGreatDoor
open Go.RowKit Go.Shelf
attribute [local go_sem] Oper.semAt_some

theorem keeps_belowP {B : Nat} {W W' : World} (h : Below W.heap.size W W') : KeepsFrom B W W' := ⟨h.size, fun k _ _ hk _ => (h.block k (Array.getElem?_eq_some_iff.1 hk).1).trans hk⟩

theorem blk_ownP {β : Type} (b : Nat) (c : List Value) (t : TypeId) : Own (fun (_ : β) W => Blk W b c t) := fun s X Y row hs hg hrow => by
  have hne : some b ≠ row := fun e' => by
    obtain ⟨_, ho, hc⟩ := hrow b e'.symm
    rw [show X.heap[b]? = _ from hs] at ho
    cases ho
    cases hc
  exact hs.same (hg.block b hs.lt hne)

theorem lim_b {S : List Nat} {w : World} (W : World) (l : Nat) (o o' : Obj) (hl : w.heap.size ≤ l) (h : W.heap[l]? = some o) (hc : o.isCells = false) (hw : o.isWalk = false) : Lim w.heap.size S W (W.putObj l o') :=
  .of_below (belowK_b (w := w) (Nat.le_refl _) W l o o' hl h hc hw) (Nat.le_refl _)

/-- A range over the parts of a constraint. -/
theorem parts_loop {c : PBC} {wi w1 : World} {vl vk : Value} (hL : Ints wi vl c.lits) (hK : Ints wi vk c.coefs) (hlen : c.lits.length = c.coefs.length) {S : List Nat} {cb : Nat}
    (hst : PartSt wi w1 S cb vl vk c.bound) (hS : ∀ s ∈ S, wi.heap.size ≤ s) (hne : cb ∉ S)
    {g : Operand} {ps : Array Tmp} {assign body : Code} {Q : Exit → Act → World → Prop} {a : Act} {n : Nat} (hn : 3 ≤ n)
    (hg : a.eval g = .func (.func 98) #[] #[.pointer (some ⟨cb, 0, none⟩)]) (hps : ps.size = 2)
    (I : List (PV c) → World → Prop) (Ix : Code → List (PV c) → World → Prop) (hI : OwnFrom w1.heap.size I) (hIx : ∀ c', OwnFrom w1.heap.size (Ix c')) (h0 : I [] w1) (a₁ : PV c → Act)
    (hassign : ∀ (l : Nat) (x : PV c) (W : World) (K : Act → World → Prop), K (a₁ x) W →
      assign.wpIn (Fence.wide.inRound l) (n - 1 - 1) Tryz.prog (Exit.then K (fun _ _ _ => False)) { tmps := (ps.zip #[Value.int .i64 x.1.1, .int .i64 x.1.2]).foldl (fun t (p, v) => t.setIfInBounds p v) a.tmps, defers := [] } W)
    (hbody : ∀ (l : Nat) (pre : List (PV c)) (x : PV c) (W : World), I pre W → pre.length < c.lits.length → body.wpIn (Fence.wide.inRound l) (n - 1 - 1) Tryz.prog (ownPostK (Lim w1.heap.size S) I Ix (pre ++ [x]) W) (a₁ x) W)
    (hdone : ∀ (D : Nat) (xs : List (PV c)) (W : World), w1.heap.size ≤ D → pvs xs = c.lits.zip c.coefs → I xs W → W.heap[D]? = some (.deferred (some [])) → Q .normal { a with defers := { target := .collected D, args := #[] } :: a.defers } W)
    (hstop : ∀ (D : Nat) (c' : Code) (pre : List (PV c)) (W : World), w1.heap.size ≤ D → (∃ k, k ≤ c.lits.length ∧ pvs pre = (c.lits.zip c.coefs).take k) → Ix c' pre W → W.heap[D]? = some (.deferred (some [])) → c'.wpIn Fence.wide n Tryz.prog Q { a with defers := { target := .collected D, args := #[] } :: a.defers } W) :
    (Code.rangeFunc g ps assign body).wpIn Fence.wide n Tryz.prog Q a w1 :=
  wpIn_rangeFunc_ownF rfl (by omega) (gf := 98) (lb := #[.pointer (some ⟨cb, 0, none⟩)]) hg trivial (enters_of Tryz.func98 (by kernel_rfl) rfl)
    (parts_stops c wi w1 vl vk hL hK hlen S cb hst hS hne (n - 1) (by omega)) (fun h k => h.trans k) (fun W l o o' hl h hc hw => lim_b W l o o' hl h hc hw) (Below.refl _ _) (fun _ => by rw [hps]; rfl)
    I Ix hI hIx h0 a₁ hassign hbody hdone hstop


/-! ### value -/
/-- 1, -1 or 0 for a true, false or unknown literal. -/
def valI (a : List Int) (l : Int) : Int := if offB a l then -1 else if offB a (-l) then 1 else 0

set_option maxHeartbeats 1000000 in
theorem pvalue_any (va : Value) (a : List Int) (w : World) (h : Bytes8 w va a) (l : Int) (hl0 : l ≠ 0) (hl : -4611686018427387904 ≤ l ∧ l ≤ 4611686018427387904) :
    Calls Tryz.prog 58 #[va, .int .i64 l] w fun e w' => e = .returned (.int .i64 (valI a l)) ∧ w = w' := by
  obtain ⟨⟨ad, cap, rfl, hcap, hmx, -, hc⟩, hb8⟩ := h
  have e8 : a.length < 9223372036854775808 := by unfold maxLen at hmx; omega
  obtain ⟨n, hn1, hln⟩ : ∃ n : Nat, 1 ≤ n ∧ (l = n ∨ l = -(n : Int)) := ⟨l.natAbs, by omega, by omega⟩
  have hneg : - -(n : Int) = n := by omega
  have HP := offB_pos a n hn1
  have HN := offB_neg a n
  by_cases h1 : n ≤ a.length
  · obtain ⟨b0, off0, rfl, hbl, hcc⟩ := hc (by omega)
    have hk : w.cell? ⟨b0, off0 + (n - 1), none⟩ = some (.int .i8 (ix a (n - 1))) := hcc (n - 1) (by omega)
    have hb := hb8 (n - 1)
    rw [decide_eq_true h1, Bool.true_and] at HP HN
    clear hcc hc hb8
    generalize ix a (n - 1) = y at *
    by_cases y0 : y = 0
    · subst y0
      have hp : offB a (n : Int) = false := by rw [HP]; simp
      have hn : offB a (-(n : Int)) = false := by rw [HN]; simp
      clear HP HN
      rcases hln with rfl | rfl
      · have HV : Hid (valI a n = 0) := Lib.hid (by unfold valI; rw [hp, hn]; rfl)
        clear hp hn
        go_enter Tryz.func58, Tryz.ntmps58
        go_wp2_with (go_at_call 53; (with_reducible refine (abs_any _ (by omega) _).mono ?_); rintro e w1 ⟨rfl, rfl⟩)
        go_ret
        exact ⟨ret_int HV.out.symm, rfl⟩
      · have HV : Hid (valI a (-(n : Int)) = 0) := Lib.hid (by unfold valI; rw [hneg, hp, hn]; rfl)
        clear hp hn
        go_enter Tryz.func58, Tryz.ntmps58
        go_wp2_with (go_at_call 53; (with_reducible refine (abs_any _ (by omega) _).mono ?_); rintro e w1 ⟨rfl, rfl⟩)
        go_ret
        exact ⟨ret_int HV.out.symm, rfl⟩
    · have hy0 : (y == 0) = false := by simp; omega
      by_cases hy : 0 < y
      · have hp : offB a (n : Int) = false := by rw [HP, decide_eq_false (show ¬ ¬ 0 < y by omega)]; simp
        have hn : offB a (-(n : Int)) = true := by rw [HN, decide_eq_true hy, decide_eq_true y0]; rfl
        have hyp : decide (0 < y) = true := decide_eq_true hy
        have hnp : decide (0 < n) = true := decide_eq_true (by omega)
        have hnn : decide ((n : Int) < 0) = false := decide_eq_false (by omega)
        clear HP HN y0
        rcases hln with rfl | rfl
        · have HV : Hid (valI a n = 1) := Lib.hid (by unfold valI; rw [hp, hn]; rfl)
          clear hp hn
          go_enter Tryz.func58, Tryz.ntmps58
          go_wp2_with (go_at_call 53; (with_reducible refine (abs_any _ (by omega) _).mono ?_); rintro e w1 ⟨rfl, rfl⟩)
          go_ret
          exact ⟨ret_int HV.out.symm, rfl⟩
        · have HV : Hid (valI a (-(n : Int)) = -1) := Lib.hid (by unfold valI; rw [hn]; rfl)
          clear hp hn
          go_enter Tryz.func58, Tryz.ntmps58
          go_wp2_with (go_at_call 53; (with_reducible refine (abs_any _ (by omega) _).mono ?_); rintro e w1 ⟨rfl, rfl⟩)
          go_ret
          exact ⟨ret_int HV.out.symm, rfl⟩
      · have hp : offB a (n : Int) = true := by rw [HP, decide_eq_true (show ¬ 0 < y by omega), decide_eq_true y0]; rfl
        have hn : offB a (-(n : Int)) = false := by rw [HN, decide_eq_false hy]; simp
        have hyp : decide (0 < y) = false := decide_eq_false hy
        have hnp : decide (0 < n) = true := decide_eq_true (by omega)
        have hnn : decide ((n : Int) < 0) = false := decide_eq_false (by omega)
        clear HP HN y0
        rcases hln with rfl | rfl
        · have HV : Hid (valI a n = -1) := Lib.hid (by unfold valI; rw [hp]; rfl)
          clear hp hn
          go_enter Tryz.func58, Tryz.ntmps58
          go_wp2_with (go_at_call 53; (with_reducible refine (abs_any _ (by omega) _).mono ?_); rintro e w1 ⟨rfl, rfl⟩)
          go_ret
          exact ⟨ret_int HV.out.symm, rfl⟩
        · have HV : Hid (valI a (-(n : Int)) = 1) := Lib.hid (by unfold valI; rw [hneg, hp, hn]; rfl)
          clear hp hn
          go_enter Tryz.func58, Tryz.ntmps58
          go_wp2_with (go_at_call 53; (with_reducible refine (abs_any _ (by omega) _).mono ?_); rintro e w1 ⟨rfl, rfl⟩)
          go_ret
          exact ⟨ret_int HV.out.symm, rfl⟩
  · have hp : offB a (n : Int) = false := by rw [HP, decide_eq_false h1]; simp
    have hn : offB a (-(n : Int)) = false := by rw [HN, decide_eq_false h1]; simp
    have h1' : (a.length : Int) < n := by omega
    clear HP HN
    rcases hln with rfl | rfl
    · have HV : Hid (valI a n = 0) := Lib.hid (by unfold valI; rw [hp, hn]; rfl)
      clear hp hn
      go_enter Tryz.func58, Tryz.ntmps58
      go_wp2_with (go_at_call 53; (with_reducible refine (abs_any _ (by omega) _).mono ?_); rintro e w1 ⟨rfl, rfl⟩)
      go_ret
      exact ⟨ret_int HV.out.symm, rfl⟩
    · have HV : Hid (valI a (-(n : Int)) = 0) := Lib.hid (by unfold valI; rw [hneg, hp, hn]; rfl)
      clear hp hn
      go_enter Tryz.func58, Tryz.ntmps58
      go_wp2_with (go_at_call 53; (with_reducible refine (abs_any _ (by omega) _).mono ?_); rintro e w1 ⟨rfl, rfl⟩)
      go_ret
      exact ⟨ret_int HV.out.symm, rfl⟩

end Go.Proofs.YtfhikjmddclmgaaGreatDoor

/- Pseudo-Boolean constraints: what the normal form says (plain). -/
namespace Go.Proofs.YtfhikjmddclmgaaGreatDoor

/-- The coefficients of the literals for which t holds. -/
def sumW (t : Int → Bool) : List (Int × Int) → Int
  | [] => 0
  | x :: l => (if t x.1 then x.2 else 0) + sumW t l

/-- The coefficients of the first i literals for which t holds. -/
def sumLK (t : Int → Bool) (L K : List Int) : Nat → Int
  | 0 => 0
  | i + 1 => sumLK t L K i + (if t (ix L i) then ix K i else 0)

/-- The constraint is satisfied. -/
def satC (t : Int → Bool) (c : PBC) : Bool := decide (c.bound ≤ sumW t (c.lits.zip c.coefs))

/-- A truth of literals. -/
def Tot (t : Int → Bool) : Prop := ∀ l, l ≠ 0 → t (-l) = !t l

theorem sumW_snoc (t : Int → Bool) : ∀ (l : List (Int × Int)) (x : Int × Int), sumW t (l ++ [x]) = sumW t l + if t x.1 then x.2 else 0
  | [], x => by simp [sumW]
  | y :: l, x => by simp only [List.cons_append, sumW, sumW_snoc t l x]; omega

theorem sumW_zip (t : Int → Bool) (g f : Int → Int) : ∀ V : List Int, sumW t ((V.map g).zip (V.map f)) = sumI (fun v => if t (g v) then f v else 0) V
  | [] => rfl
  | v :: V => by simp only [List.map_cons, List.zip_cons_cons, sumW, sumI, sumW_zip t g f V]

theorem sumI_congr {f g : Int → Int} : ∀ {V : List Int}, (∀ v ∈ V, f v = g v) → sumI f V = sumI g V
  | [], _ => rfl
  | v :: V, h => by
    simp only [sumI]
    rw [h v (.head _), sumI_congr fun u hu => h u (.tail _ hu)]

theorem sumI_add (f g : Int → Int) : ∀ V : List Int, sumI (fun v => f v + g v) V = sumI f V + sumI g V
  | [] => rfl
  | v :: V => by simp only [sumI, sumI_add f g V]; omega

theorem sumI_zero : ∀ V : List Int, sumI (fun _ => 0) V = 0
  | [] => rfl
  | v :: V => by simp only [sumI, sumI_zero V]; omega

theorem sumI_delta (d v0 : Int) : ∀ V : List Int, V.Nodup → v0 ∈ V → sumI (fun v => if v = v0 then d else 0) V = d
  | [], _, h => by cases h
  | v :: V, hn, h => by
    obtain ⟨h1, h2⟩ := List.nodup_cons.1 hn
    simp only [sumI]
    by_cases e : v = v0
    · subst e
      rw [if_pos rfl, sumI_congr (g := fun _ => 0) fun u hu => if_neg (fun e' : u = v => h1 (e' ▸ hu)), sumI_zero]
      omega
    · rw [if_neg e, sumI_delta d v0 V h2 ((List.mem_cons.1 h).resolve_left fun e' => e e'.symm)]
      omega

theorem sumI_filter (f : Int → Int) (p : Int → Bool) : ∀ V : List Int, (∀ v ∈ V, p v = false → f v = 0) → sumI f (V.filter p) = sumI f V
  | [], _ => rfl
  | v :: V, h => by
    have ih := sumI_filter f p V fun u hu => h u (.tail _ hu)
    cases hp : p v with
    | true => rw [List.filter_cons_of_pos hp]; simp only [sumI, ih]
    | false => rw [List.filter_cons_of_neg (by simp [hp])]; simp only [sumI, ih, h v (.head _) hp]; omega

theorem sumI_nonneg {f : Int → Int} : ∀ {V : List Int}, (∀ v ∈ V, 0 ≤ f v) → 0 ≤ sumI f V
  | [], _ => by simp [sumI]
  | v :: V, h => by
    have := sumI_nonneg fun u hu => h u (.tail _ hu)
    have := h v (.head _)
    simp only [sumI]; omega

theorem sumI_le {f g : Int → Int} : ∀ {V : List Int}, (∀ v ∈ V, f v ≤ g v) → sumI f V ≤ sumI g V
  | [], _ => by simp [sumI]
  | v :: V, h => by
    have := sumI_le fun u hu => h u (.tail _ hu)
    have := h v (.head _)
    simp only [sumI]; omega

theorem sumI_mem_le {f : Int → Int} {x : Int} : ∀ {V : List Int}, (∀ v ∈ V, 0 ≤ f v) → x ∈ V → f x ≤ sumI f V
  | [], _, h => by cases h
  | v :: V, h, hx => by
    simp only [sumI]
    rcases List.mem_cons.1 hx with rfl | hx
    · have := sumI_nonneg (V := V) fun u hu => h u (.tail _ hu); omega
    · have := sumI_mem_le (V := V) (fun u hu => h u (.tail _ hu)) hx
      have := h v (.head _)
      omega

/-- Cutting coefficients down to the bound changes nothing. -/
theorem clip_iff {m : Int → Int} {p : Int → Bool} {bd : Int} (hb : 0 < bd) {V : List Int} (hm : ∀ v ∈ V, 0 ≤ m v) :
    bd ≤ sumI (fun v => if p v then minI (m v) bd else 0) V ↔ bd ≤ sumI (fun v => if p v then m v else 0) V := by
  constructor
  · intro h
    refine Int.le_trans h (sumI_le fun v hv => ?_)
    have := hm v hv
    split
    · unfold minI; split <;> omega
    · omega
  · intro h
    by_cases hx : ∃ v ∈ V, p v = true ∧ bd ≤ m v
    · obtain ⟨v, hv, hp, hb2⟩ := hx
      have h1 := sumI_mem_le (f := fun v => if p v then minI (m v) bd else 0) (x := v) (V := V) (fun u hu => by
        have := hm u hu
        show 0 ≤ if p u then minI (m u) bd else 0
        split
        · unfold minI; split <;> omega
        · omega) hv
      simp only [hp, if_true] at h1
      have : minI (m v) bd = bd := by unfold minI; split <;> omega
      omega
    · rw [sumI_congr (g := fun v => if p v then m v else 0) fun v hv => ?_]
      · exact h
      · show (if p v then minI (m v) bd else 0) = if p v then m v else 0
        cases hp : p v with
        | false => rfl
        | true =>
          have : ¬ bd ≤ m v := fun h => hx ⟨v, hv, hp, h⟩
          simp only [if_true]
          unfold minI; rw [if_pos (by omega)]

theorem byTo_succ (L K : List Int) (v : Int) (i : Nat) : byTo L K v (i + 1) = byTo L K v i + (if ix L i = v then ix K i else if ix L i = -v then -ix K i else 0) := rfl

theorem byTo_zero_of {L K : List Int} {v : Int} : ∀ (i : Nat), (∀ j, j < i → ix L j ≠ v ∧ ix L j ≠ -v) → byTo L K v i = 0
  | 0, _ => rfl
  | i + 1, h => by
    rw [byTo_succ]
    have := h i (by omega)
    rw [byTo_zero_of i fun j hj => h j (by omega), if_neg this.1, if_neg this.2]
    omega

/-- The sum over the literals is the sum over the variables. -/
theorem sum_vars {t : Int → Bool} (ht : Tot t) {L K : List Int} {V : List Int} (hn : V.Nodup) (hpos : ∀ v ∈ V, 0 < v) :
    ∀ (i : Nat), (∀ j, j < i → ix L j ≠ 0 ∧ ((ix L j).natAbs : Int) ∈ V) →
      sumLK t L K i = negTo L K i + sumI (fun v => if t v then byTo L K v i else 0) V
  | 0, _ => by
    simp only [sumLK, negTo, byTo]
    rw [sumI_congr (g := fun _ => 0) fun v _ => by simp, sumI_zero]; rfl
  | i + 1, h => by
    have ih := sum_vars (K := K) ht hn hpos i fun j hj => h j (by omega)
    obtain ⟨h1, h2⟩ := h i (by omega)
    have hd := sumI_delta (if t ((ix L i).natAbs : Int) then (if 0 < ix L i then ix K i else -ix K i) else 0) ((ix L i).natAbs : Int) V hn h2
    have hc : sumI (fun v => if t v then byTo L K v (i + 1) else 0) V = sumI (fun v => (if t v then byTo L K v i else 0) + (if v = ((ix L i).natAbs : Int) then (if t ((ix L i).natAbs : Int) then (if 0 < ix L i then ix K i else -ix K i) else 0) else 0)) V := by
      refine sumI_congr fun v hv => ?_
      have hv0 := hpos v hv
      show (if t v then byTo L K v (i + 1) else 0) = _
      rw [byTo_succ]
      by_cases e : v = ((ix L i).natAbs : Int)
      · subst e
        rw [if_pos rfl]
        cases t ((ix L i).natAbs : Int) with
        | false => simp
        | true =>
          simp only [if_true]
          by_cases hp : 0 < ix L i
          · rw [if_pos (show ix L i = ((ix L i).natAbs : Int) by omega), if_pos hp]
          · rw [if_neg (show ¬ ix L i = ((ix L i).natAbs : Int) by omega), if_pos (show ix L i = -((ix L i).natAbs : Int) by omega), if_neg hp]
      · rw [if_neg e, if_neg (show ¬ ix L i = v by omega), if_neg (show ¬ ix L i = -v by omega)]
        simp
    rw [hc, sumI_add, hd]
    unfold sumLK negTo
    rw [ih]
    by_cases hp : 0 < ix L i
    · have e : ((ix L i).natAbs : Int) = ix L i := by omega
      rw [e, if_pos hp, if_neg (show ¬ ix L i < 0 by omega)]
      omega
    · have e : ((ix L i).natAbs : Int) = -ix L i := by omega
      have ht2 := ht (ix L i) h1
      rw [e, if_neg hp, if_pos (show ix L i < 0 by omega), ht2]
      cases t (ix L i) <;> simp <;> omega

theorem sum_lits {t : Int → Bool} (ht : Tot t) {by' : Int → Int} : ∀ {V : List Int}, (∀ v ∈ V, v ≠ 0) →
    sumI (fun v => if t v then by' v else 0) V = sumI (fun v => if t (litOf by' v) then absI (by' v) else 0) V + sumI (fun v => lowI (by' v)) V := by
  intro V hV
  rw [← sumI_add]
  refine sumI_congr fun v hv => ?_
  show (if t v then by' v else 0) = (if t (litOf by' v) then absI (by' v) else 0) + lowI (by' v)
  unfold litOf absI lowI
  by_cases h : by' v < 0
  · simp only [if_pos h]
    rw [ht v (hV v hv)]
    cases t v <;> simp <;> omega
  · simp only [if_neg h]; omega

theorem satC_triv (t : Int → Bool) : satC t ⟨[], [], 0⟩ = true := by simp [satC, sumW]
theorem satC_contra (t : Int → Bool) : satC t ⟨[], [], 1⟩ = false := by simp [satC, sumW]

theorem keys_pos {L : List Int} (h : ∀ j, j < L.length → ix L j ≠ 0) : ∀ v ∈ keysOf L, 0 < v := by
  intro v hv
  obtain ⟨l, hl, rfl⟩ := mem_keys.1 hv
  obtain ⟨j, hj, rfl⟩ := List.mem_iff_getElem.1 hl
  have := h j hj
  have e : ix L j = L[j] := by simp [ix, List.getD_eq_getElem?_getD, List.getElem?_eq_getElem hj]
  rw [e] at this
  omega

theorem ix_get {L : List Int} {j : Nat} (hj : j < L.length) : ix L j = L[j] := by simp [ix, List.getD_eq_getElem?_getD, List.getElem?_eq_getElem hj]

theorem normC_sat {t : Int → Bool} {by' : Int → Int} {V : List Int} {bd : Int} {c : PBC} (h : normC by' V bd = (c, 0)) :
    satC t c = true ↔ bd ≤ sumI (fun v => if t (litOf by' v) then absI (by' v) else 0) V := by
  have hab : ∀ v : Int, 0 ≤ absI (by' v) := fun v => by unfold absI; split <;> omega
  unfold normC at h
  split at h
  · rename_i h0
    cases h
    rw [satC_triv]
    refine ⟨fun _ => ?_, fun _ => rfl⟩
    refine Int.le_trans h0 (sumI_nonneg fun v _ => ?_)
    have := hab v
    show 0 ≤ if _ then _ else (0 : Int)
    split <;> omega
  · rename_i h0
    split at h
    · rename_i h1
      cases h
      rw [satC_contra]
      refine ⟨fun h => (by cases h), fun h => ?_⟩
      exfalso
      have h2 := (clip_iff (m := fun v => absI (by' v)) (p := fun v => t (litOf by' v)) (bd := bd) (by omega) (V := V) (fun v _ => hab v)).2 h
      have h3 := sumI_le (f := fun v => if t (litOf by' v) then minI (absI (by' v)) bd else 0) (g := fun v => minI (absI (by' v)) bd) (V := V) fun v _ => by
        have := hab v
        show (if _ then _ else (0 : Int)) ≤ _
        split
        · omega
        · unfold minI; split <;> omega
      omega
    · split at h
      · cases h
      · cases h
        unfold satC
        rw [decide_eq_true_eq]
        show bd ≤ sumW t ((V.map (litOf by')).zip (V.map fun v => minI (absI (by' v)) bd)) ↔ _
        rw [sumW_zip]
        exact clip_iff (m := fun v => absI (by' v)) (p := fun v => t (litOf by' v)) (by omega) fun v _ => hab v

/-- The normal form says what the inequality says. -/
theorem normP_sat {t : Int → Bool} (ht : Tot t) {L K : List Int} {B : Int} {c : PBC} (h : normP L K B = (c, 0)) : satC t c = true ↔ B ≤ sumLK t L K L.length := by
  unfold normP at h
  split at h
  · cases h
  split at h
  · cases h
  rename_i h1 h2
  have hok : ∀ j, j < L.length → pokAt L K j = true := allR_get (by simpa using h2)
  have hl : ∀ j, j < L.length → ix L j ≠ 0 := fun j hj => by
    have := hok j hj
    unfold pokAt plitB at this
    simp only [Bool.and_eq_true, decide_eq_true_eq] at this
    exact this.1.1
  have hV : ∀ j, j < L.length → ix L j ≠ 0 ∧ ((ix L j).natAbs : Int) ∈ keysOf L := fun j hj => ⟨hl j hj, mem_keys.2 ⟨ix L j, by rw [ix_get hj]; exact List.getElem_mem hj, rfl⟩⟩
  have hs := sum_vars (K := K) ht (sorted_nodup (keys_sorted L)) (keys_pos hl) L.length hV
  have hb := sum_lits ht (by' := fun v => byTo L K v L.length) (V := keysOf L) fun v hv => by have := keys_pos hl v hv; omega
  rw [normC_sat h, sumI_filter]
  · omega
  · intro v _ hv
    have : byTo L K v L.length = 0 := by simpa using hv
    show (if _ then absI (byTo L K v L.length) else (0 : Int)) = 0
    rw [this]; simp [absI]

end Go.Proofs.YtfhikjmddclmgaaGreatDoor
