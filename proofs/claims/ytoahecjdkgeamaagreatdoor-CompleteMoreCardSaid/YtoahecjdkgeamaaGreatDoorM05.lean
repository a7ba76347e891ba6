/- My texts CpP, Mem, LeastP, Red1, Red2, merged. -/
import Derived.Test.YtoahecjdkgeamaaGreatDoorM04
import Derived.Laws.EntriesVeiled

/- The completion of a program (plain): its constraints, and what they say together. -/
namespace Go.Proofs.YtoahecjdkgeamaaGreatDoor

def negL (l : List Int) : List Int := l.map fun x => -x
def restI (r : GR) : Int := 1 - r.bound + sumTo r.w r.w.length
def compH (r : GR) (b : Int) : List PBC :=
  if r.sum then [(normP (r.body ++ [-b]) (r.w ++ [r.bound]) r.bound).1, (normP (negL r.body ++ [b]) (r.w ++ [max (restI r) 0]) (restI r)).1]
  else (r.body.map fun l => (clauseP [-b, l]).1) ++ [(clauseP (negL r.body ++ [b])).1]
def compR (r : GR) (b : Int) : List PBC := compH r b ++ (if r.choice then [] else [(clauseP (r.head ++ [-b])).1])
/-- The body variables of the first k rules with the atom in the head. -/
def supAt' (p : GP) (a : Int) : Nat → List Int
  | 0 => []
  | k + 1 => supAt' p a k ++ (if a ∈ (ixR p.rules k).head then [p.n + 1 + k] else [])
def atomC (p : GP) (a : Int) : PBC := (clauseP (supAt' p a p.rules.length ++ [-a])).1
def compTo (p : GP) : Nat → List PBC
  | 0 => []
  | k + 1 => compTo p k ++ compR (ixR p.rules k) (p.n + 1 + k)
def atomTo (p : GP) : Nat → List PBC
  | 0 => []
  | k + 1 => atomTo p k ++ [atomC p ((k : Int) + 1)]
def compL (p : GP) : List PBC := compTo p p.rules.length ++ atomTo p p.n.toNat

/-! ### Lists -/
theorem negL_len (l : List Int) : (negL l).length = l.length := by simp [negL]

/-! ### The normal form has no error -/
/-! ### A rule -/
/-- A rule as valid programs have it. -/
structure RuleV (r : GR) (n : Int) : Prop where
  rng : 0 ≤ n ∧ n ≤ 4000
  head : ∀ x ∈ r.head, 1 ≤ x ∧ x ≤ n
  body : ∀ x ∈ r.body, x ≠ 0 ∧ -n ≤ x ∧ x ≤ n
  len : r.body.length ≤ 8000 ∧ r.head.length ≤ 8000
  sum : r.sum = true → r.body.length = r.w.length ∧ (∀ j, j < r.w.length → 1 ≤ ix r.w j) ∧ sumTo r.w r.w.length ≤ 1048576 ∧ 0 ≤ r.bound ∧ r.bound ≤ 1048576

theorem sumTo_ge {K : List Int} (h : ∀ j, j < K.length → 1 ≤ ix K j) : ∀ (i : Nat), i ≤ K.length → 0 ≤ sumTo K i ∧ ∀ j, j < i → ix K j ≤ sumTo K i
  | 0, _ => ⟨Int.le_refl _, fun j hj => absurd hj (Nat.not_lt_zero _)⟩
  | i + 1, hi => by
    obtain ⟨h1, h2⟩ := sumTo_ge h i (by omega)
    have h3 := h i (by omega)
    simp only [sumTo]
    refine ⟨by omega, fun j hj => ?_⟩
    by_cases e : j = i
    · subst e; omega
    · have := h2 j (by omega); omega

section
variable {r : GR} {n b : Int}

/-- A body variable. -/
def BVar (n b : Int) : Prop := n < b ∧ b ≤ 60000

end

/-! ### The program -/
theorem supAt_len (p : GP) (a : Int) : ∀ k, (supAt' p a k).length ≤ k
  | 0 => by simp [supAt']
  | k + 1 => by
    have := supAt_len p a k
    rw [supAt', List.length_append]
    split <;> simp <;> omega

structure CompV (p : GP) : Prop where
  n : 0 ≤ p.n ∧ p.n ≤ 4000
  rules : p.rules.length ≤ 40000
  rule : ∀ i, i < p.rules.length → RuleV (ixR p.rules i) p.n

theorem CompV.bvar {p : GP} (h : CompV p) {i : Nat} (hi : i < p.rules.length) : BVar p.n (p.n + 1 + i) := by
  have h1 := h.n
  have h2 := h.rules
  exact ⟨by omega, by omega⟩

/-! ### Normal forms over the variables -/
/-! ### The number of constraints -/
def compN (r : GR) : Nat := (if r.sum then 2 else r.body.length + 1) + (if r.choice then 0 else 1)
def compNs (p : GP) : Nat → Nat
  | 0 => 0
  | k + 1 => compNs p k + compN (ixR p.rules k)

theorem compR_len (r : GR) (b : Int) : (compR r b).length = compN r := by
  unfold compR compH compN
  rw [List.length_append]
  cases r.sum <;> cases r.choice <;> simp
theorem compTo_len (p : GP) : ∀ k, (compTo p k).length = compNs p k
  | 0 => rfl
  | k + 1 => by rw [compTo, List.length_append, compTo_len p k, compR_len, compNs]
theorem atomTo_len (p : GP) : ∀ k, (atomTo p k).length = k
  | 0 => rfl
  | k + 1 => by rw [atomTo, List.length_append, atomTo_len p k]; rfl
end Go.Proofs.YtoahecjdkgeamaaGreatDoor

/- reduct.member: a set of atoms as a map and a closure. -/
namespace Go.Proofs.YtoahecjdkgeamaaGreatDoor
open Go.RowKit

theorem run_makeMapI {P : Program} {t kt et : TypeId} (ht : P.underlying t = some (.map kt et)) (n : Int) (w : World) : (Instr.makeMap t (some (.int .i64 n))).run P w = .ok (.map (some w.heap.size)) (w.alloc (.map #[] 0)) := by
  simp [Instr.makeMap, run_underlying ht, Result.andThen, asInt, asIntOf]

/-- The map of a list's atoms under way. -/
def MemSt (W4 : World) (bm : Nat) (U : List Int) (k : Nat) (wx : World) : Prop :=
  ∃ G, MapIs (Value.int .i64) wx bm (mapI G) ∧ (∀ y, 0 ≤ G y ∧ G y ≤ k ∧ (0 < G y ↔ y ∈ U.take k)) ∧ Below W4.heap.size W4 wx

def MemRel (W4 : World) (bm : Nat) (U : List Int) (i : Value) (wx : World) : Prop := ∃ k : Nat, k ≤ U.length ∧ i = .int .i64 k ∧ MemSt W4 bm U k wx

theorem take_ixM (U : List Int) (k : Nat) (hk : k < U.length) : U.take (k + 1) = U.take k ++ [ix U k] := by
  rw [List.take_succ_eq_append_getElem hk]
  simp [ix, List.getD_eq_getElem?_getD, List.getElem?_eq_getElem hk]

theorem MemSt.start (W4 : World) (U : List Int) : MemSt W4 W4.heap.size U 0 (W4.alloc (.map #[] 0)) := by
  refine ⟨fun _ => 0, ?_, fun y => by simp, bal (Below.refl _ _) _⟩
  have : mapI (fun _ => 0) = fun _ => none := by funext x; simp [mapI]
  rw [this]; exact MapIs.made W4

theorem MemSt.put {W4 wx w7 : World} {U : List Int} {k : Nat} {G : Int → Int} (hG : ∀ y, 0 ≤ G y ∧ G y ≤ k ∧ (0 < G y ↔ y ∈ U.take k)) (hb : Below W4.heap.size W4 wx) (hk : k < U.length)
    (hm : MapIs (Value.int .i64) w7 W4.heap.size (upd (mapI G) (ix U k) (some (.int .i64 (G (ix U k) + 1))))) (hg : wx.grownBy w7 (some W4.heap.size)) : MemSt W4 W4.heap.size U (k + 1) w7 := by
  have hx := hG (ix U k)
  have hsz := hb.size
  refine ⟨setI G (ix U k) (G (ix U k) + 1), by rw [mapI_set (by omega)]; exact hm, fun y => ?_, hb.trans ⟨hg.os, hg.tape, hg.output, hg.size, fun i hi => hg.block i (by omega) (fun e => by have := Option.some.inj e; omega)⟩⟩
  rw [take_ixM U k hk, List.mem_append, List.mem_singleton]
  by_cases e : y = ix U k
  · subst e
    have e2 : setI G (ix U k) (G (ix U k) + 1) (ix U k) = G (ix U k) + 1 := by simp [setI]
    rw [e2]
    exact ⟨by omega, by omega, ⟨fun _ => .inr rfl, fun _ => by omega⟩⟩
  · have e2 : setI G (ix U k) (G (ix U k) + 1) y = G y := by simp [setI, e]
    rw [e2]
    have := hG y
    exact ⟨this.1, by omega, ⟨fun h => .inl (this.2.2.1 h), fun h => this.2.2.2 (h.resolve_right e)⟩⟩

/-- The closure of member: its box holds a map that holds m's atoms. -/
def InM (w : World) (mb : Nat) (m : List Int) : Prop :=
  ∃ b G, Blk w mb [.map (some b)] 79 ∧ MapIs (Value.int .i64) w b (mapI G) ∧ ∀ y, 0 < G y ↔ y ∈ m

theorem InM.below {w w' : World} {mb : Nat} {m : List Int} (h : InM w mb m) (hb : Below w.heap.size w w') : InM w' mb m :=
  let ⟨b, G, h1, h2, h3⟩ := h; ⟨b, G, h1.below hb, h2.below hb, h3⟩
theorem InM.lt {w : World} {mb : Nat} {m : List Int} (h : InM w mb m) : mb < w.heap.size := let ⟨_, _, h1, _⟩ := h; h1.lt

def MbRel (W : World) (m : List Int) (i : Value) (wx : World) : Prop := MemRel W W.heap.size m i wx ∧ Blk wx (W.heap.size + 1) [.map (some W.heap.size)] 79

set_option maxHeartbeats 1000000 in
theorem member_any (v : Value) (m : List Int) (w : World) (h : Ints w v m) (hlen : m.length ≤ 1000000000) :
    Calls Tryz.prog 61 #[v] w fun e w' => ∃ mb, e = .returned (.func (.func 86) #[] #[.pointer (some ⟨mb, 0, none⟩)]) ∧ InM w' mb m ∧ Below w.heap.size w w' := by
  obtain ⟨a1, c1, rfl, -, hl1, -, hcell⟩ := h.form
  clear h
  have hmm := fun n w => run_makeMapI Tryz.underlying79 n w
  go_enter Tryz.func61, Tryz.ntmps61
  go_wp2
  go_loopw [11] (fun i wx => MbRel w m i wx) (fun i _ => m.length - (intOf i).toNat)
  case atStart => exact ⟨⟨0, Nat.zero_le _, rfl, (let ⟨G, h1, h2, h3⟩ := MemSt.start w m; ⟨G, h1.alloc _, h2, bal h3 _⟩)⟩, Blk.newAt _ _ _ (by simp)⟩
  case round =>
    obtain ⟨⟨k, hk, rfl, hst⟩, hbk⟩ := hrel
    obtain ⟨G, hmap, hG, hbl⟩ := hst
    have HBL := Lib.hid hbl
    have HMAP := Lib.hid hmap
    have HG := Lib.hid hG
    have HBK := Lib.hid hbk
    have kb := hbk.cell 0
    by_cases hlt : k < m.length
    · obtain ⟨b, off, rfl, hbl2, hc⟩ := hcell (by omega)
      have hcx : wr.cell? ⟨b, off + k, none⟩ = some (.int .i64 (ix m k)) := (bcell hbl _ _ hbl2).trans (hc k hlt)
      have hlk := mapI_look hmap (ix m k)
      have hGk := hG (ix m k)
      have hGb : 0 ≤ G (ix m k) ∧ G (ix m k) ≤ 1000000000 := by omega
      clear hc hcell hmap hG hbl hGk hbk hmm
      go_wp2_with (at_mapUpdate; refine wpList_mput _ _ (ix m k) (.int .i64 (G (ix m k) + 1)) kvInt 79 3 3 Tryz.underlying79 Tryz.underlying3 rfl _ _ _ rfl rfl rfl rfl HMAP.out ?_; intro w7 hm7 hg7 hs7; have HS7 := Lib.hid (MemSt.put HG.out HBL.out hlt hm7 hg7); have HB7 := Lib.hid (HBK.out.same (hg7.block _ HBK.out.lt (by intro e; have := Option.some.inj e; omega))); clear hm7 hg7 hs7)
      first
        | (go_roundw
           case rel => (exact ⟨⟨k + 1, hlt, by go_num, HS7.out⟩, HB7.out⟩)
           case measure => (simp [intOf]; omega))
        | (refine ⟨?_, ?_⟩
           · (exact ⟨⟨k + 1, hlt, by go_num, HS7.out⟩, HB7.out⟩)
           · (simp [intOf]; omega))
    · obtain rfl : k = m.length := by omega
      have HIN : Hid (InM wr (w.heap.size + 1) m) := Lib.hid ⟨_, G, hbk, hmap, fun y => by have := (hG y).2.2; rwa [List.take_length] at this⟩
      clear hmap hG hbk hmm
      go_wp2
      go_ret
      exact ⟨_, rfl, HIN.out, HBL.out⟩

theorem memb1_any (x : Int) (m : List Int) (mb : Nat) (w : World) (h : InM w mb m) :
    Calls Tryz.prog 86 #[.int .i64 x, .pointer (some ⟨mb, 0, none⟩)] w fun e w' => e = .returned (.bool (decide (x ∈ m))) ∧ w = w' := by
  obtain ⟨b, G, hb, hm, hG⟩ := h
  have hlk := mapI_look hm x
  have kb := hb.cell 0
  have HF : Hid (decide (0 < G x) = decide (x ∈ m)) := Lib.hid (decide_eq_decide.2 (hG x))
  clear hm hG hb
  go_enter Tryz.func86, Tryz.ntmps86
  go_wp2
  go_ret
  exact ⟨ret_bool HF.out, rfl⟩

/-- A literal is true in a set. -/
def litT (m : List Int) (l : Int) : Bool := if 0 < l then decide (l ∈ m) else !decide (-l ∈ m)

theorem holdsL_any (x : Int) (m : List Int) (mb : Nat) (w : World) (h : InM w mb m) (hx : -9223372036854775808 < x ∧ x ≤ 9223372036854775807) :
    Calls Tryz.prog 85 #[.int .i64 x, .func (.func 86) #[] #[.pointer (some ⟨mb, 0, none⟩)]] w fun e w' => e = .returned (.bool (litT m x)) ∧ w = w' := by
  have H := Lib.hid h
  clear h
  by_cases hp : 0 < x
  · have HF : Hid (litT m x = decide (x ∈ m)) := Lib.hid (if_pos hp)
    go_enter Tryz.func85, Tryz.ntmps85
    go_wp2_with (go_at_call 86; (with_reducible refine (memb1_any _ m _ _ H.out).mono ?_); rintro e w1 ⟨rfl, rfl⟩)
    go_ret
    exact ⟨ret_bool HF.out.symm, rfl⟩
  · have HF : Hid (litT m x = !decide (-x ∈ m)) := Lib.hid (if_neg hp)
    go_enter Tryz.func85, Tryz.ntmps85
    go_wp2_with (go_at_call 86; (with_reducible refine (memb1_any _ m _ _ H.out).mono ?_); rintro e w1 ⟨rfl, rfl⟩)
    go_ret
    exact ⟨ret_bool HF.out.symm, rfl⟩

end Go.Proofs.YtoahecjdkgeamaaGreatDoor

/- The plain law of reduct.Rounds: a definite program's least closed set. -/
namespace Go.Proofs.YtoahecjdkgeamaaGreatDoor
open Go.RowKit

/-- The weight of a literal in a body; what a body lacks at first; what a set of atoms pays. -/
def wOf (r : GR) (k : Nat) : Int := if r.sum then ix r.w k else 1
def need0 (r : GR) : Int := if r.sum then r.bound else r.body.length
def lhsTo (C : List Int) (r : GR) : Nat → Int
  | 0 => 0
  | k + 1 => lhsTo C r k + if ix r.body k ∈ C then wOf r k else 0
def lhs (C : List Int) (r : GR) : Int := lhsTo C r r.body.length
/-- The rules in whose bodies an atom is, with its weight. -/
def stepU (U : Int → List (Int × Int)) (r : GR) (i : Nat) : Nat → Int → List (Int × Int)
  | 0 => U
  | k + 1 => fun a => if a = ix r.body k then stepU U r i k a ++ [((i : Int), wOf r k)] else stepU U r i k a
def usesU (R : List GR) : Nat → Int → List (Int × Int)
  | 0 => fun _ => []
  | i + 1 => stepU (usesU R i) (ixR R i) i (ixR R i).body.length

/-- Definite rules over the atoms 1 .. n. -/
structure DefR (n : Int) (R : List GR) : Prop where
  rng : 0 ≤ n ∧ n ≤ 4000
  len : R.length ≤ 40000
  head : ∀ i, i < R.length → (ixR R i).head.length ≤ 1 ∧ ∀ x ∈ (ixR R i).head, 1 ≤ x ∧ x ≤ n
  body : ∀ i, i < R.length → (∀ k, k < (ixR R i).body.length → 1 ≤ ix (ixR R i).body k ∧ ix (ixR R i).body k ≤ n) ∧ (ixR R i).body.length ≤ 8002
  wts : ∀ i, i < R.length → (ixR R i).sum = true → (ixR R i).w.length = (ixR R i).body.length ∧ ∀ k, k < (ixR R i).w.length → 1 ≤ ix (ixR R i).w k ∧ ix (ixR R i).w k ≤ 1048576 - sumTo (ixR R i).w k
  bound : ∀ i, i < R.length → (ixR R i).sum = true → 0 ≤ (ixR R i).bound ∧ (ixR R i).bound ≤ 1048576

section
variable {n : Int} {R : List GR}

theorem DefR.w1 (h : DefR n R) {i : Nat} (hi : i < R.length) {k : Nat} (hk : k < (ixR R i).body.length) : 1 ≤ wOf (ixR R i) k ∧ wOf (ixR R i) k ≤ 1048576 ∧ ((ixR R i).sum = true → k < (ixR R i).w.length) := by
  unfold wOf
  cases hs : (ixR R i).sum with
  | false => simp
  | true =>
    obtain ⟨h1, h2⟩ := h.wts i hi hs
    have h3 := h2 k (by omega)
    have : ∀ m, m ≤ (ixR R i).w.length → 0 ≤ sumTo (ixR R i).w m := fun m => by
      induction m with
      | zero => intro _; simp [sumTo]
      | succ m ih => intro hm; have := ih (by omega); have := h2 m (by omega); unfold sumTo; omega
    have := this k (by omega)
    simp only [if_true]
    exact ⟨h3.1, by omega, fun _ => by omega⟩

theorem lhsTo_mono (h : DefR n R) {i : Nat} (hi : i < R.length) {C C' : List Int} (hc : ∀ x ∈ C, x ∈ C') : ∀ k, k ≤ (ixR R i).body.length → lhsTo C (ixR R i) k ≤ lhsTo C' (ixR R i) k
  | 0, _ => by simp [lhsTo]
  | k + 1, hk => by
    have ih := lhsTo_mono h hi hc k (by omega)
    have hw := (h.w1 hi (show k < _ by omega)).1
    unfold lhsTo
    by_cases h1 : ix (ixR R i).body k ∈ C
    · rw [if_pos h1, if_pos (hc _ h1)]; omega
    · rw [if_neg h1]; split <;> omega

theorem lhsTo_congr {C C' : List Int} (hc : ∀ x, x ∈ C ↔ x ∈ C') (r : GR) : ∀ k, lhsTo C r k = lhsTo C' r k
  | 0 => rfl
  | k + 1 => by unfold lhsTo; rw [lhsTo_congr hc r k]; simp only [hc]

/-- The sets that the rules leave as they are; what is in all of them. -/
def ClosedD (R : List GR) (T : List Int) : Prop := ∀ i, i < R.length → need0 (ixR R i) ≤ lhs T (ixR R i) → ∀ x ∈ (ixR R i).head, x ∈ T
def Der (R : List GR) (x : Int) : Prop := ∀ T, ClosedD R T → x ∈ T

/-- M is the least closed set. -/
structure IsLeast (R : List GR) (M : List Int) : Prop where
  closed : ClosedD R M
  least : ∀ x ∈ M, Der R x

theorem der_of (h : DefR n R) {C : List Int} (hC : ∀ x ∈ C, Der R x) {i : Nat} (hi : i < R.length) (hn : need0 (ixR R i) ≤ lhs C (ixR R i)) {x : Int} (hx : x ∈ (ixR R i).head) : Der R x := fun T hT =>
  hT i hi (Int.le_trans hn (lhsTo_mono h hi (fun y hy => hC y hy T hT) _ (Nat.le_refl _))) x hx

/-- Between two rounds. C: the atoms that have been paid; l: those that are new; od: the round of each atom; nd: what each rule lacks. -/
structure Lv (n : Int) (R : List GR) (C l od nd : List Int) : Prop where
  nodup : (C ++ l).Nodup
  range : ∀ x ∈ C ++ l, 1 ≤ x ∧ x ≤ n
  olen : (od.length : Int) = n
  nlen : nd.length = R.length
  out : ∀ x : Int, 1 ≤ x → x ≤ n → (0 < ix od (x - 1).toNat ↔ x ∈ C ++ l) ∧ 0 ≤ ix od (x - 1).toNat ∧ ix od (x - 1).toNat ≤ 4000000
  der : ∀ x ∈ C ++ l, Der R x

/-- The rules that have been asked. -/
def Asked (R : List GR) (A nd : List Int) (Todo : Nat → Prop) : Prop := ∀ i, i < R.length → ix nd i ≤ 0 → (∀ x ∈ (ixR R i).head, x ∈ A) ∨ Todo i
def Paid (R : List GR) (C nd : List Int) : Prop := ∀ i, i < R.length → ix nd i = need0 (ixR R i) - lhs C (ixR R i)

theorem ix_set (l : List Int) (i j : Nat) (v : Int) (hi : i < l.length) : ix (l.set i v) j = if j = i then v else ix l j := by
  unfold ix
  simp only [List.getD_eq_getElem?_getD]
  by_cases h : j = i
  · subst h; rw [if_pos rfl, List.getElem?_set_self hi]; rfl
  · rw [if_neg h, List.getElem?_set_ne (by omega)]

/-- reach: the head is taken. -/
theorem Lv.take {C l od nd : List Int} (hd : DefR n R) (h : Lv n R C l od nd) (hp : Paid R C nd) {i : Nat} (hi : i < R.length) (h0 : ix nd i ≤ 0) {x : Int} (hx : (ixR R i).head = [x]) (ho : ix od (x - 1).toNat = 0) {round : Int} (hr : 1 ≤ round ∧ round ≤ 4000000) :
    Lv n R C (l ++ [x]) (od.set (x - 1).toNat round) nd := by
  have hxr := (hd.head i hi).2 x (by rw [hx]; simp)
  have hxn : x ∉ C ++ l := fun hm => by have := (h.out x hxr.1 hxr.2).1.2 hm; omega
  have hol := h.olen
  have hlt : (x - 1).toNat < od.length := by omega
  refine ⟨by rw [← List.append_assoc]; exact List.nodup_append.2 ⟨h.nodup, by simp, fun a ha b hb => by simp only [List.mem_singleton] at hb; subst hb; rintro rfl; exact hxn ha⟩, fun y hy => ?_, by simpa using hol, h.nlen, fun y h1 h2 => ?_, fun y hy => ?_⟩
  · rw [← List.append_assoc] at hy
    rcases List.mem_append.1 hy with hy | hy
    · exact h.range y hy
    · simp only [List.mem_singleton] at hy; subst hy; exact hxr
  · rw [ix_set _ _ _ _ hlt, ← List.append_assoc]
    by_cases e : y = x
    · subst e; rw [if_pos rfl]; simp; omega
    · rw [if_neg (by omega)]
      have h3 := h.out y h1 h2
      refine ⟨h3.1.trans ?_, h3.2⟩
      simp [e]
  · rw [← List.append_assoc] at hy
    rcases List.mem_append.1 hy with hy | hy
    · exact h.der y hy
    · simp only [List.mem_singleton] at hy; subst hy
      exact der_of hd (fun z hz => h.der z (List.mem_append_left _ hz)) hi (by have := hp i hi; omega) (by rw [hx]; simp)

/-- The rules that the atoms of L, from place j on, still call for. -/
def Todo (R : List GR) (L : List Int) (j : Nat) (i : Nat) : Prop := ∃ j', j ≤ j' ∧ j' < L.length ∧ ∃ u ∈ usesU R R.length (ix L j'), u.1 = (i : Int)
def Todo2 (R : List GR) (L : List Int) (j q : Nat) (i : Nat) : Prop := (∃ q', q ≤ q' ∧ q' < (usesU R R.length (ix L j)).length ∧ ((usesU R R.length (ix L j)).getD q' (0, 0)).1 = (i : Int)) ∨ Todo R L (j + 1) i

theorem Todo.open {L : List Int} {j i : Nat} (h : Todo R L j i) : Todo2 R L j 0 i := by
  obtain ⟨j', h1, h2, u, hu, e⟩ := h
  by_cases hj : j' = j
  · subst hj
    obtain ⟨q, hq, e2⟩ := List.mem_iff_getElem.1 hu
    exact .inl ⟨q, by omega, hq, by rw [List.getD_eq_getElem?_getD, List.getElem?_eq_getElem hq]; simp [e2, e]⟩
  · exact .inr ⟨j', by omega, h2, u, hu, e⟩

theorem Todo.none {L : List Int} {i : Nat} (h : Todo R L L.length i) : False := by
  obtain ⟨j, h1, h2, _⟩ := h
  omega

/-- What is in the list of the rounds above 0. -/
def posL (od : List Int) : Nat → List Int
  | 0 => []
  | k + 1 => if 0 < ix od k then posL od k ++ [(k : Int) + 1] else posL od k

theorem posL_mem (od : List Int) (x : Int) : ∀ k, x ∈ posL od k ↔ 1 ≤ x ∧ x ≤ k ∧ 0 < ix od (x - 1).toNat
  | 0 => by simp [posL]; omega
  | k + 1 => by
    have ih := posL_mem od x k
    unfold posL
    split
    · rename_i h
      simp only [List.mem_append, List.mem_singleton, ih]
      constructor
      · rintro (h1 | h1)
        · exact ⟨h1.1, by omega, h1.2.2⟩
        · refine ⟨by omega, by omega, ?_⟩
          have : (x - 1).toNat = k := by omega
          rw [this]; exact h
      · rintro ⟨h1, h2, h3⟩
        by_cases e : x = (k : Int) + 1
        · exact .inr e
        · exact .inl ⟨h1, by omega, h3⟩
    · rename_i h
      rw [ih]
      constructor
      · rintro ⟨h1, h2, h3⟩; exact ⟨h1, by omega, h3⟩
      · rintro ⟨h1, h2, h3⟩
        refine ⟨h1, ?_, h3⟩
        by_cases e : x = (k : Int) + 1
        · have : (x - 1).toNat = k := by omega
          rw [this] at h3; exact absurd h3 h
        · omega

/-- The end. -/
theorem Lv.done {C od nd : List Int} (h : Lv n R C [] od nd) (hp : Paid R C nd) (ha : Asked R C nd (fun _ => False)) : IsLeast R (posL od n.toNat) := by
  have hC : ∀ x, x ∈ posL od n.toNat ↔ x ∈ C := fun x => by
    rw [posL_mem]
    constructor
    · rintro ⟨h1, h2, h3⟩
      have := ((h.out x h1 (by omega)).1).1 h3
      simpa using this
    · intro hx
      have hr := h.range x (by simpa using hx)
      exact ⟨hr.1, by omega, ((h.out x hr.1 hr.2).1).2 (by simpa using hx)⟩
  refine ⟨fun i hi hn x hx => ?_, fun x hx => h.der x (by simpa using (hC x).1 hx)⟩
  have e : lhs (posL od n.toNat) (ixR R i) = lhs C (ixR R i) := lhsTo_congr hC _ _
  rcases ha i hi (by have := hp i hi; omega) with h1 | h1
  · exact (hC x).2 (h1 x hx)
  · exact h1.elim

end

theorem made_list (z : Value) (n : Nat) : madeCells #[z] n = (List.replicate n z).toArray := by
  apply Array.ext
  · simp [size_madeCells]
  · intro i h1 h2
    simp [madeCells, Nat.mod_one]

end Go.Proofs.YtoahecjdkgeamaaGreatDoor

/- reduct: Set, body, Body, satisfied: contracts. -/
namespace Go.Proofs.YtoahecjdkgeamaaGreatDoor
open Go.RowKit

/-- A set of atoms, the empty one too. -/
def setQ (n : Int) (S : List Int) : Bool := allR S.length (setTo n S)

set_option maxHeartbeats 2000000 in
theorem redSet_any (vs : Value) (n : Int) (S : List Int) (w : World) (hs : Ints w vs S) :
    Calls Tryz.prog 106 #[vs, .int .i64 n] w fun e w' => e = .returned (.bool (setQ n S)) ∧ w = w' := by
  obtain ⟨a1, c1, rfl, -, hl1, -, hcell⟩ := hs.form
  clear hs
  go_enter Tryz.func106, Tryz.ntmps106
  go_wp2
  go_loop [9] (fun i => ∃ k : Nat, k ≤ S.length ∧ i = .int .i64 k ∧ Hid (∀ j, j < k → setTo n S j = true)) (fun i => S.length - (intOf i).toNat)
  case atStart => exact ⟨0, by omega, rfl, Lib.hid (fun j hj => absurd hj (Nat.not_lt_zero _))⟩
  case round =>
    obtain ⟨k, hk, rfl, HA⟩ := hrel
    have HF : Hid (∀ k, k < S.length → setTo n S k = false → setQ n S = false) := Lib.hid (fun k hk h => by unfold setQ; rw [allR_false k hk h])
    by_cases hlt : k < S.length
    · obtain ⟨b, off, rfl, hbl, hc⟩ := hcell (by omega)
      have hk1 := hc k hlt
      by_cases h1 : ix S k < 1
      · have HN : Hid (setTo n S k = false) := Lib.hid (by unfold setTo; rw [decide_eq_false (by omega)]; rfl)
        clear hc hcell
        go_wp2
        go_ret
        exact ⟨ret_bool (HF.out k hlt HN.out).symm, rfl⟩
      · by_cases h2 : n < ix S k
        · have HN : Hid (setTo n S k = false) := Lib.hid (by unfold setTo; rw [decide_eq_false (by omega)]; rfl)
          clear hc hcell
          go_wp2
          go_ret
          exact ⟨ret_bool (HF.out k hlt HN.out).symm, rfl⟩
        · cases k with
          | zero =>
            have hk0 : w.cell? ⟨b, off, none⟩ = some (.int .i64 (ix S 0)) := hc 0 hlt
            clear hk1
            have HN := Lib.hid (lt_succ_all HA.out (show setTo n S 0 = true by unfold setTo; rw [decide_eq_true (by omega)]; rfl))
            clear hc hcell
            go_wp2
            first
              | (go_round
                 case rel => (exact ⟨0 + 1, by omega, by go_num, HN⟩)
                 case measure => (simp [intOf]; omega))
              | (refine ⟨?_, ?_⟩
                 · (exact ⟨0 + 1, by omega, by go_num, HN⟩)
                 · (simp [intOf]; omega))
          | succ k =>
            have hk0 := hc k (by omega)
            have e1 : (((k + 1 : Nat) : Int) - 1).toNat = k := by omega
            by_cases h3 : ix S k < ix S (k + 1)
            · have HN := Lib.hid (lt_succ_all HA.out (show setTo n S (k + 1) = true by unfold setTo; rw [decide_eq_true (by omega), Nat.add_sub_cancel, decide_eq_true h3]; simp))
              clear hc hcell
              go_wp2
              first
                | (go_round
                   case rel => (exact ⟨k + 1 + 1, by omega, by go_num, HN⟩)
                   case measure => (simp [intOf]; omega))
                | (refine ⟨?_, ?_⟩
                   · (exact ⟨k + 1 + 1, by omega, by go_num, HN⟩)
                   · (simp [intOf]; omega))
            · have HN : Hid (setTo n S (k + 1) = false) := Lib.hid (by unfold setTo; rw [Nat.add_sub_cancel, decide_eq_false h3]; simp)
              clear hc hcell
              go_wp2
              go_ret
              exact ⟨ret_bool (HF.out (k + 1) hlt HN.out).symm, rfl⟩
    · have HN : Hid (setQ n S = true) := Lib.hid (by unfold setQ; rw [allR_true (fun j hj => HA.out j (by omega))])
      go_wp2
      go_ret
      exact ⟨ret_bool HN.out.symm, rfl⟩

/-! ### body -/
/-- The weights of the literals that are true in m, among the first k. -/
def wsum (m : List Int) (r : GR) : Nat → Int
  | 0 => 0
  | k + 1 => wsum m r k + if litT m (ix r.body k) then ix r.w k else 0

/-- The body is true in m. -/
def bodyT (r : GR) (m : List Int) : Bool := if r.sum then decide (r.bound ≤ wsum m r r.body.length) else allR r.body.length (fun j => litT m (ix r.body j))

/-- A rule whose body can be evaluated. -/
structure BodyOk (r : GR) : Prop where
  len : r.body.length ≤ 8000
  lit : ∀ j, j < r.body.length → -9223372036854775808 < ix r.body j
  wlen : r.sum = true → r.w.length = r.body.length
  w : r.sum = true → ∀ j, j < r.w.length → 0 ≤ ix r.w j ∧ ix r.w j ≤ 1048576

theorem wsum_bound {m : List Int} {r : GR} (h : BodyOk r) (hs : r.sum = true) : ∀ (k : Nat), k ≤ r.body.length → 0 ≤ wsum m r k ∧ wsum m r k ≤ 1048576 * k
  | 0, _ => by simp [wsum]
  | k + 1, hk => by
    have ih := wsum_bound (m := m) h hs k (by omega)
    have hw := h.w hs k (by have := h.wlen hs; omega)
    unfold wsum
    push_cast
    split <;> omega

theorem bodyc_any (x : Int) (m : List Int) (mb cb : Nat) (w : World) (h : InM w mb m) (hb : Blk w cb [.func (.func 86) #[] #[.pointer (some ⟨mb, 0, none⟩)]] 81) (hx : -9223372036854775808 < x ∧ x ≤ 9223372036854775807) :
    Calls Tryz.prog 84 #[.int .i64 x, .pointer (some ⟨cb, 0, none⟩)] w fun e w' => e = .returned (.bool (!litT m x)) ∧ w = w' := by
  have H := Lib.hid h
  have kb := hb.cell 0
  clear h hb
  go_enter Tryz.func84, Tryz.ntmps84
  go_wp2_with (go_at_call 85; (with_reducible refine (holdsL_any _ m _ _ H.out (by omega)).mono ?_); rintro e w1 ⟨rfl, rfl⟩)
  go_ret
  exact ⟨rfl, rfl⟩

set_option maxHeartbeats 1000000 in
theorem idx_bd (v : Value) (l : List Int) (w : World) (h : Ints w v l) (g : Nat → Bool) (cap : Value)
    (hg : ∀ w', Below w.heap.size w w' → ∀ j, j < l.length → Calls Tryz.prog 84 #[.int .i64 (ix l j), cap] w' fun e w'' => e = .returned (.bool (g j)) ∧ Below w'.heap.size w' w'') :
    Calls Tryz.prog 79 #[v, .func (.func 84) #[] #[cap]] w fun e w' => ∃ r, e = .returned (.int .i64 r) ∧ IxP l.length g r ∧ Below w.heap.size w w' := by
  obtain ⟨a1, c1, rfl, -, hl1, -, hcell⟩ := h.form
  have HG := Lib.hid hg
  clear h hg
  go_enter Tryz.func79, Tryz.ntmps79
  go_wp2
  go_loopw [8] (fun i wx => IxR l.length g w i wx) (fun i _ => l.length - (intOf i).toNat)
  case atStart => exact ⟨0, by omega, rfl, fun j hj => absurd hj (Nat.not_lt_zero _), Below.refl _ _⟩
  case round =>
    obtain ⟨k, hk, rfl, hall, hb⟩ := hrel
    have HA := Lib.hid hall
    clear hall
    by_cases hlt : k < l.length
    · obtain ⟨b, off, rfl, hbl, hc⟩ := hcell (by omega)
      have hk1 := (bcell hb _ _ hbl).trans (hc k hlt)
      clear hc hcell
      cases g1 : g k with
      | true =>
        have HK : Hid (_ = true) := Lib.hid g1
        have HC := Lib.hid (HG.out _ hb k hlt)
        rw [g1] at HC
        clear g1
        go_wp2_with (go_at_call 84; refine (HC.out).mono ?_; rintro e w1 ⟨rfl, hb1⟩)
        go_ret
        exact ⟨_, rfl, .inr ⟨k, hlt, rfl, HK.out, HA.out⟩, bon hb hb1⟩
      | false =>
        have HN := Lib.hid (lt_succ_all HA.out g1)
        have HC := Lib.hid (HG.out _ hb k hlt)
        rw [g1] at HC
        clear g1
        go_wp2_with (go_at_call 84; refine (HC.out).mono ?_; rintro e w1 ⟨rfl, hb1⟩)
        first
          | (go_roundw
             case rel => (exact ⟨k + 1, by omega, by go_num, HN.out, bon hb hb1⟩)
             case measure => (simp [intOf]; omega))
          | (refine ⟨?_, ?_⟩
             · (exact ⟨k + 1, by omega, by go_num, HN.out, bon hb hb1⟩)
             · (simp [intOf]; omega))
    · have HN : Hid (∀ j, j < l.length → g j = false) := Lib.hid (fun j hj => HA.out j (by omega))
      go_wp2
      go_ret
      exact ⟨_, rfl, .inl ⟨rfl, HN.out⟩, hb⟩

set_option maxHeartbeats 1000000 in
theorem ctn_bd (v : Value) (l : List Int) (w : World) (h : Ints w v l) (g : Nat → Bool) (cap : Value)
    (hg : ∀ w', Below w.heap.size w w' → ∀ j, j < l.length → Calls Tryz.prog 84 #[.int .i64 (ix l j), cap] w' fun e w'' => e = .returned (.bool (g j)) ∧ Below w'.heap.size w' w'') :
    Calls Tryz.prog 51 #[v, .func (.func 84) #[] #[cap]] w fun e w' => e = .returned (.bool (anyR l.length g)) ∧ Below w.heap.size w w' := by
  have HI := Lib.hid (idx_bd v l w h g cap hg)
  obtain ⟨a1, c1, rfl, -⟩ := h.form
  clear h hg
  go_enter Tryz.func51, Tryz.ntmps51
  go_wp2_with (go_at_call 79; refine (HI.out).mono ?_; rintro e w1 ⟨r, rfl, hr, hb1⟩; have HR := Lib.hid hr; clear hr)
  go_ret
  exact ⟨ret_bool HR.out.any, hb1⟩

def BdRel (m : List Int) (r : GR) (s i : Value) : Prop := ∃ k : Nat, k ≤ r.body.length ∧ i = .int .i64 k ∧ s = .int .i64 (wsum m r k)

theorem allR_not {n : Nat} {f : Nat → Bool} : (!anyR n fun j => !f j) = allR n f := by
  unfold anyR allR
  induction List.range n with
  | nil => rfl
  | cons x l ih => simp only [List.any_cons, List.all_cons, Bool.not_or, ih, Bool.not_not]

set_option maxHeartbeats 2000000 in
theorem bodyf_any (v : Value) (r : GR) (m : List Int) (mb : Nat) (w : World) (hr : RuleIs w v r) (h : InM w mb m) (hok : BodyOk r) :
    Calls Tryz.prog 60 #[v, .func (.func 86) #[] #[.pointer (some ⟨mb, 0, none⟩)]] w fun e w' => e = .returned (.bool (bodyT r m)) ∧ Below w.heap.size w w' := by
  obtain ⟨vh, vb, vw, rfl, hsl⟩ := hr
  have hal := bal (bal (Below.refl w.heap.size w) (.cells #[.bool r.choice, vh, .bool r.sum, .int .i64 r.bound, vb, vw] 51)) (.cells #[.func (.func 86) #[] #[.pointer (some ⟨mb, 0, none⟩)]] 81)
  have HBX : Hid (Blk ((w.alloc (.cells #[.bool r.choice, vh, .bool r.sum, .int .i64 r.bound, vb, vw] 51)).alloc (.cells #[.func (.func 86) #[] #[.pointer (some ⟨mb, 0, none⟩)]] 81)) (w.heap.size + 1) [.func (.func 86) #[] #[.pointer (some ⟨mb, 0, none⟩)]] 81) := Lib.hid (by repeat first | (refine Blk.newAt _ _ _ ?_; first | rfl | (simp only [World.size_alloc]; done) | (simp only [World.size_alloc]; omega)) | refine Blk.alloc ?_ _)
  obtain ⟨a2, c2, rfl, -, hl2, -, hcb⟩ := hsl.body.form
  obtain ⟨a3, c3, rfl, -, hl3, -, hcw⟩ := hsl.wts.form
  have HB := Lib.hid (hsl.body.below hal)
  have HIN := Lib.hid (h.below hal)
  have hfit := hsl.body.2
  have hbd := hsl.bound
  unfold InI at hbd
  cases hs : r.sum with
  | false =>
    rw [hs] at hal HBX HB HIN
    have HF : Hid (bodyT r m = !anyR r.body.length (fun j => !litT m (ix r.body j))) := Lib.hid (by unfold bodyT; rw [hs, allR_not]; rfl)
    have HC : Hid (∀ w', Below ((w.alloc (.cells #[.bool r.choice, vh, .bool false, .int .i64 r.bound, .slice a2 r.body.length c2, .slice a3 r.w.length c3] 51)).alloc (.cells #[.func (.func 86) #[] #[.pointer (some ⟨mb, 0, none⟩)]] 81)).heap.size ((w.alloc (.cells #[.bool r.choice, vh, .bool false, .int .i64 r.bound, .slice a2 r.body.length c2, .slice a3 r.w.length c3] 51)).alloc (.cells #[.func (.func 86) #[] #[.pointer (some ⟨mb, 0, none⟩)]] 81)) w' → ∀ j, j < r.body.length → Calls Tryz.prog 84 #[.int .i64 (ix r.body j), .pointer (some ⟨w.heap.size + 1, 0, none⟩)] w' fun e w'' => e = .returned (.bool (!litT m (ix r.body j))) ∧ Below w'.heap.size w' w'') :=
      Lib.hid (fun w' hb j hj => (bodyc_any _ m mb _ w' (HIN.out.below hb) (HBX.out.below hb) ⟨hok.lit j hj, (hfit j).2⟩).mono fun e w'' ⟨e1, e2⟩ => ⟨e1, e2 ▸ Below.refl _ _⟩)
    clear hsl hs h hok hcb hcw
    go_enter Tryz.func60, Tryz.ntmps60
    go_wp2_with (go_at_call 51; (with_reducible refine (ctn_bd _ r.body _ HB.out (fun j => !litT m (ix r.body j)) _ HC.out).mono ?_); rintro e w1 ⟨rfl, hb1⟩)
    go_ret
    exact ⟨ret_bool HF.out.symm, bon hal hb1⟩
  | true =>
    rw [hs] at hal HBX HB HIN
    have HF : Hid (bodyT r m = decide (r.bound ≤ wsum m r r.body.length)) := Lib.hid (by unfold bodyT; rw [hs]; rfl)
    have HWB : Hid (∀ k, k ≤ r.body.length → 0 ≤ wsum m r k ∧ wsum m r k ≤ 1048576 * k) := Lib.hid (fun k hk => wsum_bound hok hs k hk)
    have hwl := hok.wlen hs
    have hlen := hok.len
    have HW : Hid (∀ j, j < r.w.length → 0 ≤ ix r.w j ∧ ix r.w j ≤ 1048576) := Lib.hid (hok.w hs)
    have HLT : Hid (∀ j, j < r.body.length → -9223372036854775808 < ix r.body j ∧ ix r.body j ≤ 9223372036854775807) := Lib.hid (fun j hj => ⟨hok.lit j hj, (hfit j).2⟩)
    have HWL := Lib.hid hwl
    have q0 := (Blk.newAt w [.bool r.choice, vh, .bool true, .int .i64 r.bound, .slice a2 r.body.length c2, .slice a3 r.w.length c3] 51 (b := w.heap.size) rfl).alloc (.cells #[.func (.func 86) #[] #[.pointer (some ⟨mb, 0, none⟩)]] 81)
    have kq := q0.cell
    have kx := HBX.out.cell 0
    have HCB : Hid (∀ j, j < r.body.length → ∃ b off, a2 = some ⟨b, off, none⟩ ∧ ((w.alloc (.cells #[.bool r.choice, vh, .bool true, .int .i64 r.bound, .slice a2 r.body.length c2, .slice a3 r.w.length c3] 51)).alloc (.cells #[.func (.func 86) #[] #[.pointer (some ⟨mb, 0, none⟩)]] 81)).cell? ⟨b, off + j, none⟩ = some (.int .i64 (ix r.body j))) := Lib.hid (fun j hj => by
      obtain ⟨b, off, e, hl, hc⟩ := hcb (by omega)
      exact ⟨b, off, e, (bcell hal _ _ hl).trans (hc j hj)⟩)
    have HCW : Hid (∀ j, j < r.w.length → ∃ b off, a3 = some ⟨b, off, none⟩ ∧ ((w.alloc (.cells #[.bool r.choice, vh, .bool true, .int .i64 r.bound, .slice a2 r.body.length c2, .slice a3 r.w.length c3] 51)).alloc (.cells #[.func (.func 86) #[] #[.pointer (some ⟨mb, 0, none⟩)]] 81)).cell? ⟨b, off + j, none⟩ = some (.int .i64 (ix r.w j))) := Lib.hid (fun j hj => by
      obtain ⟨b, off, e, hl, hc⟩ := hcw (by omega)
      exact ⟨b, off, e, (bcell hal _ _ hl).trans (hc j hj)⟩)
    have HAL := Lib.hid hal
    clear hsl hs h hok hcb hcw hal HBX q0 hwl
    go_enter Tryz.func60, Tryz.ntmps60
    go_upto_region 4 with fail
    generalize (w.alloc (.cells #[.bool r.choice, vh, .bool true, .int .i64 r.bound, .slice a2 r.body.length c2, .slice a3 r.w.length c3] 51)).alloc (.cells #[.func (.func 86) #[] #[.pointer (some ⟨mb, 0, none⟩)]] 81) = W at *
    go_wp2
    go_loop [5, 19] (fun s i => BdRel m r s i) (fun _ i => r.body.length - (intOf i).toNat)
    case atStart => exact ⟨0, Nat.zero_le _, rfl, rfl⟩
    case round =>
      obtain ⟨k, hk, rfl, rfl⟩ := hrel
      have hwb := HWB.out k hk
      by_cases hlt : k < r.body.length
      · obtain ⟨b1, o1, rfl, hc1⟩ := HCB.out k hlt
        obtain ⟨b2, o2, rfl, hc2⟩ := HCW.out k (by have := HWL.out; omega)
        have hltw : k < r.w.length := by have := HWL.out; omega
        have hwk := HW.out k hltw
        have HLK := Lib.hid (HLT.out k hlt)
        cases hh : litT m (ix r.body k) with
        | true =>
          have HN : Hid (wsum m r (k + 1) = wsum m r k + ix r.w k) := Lib.hid (by rw [wsum, hh]; rfl)
          have HHH := Lib.hid hh
          clear hh
          go_wp2_with (go_at_call 85; (with_reducible refine (holdsL_any _ m _ _ HIN.out HLK.out).mono ?_); rintro e w1 ⟨e1, rfl⟩; rw [HHH.out] at e1; subst e1)
          first
            | (go_round
               case rel => (exact ⟨k + 1, by omega, by go_num, by rw [HN.out]⟩)
               case measure => (simp [intOf]; omega))
            | (refine ⟨?_, ?_⟩
               · (exact ⟨k + 1, by omega, by go_num, by rw [HN.out]⟩)
               · (simp [intOf]; omega))
        | false =>
          have HN : Hid (wsum m r (k + 1) = wsum m r k) := Lib.hid (by rw [wsum, hh]; simp)
          have HHH := Lib.hid hh
          clear hh
          go_wp2_with (go_at_call 85; (with_reducible refine (holdsL_any _ m _ _ HIN.out HLK.out).mono ?_); rintro e w1 ⟨e1, rfl⟩; rw [HHH.out] at e1; subst e1)
          first
            | (go_round
               case rel => (exact ⟨k + 1, by omega, by go_num, by rw [HN.out]⟩)
               case measure => (simp [intOf]; omega))
            | (refine ⟨?_, ?_⟩
               · (exact ⟨k + 1, by omega, by go_num, by rw [HN.out]⟩)
               · (simp [intOf]; omega))
      · obtain rfl : k = r.body.length := by omega
        go_wp2
        go_ret
        exact ⟨ret_bool HF.out.symm, HAL.out⟩

/-! ### satisfied -/
set_option maxHeartbeats 1000000 in
theorem idx_hd (v : Value) (l : List Int) (w : World) (h : Ints w v l) (g : Nat → Bool) (cap : Value)
    (hg : ∀ w', Below w.heap.size w w' → ∀ j, j < l.length → Calls Tryz.prog 86 #[.int .i64 (ix l j), cap] w' fun e w'' => e = .returned (.bool (g j)) ∧ Below w'.heap.size w' w'') :
    Calls Tryz.prog 79 #[v, .func (.func 86) #[] #[cap]] w fun e w' => ∃ r, e = .returned (.int .i64 r) ∧ IxP l.length g r ∧ Below w.heap.size w w' := by
  obtain ⟨a1, c1, rfl, -, hl1, -, hcell⟩ := h.form
  have HG := Lib.hid hg
  clear h hg
  go_enter Tryz.func79, Tryz.ntmps79
  go_wp2
  go_loopw [8] (fun i wx => IxR l.length g w i wx) (fun i _ => l.length - (intOf i).toNat)
  case atStart => exact ⟨0, by omega, rfl, fun j hj => absurd hj (Nat.not_lt_zero _), Below.refl _ _⟩
  case round =>
    obtain ⟨k, hk, rfl, hall, hb⟩ := hrel
    have HA := Lib.hid hall
    clear hall
    by_cases hlt : k < l.length
    · obtain ⟨b, off, rfl, hbl, hc⟩ := hcell (by omega)
      have hk1 := (bcell hb _ _ hbl).trans (hc k hlt)
      clear hc hcell
      cases g1 : g k with
      | true =>
        have HK : Hid (_ = true) := Lib.hid g1
        have HC := Lib.hid (HG.out _ hb k hlt)
        rw [g1] at HC
        clear g1
        go_wp2_with (go_at_call 86; refine (HC.out).mono ?_; rintro e w1 ⟨rfl, hb1⟩)
        go_ret
        exact ⟨_, rfl, .inr ⟨k, hlt, rfl, HK.out, HA.out⟩, bon hb hb1⟩
      | false =>
        have HN := Lib.hid (lt_succ_all HA.out g1)
        have HC := Lib.hid (HG.out _ hb k hlt)
        rw [g1] at HC
        clear g1
        go_wp2_with (go_at_call 86; refine (HC.out).mono ?_; rintro e w1 ⟨rfl, hb1⟩)
        first
          | (go_roundw
             case rel => (exact ⟨k + 1, by omega, by go_num, HN.out, bon hb hb1⟩)
             case measure => (simp [intOf]; omega))
          | (refine ⟨?_, ?_⟩
             · (exact ⟨k + 1, by omega, by go_num, HN.out, bon hb hb1⟩)
             · (simp [intOf]; omega))
    · have HN : Hid (∀ j, j < l.length → g j = false) := Lib.hid (fun j hj => HA.out j (by omega))
      go_wp2
      go_ret
      exact ⟨_, rfl, .inl ⟨rfl, HN.out⟩, hb⟩

set_option maxHeartbeats 1000000 in
theorem ctn_hd (v : Value) (l : List Int) (w : World) (h : Ints w v l) (g : Nat → Bool) (cap : Value)
    (hg : ∀ w', Below w.heap.size w w' → ∀ j, j < l.length → Calls Tryz.prog 86 #[.int .i64 (ix l j), cap] w' fun e w'' => e = .returned (.bool (g j)) ∧ Below w'.heap.size w' w'') :
    Calls Tryz.prog 51 #[v, .func (.func 86) #[] #[cap]] w fun e w' => e = .returned (.bool (anyR l.length g)) ∧ Below w.heap.size w w' := by
  have HI := Lib.hid (idx_hd v l w h g cap hg)
  obtain ⟨a1, c1, rfl, -⟩ := h.form
  clear h hg
  go_enter Tryz.func51, Tryz.ntmps51
  go_wp2_with (go_at_call 79; refine (HI.out).mono ?_; rintro e w1 ⟨r, rfl, hr, hb1⟩; have HR := Lib.hid hr; clear hr)
  go_ret
  exact ⟨ret_bool HR.out.any, hb1⟩

/-- The rule is satisfied by m. -/
def satT (r : GR) (m : List Int) : Bool := r.choice || !bodyT r m || anyR r.head.length (fun j => decide (ix r.head j ∈ m))

end Go.Proofs.YtoahecjdkgeamaaGreatDoor

/- reduct: satisfied, Broken, Models, Body: contracts. -/
namespace Go.Proofs.YtoahecjdkgeamaaGreatDoor
open Go.RowKit

theorem lits_le2 {l : List Int} {n : Int} (h : orderedB l n = true) (hn : 0 ≤ n) : (l.length : Int) ≤ 2 * n := by
  have hp : (l.map litKey).Pairwise (· < ·) := by
    rw [List.pairwise_iff_getElem]
    intro i j hi hj hij
    simp only [List.length_map] at hi hj
    have := ordered_lt h j hj i hij
    simpa [ix, List.getD_eq_getElem?_getD, List.getElem?_eq_getElem hi, List.getElem?_eq_getElem hj] using this
  have := lt_length (l.map litKey) 2 (2 * n + 2) hp (fun x hx => by
    obtain ⟨y, hy, rfl⟩ := List.mem_map.1 hx
    have := ordered_lit h hy
    unfold litKey
    split <;> omega) (by omega)
  simp at this; omega

/-- A valid body. -/
structure BodyV (r : GR) (n : Int) : Prop where
  rng : 0 ≤ n ∧ n ≤ 4000
  ord : orderedB r.body n = true
  sum : r.sum = true → weightsB r.w r.body.length = true
  bound : 0 ≤ r.bound

theorem bodyV_valid {p : GP} (h : validE p = 0) {k : Nat} (hk : k < p.rules.length) : BodyV (ixR p.rules k) p.n :=
  let hv := validP h; ⟨hv.n, hv.body k hk, hv.sum k hk, hv.bound k hk⟩

theorem BodyV.ok {r : GR} {n : Int} (h : BodyV r n) : BodyOk r where
  len := by have := lits_le2 h.ord h.rng.1; have := h.rng; omega
  lit := fun j hj => by have := ordered_lit h.ord (ix_mem hj); have := h.rng; omega
  wlen := fun hs => by have := (weights_sum (h.sum hs)).1; omega
  w := fun hs j hj => by
    have h1 := weights_sum (h.sum hs)
    have h2 := h1.2.1 j hj
    have h3 := h1.2.2 (j + 1) (by omega)
    have h4 := h1.2.2 j (by omega)
    unfold sumTo at h3
    omega

theorem bodyOk_valid {p : GP} (h : validE p = 0) {k : Nat} (hk : k < p.rules.length) : BodyOk (ixR p.rules k) := (bodyV_valid h hk).ok

set_option maxHeartbeats 2000000 in
theorem sat_any (v : Value) (r : GR) (m : List Int) (mb : Nat) (w : World) (hr : RuleIs w v r) (h : InM w mb m) (hok : BodyOk r) :
    Calls Tryz.prog 91 #[v, .func (.func 86) #[] #[.pointer (some ⟨mb, 0, none⟩)]] w fun e w' => e = .returned (.bool (satT r m)) ∧ Below w.heap.size w w' := by
  obtain ⟨vh, vb, vw, rfl, hsl⟩ := hr
  have hal := bal (Below.refl w.heap.size w) (.cells #[.bool r.choice, vh, .bool r.sum, .int .i64 r.bound, vb, vw] 51)
  have HBX := Lib.hid (Blk.new w [.bool r.choice, vh, .bool r.sum, .int .i64 r.bound, vb, vw] 51)
  obtain ⟨a1, c1, rfl, -, hl1, -, -⟩ := hsl.head.form
  obtain ⟨a2, c2, rfl, -⟩ := hsl.body.form
  obtain ⟨a3, c3, rfl, -⟩ := hsl.wts.form
  have HR : Hid (RuleIs (w.alloc (.cells #[.bool r.choice, .slice a1 r.head.length c1, .bool r.sum, .int .i64 r.bound, .slice a2 r.body.length c2, .slice a3 r.w.length c3] 51)) (.agg #[.bool r.choice, .slice a1 r.head.length c1, .bool r.sum, .int .i64 r.bound, .slice a2 r.body.length c2, .slice a3 r.w.length c3]) r) := Lib.hid ⟨_, _, _, rfl, hsl.below hal⟩
  have HH := Lib.hid (hsl.head.below hal)
  have HIN := Lib.hid (h.below hal)
  have HOK := Lib.hid hok
  have HAL := Lib.hid hal
  clear hsl h hok hal
  cases hc : r.choice with
  | true =>
    have HF : Hid (satT r m = true) := Lib.hid (by unfold satT; rw [hc]; rfl)
    rw [hc] at HR HBX HH HIN HAL
    clear hc
    go_enter Tryz.func91, Tryz.ntmps91
    go_wp2
    go_ret
    exact ⟨ret_bool HF.out.symm, HAL.out⟩
  | false =>
    have kx := HBX.out.cell
    have hlt := HBX.out.lt
    rw [hc] at HR HBX HH HIN HAL kx hlt
    cases hb : bodyT r m with
    | false =>
      have HF : Hid (satT r m = true) := Lib.hid (by unfold satT; rw [hc, hb]; rfl)
      have HBT := Lib.hid hb
      clear hc hb
      go_enter Tryz.func91, Tryz.ntmps91
      go_wp2_with (go_at_call 60; (with_reducible refine (bodyf_any _ r m mb _ HR.out HIN.out HOK.out).mono ?_); rintro e w1 ⟨e1, hb1⟩; rw [HBT.out] at e1; subst e1)
      go_ret
      exact ⟨ret_bool HF.out.symm, bon HAL.out hb1⟩
    | true =>
      have HF : Hid (satT r m = anyR r.head.length (fun j => decide (ix r.head j ∈ m))) := Lib.hid (by unfold satT; rw [hc, hb]; rfl)
      have HBT := Lib.hid hb
      clear hc hb
      go_enter Tryz.func91, Tryz.ntmps91
      go_wp2_with (first
        | (go_at_call 60; (with_reducible refine (bodyf_any _ r m mb _ HR.out HIN.out HOK.out).mono ?_); rintro e w1 ⟨e1, hb1⟩; rw [HBT.out] at e1; subst e1; have kx1 := fun o => (bcell hb1 _ o hlt).trans (kx o))
        | (go_at_call 51; (with_reducible refine (ctn_hd _ r.head _ (HH.out.below hb1) (fun j => decide (ix r.head j ∈ m)) _ (fun w' hb j hj => (memb1_any _ m mb w' ((HIN.out.below hb1).below hb)).mono fun e w'' ⟨e1, e2⟩ => ⟨e1, e2 ▸ Below.refl _ _⟩)).mono ?_); rintro e w2 ⟨rfl, hb2⟩))
      go_ret
      exact ⟨ret_bool HF.out.symm, bon (bon HAL.out hb1) hb2⟩

theorem brokc_any (v : Value) (r : GR) (m : List Int) (mb cb : Nat) (w : World) (hr : RuleIs w v r) (h : InM w mb m) (hb : Blk w cb [.func (.func 86) #[] #[.pointer (some ⟨mb, 0, none⟩)]] 81) (hok : BodyOk r) :
    Calls Tryz.prog 90 #[v, .pointer (some ⟨cb, 0, none⟩)] w fun e w' => e = .returned (.bool (!satT r m)) ∧ Below w.heap.size w w' := by
  obtain ⟨vh, vb, vw, rfl, hsl⟩ := hr
  have hal := bal (Below.refl w.heap.size w) (.cells #[.bool r.choice, vh, .bool r.sum, .int .i64 r.bound, vb, vw] 51)
  obtain ⟨a1, c1, rfl, -, hl1, -, -⟩ := hsl.head.form
  obtain ⟨a2, c2, rfl, -⟩ := hsl.body.form
  obtain ⟨a3, c3, rfl, -⟩ := hsl.wts.form
  have HR : Hid (RuleIs (w.alloc (.cells #[.bool r.choice, .slice a1 r.head.length c1, .bool r.sum, .int .i64 r.bound, .slice a2 r.body.length c2, .slice a3 r.w.length c3] 51)) (.agg #[.bool r.choice, .slice a1 r.head.length c1, .bool r.sum, .int .i64 r.bound, .slice a2 r.body.length c2, .slice a3 r.w.length c3]) r) := Lib.hid ⟨_, _, _, rfl, hsl.below hal⟩
  have HIN := Lib.hid (h.below hal)
  have HOK := Lib.hid hok
  have kb := hb.cell 0
  have hlt := hb.lt
  have HAL := Lib.hid hal
  clear hsl h hok hb hal
  go_enter Tryz.func90, Tryz.ntmps90
  go_wp2_with (go_at_call 91; (with_reducible refine (sat_any _ r m mb _ HR.out HIN.out HOK.out).mono ?_); rintro e w1 ⟨rfl, hb1⟩)
  go_ret
  exact ⟨rfl, bon HAL.out hb1⟩

set_option maxHeartbeats 1000000 in
theorem idxR_brk (v : Value) (l : List GR) (w : World) (h : RulesIs w v l) (g : Nat → Bool) (cap : Value)
    (hg : ∀ w', Below w.heap.size w w' → ∀ j, j < l.length → ∀ u, RuleIs w' u (ixR l j) → Calls Tryz.prog 90 #[u, cap] w' fun e w'' => e = .returned (.bool (g j)) ∧ Below w'.heap.size w' w'') :
    Calls Tryz.prog 89 #[v, .func (.func 90) #[] #[cap]] w fun e w' => ∃ r, e = .returned (.int .i64 r) ∧ IxP l.length g r ∧ Below w.heap.size w w' := by
  obtain ⟨a1, c1, rfl, -, hl1, -, hcell⟩ := h.form
  have HG := Lib.hid hg
  clear h hg
  go_enter Tryz.func89, Tryz.ntmps89
  go_wp2
  go_loopw [8] (fun i wx => IxR l.length g w i wx) (fun i _ => l.length - (intOf i).toNat)
  case atStart => exact ⟨0, by omega, rfl, fun j hj => absurd hj (Nat.not_lt_zero _), Below.refl _ _⟩
  case round =>
    obtain ⟨k, hk, rfl, hall, hb⟩ := hrel
    have HA := Lib.hid hall
    clear hall
    by_cases hlt : k < l.length
    · obtain ⟨b, off, rfl, hbl, hc⟩ := hcell (by omega)
      obtain ⟨vh, vb, vw, ⟨k0, k1, k2, k3, k4, k5⟩, hsl⟩ := hc k hlt
      have hbr := hsl.below hb
      have hk0 := (bcell hb _ _ hbl).trans k0
      have hk1 := (bcell hb _ _ hbl).trans k1
      have hk2 := (bcell hb _ _ hbl).trans k2
      have hk3 := (bcell hb _ _ hbl).trans k3
      have hk4 := (bcell hb _ _ hbl).trans k4
      have hk5 := (bcell hb _ _ hbl).trans k5
      have HRU : Hid (RuleIs wr (.agg #[.bool (ixR l k).choice, vh, .bool (ixR l k).sum, .int .i64 (ixR l k).bound, vb, vw]) (ixR l k)) := Lib.hid ⟨vh, vb, vw, rfl, hbr⟩
      clear hc hcell k0 k1 k2 k3 k4 k5 hsl hbr
      cases g1 : g k with
      | true =>
        have HK : Hid (_ = true) := Lib.hid g1
        have HC := Lib.hid (HG.out _ hb k hlt _ HRU.out)
        rw [g1] at HC
        clear g1
        go_wp2_with (go_at_call 90; refine (HC.out).mono ?_; rintro e w1 ⟨rfl, hb1⟩)
        go_ret
        exact ⟨_, rfl, .inr ⟨k, hlt, rfl, HK.out, HA.out⟩, bon hb hb1⟩
      | false =>
        have HN := Lib.hid (lt_succ_all HA.out g1)
        have HC := Lib.hid (HG.out _ hb k hlt _ HRU.out)
        rw [g1] at HC
        clear g1
        go_wp2_with (go_at_call 90; refine (HC.out).mono ?_; rintro e w1 ⟨rfl, hb1⟩)
        first
          | (go_roundw
             case rel => (exact ⟨k + 1, by omega, by go_num, HN.out, bon hb hb1⟩)
             case measure => (simp [intOf]; omega))
          | (refine ⟨?_, ?_⟩
             · (exact ⟨k + 1, by omega, by go_num, HN.out, bon hb hb1⟩)
             · (simp [intOf]; omega))
    · have HN : Hid (∀ j, j < l.length → g j = false) := Lib.hid (fun j hj => HA.out j (by omega))
      go_wp2
      go_ret
      exact ⟨_, rfl, .inl ⟨rfl, HN.out⟩, hb⟩

/-- The error of a program and a set. -/
def checkE (p : GP) (m : List Int) : Int := if validE p ≠ 0 then validE p else if setQ p.n m then 0 else 2

set_option maxHeartbeats 1000000 in
theorem rcheck_any (v vm : Value) (p : GP) (m : List Int) (w : World) (h : ProgIs w v p) (hm : Ints w vm m) :
    Calls Tryz.prog 88 #[v, vm] w fun e w' => e = .returned (.int .i64 (checkE p m)) ∧ Below w.heap.size w w' := by
  have h0 := h
  obtain ⟨vn, vs, vr, vmn, rfl, -⟩ := h
  have hal := bal (Below.refl w.heap.size w) (.cells #[.int .i64 p.n, vn, vs, vr, vmn] 27)
  have HBX := Lib.hid (Blk.new w [.int .i64 p.n, vn, vs, vr, vmn] 27)
  have kx := HBX.out.cell
  have hlt := HBX.out.lt
  have HP := Lib.hid (h0.below hal)
  have HM := Lib.hid (hm.below hal)
  have HAL := Lib.hid hal
  obtain ⟨am, cm, rfl, -⟩ := hm.form
  clear h0 hm hal
  by_cases hv : validE p = 0
  · have h1 : (validE p != 0) = false := by simp [hv]
    have h2 : (validE p == 0) = true := by simp [hv]
    cases hs : setQ p.n m with
    | true =>
      have HF : Hid (checkE p m = 0) := Lib.hid (by unfold checkE; rw [if_neg (by simp [hv]), hs]; rfl)
      clear hv
      go_enter Tryz.func88, Tryz.ntmps88
      go_wp2_with (first | (go_at_call 22; (with_reducible refine (valid_any _ p _ HP.out).mono ?_); rintro e w1 ⟨e1, hb1⟩; subst e1; have kx1 := fun o => (bcell hb1 _ o hlt).trans (kx o)) | (go_at_call 106; (with_reducible refine (redSet_any _ p.n m _ (HM.out.below hb1)).mono ?_); rintro e w2 ⟨rfl, rfl⟩))
      go_ret
      exact ⟨ret_int HF.out.symm, bon HAL.out hb1⟩
    | false =>
      have HF : Hid (checkE p m = 2) := Lib.hid (by unfold checkE; rw [if_neg (by simp [hv]), hs]; rfl)
      clear hv
      go_enter Tryz.func88, Tryz.ntmps88
      go_wp2_with (first | (go_at_call 22; (with_reducible refine (valid_any _ p _ HP.out).mono ?_); rintro e w1 ⟨e1, hb1⟩; subst e1; have kx1 := fun o => (bcell hb1 _ o hlt).trans (kx o)) | (go_at_call 106; (with_reducible refine (redSet_any _ p.n m _ (HM.out.below hb1)).mono ?_); rintro e w2 ⟨rfl, rfl⟩))
      go_ret
      exact ⟨ret_int HF.out.symm, bon HAL.out hb1⟩
  · have h1 : (validE p != 0) = true := by simp [hv]
    have h2 : (validE p == 0) = false := by simp [hv]
    have HF : Hid (checkE p m = validE p) := Lib.hid (by unfold checkE; rw [if_pos hv])
    clear hv
    go_enter Tryz.func88, Tryz.ntmps88
    go_wp2_with (first | (go_at_call 22; (with_reducible refine (valid_any _ p _ HP.out).mono ?_); rintro e w1 ⟨e1, hb1⟩; subst e1; have kx1 := fun o => (bcell hb1 _ o hlt).trans (kx o)) | (go_at_call 106; (with_reducible refine (redSet_any _ p.n m _ (HM.out.below hb1)).mono ?_); rintro e w2 ⟨rfl, rfl⟩))
    go_ret
    exact ⟨ret_int HF.out.symm, bon HAL.out hb1⟩

/-- What Broken returns: the first rule that is not satisfied, or -1; the error. -/
def BrokPost (p : GP) (m : List Int) (w : World) (e : Ending) (w' : World) : Prop :=
  ∃ r : Int, e = .returned (.tuple #[.int .i64 r, .int .i64 (checkE p m)]) ∧ (checkE p m ≠ 0 → r = 0) ∧ (checkE p m = 0 → IxP p.rules.length (fun i => !satT (ixR p.rules i) m) r) ∧ Below w.heap.size w w'

theorem checkE_ok {p : GP} {m : List Int} (h : checkE p m = 0) : validE p = 0 ∧ setQ p.n m = true := by
  unfold checkE at h
  split at h
  · rename_i h1; exact absurd h h1
  · rename_i h1
    split at h
    · rename_i h2; exact ⟨Decidable.not_not.1 h1, h2⟩
    · cases h

theorem inc_le {l : List Int} {n : Int} (h : setQ n l = true) (hn : 0 ≤ n) : (l.length : Int) ≤ n := by
  have hp : l.Pairwise (· < ·) := by
    rw [List.pairwise_iff_getElem]
    intro i j hi hj hij
    have key : ∀ d : Nat, ∀ i : Nat, i + d + 1 < l.length → ix l i < ix l (i + d + 1) := by
      intro d
      induction d with
      | zero =>
        intro i hi
        have := allR_get h (i + 1) (by omega)
        unfold setTo at this
        simp only [Bool.and_eq_true, Bool.or_eq_true, decide_eq_true_eq, beq_iff_eq, Nat.add_sub_cancel] at this
        exact this.2.resolve_left (by omega)
      | succ d ih =>
        intro i hi
        have h1 := ih i (by omega)
        have := allR_get h (i + d + 1 + 1) (by omega)
        unfold setTo at this
        simp only [Bool.and_eq_true, Bool.or_eq_true, decide_eq_true_eq, beq_iff_eq, Nat.add_sub_cancel] at this
        have h2 := this.2.resolve_left (by omega)
        exact Int.lt_trans h1 h2
    have := key (j - i - 1) i (by omega)
    rw [show i + (j - i - 1) + 1 = j by omega] at this
    simpa [ix, List.getD_eq_getElem?_getD, List.getElem?_eq_getElem hi, List.getElem?_eq_getElem hj] using this
  have := lt_length l 1 (n + 1) hp (fun x hx => by
    obtain ⟨j, hj, rfl⟩ := List.mem_iff_getElem.1 hx
    have := allR_get h j hj
    unfold setTo at this
    simp only [Bool.and_eq_true, decide_eq_true_eq] at this
    have e : ix l j = l[j] := by simp [ix, List.getD_eq_getElem?_getD, List.getElem?_eq_getElem hj]
    rw [e] at this
    omega) (by omega)
  omega

set_option maxHeartbeats 1000000 in
theorem broken_any (v vm : Value) (p : GP) (m : List Int) (w : World) (h : ProgIs w v p) (hm : Ints w vm m) :
    Calls Tryz.prog 65 #[v, vm] w (BrokPost p m w) := by
  have h0 := h
  obtain ⟨vn, vs, vr, vmn, rfl, hps⟩ := h
  have hal := bal (Below.refl w.heap.size w) (.cells #[.int .i64 p.n, vn, vs, vr, vmn] 27)
  have HBX := Lib.hid (Blk.new w [.int .i64 p.n, vn, vs, vr, vmn] 27)
  have kx := HBX.out.cell
  have hlt := HBX.out.lt
  have HP := Lib.hid (h0.below hal)
  have HM := Lib.hid (hm.below hal)
  have HRU := Lib.hid (hps.rules.below hal)
  obtain ⟨a1, c1, rfl, -⟩ := hps.rules.form
  have HAL := Lib.hid hal
  obtain ⟨am, cm, rfl, -⟩ := hm.form
  clear h0 hm hal hps
  by_cases hv : checkE p m = 0
  · have h1 : (checkE p m != 0) = false := by simp [hv]
    have HC := Lib.hid hv
    have HML : Hid (m.length ≤ 1000000000) := Lib.hid (by have h2 := checkE_ok hv; have h3 := inc_le h2.2 (validP h2.1).n.1; have := (validP h2.1).n; omega)
    have HOK : Hid (∀ k, k < p.rules.length → BodyOk (ixR p.rules k)) := Lib.hid (fun k hk => bodyOk_valid (checkE_ok hv).1 hk)
    clear hv
    go_enter Tryz.func65, Tryz.ntmps65
    go_wp2_with (first
      | (go_at_call 88; (with_reducible refine (rcheck_any _ _ p m _ HP.out HM.out).mono ?_); rintro e w1 ⟨rfl, hb1⟩; have kx1 := fun o => (bcell hb1 _ o hlt).trans (kx o); have hz1 := hb1.size)
      | (go_at_call 61; (with_reducible refine (member_any _ m _ (HM.out.below hb1) HML.out).mono ?_); rintro e w2 ⟨mb, rfl, hin, hb2⟩; have HIN := Lib.hid hin; have kx2 := fun o => (bcell hb2 _ o (Nat.lt_of_lt_of_le hlt hz1)).trans (kx1 o); have hlt2 := Nat.lt_of_lt_of_le hlt (Nat.le_trans hz1 hb2.size); clear hin)
      | (go_at_call 89; (with_reducible refine (idxR_brk _ p.rules _ (HRU.out.below (bon hb1 (bal hb2 _))) (fun i => !satT (ixR p.rules i) m) _ (fun w' hb j hj u hu => brokc_any u _ m mb _ w' hu ((HIN.out.below (bal (Below.refl _ _) _)).below hb) ((Blk.new w2 _ _).below hb) (HOK.out j hj))).mono ?_); rintro e w3 ⟨r, rfl, hr, hb3⟩; have HRR := Lib.hid hr; clear hr))
    go_ret2
    exact ⟨r, by rw [HC.out]; rfl, fun hne => absurd HC.out hne, fun _ => HRR.out, bon (bon HAL.out (bon hb1 (bal hb2 _))) hb3⟩
  · have h1 : (checkE p m != 0) = true := by simp [hv]
    have HC := Lib.hid hv
    clear hv
    go_enter Tryz.func65, Tryz.ntmps65
    go_wp2_with (first
      | (go_at_call 88; (with_reducible refine (rcheck_any _ _ p m _ HP.out HM.out).mono ?_); rintro e w1 ⟨rfl, hb1⟩; have kx1 := fun o => (bcell hb1 _ o hlt).trans (kx o)))
    go_ret2
    exact ⟨0, rfl, fun _ => rfl, fun h => absurd h HC.out, bon HAL.out hb1⟩

/-- m is a model of the rules. -/
def modelsB (p : GP) (m : List Int) : Bool := allR p.rules.length (fun i => satT (ixR p.rules i) m)

set_option maxHeartbeats 1000000 in
theorem models_any (v vm : Value) (p : GP) (m : List Int) (w : World) (h : ProgIs w v p) (hm : Ints w vm m) :
    Calls Tryz.prog 27 #[v, vm] w fun e w' => e = .returned (.tuple #[.bool (decide (checkE p m = 0) && modelsB p m), .int .i64 (checkE p m)]) ∧ Below w.heap.size w w' := by
  have h0 := h
  obtain ⟨vn, vs, vr, vmn, rfl, hps⟩ := h
  have hal := bal (Below.refl w.heap.size w) (.cells #[.int .i64 p.n, vn, vs, vr, vmn] 27)
  have HP := Lib.hid (h0.below hal)
  have HM := Lib.hid (hm.below hal)
  have HAL := Lib.hid hal
  obtain ⟨am, cm, rfl, -⟩ := hm.form
  clear h0 hm hal hps
  by_cases hv : checkE p m = 0
  · have h1 : (checkE p m == 0) = true := by simp [hv]
    have HC := Lib.hid hv
    clear hv
    have HB : Hid (∀ r, IxP p.rules.length (fun i => !satT (ixR p.rules i) m) r → decide (r < 0) = modelsB p m) := Lib.hid (fun r hr => by
      have := hr.any
      unfold modelsB
      rw [← allR_not, ← this]
      by_cases h0 : 0 ≤ r
      · rw [decide_eq_false (by omega), decide_eq_true h0]; rfl
      · rw [decide_eq_true (by omega), decide_eq_false h0]; rfl)
    go_enter Tryz.func27, Tryz.ntmps27
    go_wp2_with (go_at_call 65; (with_reducible refine (broken_any _ _ p m _ HP.out HM.out).mono ?_); rintro e w1 ⟨r, rfl, hr1, hr2, hb1⟩; have HRR := Lib.hid (hr2 HC.out); clear hr1 hr2)
    go_ret2
    refine ⟨?_, bon HAL.out hb1⟩
    have e := HB.out r HRR.out
    first
      | (show Ending.returned (.tuple #[.bool (modelsB p m), .int .i64 (checkE p m)]) = _; rw [decide_eq_true HC.out, Bool.true_and])
      | (show Ending.returned (.tuple #[.bool (decide (r < 0)), .int .i64 (checkE p m)]) = _; rw [decide_eq_true HC.out, Bool.true_and, e])
  · have h1 : (checkE p m == 0) = false := by simp [hv]
    have HC := Lib.hid hv
    clear hv
    go_enter Tryz.func27, Tryz.ntmps27
    go_wp2_with (go_at_call 65; (with_reducible refine (broken_any _ _ p m _ HP.out HM.out).mono ?_); rintro e w1 ⟨r, rfl, hr1, hr2, hb1⟩; have HRR := Lib.hid (hr1 HC.out); clear hr1 hr2)
    go_ret2
    refine ⟨?_, bon HAL.out hb1⟩
    show Ending.returned (.tuple #[.bool false, .int .i64 (checkE p m)]) = _
    rw [decide_eq_false HC.out]; rfl

end Go.Proofs.YtoahecjdkgeamaaGreatDoor
