/- My texts Lp1, CpP, Mem, LeastP, Red1, merged. -/
import Derived.Test.YtfhpfbakoiekpaaGreatDoorM04
import Derived.Deep.DeepCutAuto

/- loops: the small functions: slices.Contains, isSet, value, internal. -/
namespace Go.Proofs.YtfhpfbakoiekpaaGreatDoor
open Go.RowKit


theorem mem_ix {l : List Int} {x : Int} : x ∈ l ↔ ∃ k, k < l.length ∧ ix l k = x := by
  constructor
  · intro h
    obtain ⟨k, hk, e⟩ := List.mem_iff_getElem.1 h
    exact ⟨k, hk, by simp [ix, List.getD_eq_getElem?_getD, List.getElem?_eq_getElem hk, e]⟩
  · rintro ⟨k, hk, rfl⟩; exact ix_mem hk

set_option maxHeartbeats 1000000 in
theorem index_any (v : Value) (l : List Int) (x : Int) (w : World) (h : Ints w v l) :
    Calls Tryz.prog 76 #[v, .int .i64 x] w fun e w' => ∃ r, e = .returned (.int .i64 r) ∧ IxP l.length (fun j => decide (ix l j = x)) r ∧ w = w' := by
  obtain ⟨a1, c1, rfl, -, hl1, -, hcell⟩ := h.form
  clear h
  go_enter Tryz.func76, Tryz.ntmps76
  go_wp2
  go_loop [8] (fun i => ∃ k : Nat, k ≤ l.length ∧ i = .int .i64 k ∧ Hid (∀ j, j < k → decide (ix l j = x) = false)) (fun i => l.length - (intOf i).toNat)
  case atStart => exact ⟨0, by omega, rfl, Lib.hid (fun j hj => absurd hj (Nat.not_lt_zero _))⟩
  case round =>
    obtain ⟨k, hk, rfl, HA⟩ := hrel
    by_cases hlt : k < l.length
    · obtain ⟨b, off, rfl, hbl, hc⟩ := hcell (by omega)
      have hk1 := hc k hlt
      clear hc hcell
      by_cases g1 : ix l k = x
      · have HK : Hid (ix l k = x) := Lib.hid g1
        have g2 : (x == ix l k) = true := by simp [g1]
        clear g1
        go_wp2
        go_ret
        exact ⟨_, rfl, .inr ⟨k, hlt, rfl, decide_eq_true HK.out, HA.out⟩, rfl⟩
      · have HN := Lib.hid (lt_succ_all HA.out (decide_eq_false g1))
        have g2 : (x == ix l k) = false := by simp; exact fun e => g1 e.symm
        clear g1
        go_wp2
        first
          | (go_round
             case rel => (exact ⟨k + 1, by omega, by go_num, HN⟩)
             case measure => (simp [intOf]; omega))
          | (refine ⟨?_, ?_⟩
             · (exact ⟨k + 1, by omega, by go_num, HN⟩)
             · (simp [intOf]; omega))
    · have HN : Hid (∀ j, j < l.length → decide (ix l j = x) = false) := Lib.hid (fun j hj => HA.out j (by omega))
      go_wp2
      go_ret
      exact ⟨_, rfl, .inl ⟨rfl, HN.out⟩, rfl⟩

theorem anyR_mem (l : List Int) (x : Int) : anyR l.length (fun j => decide (ix l j = x)) = decide (x ∈ l) := by
  by_cases h : x ∈ l
  · obtain ⟨k, hk, e⟩ := mem_ix.1 h
    rw [decide_eq_true h, anyR_true k hk (decide_eq_true e)]
  · rw [decide_eq_false h, anyR_false (fun j hj => decide_eq_false (fun e => h (mem_ix.2 ⟨j, hj, e⟩)))]

theorem contains_any (v : Value) (l : List Int) (x : Int) (w : World) (h : Ints w v l) :
    Calls Tryz.prog 27 #[v, .int .i64 x] w fun e w' => e = .returned (.bool (decide (x ∈ l))) ∧ w = w' := by
  have HI := Lib.hid (index_any v l x w h)
  obtain ⟨a1, c1, rfl, -⟩ := h.form
  clear h
  go_enter Tryz.func27, Tryz.ntmps27
  go_wp2_with (go_at_call 76; refine (HI.out).mono ?_; rintro e w1 ⟨r, rfl, hr, rfl⟩; have HR := Lib.hid hr; clear hr)
  go_ret
  exact ⟨ret_bool (by rw [HR.out.any, anyR_mem]), rfl⟩

/-- A set of atoms: increasing, within 1 .. n. -/
def setTo (n : Int) (S : List Int) (k : Nat) : Bool := decide (1 ≤ ix S k ∧ ix S k ≤ n) && (k == 0 || decide (ix S (k - 1) < ix S k))
end Go.Proofs.YtfhpfbakoiekpaaGreatDoor

/- The completion of a program (plain): its constraints, and what they say together. -/
namespace Go.Proofs.YtfhpfbakoiekpaaGreatDoor

def negL (l : List Int) : List Int := l.map fun x => -x
def restI (r : GR) : Int := 1 - r.bound + sumTo r.w r.w.length
def compH (r : GR) (b : Int) : List PBC :=
  if r.sum then [(normP (r.body ++ [-b]) (r.w ++ [r.bound]) r.bound).1, (normP (negL r.body ++ [b]) (r.w ++ [max (restI r) 0]) (restI r)).1]
  else (r.body.map fun l => (clauseP [-b, l]).1) ++ [(clauseP (negL r.body ++ [b])).1]
def compR (r : GR) (b : Int) : List PBC := compH r b ++ (if r.choice then [] else [(clauseP (r.head ++ [-b])).1])
/-- The body variables of the first k rules with the atom in the head. -/
def supAt' (p : GP) (a : Int) : Nat → List Int
  | 0 => []
  | k + 1 => supAt' p a k ++ (if a ∈ (ixR p.rules k).head then [p.n + 1 + k] else [])
def atomC (p : GP) (a : Int) : PBC := (clauseP (supAt' p a p.rules.length ++ [-a])).1
def compTo (p : GP) : Nat → List PBC
  | 0 => []
  | k + 1 => compTo p k ++ compR (ixR p.rules k) (p.n + 1 + k)
def atomTo (p : GP) : Nat → List PBC
  | 0 => []
  | k + 1 => atomTo p k ++ [atomC p ((k : Int) + 1)]
def compL (p : GP) : List PBC := compTo p p.rules.length ++ atomTo p p.n.toNat

/-! ### Lists -/
theorem negL_len (l : List Int) : (negL l).length = l.length := by simp [negL]

/-! ### The normal form has no error -/
/-! ### A rule -/
/-- A rule as valid programs have it. -/
structure RuleV (r : GR) (n : Int) : Prop where
  rng : 0 ≤ n ∧ n ≤ 4000
  head : ∀ x ∈ r.head, 1 ≤ x ∧ x ≤ n
  body : ∀ x ∈ r.body, x ≠ 0 ∧ -n ≤ x ∧ x ≤ n
  len : r.body.length ≤ 8000 ∧ r.head.length ≤ 8000
  sum : r.sum = true → r.body.length = r.w.length ∧ (∀ j, j < r.w.length → 1 ≤ ix r.w j) ∧ sumTo r.w r.w.length ≤ 1048576 ∧ 0 ≤ r.bound ∧ r.bound ≤ 1048576

theorem sumTo_ge {K : List Int} (h : ∀ j, j < K.length → 1 ≤ ix K j) : ∀ (i : Nat), i ≤ K.length → 0 ≤ sumTo K i ∧ ∀ j, j < i → ix K j ≤ sumTo K i
  | 0, _ => ⟨Int.le_refl _, fun j hj => absurd hj (Nat.not_lt_zero _)⟩
  | i + 1, hi => by
    obtain ⟨h1, h2⟩ := sumTo_ge h i (by omega)
    have h3 := h i (by omega)
    simp only [sumTo]
    refine ⟨by omega, fun j hj => ?_⟩
    by_cases e : j = i
    · subst e; omega
    · have := h2 j (by omega); omega

section
variable {r : GR} {n b : Int}

/-- A body variable. -/
def BVar (n b : Int) : Prop := n < b ∧ b ≤ 60000

end

/-! ### The program -/
theorem mem_supAt {p : GP} {a x : Int} : ∀ k, x ∈ supAt' p a k ↔ ∃ i : Nat, i < k ∧ a ∈ (ixR p.rules i).head ∧ x = p.n + 1 + i
  | 0 => by simp [supAt']
  | k + 1 => by
    rw [supAt', List.mem_append, mem_supAt k]
    constructor
    · rintro (⟨i, hi, h⟩ | h)
      · exact ⟨i, by omega, h⟩
      · split at h
        · rename_i hm; exact ⟨k, by omega, hm, by simpa using h⟩
        · simp at h
    · rintro ⟨i, hi, h⟩
      by_cases e : i = k
      · subst e; exact .inr (by rw [if_pos h.1]; simpa using h.2)
      · exact .inl ⟨i, by omega, h⟩

theorem supAt_len (p : GP) (a : Int) : ∀ k, (supAt' p a k).length ≤ k
  | 0 => by simp [supAt']
  | k + 1 => by
    have := supAt_len p a k
    rw [supAt', List.length_append]
    split <;> simp <;> omega

structure CompV (p : GP) : Prop where
  n : 0 ≤ p.n ∧ p.n ≤ 4000
  rules : p.rules.length ≤ 40000
  rule : ∀ i, i < p.rules.length → RuleV (ixR p.rules i) p.n

theorem CompV.bvar {p : GP} (h : CompV p) {i : Nat} (hi : i < p.rules.length) : BVar p.n (p.n + 1 + i) := by
  have h1 := h.n
  have h2 := h.rules
  exact ⟨by omega, by omega⟩

/-! ### Normal forms over the variables -/
/-! ### The number of constraints -/
def compN (r : GR) : Nat := (if r.sum then 2 else r.body.length + 1) + (if r.choice then 0 else 1)
def compNs (p : GP) : Nat → Nat
  | 0 => 0
  | k + 1 => compNs p k + compN (ixR p.rules k)

theorem compR_len (r : GR) (b : Int) : (compR r b).length = compN r := by
  unfold compR compH compN
  rw [List.length_append]
  cases r.sum <;> cases r.choice <;> simp
theorem compTo_len (p : GP) : ∀ k, (compTo p k).length = compNs p k
  | 0 => rfl
  | k + 1 => by rw [compTo, List.length_append, compTo_len p k, compR_len, compNs]
theorem atomTo_len (p : GP) : ∀ k, (atomTo p k).length = k
  | 0 => rfl
  | k + 1 => by rw [atomTo, List.length_append, atomTo_len p k]; rfl
end Go.Proofs.YtfhpfbakoiekpaaGreatDoor

/- reduct.member: a set of atoms as a map and a closure. -/
namespace Go.Proofs.YtfhpfbakoiekpaaGreatDoor
open Go.RowKit

theorem run_makeMapI {P : Program} {t kt et : TypeId} (ht : P.underlying t = some (.map kt et)) (n : Int) (w : World) : (Instr.makeMap t (some (.int .i64 n))).run P w = .ok (.map (some w.heap.size)) (w.alloc (.map #[] 0)) := by
  simp [Instr.makeMap, run_underlying ht, Result.andThen, asInt, asIntOf]

/-- The map of a list's atoms under way. -/
def MemSt (W4 : World) (bm : Nat) (U : List Int) (k : Nat) (wx : World) : Prop :=
  ∃ G, MapIs (Value.int .i64) wx bm (mapI G) ∧ (∀ y, 0 ≤ G y ∧ G y ≤ k ∧ (0 < G y ↔ y ∈ U.take k)) ∧ Below W4.heap.size W4 wx

def MemRel (W4 : World) (bm : Nat) (U : List Int) (i : Value) (wx : World) : Prop := ∃ k : Nat, k ≤ U.length ∧ i = .int .i64 k ∧ MemSt W4 bm U k wx

theorem take_ixM (U : List Int) (k : Nat) (hk : k < U.length) : U.take (k + 1) = U.take k ++ [ix U k] := by
  rw [List.take_succ_eq_append_getElem hk]
  simp [ix, List.getD_eq_getElem?_getD, List.getElem?_eq_getElem hk]

theorem MemSt.start (W4 : World) (U : List Int) : MemSt W4 W4.heap.size U 0 (W4.alloc (.map #[] 0)) := by
  refine ⟨fun _ => 0, ?_, fun y => by simp, bal (Below.refl _ _) _⟩
  have : mapI (fun _ => 0) = fun _ => none := by funext x; simp [mapI]
  rw [this]; exact MapIs.made W4

theorem MemSt.put {W4 wx w7 : World} {U : List Int} {k : Nat} {G : Int → Int} (hG : ∀ y, 0 ≤ G y ∧ G y ≤ k ∧ (0 < G y ↔ y ∈ U.take k)) (hb : Below W4.heap.size W4 wx) (hk : k < U.length)
    (hm : MapIs (Value.int .i64) w7 W4.heap.size (upd (mapI G) (ix U k) (some (.int .i64 (G (ix U k) + 1))))) (hg : wx.grownBy w7 (some W4.heap.size)) : MemSt W4 W4.heap.size U (k + 1) w7 := by
  have hx := hG (ix U k)
  have hsz := hb.size
  refine ⟨setI G (ix U k) (G (ix U k) + 1), by rw [mapI_set (by omega)]; exact hm, fun y => ?_, hb.trans ⟨hg.os, hg.tape, hg.output, hg.size, fun i hi => hg.block i (by omega) (fun e => by have := Option.some.inj e; omega)⟩⟩
  rw [take_ixM U k hk, List.mem_append, List.mem_singleton]
  by_cases e : y = ix U k
  · subst e
    have e2 : setI G (ix U k) (G (ix U k) + 1) (ix U k) = G (ix U k) + 1 := by simp [setI]
    rw [e2]
    exact ⟨by omega, by omega, ⟨fun _ => .inr rfl, fun _ => by omega⟩⟩
  · have e2 : setI G (ix U k) (G (ix U k) + 1) y = G y := by simp [setI, e]
    rw [e2]
    have := hG y
    exact ⟨this.1, by omega, ⟨fun h => .inl (this.2.2.1 h), fun h => this.2.2.2 (h.resolve_right e)⟩⟩

/-- The closure of member: its box holds a map that holds m's atoms. -/
def InM (w : World) (mb : Nat) (m : List Int) : Prop :=
  ∃ b G, Blk w mb [.map (some b)] 95 ∧ MapIs (Value.int .i64) w b (mapI G) ∧ ∀ y, 0 < G y ↔ y ∈ m

theorem InM.below {w w' : World} {mb : Nat} {m : List Int} (h : InM w mb m) (hb : Below w.heap.size w w') : InM w' mb m :=
  let ⟨b, G, h1, h2, h3⟩ := h; ⟨b, G, h1.below hb, h2.below hb, h3⟩
theorem InM.lt {w : World} {mb : Nat} {m : List Int} (h : InM w mb m) : mb < w.heap.size := let ⟨_, _, h1, _⟩ := h; h1.lt

def MbRel (W : World) (m : List Int) (i : Value) (wx : World) : Prop := MemRel W W.heap.size m i wx ∧ Blk wx (W.heap.size + 1) [.map (some W.heap.size)] 95

set_option maxHeartbeats 1000000 in
theorem member_any (v : Value) (m : List Int) (w : World) (h : Ints w v m) (hlen : m.length ≤ 1000000000) :
    Calls Tryz.prog 111 #[v] w fun e w' => ∃ mb, e = .returned (.func (.func 140) #[] #[.pointer (some ⟨mb, 0, none⟩)]) ∧ InM w' mb m ∧ Below w.heap.size w w' := by
  obtain ⟨a1, c1, rfl, -, hl1, -, hcell⟩ := h.form
  clear h
  have hmm := fun n w => run_makeMapI Tryz.underlying95 n w
  go_enter Tryz.func111, Tryz.ntmps111
  go_wp2
  go_loopw [11] (fun i wx => MbRel w m i wx) (fun i _ => m.length - (intOf i).toNat)
  case atStart => exact ⟨⟨0, Nat.zero_le _, rfl, (let ⟨G, h1, h2, h3⟩ := MemSt.start w m; ⟨G, h1.alloc _, h2, bal h3 _⟩)⟩, Blk.newAt _ _ _ (by simp)⟩
  case round =>
    obtain ⟨⟨k, hk, rfl, hst⟩, hbk⟩ := hrel
    obtain ⟨G, hmap, hG, hbl⟩ := hst
    have HBL := Lib.hid hbl
    have HMAP := Lib.hid hmap
    have HG := Lib.hid hG
    have HBK := Lib.hid hbk
    have kb := hbk.cell 0
    by_cases hlt : k < m.length
    · obtain ⟨b, off, rfl, hbl2, hc⟩ := hcell (by omega)
      have hcx : wr.cell? ⟨b, off + k, none⟩ = some (.int .i64 (ix m k)) := (bcell hbl _ _ hbl2).trans (hc k hlt)
      have hlk := mapI_look hmap (ix m k)
      have hGk := hG (ix m k)
      have hGb : 0 ≤ G (ix m k) ∧ G (ix m k) ≤ 1000000000 := by omega
      clear hc hcell hmap hG hbl hGk hbk hmm
      go_wp2_with (at_mapUpdate; refine wpList_mput _ _ (ix m k) (.int .i64 (G (ix m k) + 1)) kvInt 95 3 3 Tryz.underlying95 Tryz.underlying3 rfl _ _ _ rfl rfl rfl rfl HMAP.out ?_; intro w7 hm7 hg7 hs7; have HS7 := Lib.hid (MemSt.put HG.out HBL.out hlt hm7 hg7); have HB7 := Lib.hid (HBK.out.same (hg7.block _ HBK.out.lt (by intro e; have := Option.some.inj e; omega))); clear hm7 hg7 hs7)
      first
        | (go_roundw
           case rel => (exact ⟨⟨k + 1, hlt, by go_num, HS7.out⟩, HB7.out⟩)
           case measure => (simp [intOf]; omega))
        | (refine ⟨?_, ?_⟩
           · (exact ⟨⟨k + 1, hlt, by go_num, HS7.out⟩, HB7.out⟩)
           · (simp [intOf]; omega))
    · obtain rfl : k = m.length := by omega
      have HIN : Hid (InM wr (w.heap.size + 1) m) := Lib.hid ⟨_, G, hbk, hmap, fun y => by have := (hG y).2.2; rwa [List.take_length] at this⟩
      clear hmap hG hbk hmm
      go_wp2
      go_ret
      exact ⟨_, rfl, HIN.out, HBL.out⟩

theorem memb1_any (x : Int) (m : List Int) (mb : Nat) (w : World) (h : InM w mb m) :
    Calls Tryz.prog 140 #[.int .i64 x, .pointer (some ⟨mb, 0, none⟩)] w fun e w' => e = .returned (.bool (decide (x ∈ m))) ∧ w = w' := by
  obtain ⟨b, G, hb, hm, hG⟩ := h
  have hlk := mapI_look hm x
  have kb := hb.cell 0
  have HF : Hid (decide (0 < G x) = decide (x ∈ m)) := Lib.hid (decide_eq_decide.2 (hG x))
  clear hm hG hb
  go_enter Tryz.func140, Tryz.ntmps140
  go_wp2
  go_ret
  exact ⟨ret_bool HF.out, rfl⟩

/-- A literal is true in a set. -/
def litT (m : List Int) (l : Int) : Bool := if 0 < l then decide (l ∈ m) else !decide (-l ∈ m)

theorem holdsL_any (x : Int) (m : List Int) (mb : Nat) (w : World) (h : InM w mb m) (hx : -9223372036854775808 < x ∧ x ≤ 9223372036854775807) :
    Calls Tryz.prog 139 #[.int .i64 x, .func (.func 140) #[] #[.pointer (some ⟨mb, 0, none⟩)]] w fun e w' => e = .returned (.bool (litT m x)) ∧ w = w' := by
  have H := Lib.hid h
  clear h
  by_cases hp : 0 < x
  · have HF : Hid (litT m x = decide (x ∈ m)) := Lib.hid (if_pos hp)
    go_enter Tryz.func139, Tryz.ntmps139
    go_wp2_with (go_at_call 140; (with_reducible refine (memb1_any _ m _ _ H.out).mono ?_); rintro e w1 ⟨rfl, rfl⟩)
    go_ret
    exact ⟨ret_bool HF.out.symm, rfl⟩
  · have HF : Hid (litT m x = !decide (-x ∈ m)) := Lib.hid (if_neg hp)
    go_enter Tryz.func139, Tryz.ntmps139
    go_wp2_with (go_at_call 140; (with_reducible refine (memb1_any _ m _ _ H.out).mono ?_); rintro e w1 ⟨rfl, rfl⟩)
    go_ret
    exact ⟨ret_bool HF.out.symm, rfl⟩

end Go.Proofs.YtfhpfbakoiekpaaGreatDoor

/- The plain law of reduct.Rounds: a definite program's least closed set. -/
namespace Go.Proofs.YtfhpfbakoiekpaaGreatDoor
open Go.RowKit

/-- The weight of a literal in a body; what a body lacks at first; what a set of atoms pays. -/
def wOf (r : GR) (k : Nat) : Int := if r.sum then ix r.w k else 1
def need0 (r : GR) : Int := if r.sum then r.bound else r.body.length
def lhsTo (C : List Int) (r : GR) : Nat → Int
  | 0 => 0
  | k + 1 => lhsTo C r k + if ix r.body k ∈ C then wOf r k else 0
def lhs (C : List Int) (r : GR) : Int := lhsTo C r r.body.length
/-- The rules in whose bodies an atom is, with its weight. -/
def stepU (U : Int → List (Int × Int)) (r : GR) (i : Nat) : Nat → Int → List (Int × Int)
  | 0 => U
  | k + 1 => fun a => if a = ix r.body k then stepU U r i k a ++ [((i : Int), wOf r k)] else stepU U r i k a
def usesU (R : List GR) : Nat → Int → List (Int × Int)
  | 0 => fun _ => []
  | i + 1 => stepU (usesU R i) (ixR R i) i (ixR R i).body.length

/-- Definite rules over the atoms 1 .. n. -/
structure DefR (n : Int) (R : List GR) : Prop where
  rng : 0 ≤ n ∧ n ≤ 4000
  len : R.length ≤ 40000
  head : ∀ i, i < R.length → (ixR R i).head.length ≤ 1 ∧ ∀ x ∈ (ixR R i).head, 1 ≤ x ∧ x ≤ n
  body : ∀ i, i < R.length → (∀ k, k < (ixR R i).body.length → 1 ≤ ix (ixR R i).body k ∧ ix (ixR R i).body k ≤ n) ∧ (ixR R i).body.length ≤ 8002
  wts : ∀ i, i < R.length → (ixR R i).sum = true → (ixR R i).w.length = (ixR R i).body.length ∧ ∀ k, k < (ixR R i).w.length → 1 ≤ ix (ixR R i).w k ∧ ix (ixR R i).w k ≤ 1048576 - sumTo (ixR R i).w k
  bound : ∀ i, i < R.length → (ixR R i).sum = true → 0 ≤ (ixR R i).bound ∧ (ixR R i).bound ≤ 1048576

section
variable {n : Int} {R : List GR}

theorem DefR.w1 (h : DefR n R) {i : Nat} (hi : i < R.length) {k : Nat} (hk : k < (ixR R i).body.length) : 1 ≤ wOf (ixR R i) k ∧ wOf (ixR R i) k ≤ 1048576 ∧ ((ixR R i).sum = true → k < (ixR R i).w.length) := by
  unfold wOf
  cases hs : (ixR R i).sum with
  | false => simp
  | true =>
    obtain ⟨h1, h2⟩ := h.wts i hi hs
    have h3 := h2 k (by omega)
    have : ∀ m, m ≤ (ixR R i).w.length → 0 ≤ sumTo (ixR R i).w m := fun m => by
      induction m with
      | zero => intro _; simp [sumTo]
      | succ m ih => intro hm; have := ih (by omega); have := h2 m (by omega); unfold sumTo; omega
    have := this k (by omega)
    simp only [if_true]
    exact ⟨h3.1, by omega, fun _ => by omega⟩

theorem lhsTo_mono (h : DefR n R) {i : Nat} (hi : i < R.length) {C C' : List Int} (hc : ∀ x ∈ C, x ∈ C') : ∀ k, k ≤ (ixR R i).body.length → lhsTo C (ixR R i) k ≤ lhsTo C' (ixR R i) k
  | 0, _ => by simp [lhsTo]
  | k + 1, hk => by
    have ih := lhsTo_mono h hi hc k (by omega)
    have hw := (h.w1 hi (show k < _ by omega)).1
    unfold lhsTo
    by_cases h1 : ix (ixR R i).body k ∈ C
    · rw [if_pos h1, if_pos (hc _ h1)]; omega
    · rw [if_neg h1]; split <;> omega

theorem lhsTo_congr {C C' : List Int} (hc : ∀ x, x ∈ C ↔ x ∈ C') (r : GR) : ∀ k, lhsTo C r k = lhsTo C' r k
  | 0 => rfl
  | k + 1 => by unfold lhsTo; rw [lhsTo_congr hc r k]; simp only [hc]

/-- The sets that the rules leave as they are; what is in all of them. -/
def ClosedD (R : List GR) (T : List Int) : Prop := ∀ i, i < R.length → need0 (ixR R i) ≤ lhs T (ixR R i) → ∀ x ∈ (ixR R i).head, x ∈ T
def Der (R : List GR) (x : Int) : Prop := ∀ T, ClosedD R T → x ∈ T

/-- M is the least closed set. -/
structure IsLeast (R : List GR) (M : List Int) : Prop where
  closed : ClosedD R M
  least : ∀ x ∈ M, Der R x

theorem der_of (h : DefR n R) {C : List Int} (hC : ∀ x ∈ C, Der R x) {i : Nat} (hi : i < R.length) (hn : need0 (ixR R i) ≤ lhs C (ixR R i)) {x : Int} (hx : x ∈ (ixR R i).head) : Der R x := fun T hT =>
  hT i hi (Int.le_trans hn (lhsTo_mono h hi (fun y hy => hC y hy T hT) _ (Nat.le_refl _))) x hx

/-- Between two rounds. C: the atoms that have been paid; l: those that are new; od: the round of each atom; nd: what each rule lacks. -/
structure Lv (n : Int) (R : List GR) (C l od nd : List Int) : Prop where
  nodup : (C ++ l).Nodup
  range : ∀ x ∈ C ++ l, 1 ≤ x ∧ x ≤ n
  olen : (od.length : Int) = n
  nlen : nd.length = R.length
  out : ∀ x : Int, 1 ≤ x → x ≤ n → (0 < ix od (x - 1).toNat ↔ x ∈ C ++ l) ∧ 0 ≤ ix od (x - 1).toNat ∧ ix od (x - 1).toNat ≤ 4000000
  der : ∀ x ∈ C ++ l, Der R x

/-- The rules that have been asked. -/
def Asked (R : List GR) (A nd : List Int) (Todo : Nat → Prop) : Prop := ∀ i, i < R.length → ix nd i ≤ 0 → (∀ x ∈ (ixR R i).head, x ∈ A) ∨ Todo i
def Paid (R : List GR) (C nd : List Int) : Prop := ∀ i, i < R.length → ix nd i = need0 (ixR R i) - lhs C (ixR R i)

theorem ix_set (l : List Int) (i j : Nat) (v : Int) (hi : i < l.length) : ix (l.set i v) j = if j = i then v else ix l j := by
  unfold ix
  simp only [List.getD_eq_getElem?_getD]
  by_cases h : j = i
  · subst h; rw [if_pos rfl, List.getElem?_set_self hi]; rfl
  · rw [if_neg h, List.getElem?_set_ne (by omega)]

/-- reach: the head is taken. -/
theorem Lv.take {C l od nd : List Int} (hd : DefR n R) (h : Lv n R C l od nd) (hp : Paid R C nd) {i : Nat} (hi : i < R.length) (h0 : ix nd i ≤ 0) {x : Int} (hx : (ixR R i).head = [x]) (ho : ix od (x - 1).toNat = 0) {round : Int} (hr : 1 ≤ round ∧ round ≤ 4000000) :
    Lv n R C (l ++ [x]) (od.set (x - 1).toNat round) nd := by
  have hxr := (hd.head i hi).2 x (by rw [hx]; simp)
  have hxn : x ∉ C ++ l := fun hm => by have := (h.out x hxr.1 hxr.2).1.2 hm; omega
  have hol := h.olen
  have hlt : (x - 1).toNat < od.length := by omega
  refine ⟨by rw [← List.append_assoc]; exact List.nodup_append.2 ⟨h.nodup, by simp, fun a ha b hb => by simp only [List.mem_singleton] at hb; subst hb; rintro rfl; exact hxn ha⟩, fun y hy => ?_, by simpa using hol, h.nlen, fun y h1 h2 => ?_, fun y hy => ?_⟩
  · rw [← List.append_assoc] at hy
    rcases List.mem_append.1 hy with hy | hy
    · exact h.range y hy
    · simp only [List.mem_singleton] at hy; subst hy; exact hxr
  · rw [ix_set _ _ _ _ hlt, ← List.append_assoc]
    by_cases e : y = x
    · subst e; rw [if_pos rfl]; simp; omega
    · rw [if_neg (by omega)]
      have h3 := h.out y h1 h2
      refine ⟨h3.1.trans ?_, h3.2⟩
      simp [e]
  · rw [← List.append_assoc] at hy
    rcases List.mem_append.1 hy with hy | hy
    · exact h.der y hy
    · simp only [List.mem_singleton] at hy; subst hy
      exact der_of hd (fun z hz => h.der z (List.mem_append_left _ hz)) hi (by have := hp i hi; omega) (by rw [hx]; simp)

/-- The rules that the atoms of L, from place j on, still call for. -/
def Todo (R : List GR) (L : List Int) (j : Nat) (i : Nat) : Prop := ∃ j', j ≤ j' ∧ j' < L.length ∧ ∃ u ∈ usesU R R.length (ix L j'), u.1 = (i : Int)
def Todo2 (R : List GR) (L : List Int) (j q : Nat) (i : Nat) : Prop := (∃ q', q ≤ q' ∧ q' < (usesU R R.length (ix L j)).length ∧ ((usesU R R.length (ix L j)).getD q' (0, 0)).1 = (i : Int)) ∨ Todo R L (j + 1) i

theorem Todo.open {L : List Int} {j i : Nat} (h : Todo R L j i) : Todo2 R L j 0 i := by
  obtain ⟨j', h1, h2, u, hu, e⟩ := h
  by_cases hj : j' = j
  · subst hj
    obtain ⟨q, hq, e2⟩ := List.mem_iff_getElem.1 hu
    exact .inl ⟨q, by omega, hq, by rw [List.getD_eq_getElem?_getD, List.getElem?_eq_getElem hq]; simp [e2, e]⟩
  · exact .inr ⟨j', by omega, h2, u, hu, e⟩

theorem Todo.none {L : List Int} {i : Nat} (h : Todo R L L.length i) : False := by
  obtain ⟨j, h1, h2, _⟩ := h
  omega

/-- What is in the list of the rounds above 0. -/
def posL (od : List Int) : Nat → List Int
  | 0 => []
  | k + 1 => if 0 < ix od k then posL od k ++ [(k : Int) + 1] else posL od k

theorem posL_mem (od : List Int) (x : Int) : ∀ k, x ∈ posL od k ↔ 1 ≤ x ∧ x ≤ k ∧ 0 < ix od (x - 1).toNat
  | 0 => by simp [posL]; omega
  | k + 1 => by
    have ih := posL_mem od x k
    unfold posL
    split
    · rename_i h
      simp only [List.mem_append, List.mem_singleton, ih]
      constructor
      · rintro (h1 | h1)
        · exact ⟨h1.1, by omega, h1.2.2⟩
        · refine ⟨by omega, by omega, ?_⟩
          have : (x - 1).toNat = k := by omega
          rw [this]; exact h
      · rintro ⟨h1, h2, h3⟩
        by_cases e : x = (k : Int) + 1
        · exact .inr e
        · exact .inl ⟨h1, by omega, h3⟩
    · rename_i h
      rw [ih]
      constructor
      · rintro ⟨h1, h2, h3⟩; exact ⟨h1, by omega, h3⟩
      · rintro ⟨h1, h2, h3⟩
        refine ⟨h1, ?_, h3⟩
        by_cases e : x = (k : Int) + 1
        · have : (x - 1).toNat = k := by omega
          rw [this] at h3; exact absurd h3 h
        · omega

/-- The end. -/
theorem Lv.done {C od nd : List Int} (h : Lv n R C [] od nd) (hp : Paid R C nd) (ha : Asked R C nd (fun _ => False)) : IsLeast R (posL od n.toNat) := by
  have hC : ∀ x, x ∈ posL od n.toNat ↔ x ∈ C := fun x => by
    rw [posL_mem]
    constructor
    · rintro ⟨h1, h2, h3⟩
      have := ((h.out x h1 (by omega)).1).1 h3
      simpa using this
    · intro hx
      have hr := h.range x (by simpa using hx)
      exact ⟨hr.1, by omega, ((h.out x hr.1 hr.2).1).2 (by simpa using hx)⟩
  refine ⟨fun i hi hn x hx => ?_, fun x hx => h.der x (by simpa using (hC x).1 hx)⟩
  have e : lhs (posL od n.toNat) (ixR R i) = lhs C (ixR R i) := lhsTo_congr hC _ _
  rcases ha i hi (by have := hp i hi; omega) with h1 | h1
  · exact (hC x).2 (h1 x hx)
  · exact h1.elim

end

theorem made_list (z : Value) (n : Nat) : madeCells #[z] n = (List.replicate n z).toArray := by
  apply Array.ext
  · simp [size_madeCells]
  · intro i h1 h2
    simp [madeCells, Nat.mod_one]

end Go.Proofs.YtfhpfbakoiekpaaGreatDoor

/- reduct: Set, body, Body, satisfied: contracts. -/
namespace Go.Proofs.YtfhpfbakoiekpaaGreatDoor
open Go.RowKit

/-- A set of atoms, the empty one too. -/
def setQ (n : Int) (S : List Int) : Bool := allR S.length (setTo n S)

set_option maxHeartbeats 2000000 in
theorem redSet_any (vs : Value) (n : Int) (S : List Int) (w : World) (hs : Ints w vs S) :
    Calls Tryz.prog 165 #[vs, .int .i64 n] w fun e w' => e = .returned (.bool (setQ n S)) ∧ w = w' := by
  obtain ⟨a1, c1, rfl, -, hl1, -, hcell⟩ := hs.form
  clear hs
  go_enter Tryz.func165, Tryz.ntmps165
  go_wp2
  go_loop [9] (fun i => ∃ k : Nat, k ≤ S.length ∧ i = .int .i64 k ∧ Hid (∀ j, j < k → setTo n S j = true)) (fun i => S.length - (intOf i).toNat)
  case atStart => exact ⟨0, by omega, rfl, Lib.hid (fun j hj => absurd hj (Nat.not_lt_zero _))⟩
  case round =>
    obtain ⟨k, hk, rfl, HA⟩ := hrel
    have HF : Hid (∀ k, k < S.length → setTo n S k = false → setQ n S = false) := Lib.hid (fun k hk h => by unfold setQ; rw [allR_false k hk h])
    by_cases hlt : k < S.length
    · obtain ⟨b, off, rfl, hbl, hc⟩ := hcell (by omega)
      have hk1 := hc k hlt
      by_cases h1 : ix S k < 1
      · have HN : Hid (setTo n S k = false) := Lib.hid (by unfold setTo; rw [decide_eq_false (by omega)]; rfl)
        clear hc hcell
        go_wp2
        go_ret
        exact ⟨ret_bool (HF.out k hlt HN.out).symm, rfl⟩
      · by_cases h2 : n < ix S k
        · have HN : Hid (setTo n S k = false) := Lib.hid (by unfold setTo; rw [decide_eq_false (by omega)]; rfl)
          clear hc hcell
          go_wp2
          go_ret
          exact ⟨ret_bool (HF.out k hlt HN.out).symm, rfl⟩
        · cases k with
          | zero =>
            have hk0 : w.cell? ⟨b, off, none⟩ = some (.int .i64 (ix S 0)) := hc 0 hlt
            clear hk1
            have HN := Lib.hid (lt_succ_all HA.out (show setTo n S 0 = true by unfold setTo; rw [decide_eq_true (by omega)]; rfl))
            clear hc hcell
            go_wp2
            first
              | (go_round
                 case rel => (exact ⟨0 + 1, by omega, by go_num, HN⟩)
                 case measure => (simp [intOf]; omega))
              | (refine ⟨?_, ?_⟩
                 · (exact ⟨0 + 1, by omega, by go_num, HN⟩)
                 · (simp [intOf]; omega))
          | succ k =>
            have hk0 := hc k (by omega)
            have e1 : (((k + 1 : Nat) : Int) - 1).toNat = k := by omega
            by_cases h3 : ix S k < ix S (k + 1)
            · have HN := Lib.hid (lt_succ_all HA.out (show setTo n S (k + 1) = true by unfold setTo; rw [decide_eq_true (by omega), Nat.add_sub_cancel, decide_eq_true h3]; simp))
              clear hc hcell
              go_wp2
              first
                | (go_round
                   case rel => (exact ⟨k + 1 + 1, by omega, by go_num, HN⟩)
                   case measure => (simp [intOf]; omega))
                | (refine ⟨?_, ?_⟩
                   · (exact ⟨k + 1 + 1, by omega, by go_num, HN⟩)
                   · (simp [intOf]; omega))
            · have HN : Hid (setTo n S (k + 1) = false) := Lib.hid (by unfold setTo; rw [Nat.add_sub_cancel, decide_eq_false h3]; simp)
              clear hc hcell
              go_wp2
              go_ret
              exact ⟨ret_bool (HF.out (k + 1) hlt HN.out).symm, rfl⟩
    · have HN : Hid (setQ n S = true) := Lib.hid (by unfold setQ; rw [allR_true (fun j hj => HA.out j (by omega))])
      go_wp2
      go_ret
      exact ⟨ret_bool HN.out.symm, rfl⟩

/-! ### body -/
/-- The weights of the literals that are true in m, among the first k. -/
def wsum (m : List Int) (r : GR) : Nat → Int
  | 0 => 0
  | k + 1 => wsum m r k + if litT m (ix r.body k) then ix r.w k else 0

/-- The body is true in m. -/
def bodyT (r : GR) (m : List Int) : Bool := if r.sum then decide (r.bound ≤ wsum m r r.body.length) else allR r.body.length (fun j => litT m (ix r.body j))

/-- A rule whose body can be evaluated. -/
structure BodyOk (r : GR) : Prop where
  len : r.body.length ≤ 8000
  lit : ∀ j, j < r.body.length → -9223372036854775808 < ix r.body j
  wlen : r.sum = true → r.w.length = r.body.length
  w : r.sum = true → ∀ j, j < r.w.length → 0 ≤ ix r.w j ∧ ix r.w j ≤ 1048576

theorem wsum_bound {m : List Int} {r : GR} (h : BodyOk r) (hs : r.sum = true) : ∀ (k : Nat), k ≤ r.body.length → 0 ≤ wsum m r k ∧ wsum m r k ≤ 1048576 * k
  | 0, _ => by simp [wsum]
  | k + 1, hk => by
    have ih := wsum_bound (m := m) h hs k (by omega)
    have hw := h.w hs k (by have := h.wlen hs; omega)
    unfold wsum
    push_cast
    split <;> omega

theorem bodyc_any (x : Int) (m : List Int) (mb cb : Nat) (w : World) (h : InM w mb m) (hb : Blk w cb [.func (.func 140) #[] #[.pointer (some ⟨mb, 0, none⟩)]] 73) (hx : -9223372036854775808 < x ∧ x ≤ 9223372036854775807) :
    Calls Tryz.prog 138 #[.int .i64 x, .pointer (some ⟨cb, 0, none⟩)] w fun e w' => e = .returned (.bool (!litT m x)) ∧ w = w' := by
  have H := Lib.hid h
  have kb := hb.cell 0
  clear h hb
  go_enter Tryz.func138, Tryz.ntmps138
  go_wp2_with (go_at_call 139; (with_reducible refine (holdsL_any _ m _ _ H.out (by omega)).mono ?_); rintro e w1 ⟨rfl, rfl⟩)
  go_ret
  exact ⟨rfl, rfl⟩

set_option maxHeartbeats 1000000 in
theorem idx_bd (v : Value) (l : List Int) (w : World) (h : Ints w v l) (g : Nat → Bool) (cap : Value)
    (hg : ∀ w', Below w.heap.size w w' → ∀ j, j < l.length → Calls Tryz.prog 138 #[.int .i64 (ix l j), cap] w' fun e w'' => e = .returned (.bool (g j)) ∧ Below w'.heap.size w' w'') :
    Calls Tryz.prog 81 #[v, .func (.func 138) #[] #[cap]] w fun e w' => ∃ r, e = .returned (.int .i64 r) ∧ IxP l.length g r ∧ Below w.heap.size w w' := by
  obtain ⟨a1, c1, rfl, -, hl1, -, hcell⟩ := h.form
  have HG := Lib.hid hg
  clear h hg
  go_enter Tryz.func81, Tryz.ntmps81
  go_wp2
  go_loopw [8] (fun i wx => IxR l.length g w i wx) (fun i _ => l.length - (intOf i).toNat)
  case atStart => exact ⟨0, by omega, rfl, fun j hj => absurd hj (Nat.not_lt_zero _), Below.refl _ _⟩
  case round =>
    obtain ⟨k, hk, rfl, hall, hb⟩ := hrel
    have HA := Lib.hid hall
    clear hall
    by_cases hlt : k < l.length
    · obtain ⟨b, off, rfl, hbl, hc⟩ := hcell (by omega)
      have hk1 := (bcell hb _ _ hbl).trans (hc k hlt)
      clear hc hcell
      cases g1 : g k with
      | true =>
        have HK : Hid (_ = true) := Lib.hid g1
        have HC := Lib.hid (HG.out _ hb k hlt)
        rw [g1] at HC
        clear g1
        go_wp2_with (go_at_call 138; refine (HC.out).mono ?_; rintro e w1 ⟨rfl, hb1⟩)
        go_ret
        exact ⟨_, rfl, .inr ⟨k, hlt, rfl, HK.out, HA.out⟩, bon hb hb1⟩
      | false =>
        have HN := Lib.hid (lt_succ_all HA.out g1)
        have HC := Lib.hid (HG.out _ hb k hlt)
        rw [g1] at HC
        clear g1
        go_wp2_with (go_at_call 138; refine (HC.out).mono ?_; rintro e w1 ⟨rfl, hb1⟩)
        first
          | (go_roundw
             case rel => (exact ⟨k + 1, by omega, by go_num, HN.out, bon hb hb1⟩)
             case measure => (simp [intOf]; omega))
          | (refine ⟨?_, ?_⟩
             · (exact ⟨k + 1, by omega, by go_num, HN.out, bon hb hb1⟩)
             · (simp [intOf]; omega))
    · have HN : Hid (∀ j, j < l.length → g j = false) := Lib.hid (fun j hj => HA.out j (by omega))
      go_wp2
      go_ret
      exact ⟨_, rfl, .inl ⟨rfl, HN.out⟩, hb⟩

set_option maxHeartbeats 1000000 in
theorem ctn_bd (v : Value) (l : List Int) (w : World) (h : Ints w v l) (g : Nat → Bool) (cap : Value)
    (hg : ∀ w', Below w.heap.size w w' → ∀ j, j < l.length → Calls Tryz.prog 138 #[.int .i64 (ix l j), cap] w' fun e w'' => e = .returned (.bool (g j)) ∧ Below w'.heap.size w' w'') :
    Calls Tryz.prog 45 #[v, .func (.func 138) #[] #[cap]] w fun e w' => e = .returned (.bool (anyR l.length g)) ∧ Below w.heap.size w w' := by
  have HI := Lib.hid (idx_bd v l w h g cap hg)
  obtain ⟨a1, c1, rfl, -⟩ := h.form
  clear h hg
  go_enter Tryz.func45, Tryz.ntmps45
  go_wp2_with (go_at_call 81; refine (HI.out).mono ?_; rintro e w1 ⟨r, rfl, hr, hb1⟩; have HR := Lib.hid hr; clear hr)
  go_ret
  exact ⟨ret_bool HR.out.any, hb1⟩

def BdRel (m : List Int) (r : GR) (s i : Value) : Prop := ∃ k : Nat, k ≤ r.body.length ∧ i = .int .i64 k ∧ s = .int .i64 (wsum m r k)

theorem allR_not {n : Nat} {f : Nat → Bool} : (!anyR n fun j => !f j) = allR n f := by
  unfold anyR allR
  induction List.range n with
  | nil => rfl
  | cons x l ih => simp only [List.any_cons, List.all_cons, Bool.not_or, ih, Bool.not_not]

set_option maxHeartbeats 2000000 in
theorem bodyf_any (v : Value) (r : GR) (m : List Int) (mb : Nat) (w : World) (hr : RuleIs w v r) (h : InM w mb m) (hok : BodyOk r) :
    Calls Tryz.prog 110 #[v, .func (.func 140) #[] #[.pointer (some ⟨mb, 0, none⟩)]] w fun e w' => e = .returned (.bool (bodyT r m)) ∧ Below w.heap.size w w' := by
  obtain ⟨vh, vb, vw, rfl, hsl⟩ := hr
  have hal := bal (bal (Below.refl w.heap.size w) (.cells #[.bool r.choice, vh, .bool r.sum, .int .i64 r.bound, vb, vw] 54)) (.cells #[.func (.func 140) #[] #[.pointer (some ⟨mb, 0, none⟩)]] 73)
  have HBX : Hid (Blk ((w.alloc (.cells #[.bool r.choice, vh, .bool r.sum, .int .i64 r.bound, vb, vw] 54)).alloc (.cells #[.func (.func 140) #[] #[.pointer (some ⟨mb, 0, none⟩)]] 73)) (w.heap.size + 1) [.func (.func 140) #[] #[.pointer (some ⟨mb, 0, none⟩)]] 73) := Lib.hid (by repeat first | (refine Blk.newAt _ _ _ ?_; first | rfl | (simp only [World.size_alloc]; done) | (simp only [World.size_alloc]; omega)) | refine Blk.alloc ?_ _)
  obtain ⟨a2, c2, rfl, -, hl2, -, hcb⟩ := hsl.body.form
  obtain ⟨a3, c3, rfl, -, hl3, -, hcw⟩ := hsl.wts.form
  have HB := Lib.hid (hsl.body.below hal)
  have HIN := Lib.hid (h.below hal)
  have hfit := hsl.body.2
  have hbd := hsl.bound
  unfold InI at hbd
  cases hs : r.sum with
  | false =>
    rw [hs] at hal HBX HB HIN
    have HF : Hid (bodyT r m = !anyR r.body.length (fun j => !litT m (ix r.body j))) := Lib.hid (by unfold bodyT; rw [hs, allR_not]; rfl)
    have HC : Hid (∀ w', Below ((w.alloc (.cells #[.bool r.choice, vh, .bool false, .int .i64 r.bound, .slice a2 r.body.length c2, .slice a3 r.w.length c3] 54)).alloc (.cells #[.func (.func 140) #[] #[.pointer (some ⟨mb, 0, none⟩)]] 73)).heap.size ((w.alloc (.cells #[.bool r.choice, vh, .bool false, .int .i64 r.bound, .slice a2 r.body.length c2, .slice a3 r.w.length c3] 54)).alloc (.cells #[.func (.func 140) #[] #[.pointer (some ⟨mb, 0, none⟩)]] 73)) w' → ∀ j, j < r.body.length → Calls Tryz.prog 138 #[.int .i64 (ix r.body j), .pointer (some ⟨w.heap.size + 1, 0, none⟩)] w' fun e w'' => e = .returned (.bool (!litT m (ix r.body j))) ∧ Below w'.heap.size w' w'') :=
      Lib.hid (fun w' hb j hj => (bodyc_any _ m mb _ w' (HIN.out.below hb) (HBX.out.below hb) ⟨hok.lit j hj, (hfit j).2⟩).mono fun e w'' ⟨e1, e2⟩ => ⟨e1, e2 ▸ Below.refl _ _⟩)
    clear hsl hs h hok hcb hcw
    go_enter Tryz.func110, Tryz.ntmps110
    go_wp2_with (go_at_call 45; (with_reducible refine (ctn_bd _ r.body _ HB.out (fun j => !litT m (ix r.body j)) _ HC.out).mono ?_); rintro e w1 ⟨rfl, hb1⟩)
    go_ret
    exact ⟨ret_bool HF.out.symm, bon hal hb1⟩
  | true =>
    rw [hs] at hal HBX HB HIN
    have HF : Hid (bodyT r m = decide (r.bound ≤ wsum m r r.body.length)) := Lib.hid (by unfold bodyT; rw [hs]; rfl)
    have HWB : Hid (∀ k, k ≤ r.body.length → 0 ≤ wsum m r k ∧ wsum m r k ≤ 1048576 * k) := Lib.hid (fun k hk => wsum_bound hok hs k hk)
    have hwl := hok.wlen hs
    have hlen := hok.len
    have HW : Hid (∀ j, j < r.w.length → 0 ≤ ix r.w j ∧ ix r.w j ≤ 1048576) := Lib.hid (hok.w hs)
    have HLT : Hid (∀ j, j < r.body.length → -9223372036854775808 < ix r.body j ∧ ix r.body j ≤ 9223372036854775807) := Lib.hid (fun j hj => ⟨hok.lit j hj, (hfit j).2⟩)
    have HWL := Lib.hid hwl
    have q0 := (Blk.newAt w [.bool r.choice, vh, .bool true, .int .i64 r.bound, .slice a2 r.body.length c2, .slice a3 r.w.length c3] 54 (b := w.heap.size) rfl).alloc (.cells #[.func (.func 140) #[] #[.pointer (some ⟨mb, 0, none⟩)]] 73)
    have kq := q0.cell
    have kx := HBX.out.cell 0
    have HCB : Hid (∀ j, j < r.body.length → ∃ b off, a2 = some ⟨b, off, none⟩ ∧ ((w.alloc (.cells #[.bool r.choice, vh, .bool true, .int .i64 r.bound, .slice a2 r.body.length c2, .slice a3 r.w.length c3] 54)).alloc (.cells #[.func (.func 140) #[] #[.pointer (some ⟨mb, 0, none⟩)]] 73)).cell? ⟨b, off + j, none⟩ = some (.int .i64 (ix r.body j))) := Lib.hid (fun j hj => by
      obtain ⟨b, off, e, hl, hc⟩ := hcb (by omega)
      exact ⟨b, off, e, (bcell hal _ _ hl).trans (hc j hj)⟩)
    have HCW : Hid (∀ j, j < r.w.length → ∃ b off, a3 = some ⟨b, off, none⟩ ∧ ((w.alloc (.cells #[.bool r.choice, vh, .bool true, .int .i64 r.bound, .slice a2 r.body.length c2, .slice a3 r.w.length c3] 54)).alloc (.cells #[.func (.func 140) #[] #[.pointer (some ⟨mb, 0, none⟩)]] 73)).cell? ⟨b, off + j, none⟩ = some (.int .i64 (ix r.w j))) := Lib.hid (fun j hj => by
      obtain ⟨b, off, e, hl, hc⟩ := hcw (by omega)
      exact ⟨b, off, e, (bcell hal _ _ hl).trans (hc j hj)⟩)
    have HAL := Lib.hid hal
    clear hsl hs h hok hcb hcw hal HBX q0 hwl
    go_enter Tryz.func110, Tryz.ntmps110
    go_upto_region 4 with fail
    generalize (w.alloc (.cells #[.bool r.choice, vh, .bool true, .int .i64 r.bound, .slice a2 r.body.length c2, .slice a3 r.w.length c3] 54)).alloc (.cells #[.func (.func 140) #[] #[.pointer (some ⟨mb, 0, none⟩)]] 73) = W at *
    go_wp2
    go_loop [5, 19] (fun s i => BdRel m r s i) (fun _ i => r.body.length - (intOf i).toNat)
    case atStart => exact ⟨0, Nat.zero_le _, rfl, rfl⟩
    case round =>
      obtain ⟨k, hk, rfl, rfl⟩ := hrel
      have hwb := HWB.out k hk
      by_cases hlt : k < r.body.length
      · obtain ⟨b1, o1, rfl, hc1⟩ := HCB.out k hlt
        obtain ⟨b2, o2, rfl, hc2⟩ := HCW.out k (by have := HWL.out; omega)
        have hltw : k < r.w.length := by have := HWL.out; omega
        have hwk := HW.out k hltw
        have HLK := Lib.hid (HLT.out k hlt)
        cases hh : litT m (ix r.body k) with
        | true =>
          have HN : Hid (wsum m r (k + 1) = wsum m r k + ix r.w k) := Lib.hid (by rw [wsum, hh]; rfl)
          have HHH := Lib.hid hh
          clear hh
          go_wp2_with (go_at_call 139; (with_reducible refine (holdsL_any _ m _ _ HIN.out HLK.out).mono ?_); rintro e w1 ⟨e1, rfl⟩; rw [HHH.out] at e1; subst e1)
          first
            | (go_round
               case rel => (exact ⟨k + 1, by omega, by go_num, by rw [HN.out]⟩)
               case measure => (simp [intOf]; omega))
            | (refine ⟨?_, ?_⟩
               · (exact ⟨k + 1, by omega, by go_num, by rw [HN.out]⟩)
               · (simp [intOf]; omega))
        | false =>
          have HN : Hid (wsum m r (k + 1) = wsum m r k) := Lib.hid (by rw [wsum, hh]; simp)
          have HHH := Lib.hid hh
          clear hh
          go_wp2_with (go_at_call 139; (with_reducible refine (holdsL_any _ m _ _ HIN.out HLK.out).mono ?_); rintro e w1 ⟨e1, rfl⟩; rw [HHH.out] at e1; subst e1)
          first
            | (go_round
               case rel => (exact ⟨k + 1, by omega, by go_num, by rw [HN.out]⟩)
               case measure => (simp [intOf]; omega))
            | (refine ⟨?_, ?_⟩
               · (exact ⟨k + 1, by omega, by go_num, by rw [HN.out]⟩)
               · (simp [intOf]; omega))
      · obtain rfl : k = r.body.length := by omega
        go_wp2
        go_ret
        exact ⟨ret_bool HF.out.symm, HAL.out⟩

/-! ### satisfied -/
set_option maxHeartbeats 1000000 in
theorem idx_hd (v : Value) (l : List Int) (w : World) (h : Ints w v l) (g : Nat → Bool) (cap : Value)
    (hg : ∀ w', Below w.heap.size w w' → ∀ j, j < l.length → Calls Tryz.prog 140 #[.int .i64 (ix l j), cap] w' fun e w'' => e = .returned (.bool (g j)) ∧ Below w'.heap.size w' w'') :
    Calls Tryz.prog 81 #[v, .func (.func 140) #[] #[cap]] w fun e w' => ∃ r, e = .returned (.int .i64 r) ∧ IxP l.length g r ∧ Below w.heap.size w w' := by
  obtain ⟨a1, c1, rfl, -, hl1, -, hcell⟩ := h.form
  have HG := Lib.hid hg
  clear h hg
  go_enter Tryz.func81, Tryz.ntmps81
  go_wp2
  go_loopw [8] (fun i wx => IxR l.length g w i wx) (fun i _ => l.length - (intOf i).toNat)
  case atStart => exact ⟨0, by omega, rfl, fun j hj => absurd hj (Nat.not_lt_zero _), Below.refl _ _⟩
  case round =>
    obtain ⟨k, hk, rfl, hall, hb⟩ := hrel
    have HA := Lib.hid hall
    clear hall
    by_cases hlt : k < l.length
    · obtain ⟨b, off, rfl, hbl, hc⟩ := hcell (by omega)
      have hk1 := (bcell hb _ _ hbl).trans (hc k hlt)
      clear hc hcell
      cases g1 : g k with
      | true =>
        have HK : Hid (_ = true) := Lib.hid g1
        have HC := Lib.hid (HG.out _ hb k hlt)
        rw [g1] at HC
        clear g1
        go_wp2_with (go_at_call 140; refine (HC.out).mono ?_; rintro e w1 ⟨rfl, hb1⟩)
        go_ret
        exact ⟨_, rfl, .inr ⟨k, hlt, rfl, HK.out, HA.out⟩, bon hb hb1⟩
      | false =>
        have HN := Lib.hid (lt_succ_all HA.out g1)
        have HC := Lib.hid (HG.out _ hb k hlt)
        rw [g1] at HC
        clear g1
        go_wp2_with (go_at_call 140; refine (HC.out).mono ?_; rintro e w1 ⟨rfl, hb1⟩)
        first
          | (go_roundw
             case rel => (exact ⟨k + 1, by omega, by go_num, HN.out, bon hb hb1⟩)
             case measure => (simp [intOf]; omega))
          | (refine ⟨?_, ?_⟩
             · (exact ⟨k + 1, by omega, by go_num, HN.out, bon hb hb1⟩)
             · (simp [intOf]; omega))
    · have HN : Hid (∀ j, j < l.length → g j = false) := Lib.hid (fun j hj => HA.out j (by omega))
      go_wp2
      go_ret
      exact ⟨_, rfl, .inl ⟨rfl, HN.out⟩, hb⟩

set_option maxHeartbeats 1000000 in
theorem ctn_hd (v : Value) (l : List Int) (w : World) (h : Ints w v l) (g : Nat → Bool) (cap : Value)
    (hg : ∀ w', Below w.heap.size w w' → ∀ j, j < l.length → Calls Tryz.prog 140 #[.int .i64 (ix l j), cap] w' fun e w'' => e = .returned (.bool (g j)) ∧ Below w'.heap.size w' w'') :
    Calls Tryz.prog 45 #[v, .func (.func 140) #[] #[cap]] w fun e w' => e = .returned (.bool (anyR l.length g)) ∧ Below w.heap.size w w' := by
  have HI := Lib.hid (idx_hd v l w h g cap hg)
  obtain ⟨a1, c1, rfl, -⟩ := h.form
  clear h hg
  go_enter Tryz.func45, Tryz.ntmps45
  go_wp2_with (go_at_call 81; refine (HI.out).mono ?_; rintro e w1 ⟨r, rfl, hr, hb1⟩; have HR := Lib.hid hr; clear hr)
  go_ret
  exact ⟨ret_bool HR.out.any, hb1⟩

/-- The rule is satisfied by m. -/
def satT (r : GR) (m : List Int) : Bool := r.choice || !bodyT r m || anyR r.head.length (fun j => decide (ix r.head j ∈ m))

end Go.Proofs.YtfhpfbakoiekpaaGreatDoor
