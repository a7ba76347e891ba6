/- ostlerlaw33.SourceMore returns true and writes nothing that was there. -/
import Derived.Test.YtkjpnpkmnpofgaaMorePQ
import Derived.Laws.CopyOwn
import Derived.Test.YtkjpnpkmnpofgaaPerm5Q
namespace Go.Proofs.Ytkjpnpkmnpofgaa
open Go.RowKit

/-- complete.Vars of a valid program. -/
theorem vars_valid (v : Value) (p : GP) (w : World) (h : ProgIs w v p) (hv : validE p = 0) :
    Calls Try.prog 23 #[v] w fun e w' => e = .returned (.int .i64 (p.n + p.rules.length)) ∧ Below w.heap.size w w' := by
  have h0 := h
  obtain ⟨vn, vs, vr, vm, rfl, hn, hnames, hshown, hrules, hmin⟩ := h
  have hal := bal (Below.refl w.heap.size w) (.cells #[.int .i64 p.n, vn, vs, vr, vm] 27)
  have HP := Lib.hid (h0.below hal)
  obtain ⟨a1, c1, rfl, -, hl1, -, hcell⟩ := hrules.form
  have hV := validP hv
  have hvn := hV.n
  have hvr := hV.rules
  have hve : (validE p != 0) = false := by simp [hv]
  clear h0 hnames hshown hmin hrules hcell hv hV
  go_enter Try.func23, Try.ntmps23
  go_wp2_with (go_at_call 21; refine (valid_any _ p _ HP.out).mono ?_; rintro e w1 ⟨rfl, hb1⟩; have hc1 := bcell hb1; have hz1 : w.heap.size < w1.heap.size := (by have := hb1.size; simp at this; omega))
  go_ret
  exact ⟨rfl, bon hal hb1⟩

theorem splice_first (a : List Int) (n : Nat) : splice (List.replicate n (Value.int .i8 0)) 0 ((List.range (Nat.min a.length n)).map (fun i => Value.int .i8 (ix a i))) = (firstN a n).map (Value.int .i8) := by
  have hm : Nat.min a.length n ≤ n := Nat.min_le_right _ _
  have hm2 : Nat.min a.length n ≤ a.length := Nat.min_le_left _ _
  unfold splice
  apply List.ext_getElem?
  intro i
  simp only [List.take_zero, List.nil_append, Nat.zero_add, List.length_map, List.length_range]
  by_cases h : i < n
  · have e : ((firstN a n).map (Value.int .i8))[i]? = some (.int .i8 (ix a i)) := by simp [firstN, h]
    rw [e]
    by_cases h2 : i < Nat.min a.length n
    · rw [List.getElem?_append_left (by simpa using h2)]
      simp [h2]
    · rw [List.getElem?_append_right (by simpa using h2)]
      have h3 : ix a i = 0 := by
        have : a.length ≤ i := by rcases Nat.le_total a.length n with h4 | h4 <;> simp only [Nat.min_def] at h2 <;> split at h2 <;> omega
        unfold ix; rw [List.getD_eq_getElem?_getD, List.getElem?_eq_none this]; rfl
      rw [h3]
      simp only [List.length_map, List.length_range, List.getElem?_drop, List.getElem?_replicate]
      rw [if_pos (by omega)]
  · rw [List.getElem?_eq_none (by simp; omega), List.getElem?_eq_none (by simp [firstN]; omega)]

theorem info8' : (Try.prog.info? 58).map (·.size) = some 1 := by kernel_rfl

theorem runFind (args : Array Value) (w : World) : (callFunc 14 args).run Try.prog w = .ok (.enter 14 args) w := by kernel_rfl

/-- The assignment with one variable more. -/
def MoreSt (p : GP) (a : List Int) (W0 : World) (b N : Nat) (wx : World) : Prop :=
  ∃ bl : List Int, bl.length = N ∧ Blk wx b (bl.map (Value.int .i8)) 58 ∧ (∀ x ∈ bl, -128 ≤ x ∧ x ≤ 127) ∧ Anti p a bl ∧ Below W0.heap.size W0 wx

theorem first_fit {a : List Int} {n : Nat} (h : ∀ i, -128 ≤ ix a i ∧ ix a i ≤ 127) : ∀ x ∈ firstN a n, -128 ≤ x ∧ x ≤ 127 := fun x hx => by
  obtain ⟨i, -, rfl⟩ := List.mem_map.1 hx
  exact h i

def MR1 (p : GP) (i : Value) : Prop := ∃ k : Nat, k ≤ p.n.toNat ∧ i = .int .i64 ((k : Int) + 1)

theorem least_int (v : Value) (R : List GR) (n : Int) (w : World) (h : RulesIs w v R) (hB : definiteB n R = true) : Calls Try.prog 24 #[.int .i64 n, v] w (LeastPost R n.toNat w) := by
  have hr := (definiteB_spec hB).rng
  obtain ⟨k, rfl⟩ : ∃ k : Nat, n = k := ⟨n.toNat, by omega⟩
  rw [Int.toNat_natCast]
  exact least_any v R k w h hB

/-- The positive rules are gathered. -/
structure PS (p : GP) (w8 : World) (k : Nat) (v : Value) (L : List RQ) (wx : World) : Prop where
  row : wx.ownsRow w8.heap.size 44 6 v L.length (L.flatMap cells6)
  map : L.map (·.1) = posRules (p.rules.take k)
  each : ∀ q ∈ L, RuleSl w8 q.1 q.2.1 q.2.2.1 q.2.2.2
  below : Below w8.heap.size w8 wx

def PR (p : GP) (w8 : World) (v i : Value) (wx : World) : Prop := ∃ k : Nat, k ≤ p.rules.length ∧ i = .int .i64 k ∧ ∃ L, PS p w8 k v L wx

theorem PS.on {p : GP} {w8 wx w' : World} {k : Nat} {v : Value} {L : List RQ} (h : PS p w8 k v L wx) (hb : Below wx.heap.size wx w') : PS p w8 k v L w' :=
  ⟨rowBelow h.row hb, h.map, h.each, bon h.below hb⟩

theorem PS.len {p : GP} {w8 wx : World} {k : Nat} {v : Value} {L : List RQ} (h : PS p w8 k v L wx) : L.length ≤ p.rules.length := by
  have h1 := congrArg List.length h.map
  have h2 := pos_len (p.rules.take k)
  simp at h1 h2
  omega

theorem PS.form {p : GP} {w8 wx : World} {k : Nat} {v : Value} {L : List RQ} (h : PS p w8 k v L wx) : ∃ a c, v = .slice a L.length c := by
  rcases h.row.2 with ⟨e, e2⟩ | ⟨g, cap, cur, e, _⟩
  · exact ⟨_, _, by rw [e, e2]⟩
  · exact ⟨_, _, e⟩

theorem posRules_step {p : GP} {k : Nat} (hk : k < p.rules.length) : posRules (p.rules.take (k + 1)) = if posR (ixR p.rules k) then posRules (p.rules.take k) ++ [ixR p.rules k] else posRules (p.rules.take k) := by
  have e : p.rules[k] = ixR p.rules k := by simp [ixR, List.getD_eq_getElem?_getD, List.getElem?_eq_getElem hk]
  unfold posRules
  rw [List.take_add_one, List.getElem?_eq_getElem hk, Option.toList_some, List.filter_append, e]
  cases hp : posR (ixR p.rules k) <;> simp [hp]

theorem PS.skip {p : GP} {w8 wx : World} {k : Nat} {v : Value} {L : List RQ} (h : PS p w8 k v L wx) (hk : k < p.rules.length) (hp : posR (ixR p.rules k) = false) : PS p w8 (k + 1) v L wx :=
  ⟨h.row, by rw [posRules_step hk, hp]; exact h.map, h.each, h.below⟩

theorem PS.push {p : GP} {w8 wx w4 : World} {k g cap : Nat} {v : Value} {L : List RQ} {q : RQ} {o : Obj} (h : PS p w8 k v L wx) (hk : k < p.rules.length) (hp : posR (ixR p.rules k) = true) (hq : q.1 = ixR p.rules k) (hs : RuleSl w8 q.1 q.2.1 q.2.2.1 q.2.2.2)
    (hown : w4.ownsRow w8.heap.size 44 6 (.slice (some ⟨g, 0, none⟩) (L.length + 1) cap) (L.length + 1) (L.flatMap cells6 ++ cells6 q)) (hg : (wx.alloc o).grownBy w4 v.ownBlock) : PS p w8 (k + 1) (.slice (some ⟨g, 0, none⟩) (L.length + 1) cap) (L ++ [q]) w4 := by
  refine ⟨by simpa using hown, by rw [posRules_step hk, hp, if_pos rfl, List.map_append, h.map, List.map_cons, List.map_nil, hq], fun q' hq' => ?_, below_grown h.below (fun g e => (row_block h.row e).1) hg⟩
  rcases List.mem_append.1 hq' with hq' | hq'
  · exact h.each q' hq'
  · simp only [List.mem_singleton] at hq'; subst hq'; exact hs

theorem PS.rules {p : GP} {w8 w : World} {v : Value} {L : List RQ} (h : PS p w8 p.rules.length v L w) (hfit : p.rules.length * 88 ≤ 140737488351232) : RulesIs w v (posRules p.rules) := by
  have hl : L.map (·.1) = posRules p.rules := by have := h.map; rwa [List.take_length] at this
  have hLl := h.len
  generalize posRules p.rules = l at *
  have hlen' : l.length = L.length := by rw [← hl]; simp
  have hq : ∀ i, i < l.length → L.getD i default ∈ L ∧ (L.getD i default).1 = ixR l i := fun i hi => by
    have hi' : i < L.length := by omega
    have e : L.getD i default = L[i] := by simp [List.getD_eq_getElem?_getD, List.getElem?_eq_getElem hi']
    rw [e]
    refine ⟨List.getElem_mem hi', ?_⟩
    subst hl
    simp [ixR, List.getD_eq_getElem?_getD, List.getElem?_eq_getElem hi']
  refine ⟨fun i => (L.getD i default).2.1, fun i => (L.getD i default).2.2.1, fun i => (L.getD i default).2.2.2, ?_, fun i hi => ?_⟩
  · rw [hlen']
    rcases h.row.2 with ⟨rfl, h0⟩ | ⟨g, cap, cur, rfl, hb, hg, hn, hm, hs, hx⟩
    · exact ⟨none, 0, by rw [h0], by omega, by unfold maxLen; omega, by omega, fun hp => by omega⟩
    · refine ⟨_, cap, rfl, hn, hm, by omega, fun _ => ⟨g, 0, rfl, (Array.getElem?_eq_some_iff.1 hg).1, fun i hi j hj => ?_⟩⟩
      have h6 := flat6 L i j hi hj
      rw [← hx, List.getElem?_take_of_lt (by omega)] at h6
      rw [cell_of_row w g (0 + i * 6 + j) cur _ (0, 0) hg, Nat.zero_add]
      have e2 := (hq i (by omega)).2
      dsimp only
      rw [← e2]
      have : cur[i * 6 + j]? = cur.toList[i * 6 + j]? := by simp
      rw [this, h6]
      rcases (show j = 0 ∨ j = 1 ∨ j = 2 ∨ j = 3 ∨ j = 4 ∨ j = 5 by omega) with rfl | rfl | rfl | rfl | rfl | rfl <;> rfl
  · obtain ⟨hm, e⟩ := hq i hi
    rw [← e]
    exact (h.each _ hm).below h.below

def posTo (r : GR) (j : Nat) : Bool := decide (r.head.length = 1) && !r.choice && allR j (fun k => decide (0 < ix r.body k))
theorem posTo_zero (r : GR) : posTo r 0 = (decide (r.head.length = 1) && !r.choice) := by simp [posTo, allR]
theorem posTo_succ (r : GR) (j : Nat) : posTo r (j + 1) = (posTo r j && decide (0 < ix r.body j)) := by
  unfold posTo allR
  rw [List.range_succ, List.all_append, List.all_cons, List.all_nil, Bool.and_true]
  simp only [Bool.and_assoc]

def PT (r : GR) (v i : Value) : Prop := ∃ j : Nat, j ≤ r.body.length ∧ i = .int .i64 j ∧ v = .bool (posTo r j)

def MR4 (n : Nat) (i : Value) : Prop := ∃ j : Nat, j ≤ n ∧ i = .int .i64 j

set_option maxHeartbeats 8000000 in
set_option maxRecDepth 100000 in
theorem more_walk (v va : Value) (p : GP) (a : List Int) (mo : Int) (hmo : 0 ≤ mo ∧ mo ≤ 65535) (w : World) (h : ProgIs w v p) (ha : Bytes8 w va a) :
    Calls Try.prog 7 #[v, va, .int .u16 mo] w fun e w' => e = .returned (.bool true) ∧ Below w.heap.size w w' := by
  have h0 := h
  obtain ⟨vn, vs, vr, vm, rfl, hn, hnames, hshown, hrules, hmin⟩ := h
  obtain ⟨a0, c0, rfl, -, hl0, -⟩ := hnames.form
  obtain ⟨a1, c1, rfl, -, hl1, -, hcellR⟩ := hrules.form
  obtain ⟨a3, c3, rfl, -⟩ := hshown.form
  obtain ⟨a4, c4, rfl, -⟩ := hmin.form
  have ha0 := ha
  obtain ⟨⟨aa, ca, rfl, hca1, hca2, hca3, hcella⟩, hfita⟩ := ha
  have hal := bal (Below.refl w.heap.size w) (.cells #[.int .i64 p.n, .slice a0 p.names.length c0, .slice a3 p.shown.length c3, .slice a1 p.rules.length c1, .slice a4 p.min.length c4] 27)
  have HP := Lib.hid (h0.below hal)
  have HA := Lib.hid (ha0.below hal)
  have HCR := Lib.hid hcellR
  have HCA := Lib.hid hcella
  have HFA := Lib.hid hfita
  have hbk : Blk (w.alloc (.cells #[.int .i64 p.n, .slice a0 p.names.length c0, .slice a3 p.shown.length c3, .slice a1 p.rules.length c1, .slice a4 p.min.length c4] 27)) w.heap.size [.int .i64 p.n, .slice a0 p.names.length c0, .slice a3 p.shown.length c3, .slice a1 p.rules.length c1, .slice a4 p.min.length c4] 27 := Blk.new w _ _
  have HBK := Lib.hid hbk
  clear hbk hnames hshown hmin h0 ha0 hcellR hrules hcella hfita
  cases hfew : fewB p with
  | false =>
    go_enter Try.func7, Try.ntmps7
    go_wp2_with (first | (go_at_call 10; (with_reducible refine (few_any _ p _ HP.out).mono ?_); rintro e w1 ⟨h1, hb1⟩; rw [hfew] at h1; subst h1; have hc1 := bcell hb1; have HW1 := Lib.hid (bon hal hb1); have hz1 : w.heap.size < w1.heap.size := (by have := hb1.size; simp at this; omega)) | (go_at_call 11; (with_reducible refine (awake_any _).mono ?_); rintro e w3 ⟨rfl, hb3⟩))
    go_ret
    exact ⟨rfl, bon HW1.out hb3⟩
  | true =>
    by_cases hv : validE p = 0
    · have hve : (validE p != 0) = false := by simp [hv]
      have HV := Lib.hid hv
      have hV := validP hv
      have hpn := hV.n
      have hpr := hV.rules
      obtain ⟨N, hN⟩ : ∃ N : Nat, p.n + (p.rules.length : Int) = N := ⟨(p.n + p.rules.length).toNat, by omega⟩
      have HN := Lib.hid hN
      have hN1 : N ≤ 44000 := by omega
      clear hv hV hN
      have hmk : ∀ w : World, (Instr.makeSlice 39 (.int .i64 (N : Int)) (.int .i64 (N : Int))).run Try.prog w = .ok (.slice (some ⟨w.heap.size, 0, none⟩) N N) (w.alloc (.cells (madeCells #[.int .i8 0] N) 58)) := fun w => run_make_row' _ _ _ _ Try.underlying39 info8 rfl .i64 .i64 N (by omega) (by omega) w
      go_enter Try.func7, Try.ntmps7
      go_upto_region 5 with (first | (go_at_call 10; (with_reducible refine (few_any _ p _ HP.out).mono ?_); rintro e w1 ⟨h1, hb1⟩; rw [hfew] at h1; subst h1; have hc1 := bcell hb1; have HW1 := Lib.hid (bon hal hb1); have hz1 : w.heap.size < w1.heap.size := (by have := hb1.size; simp at this; omega)) | (go_at_call 21; (with_reducible refine (valid_any _ p _ (HP.out.below hb1)).mono ?_); rintro e w2 ⟨rfl, hb2⟩; have hc2 := bcell hb2; have HW2 := Lib.hid (bon HW1.out hb2); have hz2 : w.heap.size < w2.heap.size := (by have := hb2.size; omega)) | (go_at_call 23; (with_reducible refine (vars_valid _ p _ (HP.out.below (bon hb1 hb2)) HV.out).mono ?_); rintro e w3 ⟨e3, hb3⟩; rw [HN.out] at e3; subst e3; have HW3 := Lib.hid (bon (bon hb1 hb2) hb3); have hz3 : w.heap.size < w3.heap.size := (by have := hb3.size; omega)))
      have hbm := Blk.new w3 (List.replicate N (Value.int .i8 0)) 58
      rw [← made_list] at hbm
      have hal3 := bal (Below.refl w3.heap.size w3) (.cells (madeCells #[.int .i8 0] N) 58)
      obtain ⟨cs, hcs⟩ : ∃ cs, cs = (List.range (Nat.min a.length N)).map (fun i => Value.int .i8 (ix a i)) := ⟨_, rfl⟩
      have hcl : cs.length = Nat.min a.length N := by rw [hcs]; simp
      have hm1 : Nat.min a.length N ≤ a.length := Nat.min_le_left _ _
      have hm2 : Nat.min a.length N ≤ N := Nat.min_le_right _ _
      have hbw4 : Below w.heap.size w (w3.alloc (.cells (madeCells #[.int .i8 0] N) 58)) := bon (hal.trans (HW3.out.mono (by simp))) hal3
      have hpos : 0 < cs.length → some (⟨w3.heap.size, 0, none⟩ : Addr) = some ⟨w3.heap.size, 0, none⟩ ∧ ∃ ad, aa = some ad ∧ ∀ j u, cs[j]? = some u → (w3.alloc (.cells (madeCells #[.int .i8 0] N) 58)).cell? (ad.add j) = some u := fun h0 => by
        obtain ⟨ba, offa, rfl, hba, hca⟩ := HCA.out (by omega)
        refine ⟨rfl, _, rfl, fun j u hu => ?_⟩
        have hj : j < cs.length := (List.getElem?_eq_some_iff.1 hu).1
        rw [Addr.add_lit]
        refine (bcell hbw4 _ _ hba).trans ((hca j (by omega)).trans ?_)
        rw [← hu, hcs]
        simp [show j < Nat.min a.length N by omega]
      have hone : ∀ u ∈ cs, u.oneCell' = true := fun u hu => by rw [hcs] at hu; obtain ⟨i, -, rfl⟩ := List.mem_map.1 hu; rfl
      have hfit : 0 + cs.length ≤ (List.replicate N (Value.int .i8 0)).length := by rw [List.length_replicate]; omega
      have HCS := Lib.hid hcs
      have HPOS := Lib.hid hpos
      have HONE := Lib.hid hone
      have HFIT := Lib.hid hfit
      have HBM := Lib.hid hbm
      have HAL3 := Lib.hid hal3
      have HCL := Lib.hid hcl
      clear hcs hbm hal3 hcl hbw4 hc1 hc2 hm1 hm2 hpos hone hfit
      go_upto_region 6 with ((refine wpList_copy_splice rfl _ _ 39 39 rfl 58 Try.underlying39 info8' _ _ _ _ _ _ rfl rfl w3.heap.size 0 (List.replicate N (.int .i8 0)) 58 HBM.out cs HCL.out HPOS.out HFIT.out HONE.out w3.heap.size w3 HAL3.out (Nat.le_refl _) ?_); intro w4 hg4 hb4; have HB4 : Hid (Blk w4 w3.heap.size ((firstN a N).map (Value.int .i8)) 58) := Lib.hid (by unfold Blk; rw [← splice_first, ← HCS.out]; exact hg4.out); have HBW4 := Lib.hid (bon HW3.out hb4); have HBW3 := HW3; have hz4 : w3.heap.size < w4.heap.size := HB4.out.lt; clear hg4 hb4)
      clear HBM HAL3 HCL HCS HPOS HONE HFIT hb1 hb2 HW1 HW2 HW3 hmk
      have HC4 := HB4.out.cell
      generalize hW0 : w.alloc (.cells #[.int .i64 p.n, .slice a0 p.names.length c0, .slice a3 p.shown.length c3, .slice a1 p.rules.length c1, .slice a4 p.min.length c4] 27) = W0 at *
      have hnW : w.heap.size < W0.heap.size := HBK.out.lt
      have hW3 : W0.heap.size ≤ w3.heap.size := by have := HBW3.out.size; omega
      clear hW0
      go_upto_if 51 with fail
      go_cut [] (fun wx => MoreSt p a W0 w3.heap.size N wx)
      case first =>
        by_cases hN0 : N = 0
        · go_wp2_with fail
          go_meet
          case rel => exact ⟨_, firstN_len a N, HB4.out, first_fit HFA.out, anti_first a (by rw [← HN.out]), HBW4.out⟩
        · obtain ⟨vv, hvv⟩ : ∃ vv : Nat, Int.tmod mo N = vv := ⟨(Int.tmod mo N).toNat, by have := Int.tmod_nonneg (N : Int) hmo.1; omega⟩
          have hvN : vv < N := by have := Int.tmod_lt_of_pos mo (show (0 : Int) < N by omega); omega
          have kv : w4.cell? ⟨w3.heap.size, vv, none⟩ = some (.int .i8 (ix a vv)) := (HC4 vv).trans (by simp [firstN, hvN])
          have fv := HB4.out.free vv
          clear HC4
          by_cases hav : ix a vv = 0
          · have HAV := Lib.hid hav
            go_wp2_with fail
            go_meet
            case rel =>
              refine ⟨(firstN a N).set vv (mo / 256 % 2 * 2 - 1), by rw [List.length_set, firstN_len], by rw [List.map_set]; exact HB4.out.set _ _, fun x hx => ?_, anti_set a (by rw [← HN.out]) vv _ hvN HAV.out, HBW4.out.setCell (show W0.heap.size ≤ w3.heap.size from hW3) _⟩
              rcases List.mem_or_eq_of_mem_set hx with hx | rfl
              · exact first_fit HFA.out x hx
              · omega
          · have hav' : (ix a vv == 0) = false := by simp [hav]
            clear hav
            go_wp2_with fail
            go_meet
            case rel => exact ⟨_, firstN_len a N, HB4.out, first_fit HFA.out, anti_first a (by rw [← HN.out]), HBW4.out⟩
      case rest =>
        obtain ⟨bl, hbll, hbb, hbf, hanti, hbW⟩ := hcut
        have HBB := Lib.hid hbb
        have HBF := Lib.hid hbf
        have HANTI := Lib.hid hanti
        have HBWC := Lib.hid hbW
        have hz4' := hbb.lt
        have hzc := hbW.size
        have kx := fun o => (bcell hbW _ o hnW).trans (HBK.out.cell o)
        have hby : ∀ w' : World, w'.heap[w3.heap.size]? = wc.heap[w3.heap.size]? → Bytes8 w' (.slice (some ⟨w3.heap.size, 0, none⟩) N N) bl := fun w' e => by
          have := Blk.bytes8 (HBB.out.same e) (fit8 HBF.out) (by omega)
          rw [hbll] at this
          exact this
        have HBY := Lib.hid hby
        have hq0 : (0 : Int) ≤ 2305843009213693952 := by omega
        clear hbb hbf hanti hbW hby HB4 HBW4 HC4
        go_upto_region 12 with (first
          | (go_at_call 12; (with_reducible refine (new_valid (HP.out.below HB5.out) HV.out).mono ?_); rintro e w6 ⟨t, rfl, hb6, htH, ht6⟩; have HB6 := Lib.hid (bon HB5.out hb6); have HB6' := Lib.hid hb6; have HCT6 := Lib.hid ht6.core; have HCS6 := Lib.hid (HCS5.out.below hb6); have hst6 : s.T ≤ t.H := (by rw [htH]; exact HCS5.out.lim.2.1); have hz6 := hb6.size; have hH6 : W0.heap.size ≤ t.H := (by have := HB5.out.size; omega); clear hb6 ht6)
          | (go_at_call 12; (with_reducible refine (new_valid (HP.out.below HBWC.out) HV.out).mono ?_); rintro e w5 ⟨s, rfl, hb5, hsH, hs5⟩; have HB5 := Lib.hid (bon HBWC.out hb5); have HB5' := Lib.hid hb5; have HCS5 := Lib.hid hs5.core; have kx5 := fun o => (bcell (bon HBWC.out hb5) _ o hnW).trans (HBK.out.cell o); have hz5 := hb5.size; have hH5 : W0.heap.size ≤ s.H := (by omega); clear hb5 hs5))
        clear kx kx5
        have hms := HCS6.out.lim
        have hmt := HCT6.out.lim
        have HMS : Hid (∀ i ∈ s.mut, s.H ≤ i ∧ i < s.T) := Lib.hid hms.2.2
        have HMT : Hid (∀ i ∈ t.mut, t.H ≤ i ∧ i < t.T) := Lib.hid hmt.2.2
        have hHs : wc.heap.size ≤ s.H := by omega
        have HA6 := Lib.hid (HA.out.below HB6.out)
        have hbl6 : w6.heap[w3.heap.size]? = wc.heap[w3.heap.size]? := (HB6'.out.block _ (by omega)).trans (HB5'.out.block _ hz4')
        clear hms
        go_upto_region 17 with (first
          | (go_at_call 14; (with_reducible refine (find_hist HCT7.out (zero_inv p) hq0 _ (HBY.out w7 hbl7) hH6 HT7.out.below).mono ?_); rintro e w8 ⟨G, av8, cv8, rfl, -, -, hl8, ht8⟩; have HT8 := Lib.hid ht8; have HS8 := Lib.hid (HT7.out.lim hl8 (fun i hi => by have := HMT.out i hi; omega)); clear hl8 ht8)
          | (go_at_call 14; (with_reducible refine (find_hist HCS6.out (zero_inv p) hq0 _ HA6.out hH5 HB6.out).mono ?_); rintro e w7 ⟨F, av7, cv7, rfl, -, -, hl7, ht7⟩; have HT7 := Lib.hid ht7; have HCT7 := Lib.hid (HCT6.out.keep hl7.size (fun i i1 i2 => hl7.block i (by omega) (fun hm => by have := HMS.out i hm; omega))); have hbl7 : w7.heap[w3.heap.size]? = wc.heap[w3.heap.size]? := (hl7.block _ (by omega) (fun hm => by have := HMS.out _ hm; omega)).trans hbl6; clear hl7 ht7))
        obtain ⟨Fs, Ks, cs', hfs, -, hcs, -⟩ := HS8.out
        obtain ⟨Ft, Kt, ct, hft, -, hct, -⟩ := HT8.out
        have hle : ∀ x, 0 < Ft x → 0 < Fs x := fnd_anti HV.out HANTI.out (hfs.fnd HV.out) (hft.fnd HV.out)
        have HLE := Lib.hid hle
        have HSC := Lib.hid hcs
        have HTC := Lib.hid hct
        have HFS := Lib.hid hfs
        have HFT := Lib.hid hft
        have HW8 := Lib.hid HT8.out.below
        have kx8 := fun o => (bcell HW8.out _ o hnW).trans (HBK.out.cell o)
        clear hfs hft hcs hct hle HS8 HT8 HT7 HCT7 hbl7 hbl6 HA6
        go_loop [14] (fun i => MR1 p i) (fun i => (p.n + 1 - intOf i).toNat)
        case atStart => exact ⟨0, Nat.zero_le _, rfl⟩
        case round =>
          obtain ⟨k, hk, rfl⟩ := hrel
          by_cases hlt : (k : Int) + 1 ≤ p.n
          · have hi1 := HFS.out.lost.inv ((k : Int) + 1)
            have hi2 := HFT.out.lost.inv ((k : Int) + 1)
            have hs1 := source_core HSC.out ((k : Int) + 1) (by omega)
            have ht1 := source_core HTC.out ((k : Int) + 1) (by omega)
            by_cases h2 : 0 < Ft ((k : Int) + 1)
            · have h1 := HLE.out _ h2
              rw [decide_eq_true h1, if_pos h1] at hs1
              rw [decide_eq_true h2, if_pos h2] at ht1
              have HS1 := Lib.hid hs1
              have HT1 := Lib.hid ht1
              clear hs1 ht1 h1 h2 hi1 hi2
              go_wp2_with (first | (go_at_call 15; (with_reducible refine (HT1.out).mono ?_); rintro e w9 ⟨rfl, rfl⟩) | (go_at_call 15; (with_reducible refine (HS1.out).mono ?_); rintro e w9 ⟨rfl, rfl⟩))
              first
                | (go_round
                   case rel => (exact ⟨k + 1, by omega, by go_num⟩)
                   case measure => (simp [intOf]; omega))
                | (refine ⟨?_, ?_⟩
                   · (exact ⟨k + 1, by omega, by go_num⟩)
                   · (simp [intOf]; omega))
            · rw [decide_eq_false h2, if_neg h2] at ht1
              have HT1 := Lib.hid ht1
              by_cases h1 : 0 < Fs ((k : Int) + 1)
              · rw [decide_eq_true h1, if_pos h1] at hs1
                have HS1 := Lib.hid hs1
                clear hs1 ht1 h1 h2 hi1 hi2
                go_wp2_with (first | (go_at_call 15; (with_reducible refine (HT1.out).mono ?_); rintro e w9 ⟨rfl, rfl⟩) | (go_at_call 15; (with_reducible refine (HS1.out).mono ?_); rintro e w9 ⟨rfl, rfl⟩))
                first
                  | (go_round
                     case rel => (exact ⟨k + 1, by omega, by go_num⟩)
                     case measure => (simp [intOf]; omega))
                  | (refine ⟨?_, ?_⟩
                     · (exact ⟨k + 1, by omega, by go_num⟩)
                     · (simp [intOf]; omega))
              · rw [decide_eq_false h1, if_neg h1] at hs1
                have HS1 := Lib.hid hs1
                clear hs1 ht1 h1 h2 hi1 hi2
                go_wp2_with (first | (go_at_call 15; (with_reducible refine (HT1.out).mono ?_); rintro e w9 ⟨rfl, rfl⟩) | (go_at_call 15; (with_reducible refine (HS1.out).mono ?_); rintro e w9 ⟨rfl, rfl⟩))
                first
                  | (go_round
                     case rel => (exact ⟨k + 1, by omega, by go_num⟩)
                     case measure => (simp [intOf]; omega))
                  | (refine ⟨?_, ?_⟩
                     · (exact ⟨k + 1, by omega, by go_num⟩)
                     · (simp [intOf]; omega))
          · obtain rfl : k = p.n.toNat := by omega
            go_wp2_with fail
            have HPS0 : Hid (PS p w8 0 (.slice none 0 0) [] w8) := Lib.hid ⟨World.ownsRow_nil _ _ _ _, by simp [posRules], fun q hq => by simp at hq, Below.refl _ _⟩
            clear kx8
            go_loopw [19, 118] (fun v i wx => PR p w8 v i wx) (fun _ i _ => p.rules.length - (intOf i).toNat)
            case atStart => exact ⟨0, Nat.zero_le _, rfl, [], HPS0.out⟩
            case round =>
              obtain ⟨k, hk, rfl, L, hps⟩ := hrel
              have HPS := Lib.hid hps
              have hLl := hps.len
              have hzr := hps.below.size
              obtain ⟨av, cv, rfl⟩ := hps.form
              have HBX := Lib.hid (bon HW8.out hps.below)
              have kx8 := fun o => (bcell HBX.out _ o hnW).trans (HBK.out.cell o)
              clear hps HPS0
              by_cases hlt : k < p.rules.length
              · obtain ⟨b, off, hab, hbl, hc⟩ := HCR.out (by omega)
                subst hab
                obtain ⟨vh, vb, vw, ⟨r0, r1, r2, r3, r4, r5⟩, hsl⟩ := hc k hlt
                obtain ⟨x1, y1, rfl, -, g1, -, -⟩ := hsl.head.form
                obtain ⟨x2, y2, rfl, -, g2, -, hbodyC⟩ := hsl.body.form
                obtain ⟨x3, y3, rfl, -, g3, -, -⟩ := hsl.wts.form
                have hbwx := hal.trans (HBX.out.mono (by omega))
                have kk := bcell hbwx b
                have q0 := (kk _ hbl).trans r0
                have q1 := (kk _ hbl).trans r1
                have q2 := (kk _ hbl).trans r2
                have q3 := (kk _ hbl).trans r3
                have q4 := (kk _ hbl).trans r4
                have q5 := (kk _ hbl).trans r5
                have HSL8 := Lib.hid (hsl.below (hal.trans (HW8.out.mono (by omega))))
                have HBC := Lib.hid hbodyC
                have HBWX := Lib.hid hbwx
                clear kk r0 r1 r2 r3 r4 r5 hc hsl hbodyC hbwx
                go_upto_region 27 with fail
                have hbr := Blk.new wr [.bool (ixR p.rules k).choice, .slice x1 (ixR p.rules k).head.length y1, .bool (ixR p.rules k).sum, .int .i64 (ixR p.rules k).bound, .slice x2 (ixR p.rules k).body.length y2, .slice x3 (ixR p.rules k).w.length y3] 44
                have hbx := bal (Below.refl wr.heap.size wr) (.cells #[.bool (ixR p.rules k).choice, .slice x1 (ixR p.rules k).head.length y1, .bool (ixR p.rules k).sum, .int .i64 (ixR p.rules k).bound, .slice x2 (ixR p.rules k).body.length y2, .slice x3 (ixR p.rules k).w.length y3] 44)
                have HBR := Lib.hid hbr
                have HPS7 := Lib.hid (HPS.out.on hbx)
                have HBW7 := Lib.hid (bon HBWX.out hbx)
                clear hbr hbx q0 q1 q2 q3 q4 q5 kx8
                generalize wr.alloc (.cells #[.bool (ixR p.rules k).choice, .slice x1 (ixR p.rules k).head.length y1, .bool (ixR p.rules k).sum, .int .i64 (ixR p.rules k).bound, .slice x2 (ixR p.rules k).body.length y2, .slice x3 (ixR p.rules k).w.length y3] 44) = W7 at *
                have kr := HBR.out.cell
                go_cut [22, 118] from 118 to 149 (fun s i wx => s = .bool (posTo (ixR p.rules k) 0) ∧ i = .int .i64 k ∧ wx = W7)
                case first =>
                  by_cases hh1 : (ixR p.rules k).head.length = 1
                  · cases hch : (ixR p.rules k).choice with
                    | true =>
                      have HF : Hid (posTo (ixR p.rules k) 0 = false) := Lib.hid (by rw [posTo_zero, hch]; simp)
                      go_wp2_with fail
                      go_meet
                      case rel => exact ⟨by rw [HF.out], rfl, rfl⟩
                    | false =>
                      have HF : Hid (posTo (ixR p.rules k) 0 = true) := Lib.hid (by rw [posTo_zero, hch, hh1]; simp)
                      go_wp2_with fail
                      go_meet
                      case rel => exact ⟨by rw [HF.out], rfl, rfl⟩
                  · have hh2 : ((ixR p.rules k).head.length == 1) = false := by simp [hh1]
                    have hh3 : (((ixR p.rules k).head.length : Int) == 1) = false := by simp; omega
                    have HF : Hid (posTo (ixR p.rules k) 0 = false) := Lib.hid (by rw [posTo_zero, decide_eq_false hh1]; simp)
                    clear hh1
                    go_wp2_with fail
                    go_meet
                    case rel => exact ⟨by rw [HF.out], rfl, rfl⟩
                case rest =>
                  have hw7 : W7 = wc := by first | exact hcut.2.2.symm | rfl
                  obtain ⟨rfl, rfl, -⟩ := hcut
                  subst hw7
                  go_wp2_with fail
                  go_loop [22, 134] (fun v i => PT (ixR p.rules k) v i) (fun _ i => (ixR p.rules k).body.length - (intOf i).toNat)
                  case atStart => exact ⟨0, Nat.zero_le _, rfl, rfl⟩
                  case round =>
                    obtain ⟨j, hj, rfl, rfl⟩ := hrel
                    have HSUC := Lib.hid (posTo_succ (ixR p.rules k) j)
                    by_cases hltj : j < (ixR p.rules k).body.length
                    · obtain ⟨bb, offb, rfl, hbb2, hcb⟩ := HBC.out (by omega)
                      have kb := (bcell HBW7.out _ _ hbb2).trans (hcb j hltj)
                      clear hcb
                      cases hp : posTo (ixR p.rules k) j with
                      | true =>
                        rw [hp] at HSUC
                        by_cases hx : 0 < ix (ixR p.rules k).body j
                        · rw [decide_eq_true hx] at HSUC
                          go_wp2_with fail
                          first
                            | (go_round
                               case rel => (exact ⟨j + 1, by omega, by go_num, by rw [HSUC.out]; rfl⟩)
                               case measure => (simp [intOf]; omega))
                            | (refine ⟨?_, ?_⟩
                               · (exact ⟨j + 1, by omega, by go_num, by rw [HSUC.out]; rfl⟩)
                               · (simp [intOf]; omega))
                        · rw [decide_eq_false hx] at HSUC
                          have hx' : decide (0 < ix (ixR p.rules k).body j) = false := decide_eq_false hx
                          clear hx
                          go_wp2_with fail
                          first
                            | (go_round
                               case rel => (exact ⟨j + 1, by omega, by go_num, by rw [HSUC.out]; rfl⟩)
                               case measure => (simp [intOf]; omega))
                            | (refine ⟨?_, ?_⟩
                               · (exact ⟨j + 1, by omega, by go_num, by rw [HSUC.out]; rfl⟩)
                               · (simp [intOf]; omega))
                      | false =>
                        rw [hp] at HSUC
                        go_wp2_with fail
                        first
                          | (go_round
                             case rel => (exact ⟨j + 1, by omega, by go_num, by rw [HSUC.out]; rfl⟩)
                             case measure => (simp [intOf]; omega))
                          | (refine ⟨?_, ?_⟩
                             · (exact ⟨j + 1, by omega, by go_num, by rw [HSUC.out]; rfl⟩)
                             · (simp [intOf]; omega))
                    · obtain rfl : j = (ixR p.rules k).body.length := by omega
                      have HPOS : Hid (posR (ixR p.rules k) = posTo (ixR p.rules k) (ixR p.rules k).body.length) := Lib.hid rfl
                      clear HSUC
                      cases hp : posTo (ixR p.rules k) (ixR p.rules k).body.length with
                      | false =>
                        rw [hp] at HPOS
                        go_wp2_with fail
                        first
                          | (go_roundw
                             case rel => (exact ⟨k + 1, by omega, by go_num, L, HPS7.out.skip hlt HPOS.out⟩)
                             case measure => (simp [intOf]; omega))
                          | (refine ⟨?_, ?_⟩
                             · (exact ⟨k + 1, by omega, by go_num, L, HPS7.out.skip hlt HPOS.out⟩)
                             · (simp [intOf]; omega))
                      | true =>
                        rw [hp] at HPOS
                        have hone : ∀ u ∈ cells6 (ixR p.rules k, .slice x1 (ixR p.rules k).head.length y1, .slice x2 (ixR p.rules k).body.length y2, .slice x3 (ixR p.rules k).w.length y3), u.oneCell' = true := by
                          intro u hu
                          simp only [cells6, List.mem_cons, List.not_mem_nil, or_false] at hu
                          rcases hu with rfl | rfl | rfl | rfl | rfl | rfl <;> rfl
                        have HONE := Lib.hid hone
                        have HPSA := Lib.hid (HPS7.out.on (bal (Below.refl _ _) (.cells #[.bool (ixR p.rules k).choice, .slice x1 (ixR p.rules k).head.length y1, .bool (ixR p.rules k).sum, .int .i64 (ixR p.rules k).bound, .slice x2 (ixR p.rules k).body.length y2, .slice x3 (ixR p.rules k).w.length y3] 44)))
                        have hL96 : (L.length + 1) * 96 ≤ 140737488351232 := by omega
                        have hzw7 := HPS7.out.below.size
                        clear hone
                        go_wp2_with (at_builtin; go_loud (refine wpList_plain rfl (fun _ hK' => wp_appendR _ _ 24 Try.underlying24 rfl w8.heap.size (.slice av L.length cv) L (ixR p.rules k, .slice x1 (ixR p.rules k).head.length y1, .slice x2 (ixR p.rules k).body.length y2, .slice x3 (ixR p.rules k).w.length y3) rfl HPSA.out.row _ 1 rfl (Blk.new _ [.bool (ixR p.rules k).choice, .slice x1 (ixR p.rules k).head.length y1, .bool (ixR p.rules k).sum, .int .i64 (ixR p.rules k).bound, .slice x2 (ixR p.rules k).body.length y2, .slice x3 (ixR p.rules k).w.length y3] _) HONE.out hL96 (by simp; omega) ?_)); intro g6 cap6 w6' hown6 hg6 hl6 hlt6; have hnew := HPS7.out.push (q := (ixR p.rules k, .slice x1 (ixR p.rules k).head.length y1, .slice x2 (ixR p.rules k).body.length y2, .slice x3 (ixR p.rules k).w.length y3)) hlt HPOS.out rfl HSL8.out hown6 hg6; have HNEW := Lib.hid hnew; clear hnew hown6 hg6 hl6 hlt6; refine hK' _ _ ?_)
                        first
                          | (go_roundw
                             case rel => (exact ⟨k + 1, by omega, by go_num, _, HNEW.out⟩)
                             case measure => (simp [intOf]; omega))
                          | (refine ⟨?_, ?_⟩
                             · (exact ⟨k + 1, by omega, by go_num, _, HNEW.out⟩)
                             · (simp [intOf]; omega))
              · obtain rfl : k = p.rules.length := by omega
                have hrq := HPS.out.rules (by omega)
                obtain ⟨vn', vs', vr', vm', he, hpw⟩ := HP.out.below HBX.out
                have he := congrArg Array.toList (Value.agg.inj he)
                have hpq : ProgIs wr (.agg #[.int .i64 p.n, .slice a0 p.names.length c0, .slice a3 p.shown.length c3, .slice av L.length cv, .slice a4 p.min.length c4]) p.pos := by
                  simp only [List.cons.injEq, and_true, true_and] at he
                  obtain ⟨rfl, rfl, -, rfl⟩ := he
                  exact ⟨_, _, _, _, rfl, hpw.n, hpw.names, hpw.shown, hrq, hpw.min⟩
                have hal9 := bal (Below.refl wr.heap.size wr) (.cells #[.int .i64 p.n, .slice a0 p.names.length c0, .slice a3 p.shown.length c3, .slice av L.length cv, .slice a4 p.min.length c4] 27)
                have HPQ := Lib.hid (hpq.below hal9)
                have HRQ := Lib.hid (hrq.below hal9)
                have HB9 := Lib.hid (bon HBX.out hal9)
                have HBQ := Lib.hid (Blk.new wr [.int .i64 p.n, .slice a0 p.names.length c0, .slice a3 p.shown.length c3, .slice av L.length cv, .slice a4 p.min.length c4] 27)
                clear he hpw hpq hrq hal9
                go_upto_region 40 with (first
                  | (go_at_call 24; (with_reducible refine (least_int _ (posRules p.rules) p.n _ (HRQ.out.below HB10'.out) (pos_definite HV.out)).mono ?_); rintro e w11 ⟨M, ao, co, rfl, hqM, hlM, hsM, hrM, hlenM, hb11⟩; have HQM := Lib.hid hqM; have HLM := Lib.hid hlM; have HSM := Lib.hid hsM; have HB11 := Lib.hid (bon HB10.out hb11); have HCU11 := Lib.hid (HCU10.out.below hb11); have kq11 := fun o => (bcell (bon HB10'.out hb11) _ o HBQ.out.lt).trans (HBQ.out.cell o); have hz11 := hb11.size; have HRM := Lib.hid hrM; clear hqM hlM hsM hb11 hrM)
                  | (go_at_call 12; (with_reducible refine (new_valid HPQ.out (pos_valid HV.out)).mono ?_); rintro e w10 ⟨u, rfl, hb10, huH, hu10⟩; have HB10' := Lib.hid hb10; have HB10 := Lib.hid (bon HB9.out hb10); have HCU10 := Lib.hid hu10.core; have kq10 := fun o => (bcell hb10 _ o HBQ.out.lt).trans (HBQ.out.cell o); have hz10 := hb10.size; have hH10 : W0.heap.size ≤ u.H := (by rw [huH]; exact HB9.out.size); have hzq10 : wr.heap.size < w10.heap.size := Nat.lt_of_lt_of_le HBQ.out.lt hb10.size; clear hb10 hu10))
                clear kq10
                have hmu := HCU10.out.lim
                have HMU : Hid (∀ i ∈ u.mut, u.H ≤ i ∧ i < u.T) := Lib.hid hmu.2.2
                have huT := hmu.2.1
                have hzq : wr.heap.size < u.H := by rw [huH]; exact HBQ.out.lt
                have hzq11 : wr.heap.size < w11.heap.size := by omega
                clear hmu
                have hlM4 : M.length ≤ 4000 := by omega
                have kb : ∀ e : KeepB w11 wr.heap.size, ∀ o, e.world.cell? ⟨wr.heap.size, o, none⟩ = [Value.int .i64 p.n, .slice a0 p.names.length c0, .slice a3 p.shown.length c3, .slice av L.length cv, .slice a4 p.min.length c4][o]? := fun e o => (e.cell o).trans (kq11 o)
                refine wp_region_tailC [0, 1, 2, 3, 4, 5, 6, 7, 10, 11, 13, 14, 8, 9, 12, 15, 16] 12 (fun w' => ∃ e : KeepB w11 wr.heap.size, w' = e.world) (fun _ _ _ _ _ _ => False) (fun _ => false) (by kernel_rfl) (by kernel_rfl) (by kernel_rfl) (by kernel_rfl) (fun w' hb => ⟨⟨w', fun o => bcell hb _ _ hzq11⟩, rfl⟩) (fun _ _ _ _ _ _ _ h _ => h) ?_
                simp only [reorder, List.map_cons, List.map_nil, List.getD_cons_zero, List.getD_cons_succ, reix, atIn, List.map_toArray, List.idxOf_cons, List.idxOf_nil, Nat.reduceBEq, cond_true, cond_false, beq_self_eq_true, Nat.reduceAdd, Option.map, List.take_succ_cons, List.take_zero, List.drop_succ_cons, List.drop_zero]
                iterate 8 (refine walkP_head (by kernel_rfl) rfl rfl rfl (fun K hK => ?_); go_big_quiet_op; refine hK _ ?_; clear hK K)
                iterate 4 (refine walkP_late (by kernel_rfl) rfl rfl rfl (fun K hK => ?_); go_big_quiet_op; refine hK _ ?_; clear hK K)
                intro wx hbx hF hI hP
                clear hF hI hP
                have HCUX := Lib.hid (HCU11.out.below hbx)
                have HBX12 := Lib.hid (bon HB11.out hbx)
                have hxz := hbx.size
                have HQMX := Lib.hid (QRow.below HQM.out hbx)
                have HBXX := Lib.hid hbx
                clear hbx kb
                refine tailC_call rfl (runFind _ wx) ?_
                simp only [List.map_toArray, List.map_cons, List.map_nil, Act.eval, Array.append_empty, List.append_toArray]
                refine (find_hist HCUX.out (zero_inv p.pos) hq0 _ (nil_bytes8 wx) hH10 HBX12.out).mono ?_
                rintro e w12 ⟨Fv, av12, cv12, rfl, -, hf12, hl12, ht12⟩
                have hcount := least_count HV.out hf12 HLM.out HSM.out
                have hwp : IntKind.i64.wrap p.n = p.n := by rw [IntKind.wrap_i64]; omega
                have hw12' : ((findTo Fv [] p.pos.n.toNat).length : Int) + (M.length : Int) = p.n := by
                  have e : p.pos.n = p.n := rfl
                  rw [e]; omega
                have hf12l : (findTo Fv [] p.pos.n.toNat).length ≤ 4000 := by have := findTo_len Fv [] p.pos.n.toNat; have e : p.pos.n = p.n := rfl; rw [e] at this ⊢; omega
                have hk12 : ∃ e : KeepB w11 wr.heap.size, w12 = e.world := ⟨⟨w12, fun o => (World.cell?_of_block (a := ⟨wr.heap.size, o, none⟩) (hl12.block wr.heap.size (by omega) (fun hm => by have := HMU.out _ hm; omega))).trans (bcell HBXX.out _ _ hzq11)⟩, rfl⟩
                have HK12 := Lib.hid hk12
                have HT12 := Lib.hid ht12
                have HQM12 := Lib.hid (HQMX.out.limKept hl12 (Nat.le_refl _) (fun i hi => by have := HMU.out i hi; omega))
                clear hk12 ht12 hl12 hcount
                refine ⟨_, rfl, HK12.out, ?_⟩
                refine ⟨rfl, .inl rfl, ?_⟩
                go_simp
                refine ⟨HK12.out, rfl, .inl rfl, ?_⟩
                go_simp
                refine ⟨HK12.out, rfl, .inl rfl, ?_⟩
                go_simp
                refine ⟨HK12.out, rfl, .inl rfl, ?_⟩
                go_simp
                refine ⟨HK12.out, ?_⟩
                simp only [tailC]
                obtain ⟨F9, K9, c9, hf9, -, hc9, hb9⟩ := HT12.out
                have HC9 := Lib.hid hc9
                have HB9 := Lib.hid hb9
                have HF9 := Lib.hid (fnd_least HV.out (hf9.fnd (pos_valid HV.out)) HLM.out)
                have HI9 := Lib.hid hf9.lost.inv
                have hmi := HQM12.out.ints (by omega)
                obtain ⟨_, _, e9, -, -, -, hmc⟩ := hmi.form
                simp only [Value.slice.injEq, true_and] at e9
                obtain ⟨rfl, rfl⟩ := e9
                have HMC := Lib.hid hmc
                clear hf9 hc9 hb9 hmc hmi kq11
                go_wp2_with fail
                go_loop [184] (fun i => MR4 M.length i) (fun i => M.length - (intOf i).toNat)
                case atStart => exact ⟨0, Nat.zero_le _, rfl⟩
                case round =>
                  obtain ⟨j, hj, rfl⟩ := hrel
                  by_cases hltj : j < M.length
                  · obtain ⟨bm, offm, rfl, hbm, hmc⟩ := HMC.out (by omega)
                    have km := hmc j hltj
                    have hpos := (HF9.out (ix M j)).2 (ix_mem hltj)
                    have hi9 := HI9.out (ix M j)
                    have hs9 := source_core HC9.out (ix M j) (by omega)
                    rw [if_pos hpos, decide_eq_true hpos] at hs9
                    have HS9 := Lib.hid hs9
                    clear hmc hpos hi9 hs9
                    go_wp2_with (go_at_call 15; (with_reducible refine (HS9.out).mono ?_); rintro e w13 ⟨rfl, rfl⟩)
                    first
                      | (go_round
                         case rel => (exact ⟨j + 1, by omega, by go_num⟩)
                         case measure => (simp [intOf]; omega))
                      | (refine ⟨?_, ?_⟩
                         · (exact ⟨j + 1, by omega, by go_num⟩)
                         · (simp [intOf]; omega))
                  · go_wp2_with (go_at_call 11; (with_reducible refine (awake_any _).mono ?_); rintro e w14 ⟨rfl, hb14⟩)
                    go_ret
                    exact ⟨rfl, bon (hal.trans (HB9.out.mono (by omega))) hb14⟩
    · have hve : (validE p != 0) = true := by simp [hv]
      clear hv
      go_enter Try.func7, Try.ntmps7
      go_wp2_with (first | (go_at_call 10; (with_reducible refine (few_any _ p _ HP.out).mono ?_); rintro e w1 ⟨h1, hb1⟩; rw [hfew] at h1; subst h1; have hc1 := bcell hb1; have HW1 := Lib.hid (bon hal hb1); have hz1 : w.heap.size < w1.heap.size := (by have := hb1.size; simp at this; omega)) | (go_at_call 21; (with_reducible refine (valid_any _ p _ (HP.out.below hb1)).mono ?_); rintro e w2 ⟨rfl, hb2⟩; have hc2 := bcell hb2; have HW2 := Lib.hid (bon HW1.out hb2); have hz2 : w.heap.size < w2.heap.size := (by have := hb2.size; omega)) | (go_at_call 11; (with_reducible refine (awake_any _).mono ?_); rintro e w3 ⟨rfl, hb3⟩))
      go_ret
      exact ⟨rfl, bon HW2.out hb3⟩

theorem more_law {v va : Value} {p : GP} {a : List Int} {W : World} (h : ProgIs W v p) (ha : Bytes8 W va a) (mo : Int) (hw : (Lit.int .u16 mo).wf = true) : Calls Try.prog 7 #[v, va, .int .u16 mo] W fun e w' => e = .returned (.bool true) ∧ Below W.heap.size W w' := by
  refine more_walk v va p a mo ?_ W h ha
  have := bounds_u16 hw
  omega

end Go.Proofs.Ytkjpnpkmnpofgaa
