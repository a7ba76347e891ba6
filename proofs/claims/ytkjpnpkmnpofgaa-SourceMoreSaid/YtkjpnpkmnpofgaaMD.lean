/- My texts App, Ref33, RefAv, RefNext, RefFind, Ref17a, Ref17b, Ref17c, Ref17d, merged. -/
import Derived.Test.YtkjpnpkmnpofgaaMC
import Derived.Deep.AppendSrc
import Derived.Deep.LoopGhost
import Derived.Test.YtkjpnpkmnpofgaaMB
import Derived.Test.YtkjpnpkmnpofgaaMA
import Derived.Deep.DeepCutAuto

/- 'append(v, x...)' of a whole slice of ints to a row of the call's own. -/
namespace Go.Proofs.Ytkjpnpkmnpofgaa
open Go.RowKit


theorem map_ix (m : List Int) (j : Nat) (hj : j < m.length) : (m.map (Value.int .i64))[j]? = some (.int .i64 (ix m j)) := by
  simp [ix, List.getD_eq_getElem?_getD, List.getElem?_eq_getElem hj]

theorem Ints.src {w : World} {x : Value} {m : List Int} (h : Ints w x m) : _root_.Go.Src Try.prog 1 23 x m.length (m.map (Value.int .i64)) w := by
  obtain ⟨a, c, rfl, -, -, -, hc⟩ := h.form
  cases m with
  | nil =>
    cases a with
    | none => exact _root_.Go.Src.ofNil w Try.underlying23 c
    | some a => exact _root_.Go.Src.ofSlice w Try.underlying23 a 0 c [] (by simp) (fun j u hu => by simp at hu) (fun u hu => by simp at hu)
  | cons y m =>
    obtain ⟨b, off, rfl, -, hcc⟩ := hc (by simp)
    refine _root_.Go.Src.ofSlice w Try.underlying23 ⟨b, off, none⟩ _ c ((y :: m).map (Value.int .i64)) (by simp) (fun j u hu => ?_) (fun u hu => ?_)
    · have hj : j < (y :: m).length := by have := (List.getElem?_eq_some_iff.1 hu).1; simpa using this
      have hadd : (⟨b, off, none⟩ : Addr).add j = ⟨b, off + j, none⟩ := by unfold Addr.add; split <;> simp_all
      rw [hadd, hcc j hj, ← hu, map_ix _ j hj]
    · obtain ⟨z, -, rfl⟩ := List.mem_map.1 hu
      simp [Value.oneCell']

theorem ix_app (l m : List Int) (i : Nat) : ix (l ++ m) i = if i < l.length then ix l i else ix m (i - l.length) := by
  split
  · rename_i h; simp [ix, List.getElem?_append_left h]
  · rename_i h; simp [ix, List.getElem?_append_right (Nat.le_of_not_lt h)]

theorem Fits.app {l m : List Int} (h : Fits l) (k : Fits m) : Fits (l ++ m) := fun i => by
  rw [ix_app]; split
  · exact h i
  · exact k _

theorem run_appendQs (base : Nat) (T ty : TypeId) (hT : Try.prog.underlying T = some (.slice 3)) (hTT : T = 23) (w : World) (v : Value) (l : List Int) (h : QRow base w v l) (x : Value) (m : List Int) (hx : Ints w x m)
    (hlen : (l.length + m.length) * 8 ≤ 140737488351232) (hbase : base ≤ w.heap.size) :
    ∃ v' w', (Builtin.append_ #[T, T] ty #[v, x]).run Try.prog w = .ok v' w' ∧ QRow base w' v' (l ++ m) ∧ w.grownBy w' v.ownBlock ∧ (v'.ownBlock = v.ownBlock ∨ v'.ownBlock = some w.heap.size) := by
  subst hTT
  have hi := infoI
  obtain ⟨i, hi, he⟩ := Option.map_eq_some_iff.1 hi
  simp only [Prod.mk.injEq] at he
  obtain ⟨hz, hs, hby⟩ := he
  have hsrc := hx.src
  have hsrc' : _root_.Go.Src Try.prog i.size 23 x m.length (m.map (Value.int .i64)) w := by rw [hs]; exact hsrc
  have hfit := h.1.app hx.2
  have zc : ∀ n, (Builtin.zeroCells (Value.int .i64 0).cells n).size = n := fun n => by simp [Builtin.zeroCells, Value.cells]
  have grow : ∀ (cur : Array Value) (cap : Nat), cur.size = cap → cap ≤ maxLen → l.length + m.length ≤ cap → (∀ i, i < l.length → cur[i]? = some (.int .i64 (ix l i))) → (∀ i, i < m.length → cur[l.length + i]? = some (.int .i64 (ix m i))) →
      QRow base (w.drew.alloc (.cells cur 3)) (.slice (some ⟨w.heap.size, 0, none⟩) (l.length + m.length) cap) (l ++ m) ∧ ∀ row, w.grownBy (w.drew.alloc (.cells cur 3)) row := by
    intro cur cap h1 h2 h3 h4 h5
    refine ⟨⟨hfit, .inr ⟨w.heap.size, 0, cap, cur, by simp, hbase, heap_alloc_new w.drew _, by simpa using h3, h2, by omega, fun j hj => ?_⟩⟩, fun row => ⟨rfl, rfl, rfl, by simp, fun k hk _ => Below.heap_alloc w.drew _ _ hk⟩⟩
    simp only [List.length_append] at hj
    rw [ix_app, Nat.zero_add]
    split
    · rename_i hlt; exact h4 j hlt
    · have := h5 (j - l.length) (by omega)
      rw [show l.length + (j - l.length) = j by omega] at this
      exact this
  have growAt : ∀ (b0 : Option Addr) (cap : Nat) (olds : List Value), (Builtin.firstCells i.size l.length (.slice b0 l.length cap)).run Try.prog w.drew = .ok olds.toArray w.drew → olds = (List.range l.length).map (fun i => Value.int .i64 (ix l i)) → cap < l.length + m.length →
      ∃ v' w', (Builtin.append_ #[23, 23] ty #[.slice b0 l.length cap, x]).run Try.prog w = .ok v' w' ∧ QRow base w' v' (l ++ m) ∧ (∀ row, w.grownBy w' row) ∧ v'.ownBlock = some w.heap.size := by
    intro b0 cap olds hold holds hlt
    have hr := run_append_grow_src (P := Try.prog) w 23 23 ty 3 i _ hT hi hz b0 l.length cap olds hold x m.length _ hsrc' hlt (by omega) (growslice_fits hlt (by rw [hby]; omega))
    have hge := grownCap_ge w (l.length + m.length) cap 3
    have hlo : olds.length = l.length := by rw [holds]; simp
    obtain ⟨q1, q2⟩ := grow ((olds ++ m.map (Value.int .i64)).toArray ++ Builtin.zeroCells (Value.int .i64 0).cells (grownCap w (l.length + m.length) cap 3 - (l.length + m.length))) (grownCap w (l.length + m.length) cap 3)
      (by simp only [Array.size_append, List.size_toArray, List.length_append, List.length_map, hlo, zc]; omega) (grownCap_le_maxLen w (l.length + m.length) cap 3 (by unfold maxLen; omega)) hge
      (fun j hj => by
        rw [Array.getElem?_append_left (by simp; omega), List.getElem?_toArray, List.getElem?_append_left (by omega), holds]
        simp [hj])
      (fun j hj => by
        rw [Array.getElem?_append_left (by simp; omega), List.getElem?_toArray, List.getElem?_append_right (by omega), hlo, Nat.add_sub_cancel_left]
        exact map_ix m j hj)
    exact ⟨_, _, hr, q1, q2, rfl⟩
  rcases h.2 with ⟨rfl, rfl⟩ | ⟨g, off, cap, cur, rfl, hbg, hg, hnc, hcm, hcs, hcell⟩
  · cases m with
    | nil =>
      refine ⟨.slice none 0 0, w, ?_, QRow.nil _ _, ⟨rfl, rfl, rfl, Nat.le_refl _, fun _ _ _ => rfl⟩, .inl rfl⟩
      have h0 : (Builtin.firstCells i.size 0 x).run Try.prog w = .ok #[] w := hsrc'.cells
      simp [Builtin.append_, run_underlying hT, sizeOf, typeInfo, hi, hsrc'.len, h0]
    | cons y m =>
      obtain ⟨v', w', h1, h2, h3, h4⟩ := growAt none 0 [] (by exact run_firstCells_none (P := Try.prog) w.drew i.size 0 0 0) rfl (by simp)
      exact ⟨v', w', h1, h2, h3 _, .inr h4⟩
  · by_cases hroom : l.length + m.length ≤ cap
    · have hst := run_storeCells_at Try.prog g (off + l.length) 3 (m.map (Value.int .i64)) 0 cur w hg (by simp only [List.length_map]; omega) (by simp [Value.oneCell'])
      simp only [Nat.add_zero, List.length_map] at hst
      refine ⟨.slice (some ⟨g, off, none⟩) (l.length + m.length) cap, w.setRow g (cur.toList.take (off + l.length) ++ m.map (Value.int .i64) ++ cur.toList.drop (off + l.length + m.length)).toArray, ?_, ⟨hfit, .inr ⟨g, off, cap, (cur.toList.take (off + l.length) ++ m.map (Value.int .i64) ++ cur.toList.drop (off + l.length + m.length)).toArray, by simp, hbg, setRow_heap w g cur _ 3 _ hg, by simpa using hroom, hcm, ?_, fun j hj => ?_⟩⟩, ⟨rfl, rfl, rfl, by simp, fun k _ hk => setRow_other w g k _ (fun e => hk (by simp [Value.ownBlock, e]))⟩, .inl rfl⟩
      · have hadd : (⟨g, off, none⟩ : Addr).add (l.length * i.size) = ⟨g, off + l.length, none⟩ := by rw [hs]; unfold Addr.add; split <;> simp_all
        simp [Builtin.append_, run_underlying hT, sizeOf, typeInfo, hi, hsrc'.len, hroom, hsrc'.cells, hadd, hst]
      · simp only [List.size_toArray, List.length_append, List.length_take, List.length_drop, Array.length_toList, List.length_map]
        omega
      · simp only [List.length_append] at hj
        rw [ix_app]
        split
        · rename_i hlt
          rw [← hcell j hlt]
          simp only [List.getElem?_toArray, List.append_assoc]
          rw [List.getElem?_append_left (by simp; omega), List.getElem?_take_of_lt (by omega)]
          simp
        · simp only [List.getElem?_toArray, List.append_assoc]
          rw [List.getElem?_append_right (by simp; omega)]
          have : min (off + l.length) cur.size = off + l.length := by omega
          simp only [List.length_take, Array.length_toList, this]
          rw [List.getElem?_append_left (by simp; omega), show off + j - (off + l.length) = j - l.length by omega]
          exact map_ix m _ (by omega)
    · have holds : ∀ j u, ((List.range l.length).map (fun i => Value.int .i64 (ix l i)))[j]? = some u → w.drew.cell? ((⟨g, off, none⟩ : Addr).add j) = some u := by
        intro j u hu
        have hadd : (⟨g, off, none⟩ : Addr).add j = ⟨g, off + j, none⟩ := by unfold Addr.add; split <;> simp_all
        have hj : j < l.length := by
          have := (List.getElem?_eq_some_iff.1 hu).1; simpa using this
        rw [hadd]
        show w.cell? _ = _
        rw [cell_of_row w g (off + j) cur 3 (0, 0) hg, hcell j hj]
        simpa [hj] using hu
      obtain ⟨v', w', h1, h2, h3, h4⟩ := growAt (some ⟨g, off, none⟩) cap _ (run_firstCells_some (P := Try.prog) w.drew i.size l.length ⟨g, off, none⟩ l.length cap _ (by rw [hs]; simp) holds) rfl (by omega)
      exact ⟨v', w', h1, h2, h3 _, .inr h4⟩

theorem wpList_appendQs {ops : Array Oper} {rest : List Oper} {o : Oper} {a : Act} {w : World} {Q : Exit → Act → World → Prop} (hgd : o.guard = none) (s x : Operand)
    (ho : o.op = .call { callee := .builtin .append, args := #[s, x], argTypes := #[23, 23] }) (base : Nat) (v y : Value) (l m : List Int) (hs : a.eval s = v) (hx : a.eval x = y) (h : QRow base w v l) (hy : Ints w y m)
    (hlen : (l.length + m.length) * 8 ≤ 140737488351232) (hbase : base ≤ w.heap.size)
    (hK : ∀ v' w', QRow base w' v' (l ++ m) → w.grownBy w' v.ownBlock → (v'.ownBlock = v.ownBlock ∨ v'.ownBlock = some w.heap.size) → wpList Try.prog ops Q rest (a.put o.dst v') w') : wpList Try.prog ops Q (o :: rest) a w :=
  wpList_plain hgd fun _ hK' => by
    obtain ⟨v', w', hr, h2, h3, h4⟩ := run_appendQs base 23 o.type Try.underlying23 rfl w v l h y m hy hlen hbase
    unfold Oper.wp execOp
    simp only [ho, resolve, invoke, builtin, Sem.run_bind, Sem.run_pure, Result.andThen_ok, List.map_toArray, List.map_cons, List.map_nil, hs, hx, hr]
    exact hK' _ _ (hK v' w' h2 h3 h4)

/-- An empty slice that a literal has made. -/
theorem QRow.empty {base b : Nat} {w : World} (h : w.heap[b]? = some (.cells #[] 3 (0, 0))) (hb : base ≤ b) : QRow base w (.slice (some ⟨b, 0, none⟩) 0 0) [] :=
  ⟨fun i => by simp [ix], .inr ⟨b, 0, 0, #[], rfl, hb, h, by simp, by unfold maxLen; omega, by simp, fun i hi => by simp at hi⟩⟩

end Go.Proofs.Ytkjpnpkmnpofgaa

/- The references: ostlerref24.Value, ostlerref26.In, ostlerref33. -/
namespace Go.Proofs.Ytkjpnpkmnpofgaa
open Go.RowKit

set_option maxHeartbeats 1000000 in
theorem value_off (va : Value) (a : List Int) (w : World) (h : Bytes8 w va a) (l : Int) (hl0 : l ≠ 0) (hl : -4611686018427387904 ≤ l ∧ l ≤ 4611686018427387904) (ho : offB a l = true) :
    Calls Try.prog 44 #[va, .int .i64 l] w fun e w' => e = .returned (.int .i64 (-1)) ∧ w = w' := by
  obtain ⟨⟨ad, cap, rfl, hcap, hmx, -, hc⟩, hb8⟩ := h
  have e8 : a.length < 9223372036854775808 := by unfold maxLen at hmx; omega
  obtain ⟨n, hn1, hln⟩ : ∃ n : Nat, 1 ≤ n ∧ (l = n ∨ l = -(n : Int)) := ⟨l.natAbs, by omega, by omega⟩
  have hneg : - -(n : Int) = n := by omega
  have h1 : n ≤ a.length := by
    unfold offB at ho
    simp only [Bool.and_eq_true, decide_eq_true_eq] at ho
    omega
  obtain ⟨b0, off0, rfl, hbl, hcc⟩ := hc (by omega)
  have hk : w.cell? ⟨b0, off0 + (n - 1), none⟩ = some (.int .i8 (ix a (n - 1))) := hcc (n - 1) (by omega)
  have hb := hb8 (n - 1)
  have HP := offB_pos a n hn1
  have HN := offB_neg a n
  clear hcc hc hb8
  generalize ix a (n - 1) = y at *
  rcases hln with rfl | rfl
  · rw [HP] at ho
    simp only [Bool.and_eq_true, decide_eq_true_eq] at ho
    have hy : y < 0 := by omega
    have hy0 : (y == 0) = false := by simp; omega
    clear HP HN ho
    go_enter Try.func44, Try.ntmps44
    go_wp2
    go_ret
    exact ⟨rfl, rfl⟩
  · rw [HN] at ho
    simp only [Bool.and_eq_true, decide_eq_true_eq] at ho
    have hy : 0 < y := by omega
    have hy0 : (y == 0) = false := by simp; omega
    clear HP HN ho
    go_enter Try.func44, Try.ntmps44
    go_wp2
    go_ret
    exact ⟨rfl, rfl⟩

set_option maxHeartbeats 1000000 in
theorem value_on (va : Value) (a : List Int) (w : World) (h : Bytes8 w va a) (l : Int) (hl0 : l ≠ 0) (hl : -4611686018427387904 ≤ l ∧ l ≤ 4611686018427387904) (ho : offB a l = false) :
    Calls Try.prog 44 #[va, .int .i64 l] w fun e w' => ∃ v : Nat, v ≤ 1 ∧ e = .returned (.int .i64 v) ∧ w = w' := by
  obtain ⟨⟨ad, cap, rfl, hcap, hmx, -, hc⟩, hb8⟩ := h
  have e8 : a.length < 9223372036854775808 := by unfold maxLen at hmx; omega
  obtain ⟨n, hn1, hln⟩ : ∃ n : Nat, 1 ≤ n ∧ (l = n ∨ l = -(n : Int)) := ⟨l.natAbs, by omega, by omega⟩
  have hneg : - -(n : Int) = n := by omega
  by_cases h1 : n ≤ a.length
  · obtain ⟨b0, off0, rfl, hbl, hcc⟩ := hc (by omega)
    have hk : w.cell? ⟨b0, off0 + (n - 1), none⟩ = some (.int .i8 (ix a (n - 1))) := hcc (n - 1) (by omega)
    have hb := hb8 (n - 1)
    have HP := offB_pos a n hn1
    have HN := offB_neg a n
    clear hcc hc hb8
    generalize ix a (n - 1) = y at *
    by_cases y0 : y = 0
    · subst y0
      clear HP HN ho
      rcases hln with rfl | rfl
      · go_enter Try.func44, Try.ntmps44
        go_wp2
        go_ret
        exact ⟨0, Nat.zero_le _, rfl, rfl⟩
      · go_enter Try.func44, Try.ntmps44
        go_wp2
        go_ret
        exact ⟨0, Nat.zero_le _, rfl, rfl⟩
    · have hy0 : (y == 0) = false := by simp; omega
      rcases hln with rfl | rfl
      · rw [HP] at ho
        have hy : 0 < y := by
          refine Classical.byContradiction fun hn => ?_
          rw [decide_eq_true h1, decide_eq_true y0, decide_eq_true hn] at ho
          cases ho
        clear HP HN ho y0
        go_enter Try.func44, Try.ntmps44
        go_wp2
        go_ret
        exact ⟨1, Nat.le_refl _, rfl, rfl⟩
      · rw [HN] at ho
        have hy : y < 0 := by
          refine Classical.byContradiction fun hn => ?_
          have hy : 0 < y := by omega
          rw [decide_eq_true h1, decide_eq_true y0, decide_eq_true hy] at ho
          cases ho
        clear HP HN ho y0
        go_enter Try.func44, Try.ntmps44
        go_wp2
        go_ret
        exact ⟨1, Nat.le_refl _, rfl, rfl⟩
  · clear ho
    rcases hln with rfl | rfl
    · go_enter Try.func44, Try.ntmps44
      go_wp2
      go_ret
      exact ⟨0, Nat.zero_le _, rfl, rfl⟩
    · go_enter Try.func44, Try.ntmps44
      go_wp2
      go_ret
      exact ⟨0, Nat.zero_le _, rfl, rfl⟩

set_option maxHeartbeats 1000000 in
theorem in_any (v : Value) (l : List Int) (w : World) (h : Ints w v l) (x : Int) :
    Calls Try.prog 19 #[v, .int .i64 x] w fun e w' => e = .returned (.bool (decide (x ∈ l))) ∧ w = w' := by
  obtain ⟨a, c, rfl, -, hl, -, hcell⟩ := h.form
  have HF := Lib.hid h.2
  clear h
  go_enter Try.func19, Try.ntmps19
  go_wp2
  go_loop [5] (fun i => ∃ k : Nat, k ≤ l.length ∧ i = .int .i64 k ∧ Hid (∀ j, j < k → ix l j ≠ x)) (fun i => l.length - (intOf i).toNat)
  case atStart => exact ⟨0, by omega, rfl, Lib.hid fun j hj => absurd hj (Nat.not_lt_zero _)⟩
  case round =>
    obtain ⟨k, hk, rfl, HA⟩ := hrel
    by_cases hlt : k < l.length
    · obtain ⟨b, off, rfl, hbl, hc⟩ := hcell (by omega)
      have hk1 := hc k hlt
      clear hc hcell
      by_cases he : ix l k = x
      · have HM : Hid (decide (x ∈ l) = true) := Lib.hid (decide_eq_true (he ▸ ix_mem hlt))
        have he' : (ix l k == x) = true := by simp [he]
        clear he
        go_wp2
        go_ret
        exact ⟨ret_bool HM.out.symm, rfl⟩
      · have HN := Lib.hid (lt_succ_all HA.out he)
        have he' : (ix l k == x) = false := by simp [he]
        clear he
        go_wp2
        first
          | (go_round
             case rel => (exact ⟨k + 1, by omega, by go_num, HN⟩)
             case measure => (simp [intOf]; omega))
          | (refine ⟨?_, ?_⟩
             · (exact ⟨k + 1, by omega, by go_num, HN⟩)
             · (simp [intOf]; omega))
    · have HM : Hid (decide (x ∈ l) = false) := Lib.hid (decide_eq_false (fun hm => by
        obtain ⟨j, hj, e⟩ := ix_of_mem hm
        exact HA.out j (by omega) e.symm))
      go_wp2
      go_ret
      exact ⟨ret_bool HM.out.symm, rfl⟩

end Go.Proofs.Ytkjpnpkmnpofgaa

/- ostlerref33.Available. -/
namespace Go.Proofs.Ytkjpnpkmnpofgaa
open Go.RowKit

def setB (f : List Int) (x : Int) : Int := if x ∈ f then 1 else 0
theorem setB_pos (f : List Int) (x : Int) : 0 < setB f x ↔ x ∈ f := by unfold setB; split <;> simp_all

def RefRel (n : Nat) (S : Nat → Int) (sm : Bool) (hb : Nat → Bool) (s i : Value) : Prop :=
  ∃ k : Nat, k ≤ n ∧ i = .int .i64 k ∧ s = .int .i64 (S k) ∧ Hid (sm = false → ∀ j, j < k → hb j = true)

set_option maxHeartbeats 4000000 in
set_option maxRecDepth 100000 in
theorem refAvail_any (v va vf : Value) (p : GP) (a f : List Int) (w : World) (h : ProgIs w v p) (hv : validE p = 0) (i : Nat) (hi : i < p.rules.length) (ha : Bytes8 w va a) (hf : Ints w vf f) :
    Calls Try.prog 20 #[v, .int .i64 i, va, vf] w fun e w' => e = .returned (.bool (avS p a (setB f) i)) ∧ Below w.heap.size w w' := by
  obtain ⟨vn, vs, vr, vm, rfl, hn, hnames, hshown, hrules, hmin⟩ := h
  have VP := validP hv
  have hpn := VP.n
  have hpr := VP.rules
  obtain ⟨a1, c1, rfl, -, hl1, -, hcell⟩ := hrules.form
  obtain ⟨a9, n9, c9, rfl⟩ : ∃ a9 n9 c9, va = .slice a9 n9 c9 := by obtain ⟨⟨x, y, e, -⟩, -⟩ := ha; exact ⟨_, _, _, e⟩
  obtain ⟨af, cf, rfl, -, -, -, -⟩ := hf.form
  have hii := hi
  obtain ⟨b, off, rfl, hbl, hc⟩ := hcell (by omega)
  obtain ⟨vh, vb, vw, ⟨r0, r1, r2, r3, r4, r5⟩, hsl⟩ := hc i hi
  have hlit := fun j (hj : j < (ixR p.rules i).body.length) => allR_get (VP.body i hi) j hj
  have hsum := VP.sum i hi
  have hbd := VP.bound i hi
  have hbi := hsl.bound
  have HAV : Hid (avS p a (setB f) i = (!offB a (p.n + 1 + i) && (if (ixR p.rules i).sum then decide ((ixR p.rules i).bound ≤ avSum (ixR p.rules i) a (setB f) (fun _ => 0) 1 (ixR p.rules i).body.length) else allR (ixR p.rules i).body.length (fun k => holdsB a (setB f) (fun _ => 0) 1 (ix (ixR p.rules i).body k))))) := Lib.hid (by
    unfold avS avB; rfl)
  generalize ixR p.rules i = r at *
  unfold InI at hbi
  obtain ⟨a3, c3, rfl, -, hl3, -, -⟩ := hsl.head.form
  obtain ⟨a4, c4, rfl, -, hl4, -, hcb⟩ := hsl.body.form
  obtain ⟨a5, c5, rfl, -, hl5, -, hcw⟩ := hsl.wts.form
  have hbw : ∀ k, k ≤ r.body.length → r.sum = true → 0 ≤ avSum r a (setB f) (fun _ => 0) 1 k ∧ avSum r a (setB f) (fun _ => 0) 1 k ≤ 1048576 := fun k hk hs => by
    have h3 := weights_sum (hsum hs)
    have h4 := avSum_le (r := r) (a := a) (F := setB f) (K := fun _ => 0) (before := 1) h3.2.1 k (by omega)
    have h5 := h3.2.2 k (by omega)
    omega
  have HWL : Hid (r.sum = true → r.w.length = r.body.length) := Lib.hid (fun hs => by have := weights_sum (hsum hs); omega)
  have HWR : Hid (∀ k, k < r.w.length → InI (ix r.w k)) := Lib.hid (fun k hk => hsl.wts.2 k)
  have hal : Below w.heap.size w ((w.alloc (.cells #[.int .i64 p.n, vn, vs, .slice (some ⟨b, off, none⟩) p.rules.length c1, vm] 27)).alloc (.cells #[.bool r.choice, .slice a3 r.head.length c3, .bool r.sum, .int .i64 r.bound, .slice a4 r.body.length c4, .slice a5 r.w.length c5] 44)) := bal (bal (Below.refl _ _) _) _
  have hbk : Blk ((w.alloc (.cells #[.int .i64 p.n, vn, vs, .slice (some ⟨b, off, none⟩) p.rules.length c1, vm] 27)).alloc (.cells #[.bool r.choice, .slice a3 r.head.length c3, .bool r.sum, .int .i64 r.bound, .slice a4 r.body.length c4, .slice a5 r.w.length c5] 44)) w.heap.size _ _ := (Blk.new w [.int .i64 p.n, vn, vs, .slice (some ⟨b, off, none⟩) p.rules.length c1, vm] _).alloc _
  have hbr := Blk.new2 w (.cells #[.int .i64 p.n, vn, vs, .slice (some ⟨b, off, none⟩) p.rules.length c1, vm] 27) [.bool r.choice, .slice a3 r.head.length c3, .bool r.sum, .int .i64 r.bound, .slice a4 r.body.length c4, .slice a5 r.w.length c5] 44
  have HA := Lib.hid (ha.below hal)
  have HFL := Lib.hid (hf.below hal)
  obtain ⟨hb, hbE⟩ : ∃ hb : Nat → Bool, ∀ k, hb k = holdsB a (setB f) (fun _ => 0) 1 (ix r.body k) := ⟨_, fun _ => rfl⟩
  have HBE := Lib.hid hbE
  obtain ⟨S, HS0, HRS, HSS, HSF⟩ : ∃ S : Nat → Int, Hid (S 0 = 0) ∧ Hid (∀ k, k ≤ r.body.length → 0 ≤ S k ∧ S k ≤ 1048576) ∧ Hid (∀ k, S (k + 1) = S k + if r.sum && hb k then ix r.w k else 0) ∧
      Hid (avS p a (setB f) i = (!offB a (p.n + 1 + i) && (if r.sum then decide (r.bound ≤ S r.body.length) else allR r.body.length hb))) := by
    refine ⟨fun k => if r.sum then avSum r a (setB f) (fun _ => 0) 1 k else 0, Lib.hid (by simp [avSum]), Lib.hid (fun k hk => ?_), Lib.hid (fun k => ?_), Lib.hid ?_⟩
    · cases hs : r.sum with
      | true => simpa using hbw k hk hs
      | false => simp
    · cases hs : r.sum with
      | true => simp [avSum, hbE]
      | false => simp
    · rw [HAV.out, show hb = (fun k => holdsB a (setB f) (fun _ => 0) 1 (ix r.body k)) from funext hbE]
      cases hs : r.sum <;> simp
  clear hrules hcell hnames hshown hmin ha hf hc hsl hbw hsum hv hn VP HAV hbE
  go_enter Try.func20, Try.ntmps20
  go_upto_region 2 with fail
  generalize (w.alloc (.cells #[.int .i64 p.n, vn, vs, .slice (some ⟨b, off, none⟩) p.rules.length c1, vm] 27)).alloc (.cells #[.bool r.choice, .slice a3 r.head.length c3, .bool r.sum, .int .i64 r.bound, .slice a4 r.body.length c4, .slice a5 r.w.length c5] 44) = W at hal hbk hbr HA HFL ⊢
  have kx := hbk.cell
  have ky := hbr.cell
  clear r0 r1 r2 r3 r4 r5 hbk hbr
  cases g0 : offB a (p.n + 1 + i) with
  | true =>
    have HF : Hid (avS p a (setB f) i = false) := Lib.hid (by rw [HSF.out, g0]; rfl)
    go_wp2_with (go_at_call 44; (with_reducible refine (value_off _ a W HA.out (p.n + 1 + i) (by omega) (by omega) g0).mono ?_); rintro e w3 ⟨rfl, rfl⟩)
    go_ret
    exact ⟨ret_bool HF.out.symm, hal⟩
  | false =>
    go_upto_region 6 with (go_at_call 44; (with_reducible refine (value_on _ a W HA.out (p.n + 1 + i) (by omega) (by omega) g0).mono ?_); rintro e w3 ⟨vv, hvv, rfl, rfl⟩; have hvv1 : ((vv : Int) == -1) = false := beq_eq_false_iff_ne.2 (by omega))
    clear hvv1
    go_loop [10, 11] (fun s i => RefRel r.body.length S r.sum hb s i) (fun _ i => r.body.length - (intOf i).toNat)
    case atStart => exact ⟨0, by omega, rfl, by rw [HS0.out], Lib.hid fun _ j hj => absurd hj (Nat.not_lt_zero _)⟩
    case round =>
      obtain ⟨k, hk, rfl, rfl, HALL⟩ := hrel
      have hs0 := HRS.out k hk
      by_cases hlt : k < r.body.length
      · obtain ⟨b4, off4, rfl, hbl4, hc4⟩ := hcb (by omega)
        have hk1 := (bcell hal _ _ hbl4).trans (hc4 k hlt)
        have hL := hlit k hlt
        simp only [okAt, litB, Bool.and_eq_true, decide_eq_true_eq] at hL
        have hl0 := hL.1.1
        have hlb : -4000 ≤ ix r.body k ∧ ix r.body k ≤ 4000 := by omega
        have hs1 := HRS.out (k + 1) (by omega)
        have HBK := Lib.hid (HBE.out k)
        have HSK := Lib.hid (HSS.out k)
        have HFALSE : Hid (r.sum = false → hb k = false → avS p a (setB f) i = false) := Lib.hid (fun h1 h2 => by rw [HSF.out, g0, h1, allR_false k hlt h2]; rfl)
        clear hL hc4 hcb hlit
        generalize ix r.body k = l at *
        cases gs : r.sum with
        | true =>
          have hltw : k < r.w.length := by have := HWL.out gs; omega
          obtain ⟨b5, off5, rfl, hbl5, hc5⟩ := hcw (by omega)
          have hk2 := (bcell hal _ _ hbl5).trans (hc5 k hltw)
          have hwr := HWR.out k hltw
          unfold InI at hwr
          rw [gs] at ky HSK HALL
          clear hc5 hcw
          have HN : Hid (true = false → ∀ j, j < k + 1 → hb j = true) := Lib.hid (fun h => by cases h)
          cases g1 : offB a l with
          | true =>
            have HS2 : Hid (S (k + 1) = S k) := Lib.hid (by rw [HSK.out, HBK.out, holds_set, g1]; simp)
            go_wp2_with (go_at_call 44; (with_reducible refine (value_off _ a W HA.out l hl0 (by omega) g1).mono ?_); rintro e w3 ⟨rfl, rfl⟩)
            first
              | (go_round
                 case rel => (exact ⟨k + 1, by omega, by go_num, by rw [HS2.out], HN⟩)
                 case measure => (simp [intOf]; omega))
              | (refine ⟨?_, ?_⟩
                 · (exact ⟨k + 1, by omega, by go_num, by rw [HS2.out], HN⟩)
                 · (simp [intOf]; omega))
          | false =>
            by_cases g2 : l < 0
            · have HS2 : Hid (S (k + 1) = S k + ix r.w k) := Lib.hid (by rw [HSK.out, HBK.out, holds_set, g1]; simp [g2])
              have hs3 := hs1
              rw [HS2.out] at hs3
              go_wp2_with (go_at_call 44; (with_reducible refine (value_on _ a W HA.out l hl0 (by omega) g1).mono ?_); rintro e w3 ⟨vv, hvv, rfl, rfl⟩)
              first
                | (go_round
                   case rel => (exact ⟨k + 1, by omega, by go_num, by rw [HS2.out], HN⟩)
                   case measure => (simp [intOf]; omega))
                | (refine ⟨?_, ?_⟩
                   · (exact ⟨k + 1, by omega, by go_num, by rw [HS2.out], HN⟩)
                   · (simp [intOf]; omega))
            · have hd1 : decide (l < 0) = false := decide_eq_false g2
              cases g3 : decide (l ∈ f) with
              | true =>
                have HS2 : Hid (S (k + 1) = S k + ix r.w k) := Lib.hid (by rw [HSK.out, HBK.out, holds_set, g1, decide_eq_true ((setB_pos f l).2 (of_decide_eq_true g3))]; simp)
                have hs3 := hs1
                rw [HS2.out] at hs3
                go_wp2_with (first | (go_at_call 44; (with_reducible refine (value_on _ a W HA.out l hl0 (by omega) g1).mono ?_); rintro e w3 ⟨vv, hvv, rfl, rfl⟩) | (go_at_call 19; (with_reducible refine (in_any _ f W HFL.out l).mono ?_); rintro e w4 ⟨h4, rfl⟩; rw [g3] at h4; subst h4))
                first
                  | (go_round
                     case rel => (exact ⟨k + 1, by omega, by go_num, by rw [HS2.out], HN⟩)
                     case measure => (simp [intOf]; omega))
                  | (refine ⟨?_, ?_⟩
                     · (exact ⟨k + 1, by omega, by go_num, by rw [HS2.out], HN⟩)
                     · (simp [intOf]; omega))
              | false =>
                have HS2 : Hid (S (k + 1) = S k) := Lib.hid (by rw [HSK.out, HBK.out, holds_set, g1, decide_eq_false g2, decide_eq_false (fun h => of_decide_eq_false g3 ((setB_pos f l).1 h))]; simp)
                go_wp2_with (first | (go_at_call 44; (with_reducible refine (value_on _ a W HA.out l hl0 (by omega) g1).mono ?_); rintro e w3 ⟨vv, hvv, rfl, rfl⟩) | (go_at_call 19; (with_reducible refine (in_any _ f W HFL.out l).mono ?_); rintro e w4 ⟨h4, rfl⟩; rw [g3] at h4; subst h4))
                first
                  | (go_round
                     case rel => (exact ⟨k + 1, by omega, by go_num, by rw [HS2.out], HN⟩)
                     case measure => (simp [intOf]; omega))
                  | (refine ⟨?_, ?_⟩
                     · (exact ⟨k + 1, by omega, by go_num, by rw [HS2.out], HN⟩)
                     · (simp [intOf]; omega))
        | false =>
          rw [gs] at ky HSK HALL HFALSE
          clear hcw
          have HS2 : Hid (S (k + 1) = S k) := Lib.hid (by rw [HSK.out]; simp)
          cases g1 : offB a l with
          | true =>
            have HF := Lib.hid (HFALSE.out rfl (by rw [HBK.out, holds_set, g1]; rfl))
            go_wp2_with (go_at_call 44; (with_reducible refine (value_off _ a W HA.out l hl0 (by omega) g1).mono ?_); rintro e w3 ⟨rfl, rfl⟩)
            go_ret
            exact ⟨ret_bool HF.out.symm, hal⟩
          | false =>
            by_cases g2 : l < 0
            · have HN : Hid (false = false → ∀ j, j < k + 1 → hb j = true) := Lib.hid (fun h => lt_succ_all (HALL.out h) (by rw [HBK.out, holds_set, g1, decide_eq_true g2]; rfl))
              go_wp2_with (go_at_call 44; (with_reducible refine (value_on _ a W HA.out l hl0 (by omega) g1).mono ?_); rintro e w3 ⟨vv, hvv, rfl, rfl⟩)
              first
                | (go_round
                   case rel => (exact ⟨k + 1, by omega, by go_num, by rw [HS2.out], (by first | exact HN | exact Lib.hid (fun _ => HN.out trivial))⟩)
                   case measure => (simp [intOf]; omega))
                | (refine ⟨?_, ?_⟩
                   · (exact ⟨k + 1, by omega, by go_num, by rw [HS2.out], (by first | exact HN | exact Lib.hid (fun _ => HN.out trivial))⟩)
                   · (simp [intOf]; omega))
            · have hd1 : decide (l < 0) = false := decide_eq_false g2
              cases g3 : decide (l ∈ f) with
              | true =>
                have HN : Hid (false = false → ∀ j, j < k + 1 → hb j = true) := Lib.hid (fun h => lt_succ_all (HALL.out h) (by rw [HBK.out, holds_set, g1, decide_eq_true ((setB_pos f l).2 (of_decide_eq_true g3))]; simp))
                go_wp2_with (first | (go_at_call 44; (with_reducible refine (value_on _ a W HA.out l hl0 (by omega) g1).mono ?_); rintro e w3 ⟨vv, hvv, rfl, rfl⟩) | (go_at_call 19; (with_reducible refine (in_any _ f W HFL.out l).mono ?_); rintro e w4 ⟨h4, rfl⟩; rw [g3] at h4; subst h4))
                first
                  | (go_round
                     case rel => (exact ⟨k + 1, by omega, by go_num, by rw [HS2.out], (by first | exact HN | exact Lib.hid (fun _ => HN.out trivial))⟩)
                     case measure => (simp [intOf]; omega))
                  | (refine ⟨?_, ?_⟩
                     · (exact ⟨k + 1, by omega, by go_num, by rw [HS2.out], (by first | exact HN | exact Lib.hid (fun _ => HN.out trivial))⟩)
                     · (simp [intOf]; omega))
              | false =>
                have HF := Lib.hid (HFALSE.out rfl (by rw [HBK.out, holds_set, g1, decide_eq_false g2, decide_eq_false (fun h => of_decide_eq_false g3 ((setB_pos f l).1 h))]; rfl))
                go_wp2_with (first | (go_at_call 44; (with_reducible refine (value_on _ a W HA.out l hl0 (by omega) g1).mono ?_); rintro e w3 ⟨vv, hvv, rfl, rfl⟩) | (go_at_call 19; (with_reducible refine (in_any _ f W HFL.out l).mono ?_); rintro e w4 ⟨h4, rfl⟩; rw [g3] at h4; subst h4))
                go_ret
                exact ⟨ret_bool HF.out.symm, hal⟩
      · obtain rfl : k = r.body.length := by omega
        clear hcb hcw hlit
        cases gs : r.sum with
        | true =>
          have HF : Hid (avS p a (setB f) i = decide (r.bound ≤ S r.body.length)) := Lib.hid (by rw [HSF.out, g0, gs]; rfl)
          rw [gs] at ky
          go_wp2
          go_ret
          exact ⟨ret_bool HF.out.symm, hal⟩
        | false =>
          have HF : Hid (avS p a (setB f) i = true) := Lib.hid (by rw [HSF.out, g0, gs]; simp; exact allR_true (HALL.out gs))
          rw [gs] at ky
          go_wp2
          go_ret
          exact ⟨ret_bool HF.out.symm, hal⟩

end Go.Proofs.Ytkjpnpkmnpofgaa

/- ostlerref33.next. -/
namespace Go.Proofs.Ytkjpnpkmnpofgaa
open Go.RowKit

def NoneAt (p : GP) (a f : List Int) (x : Int) : Prop := x ∉ f → offB a x = false → ∀ i, InHead p i x → avS p a (setB f) i = false

def NextPost (p : GP) (a f : List Int) (r : Int) : Prop :=
  (r = 0 ∧ ∀ x, 1 ≤ x → x ≤ p.n → NoneAt p a f x) ∨ (1 ≤ r ∧ r ≤ p.n ∧ r ∉ f ∧ offB a r = false ∧ ∃ i, InHead p i r ∧ avS p a (setB f) i = true)

def NextRel (p : GP) (a f : List Int) (W : World) (i : Value) (wx : World) : Prop :=
  ∃ x : Int, 1 ≤ x ∧ x ≤ p.n + 1 ∧ i = .int .i64 x ∧ (∀ y, 1 ≤ y → y < x → NoneAt p a f y) ∧ Below W.heap.size W wx

def NextRel2 (p : GP) (a f : List Int) (x : Int) (W : World) (i : Value) (wx : World) : Prop :=
  ∃ k : Nat, k ≤ p.rules.length ∧ i = .int .i64 k ∧ (∀ j : Int, 0 ≤ j → j < (k : Int) → InHead p j x → avS p a (setB f) j = false) ∧ Below W.heap.size W wx

set_option maxHeartbeats 4000000 in
set_option maxRecDepth 100000 in
theorem next_any (v va vf : Value) (p : GP) (a f : List Int) (w : World) (h : ProgIs w v p) (hv : validE p = 0) (ha : Bytes8 w va a) (hf : Ints w vf f) :
    Calls Try.prog 45 #[v, va, vf] w fun e w' => ∃ r, e = .returned (.int .i64 r) ∧ NextPost p a f r ∧ Below w.heap.size w w' := by
  have h0 := h
  obtain ⟨vn, vs, vr, vm, rfl, hn, hnames, hshown, hrules, hmin⟩ := h
  have VP := validP hv
  have hpn := VP.n
  have hpr := VP.rules
  obtain ⟨a1, c1, rfl, -, hl1, -, hcell⟩ := hrules.form
  obtain ⟨a9, n9, c9, rfl⟩ : ∃ a9 n9 c9, va = .slice a9 n9 c9 := by obtain ⟨⟨x, y, e, -⟩, -⟩ := ha; exact ⟨_, _, _, e⟩
  obtain ⟨af, cf, rfl, -, -, -, -⟩ := hf.form
  have hal := bal (Below.refl w.heap.size w) (.cells #[.int .i64 p.n, vn, vs, .slice a1 p.rules.length c1, vm] 27)
  have hbk : Blk (w.alloc (.cells #[.int .i64 p.n, vn, vs, .slice a1 p.rules.length c1, vm] 27)) w.heap.size _ _ := Blk.new w [.int .i64 p.n, vn, vs, .slice a1 p.rules.length c1, vm] _
  have HP := Lib.hid (h0.below hal)
  have HA := Lib.hid (ha.below hal)
  have HFL := Lib.hid (hf.below hal)
  have HV := Lib.hid hv
  have HC := Lib.hid hcell
  have HBK := Lib.hid hbk
  clear hrules hnames hshown hmin ha hf hv hn VP h0 hbk hcell
  go_enter Try.func45, Try.ntmps45
  go_wp2_with fail
  have hnW : w.heap.size < (w.alloc (.cells #[.int .i64 p.n, vn, vs, .slice a1 p.rules.length c1, vm] 27)).heap.size := by simp
  generalize w.alloc (.cells #[.int .i64 p.n, vn, vs, .slice a1 p.rules.length c1, vm] 27) = W at hal HBK HP HA HFL hnW ⊢
  go_loopw [7] (fun i wx => NextRel p a f W i wx) (fun i _ => (p.n + 1 - intOf i).toNat)
  case atStart => exact ⟨1, by omega, by omega, rfl, fun y h1 h2 => by omega, Below.refl _ _⟩
  case round =>
    obtain ⟨x, hx1, hx2, rfl, hall, hb⟩ := hrel
    have HALL := Lib.hid hall
    have HB := Lib.hid hb
    have hkx := fun o => (bcell hb _ o hnW).trans (HBK.out.cell o)
    clear hall hb
    by_cases hlt : x ≤ p.n
    · cases g1 : decide (x ∈ f) with
      | true =>
        have HN : Hid (∀ y, 1 ≤ y → y < x + 1 → NoneAt p a f y) := Lib.hid (fun y h1 h2 => by
          by_cases e : y = x
          · subst e; exact fun h => absurd (of_decide_eq_true g1) h
          · exact HALL.out y h1 (by omega))
        go_wp2_with (go_at_call 19; (with_reducible refine (in_any _ f _ (HFL.out.below HB.out) x).mono ?_); rintro e w4 ⟨h4, rfl⟩; rw [g1] at h4; subst h4)
        first
          | (go_roundw
             case rel => (exact ⟨x + 1, by omega, by omega, rfl, HN.out, HB.out⟩)
             case measure => (simp [intOf]; omega))
          | (refine ⟨?_, ?_⟩
             · (exact ⟨x + 1, by omega, by omega, rfl, HN.out, HB.out⟩)
             · (simp [intOf]; omega))
      | false =>
        cases g2 : offB a x with
        | true =>
          have HN : Hid (∀ y, 1 ≤ y → y < x + 1 → NoneAt p a f y) := Lib.hid (fun y h1 h2 => by
            by_cases e : y = x
            · subst e; exact fun _ h => by rw [g2] at h; cases h
            · exact HALL.out y h1 (by omega))
          go_wp2_with (first
            | (go_at_call 19; (with_reducible refine (in_any _ f _ (HFL.out.below HB.out) x).mono ?_); rintro e w4 ⟨h4, rfl⟩; rw [g1] at h4; subst h4)
            | (go_at_call 44; (with_reducible refine (value_off _ a _ (HA.out.below HB.out) x (by omega) (by omega) g2).mono ?_); rintro e w3 ⟨rfl, rfl⟩))
          first
            | (go_roundw
               case rel => (exact ⟨x + 1, by omega, by omega, rfl, HN.out, HB.out⟩)
               case measure => (simp [intOf]; omega))
            | (refine ⟨?_, ?_⟩
               · (exact ⟨x + 1, by omega, by omega, rfl, HN.out, HB.out⟩)
               · (simp [intOf]; omega))
        | false =>
          go_upto_region 6 with (first
            | (go_at_call 19; (with_reducible refine (in_any _ f _ (HFL.out.below HB.out) x).mono ?_); rintro e w4 ⟨h4, rfl⟩; rw [g1] at h4; subst h4)
            | (go_at_call 44; (with_reducible refine (value_on _ a _ (HA.out.below HB.out) x (by omega) (by omega) g2).mono ?_); rintro e w3 ⟨vv, hvv, rfl, rfl⟩; have hvv1 : ((vv : Int) == -1) = false := beq_eq_false_iff_ne.2 (by omega)))
          obtain ⟨wo, rfl⟩ : ∃ wo : World, wo = wr := ⟨_, rfl⟩
          clear hkx
          go_loopw [8] (fun i wx => NextRel2 p a f x W i wx) (fun i _ => p.rules.length - (intOf i).toNat)
          case atStart => exact ⟨0, Nat.zero_le _, rfl, fun j h1 h2 => by omega, HB.out⟩
          case round =>
            obtain ⟨k, hk, rfl, hall2, hb2⟩ := hrel
            have HALL2 := Lib.hid hall2
            have HB2 := Lib.hid hb2
            have hkx := fun o => (bcell hb2 _ o hnW).trans (HBK.out.cell o)
            clear hall2 hb2
            by_cases hlk : k < p.rules.length
            · obtain ⟨b, off, hab, hbl, hc⟩ := HC.out (by omega)
              subst hab
              obtain ⟨vh, vb, vw, ⟨-, r1, -⟩, hsl⟩ := hc k hlk
              obtain ⟨a3, c3, rfl, -, hl3, -, -⟩ := hsl.head.form
              have hbw := hal.trans (HB2.out.mono (by omega))
              have q1 := (bcell hbw _ _ hbl).trans r1
              have HH := Lib.hid (hsl.head.below hbw)
              have HIN : Hid (∀ j : Int, j = k → (InHead p j x ↔ x ∈ (ixR p.rules k).head)) := Lib.hid (fun j e => by
                subst e; unfold InHead; simp; omega)
              clear hc r1 hsl hbw
              cases g3 : decide (x ∈ (ixR p.rules k).head) with
              | true =>
                cases g4 : avS p a (setB f) k with
                | true =>
                  have HPOST : Hid (NextPost p a f x) := Lib.hid (.inr ⟨hx1, hlt, of_decide_eq_false g1, g2, k, (HIN.out k rfl).2 (of_decide_eq_true g3), g4⟩)
                  go_wp2_with (first
                    | (go_at_call 19; (with_reducible refine (in_any _ _ _ HH.out x).mono ?_); rintro e w4 ⟨h4, rfl⟩; rw [g3] at h4; subst h4)
                    | (go_at_call 20; (with_reducible refine (refAvail_any _ _ _ p a f _ (HP.out.below HB2.out) HV.out k hlk (HA.out.below HB2.out) (HFL.out.below HB2.out)).mono ?_); rintro e w5 ⟨h5, hb5⟩; rw [g4] at h5; subst h5; have HB5 := Lib.hid (bon HB2.out hb5); clear hb5))
                  go_ret
                  exact ⟨_, rfl, HPOST.out, hal.trans (HB5.out.mono (by omega))⟩
                | false =>
                  have HN : Hid (∀ j, 0 ≤ j → j < ((k + 1 : Nat) : Int) → InHead p j x → avS p a (setB f) j = false) := Lib.hid (fun j h1 h2 h3 => by
                    by_cases e : j = k
                    · subst e; exact g4
                    · exact HALL2.out j h1 (by push_cast at h2; omega) h3)
                  go_wp2_with (first
                    | (go_at_call 19; (with_reducible refine (in_any _ _ _ HH.out x).mono ?_); rintro e w4 ⟨h4, rfl⟩; rw [g3] at h4; subst h4)
                    | (go_at_call 20; (with_reducible refine (refAvail_any _ _ _ p a f _ (HP.out.below HB2.out) HV.out k hlk (HA.out.below HB2.out) (HFL.out.below HB2.out)).mono ?_); rintro e w5 ⟨h5, hb5⟩; rw [g4] at h5; subst h5; have HB5 := Lib.hid (bon HB2.out hb5); clear hb5))
                  first
                    | (go_roundw
                       case rel => (exact ⟨k + 1, by omega, by go_num, HN.out, HB5.out⟩)
                       case measure => (simp [intOf]; omega))
                    | (refine ⟨?_, ?_⟩
                       · (exact ⟨k + 1, by omega, by go_num, HN.out, HB5.out⟩)
                       · (simp [intOf]; omega))
              | false =>
                have HN : Hid (∀ j, 0 ≤ j → j < ((k + 1 : Nat) : Int) → InHead p j x → avS p a (setB f) j = false) := Lib.hid (fun j h1 h2 h3 => by
                  by_cases e : j = k
                  · exact absurd ((HIN.out j e).1 h3) (of_decide_eq_false g3)
                  · exact HALL2.out j h1 (by push_cast at h2; omega) h3)
                go_wp2_with (go_at_call 19; (with_reducible refine (in_any _ _ _ HH.out x).mono ?_); rintro e w4 ⟨h4, rfl⟩; rw [g3] at h4; subst h4)
                first
                  | (go_roundw
                     case rel => (exact ⟨k + 1, by omega, by go_num, HN.out, HB2.out⟩)
                     case measure => (simp [intOf]; omega))
                  | (refine ⟨?_, ?_⟩
                     · (exact ⟨k + 1, by omega, by go_num, HN.out, HB2.out⟩)
                     · (simp [intOf]; omega))
            · have HN : Hid (∀ y, 1 ≤ y → y < x + 1 → NoneAt p a f y) := Lib.hid (fun y h1 h2 => by
                by_cases e : y = x
                · subst e; exact fun _ _ i hi => HALL2.out i hi.1 (by have := hi.2.1; omega) hi
                · exact HALL.out y h1 (by omega))
              go_wp2_with fail
              first
                | (go_roundw
                   case rel => (exact ⟨x + 1, by omega, by omega, rfl, HN.out, HB2.out⟩)
                   case measure => (simp [intOf]; omega))
                | (refine ⟨?_, ?_⟩
                   · (exact ⟨x + 1, by omega, by omega, rfl, HN.out, HB2.out⟩)
                   · (simp [intOf]; omega))
    · have HPOST : Hid (NextPost p a f 0) := Lib.hid (.inl ⟨rfl, fun y h1 h2 => HALL.out y h1 (by omega)⟩)
      go_wp2_with fail
      go_ret
      exact ⟨_, rfl, HPOST.out, hal.trans (HB.out.mono (by omega))⟩

end Go.Proofs.Ytkjpnpkmnpofgaa

/- ostlerref33.Founded, ostlerref33.Find. -/
namespace Go.Proofs.Ytkjpnpkmnpofgaa
open Go.RowKit

/-- Atoms found so far. -/
structure FI (p : GP) (a f : List Int) : Prop where
  nodup : f.Nodup
  dom : ∀ x ∈ f, 1 ≤ x ∧ x ≤ p.n
  sound : ∀ T, Closed p a T → ∀ x ∈ f, 0 < T x

theorem FI.nil (p : GP) (a : List Int) : FI p a [] := ⟨List.nodup_nil, fun x hx => by simp at hx, fun T _ x hx => by simp at hx⟩

theorem FI.len {p : GP} {a f : List Int} (h : FI p a f) : f.length ≤ p.n.toNat := by
  have := count_keys (G := setB f) p.n.toNat f h.nodup (fun k => by
    rw [setB_pos]
    constructor
    · intro hk; have := h.dom k hk; exact ⟨this.1, by omega, hk⟩
    · exact fun hk => hk.2.2)
  have h2 := cntF_le (setB f) p.n.toNat
  omega

theorem FI.push {p : GP} {a f : List Int} {r : Int} (hv : validE p = 0) (h : FI p a f) (h1 : 1 ≤ r ∧ r ≤ p.n) (h2 : r ∉ f) (h3 : offB a r = false) {i : Int} (h4 : InHead p i r) (h5 : avS p a (setB f) i = true) : FI p a (f ++ [r]) := by
  refine ⟨List.nodup_append.2 ⟨h.nodup, by simp, fun x hx y hy => by simp only [List.mem_singleton] at hy; subst hy; exact fun e => h2 (e ▸ hx)⟩, fun x hx => ?_, fun T hT x hx => ?_⟩ <;> simp only [List.mem_append, List.mem_singleton] at hx
  · rcases hx with hx | rfl
    · exact h.dom x hx
    · exact h1
  · rcases hx with hx | rfl
    · exact h.sound T hT x hx
    · exact hT x i h1.1 h1.2 h3 h4 (avS_mono hv ⟨h4.1, h4.2.1⟩ (fun l hl => h.sound T hT l ((setB_pos f l).1 hl)) h5)

theorem FI.fnd {p : GP} {a f : List Int} (h : FI p a f) (h0 : ∀ x, 1 ≤ x → x ≤ p.n → NoneAt p a f x) : IsFnd p a (setB f) := by
  refine ⟨fun x hx => h.dom x ((setB_pos f x).1 hx), fun x i h1 h2 h3 h4 h5 => ?_, fun T hT x hx => h.sound T hT x ((setB_pos f x).1 hx)⟩
  rw [setB_pos]
  refine Classical.byContradiction fun hn => ?_
  have := h0 x h1 h2 hn h3 i h4
  rw [h5] at this; cases this

def FoundedPost (p : GP) (a : List Int) (w : World) (e : Ending) (w' : World) : Prop :=
  ∃ f av nv cv, e = .returned (.slice av nv cv) ∧ QRow w.heap.size w' (.slice av nv cv) f ∧ IsFnd p a (setB f) ∧ FI p a f ∧ Below w.heap.size w w'

def FdRel (p : GP) (a : List Int) (base : Nat) (W : World) (k : Nat) (v : Value) (wx : World) : Prop :=
  ∃ f, QRow base wx v f ∧ FI p a f ∧ p.n.toNat ≤ k + f.length ∧ Below W.heap.size W wx

theorem below_push {base : Nat} {W w1 w4 : World} {v : Value} {l : List Int} {o : Obj} (h : Below W.heap.size W w1) (hq : QRow base w1 v l) (hb : W.heap.size ≤ base) (hg : (w1.alloc o).grownBy w4 v.ownBlock) : Below W.heap.size W w4 := by
  refine h.trans ⟨hg.os, hg.tape, hg.output, by have := hg.size; simp at this; omega, fun i hi => ?_⟩
  refine (hg.block i (by simp; have := h.size; omega) (fun e => ?_)).trans (Below.heap_alloc _ _ _ (by have := h.size; omega))
  rcases hq.2 with ⟨rfl, _⟩ | ⟨g, off, cap, cur, rfl, hbg, _⟩
  · cases e
  · simp only [Value.ownBlock, Option.some.injEq] at e; omega

theorem below_grown {W w1 w4 : World} {o : Obj} {row : Option Nat} (h : Below W.heap.size W w1) (hb : ∀ g, row = some g → W.heap.size ≤ g) (hg : (w1.alloc o).grownBy w4 row) : Below W.heap.size W w4 := by
  refine h.trans ⟨hg.os, hg.tape, hg.output, by have := hg.size; simp at this; omega, fun i hi => ?_⟩
  exact (hg.block i (by simp; have := h.size; omega) (fun e => by have := hb i e.symm; omega)).trans (Below.heap_alloc _ _ _ (by have := h.size; omega))

set_option maxHeartbeats 4000000 in
set_option maxRecDepth 100000 in
theorem founded_ref (v va : Value) (p : GP) (a : List Int) (w : World) (h : ProgIs w v p) (hv : validE p = 0) (ha : Bytes8 w va a) :
    Calls Try.prog 18 #[v, va] w (FoundedPost p a w) := by
  have h0 := h
  obtain ⟨vn, vs, vr, vm, rfl, hn, hnames, hshown, hrules, hmin⟩ := h
  have VP := validP hv
  have hpn := VP.n
  obtain ⟨a1, c1, rfl, -, hl1, -, -⟩ := hrules.form
  obtain ⟨a9, n9, c9, rfl⟩ : ∃ a9 n9 c9, va = .slice a9 n9 c9 := by obtain ⟨⟨x, y, e, -⟩, -⟩ := ha; exact ⟨_, _, _, e⟩
  have hal := bal (Below.refl w.heap.size w) (.cells #[.int .i64 p.n, vn, vs, .slice a1 p.rules.length c1, vm] 27)
  have hbk : Blk (w.alloc (.cells #[.int .i64 p.n, vn, vs, .slice a1 p.rules.length c1, vm] 27)) w.heap.size _ _ := Blk.new w [.int .i64 p.n, vn, vs, .slice a1 p.rules.length c1, vm] _
  have HP := Lib.hid (h0.below hal)
  have HA := Lib.hid (ha.below hal)
  have HV := Lib.hid hv
  have HBK := Lib.hid hbk
  clear hrules hnames hshown hmin ha hv hn VP h0 hbk
  go_enter Try.func18, Try.ntmps18
  go_wp2_with fail
  have hnW : w.heap.size < (w.alloc (.cells #[.int .i64 p.n, vn, vs, .slice a1 p.rules.length c1, vm] 27)).heap.size := by simp
  generalize w.alloc (.cells #[.int .i64 p.n, vn, vs, .slice a1 p.rules.length c1, vm] 27) = W at hal HBK HP HA hnW ⊢
  go_loopg [5] p.n.toNat (fun k v wx => FdRel p a W.heap.size W k v wx)
  case atStart => exact ⟨[], QRow.nil _ _, FI.nil _ _, by simp, Below.refl _ _⟩
  case round =>
    obtain ⟨f, hq, hfi, hk, hb⟩ := hrel
    have HQ := Lib.hid hq
    have HFI := Lib.hid hfi
    have HB := Lib.hid hb
    have hkx := fun o => (bcell hb _ o hnW).trans (HBK.out.cell o)
    have hlen := hfi.len
    have HI := Lib.hid (hq.ints (by omega))
    obtain ⟨av, nv, cv, rfl⟩ := hq.form
    have HK := Lib.hid hk
    clear hq hfi hb hk
    go_upto_region 3 with (go_at_call 45; (with_reducible refine (next_any _ _ _ p a f _ (HP.out.below HB.out) HV.out (HA.out.below HB.out) HI.out).mono ?_); rintro e w1 ⟨r, rfl, hr, hb1⟩; have HB1 := Lib.hid (bon HB.out hb1); have HQ1 := Lib.hid (HQ.out.below hb1); have HI1 := Lib.hid (HI.out.below hb1); clear hb1 hkx)
    rcases hr with ⟨rfl, hnone⟩ | ⟨h1, h2, h3, h4, i, h5, h6⟩
    · have HF := Lib.hid (HFI.out.fnd hnone)
      clear hnone
      go_wp2_with fail
      go_ret
      exact ⟨f, _, _, _, rfl, HQ1.out.mono (by omega), HF.out, HFI.out, hal.trans (HB1.out.mono (by omega))⟩
    · have HN := Lib.hid (HFI.out.push HV.out ⟨h1, h2⟩ h3 h4 h5 h6)
      have hr0 : (r == 0) = false := beq_eq_false_iff_ne.2 (by omega)
      have hrI : InI r := by unfold InI; omega
      have hlN := HN.out.len
      simp only [List.length_append, List.length_singleton] at hlN
      have hap : (([] : List Int).length + f.length) * 8 ≤ 140737488351232 := by simp; omega
      have hap2 : (f.length + 1) * 8 ≤ 140737488351232 := by omega
      have hz1 := HB1.out.size
      have hbe := Below.heap_alloc
      have HE : Hid (QRow W.heap.size (w1.alloc (.cells #[] 3)) (.slice (some ⟨w1.heap.size, 0, none⟩) 0 0) []) := Lib.hid (QRow.empty (heap_alloc_new w1 _) hz1)
      have HIE := Lib.hid (HI1.out.below (bal (Below.refl w1.heap.size w1) (.cells #[] 3)))
      clear h3 h4 h5 h6 hbe
      go_wp2_with (first
        | (at_builtin; refine wpList_appendQ rfl _ _ 23 Try.underlying23 rfl W.heap.size (.slice a5 n5 c5) f r rfl (HQ5.out.kept (w' := w5.alloc (.cells #[.int .i64 r] 3)) (fun i h1 h2 _ => Below.heap_alloc _ _ _ h2)) w5.heap.size 1 rfl (Blk.new w5 [.int .i64 r] _) hrI hap2 (by simp; omega) ?_; intro v6 w6 hq6 hg6 hl6; have HB6 := Lib.hid (below_push HB5.out HQ5.out (Nat.le_refl _) hg6); obtain ⟨a6, n6, c6, rfl⟩ := hq6.form; have HQ6 := Lib.hid hq6; clear hq6 hg6 hl6)
        | (at_builtin; refine wpList_appendQs rfl _ _ rfl W.heap.size _ _ [] f rfl rfl HE.out HIE.out hap (by simp; omega) ?_; intro v5 w5 hq5 hg5 hl5; rw [List.nil_append] at hq5; have HB5 := Lib.hid (below_grown HB1.out (fun g e => by cases e; exact hz1) hg5); obtain ⟨a5, n5, c5, rfl⟩ := hq5.form; have HQ5 := Lib.hid hq5; have hz5 := HB5.out.size; clear hq5 hg5 hl5))
      go_roundg (gk - 1)
      case measure => have := HK.out; omega
      case rel => exact ⟨_, HQ6.out, HN.out, by have := HK.out; simp only [List.length_append, List.length_singleton]; omega, HB6.out⟩

theorem findTo_congr {F G : Int → Int} {a : List Int} (h : ∀ x, 0 < F x ↔ 0 < G x) : ∀ n, findTo F a n = findTo G a n
  | 0 => rfl
  | n + 1 => by
    unfold findTo
    rw [findTo_congr h n]
    by_cases e : 0 < F ((n : Int) + 1)
    · rw [if_neg (fun h2 => h2.1 e), if_neg (fun h2 => h2.1 ((h _).1 e))]
    · have e2 : ¬ 0 < G ((n : Int) + 1) := fun h2 => e ((h _).2 h2)
      by_cases o : offB a ((n : Int) + 1) = false
      · rw [if_pos ⟨e, o⟩, if_pos ⟨e2, o⟩]
      · rw [if_neg (fun h2 => o h2.2), if_neg (fun h2 => o h2.2)]

def RfPost (p : GP) (a : List Int) (w : World) (e : Ending) (w' : World) : Prop :=
  ∃ f av nv cv, e = .returned (.slice av nv cv) ∧ QRow w.heap.size w' (.slice av nv cv) (findTo (setB f) a p.n.toNat) ∧ IsFnd p a (setB f) ∧ Below w.heap.size w w'

def RfRel (p : GP) (a f : List Int) (base : Nat) (W : World) (v i : Value) (wx : World) : Prop :=
  ∃ k : Nat, k ≤ p.n.toNat ∧ i = .int .i64 ((k : Int) + 1) ∧ QRow base wx v (findTo (setB f) a k) ∧ Below base W wx

set_option maxHeartbeats 4000000 in
set_option maxRecDepth 100000 in
theorem find_ref (v va : Value) (p : GP) (a : List Int) (w : World) (h : ProgIs w v p) (hv : validE p = 0) (ha : Bytes8 w va a) :
    Calls Try.prog 17 #[v, va] w (RfPost p a w) := by
  have h0 := h
  obtain ⟨vn, vs, vr, vm, rfl, hn, hnames, hshown, hrules, hmin⟩ := h
  have VP := validP hv
  have hpn := VP.n
  obtain ⟨a1, c1, rfl, -, hl1, -, -⟩ := hrules.form
  obtain ⟨a9, n9, c9, rfl⟩ : ∃ a9 n9 c9, va = .slice a9 n9 c9 := by obtain ⟨⟨x, y, e, -⟩, -⟩ := ha; exact ⟨_, _, _, e⟩
  have hal := bal (Below.refl w.heap.size w) (.cells #[.int .i64 p.n, vn, vs, .slice a1 p.rules.length c1, vm] 27)
  have hbk : Blk (w.alloc (.cells #[.int .i64 p.n, vn, vs, .slice a1 p.rules.length c1, vm] 27)) w.heap.size _ _ := Blk.new w [.int .i64 p.n, vn, vs, .slice a1 p.rules.length c1, vm] _
  have HP := Lib.hid (h0.below hal)
  have HA := Lib.hid (ha.below hal)
  have HV := Lib.hid hv
  have HBK := Lib.hid hbk
  clear hrules hnames hshown hmin ha hv hn VP h0 hbk
  go_enter Try.func17, Try.ntmps17
  go_upto_region 1 with fail
  have hnW : w.heap.size < (w.alloc (.cells #[.int .i64 p.n, vn, vs, .slice a1 p.rules.length c1, vm] 27)).heap.size := by simp
  generalize w.alloc (.cells #[.int .i64 p.n, vn, vs, .slice a1 p.rules.length c1, vm] 27) = W at hal HBK HP HA hnW ⊢
  have kx := HBK.out.cell
  go_wp2_with (go_at_call 18; (with_reducible refine (founded_ref _ _ p a W HP.out HV.out HA.out).mono ?_); rintro e w1 ⟨f, av1, nv1, cv1, rfl, hq1, hf1, hfi1, hb1⟩; have HB1 := Lib.hid hb1; have HQ1 := Lib.hid hq1; have HF1 := Lib.hid hf1; have hlen := hfi1.len; have HI1 := Lib.hid (hq1.ints (by omega)); clear hb1 hq1 hf1 hfi1 kx)
  go_loopw [6, 7] (fun v i wx => RfRel p a f w1.heap.size w1 v i wx) (fun _ i _ => (p.n + 1 - intOf i).toNat)
  case atStart => exact ⟨0, Nat.zero_le _, rfl, QRow.nil _ _, Below.refl _ _⟩
  case round =>
    obtain ⟨k, hk, rfl, hq, hb⟩ := hrel
    have HQ := Lib.hid hq
    have HB := Lib.hid hb
    have HBT := Lib.hid (bon HB1.out hb)
    have hkx := fun o => (bcell HBT.out _ o hnW).trans (HBK.out.cell o)
    have hlen2 := findTo_len (setB f) a k
    obtain ⟨av, nv, cv, rfl⟩ := hq.form
    clear hq hb
    by_cases hlt : (k : Int) + 1 ≤ p.n
    · have hstep : findTo (setB f) a (k + 1) = if ¬ 0 < setB f ((k : Int) + 1) ∧ offB a ((k : Int) + 1) = false then findTo (setB f) a k ++ [(k : Int) + 1] else findTo (setB f) a k := rfl
      have HN := Lib.hid hstep
      clear hstep
      cases g1 : decide ((k : Int) + 1 ∈ f) with
      | true =>
        have HN2 : Hid (findTo (setB f) a (k + 1) = findTo (setB f) a k) := Lib.hid (by rw [HN.out, if_neg (fun h => h.1 ((setB_pos _ _).2 (of_decide_eq_true g1)))])
        go_wp2_with (go_at_call 19; (with_reducible refine (in_any _ f _ (HI1.out.below HB.out) ((k : Int) + 1)).mono ?_); rintro e w4 ⟨h4, rfl⟩; rw [g1] at h4; subst h4)
        first
          | (go_roundw
             case rel => (exact ⟨k + 1, by omega, by go_num, by rw [HN2.out]; exact HQ.out, HB.out⟩)
             case measure => (simp [intOf]; omega))
          | (refine ⟨?_, ?_⟩
             · (exact ⟨k + 1, by omega, by go_num, by rw [HN2.out]; exact HQ.out, HB.out⟩)
             · (simp [intOf]; omega))
      | false =>
        cases g2 : offB a ((k : Int) + 1) with
        | true =>
          have HN2 : Hid (findTo (setB f) a (k + 1) = findTo (setB f) a k) := Lib.hid (by rw [HN.out, if_neg (fun h => by rw [g2] at h; cases h.2)])
          go_wp2_with (first
            | (go_at_call 19; (with_reducible refine (in_any _ f _ (HI1.out.below HB.out) ((k : Int) + 1)).mono ?_); rintro e w4 ⟨h4, rfl⟩; rw [g1] at h4; subst h4)
            | (go_at_call 44; (with_reducible refine (value_off _ a _ (HA.out.below HBT.out) ((k : Int) + 1) (by omega) (by omega) g2).mono ?_); rintro e w3 ⟨rfl, rfl⟩))
          first
            | (go_roundw
               case rel => (exact ⟨k + 1, by omega, by go_num, by rw [HN2.out]; exact HQ.out, HB.out⟩)
               case measure => (simp [intOf]; omega))
            | (refine ⟨?_, ?_⟩
               · (exact ⟨k + 1, by omega, by go_num, by rw [HN2.out]; exact HQ.out, HB.out⟩)
               · (simp [intOf]; omega))
        | false =>
          have HN2 : Hid (findTo (setB f) a (k + 1) = findTo (setB f) a k ++ [(k : Int) + 1]) := Lib.hid (by rw [HN.out, if_pos ⟨fun h => of_decide_eq_false g1 ((setB_pos _ _).1 h), g2⟩])
          have hxI : InI ((k : Int) + 1) := by unfold InI; omega
          have hap : ((findTo (setB f) a k).length + 1) * 8 ≤ 140737488351232 := by omega
          have hzr := HB.out.size
          go_wp2_with (first
            | (go_at_call 19; (with_reducible refine (in_any _ f _ (HI1.out.below HB.out) ((k : Int) + 1)).mono ?_); rintro e w4 ⟨h4, rfl⟩; rw [g1] at h4; subst h4)
            | (go_at_call 44; (with_reducible refine (value_on _ a _ (HA.out.below HBT.out) ((k : Int) + 1) (by omega) (by omega) g2).mono ?_); rintro e w3 ⟨vv, hvv, rfl, rfl⟩)
            | (at_builtin; refine wpList_appendQ rfl _ _ 23 Try.underlying23 rfl w1.heap.size _ (findTo (setB f) a k) ((k : Int) + 1) rfl (HQ.out.kept (w' := wr.alloc (.cells #[.int .i64 ((k : Int) + 1)] 3)) (fun i h1 h2 _ => Below.heap_alloc _ _ _ h2)) wr.heap.size 1 rfl (Blk.new wr [.int .i64 ((k : Int) + 1)] _) hxI hap (by simp; omega) ?_; intro v4 w4 hq4 hg4 hl4; have HB4 := Lib.hid (below_push HB.out HQ.out (Nat.le_refl _) hg4); obtain ⟨a4, n4, c4, rfl⟩ := hq4.form; have HQ4 := Lib.hid hq4; clear hq4 hg4 hl4))
          first
            | (go_roundw
               case rel => (exact ⟨k + 1, by omega, by go_num, by rw [HN2.out]; exact HQ4.out, HB4.out⟩)
               case measure => (simp [intOf]; omega))
            | (refine ⟨?_, ?_⟩
               · (exact ⟨k + 1, by omega, by go_num, by rw [HN2.out]; exact HQ4.out, HB4.out⟩)
               · (simp [intOf]; omega))
    · obtain rfl : k = p.n.toNat := by omega
      go_wp2_with fail
      go_ret
      exact ⟨f, _, _, _, rfl, HQ.out.mono (by have := HB1.out.size; omega), HF1.out, hal.trans (HBT.out.mono (by omega))⟩

end Go.Proofs.Ytkjpnpkmnpofgaa

/- ostlerref17.Atoms, ostlerref17.lits, ostlerref17.total. -/
namespace Go.Proofs.Ytkjpnpkmnpofgaa
open Go.RowKit


def atomAt (l : List Int) (n : Int) (i : Nat) : Bool := decide (1 ≤ ix l i ∧ ix l i ≤ n) && (i == 0 || decide (ix l (i - 1) < ix l i))

theorem ordI_pos {x y : Int} (hx : 1 ≤ x) (hy : 1 ≤ y) : ordI x y < 0 ↔ x < y := by
  unfold ordI orI cmpI
  grind

theorem atoms_increasing (l : List Int) (n : Int) : increasingB l n = allR l.length (atomAt l n) := by
  rw [Bool.eq_iff_iff]
  constructor
  · intro h
    refine allR_true fun i hi => ?_
    unfold increasingB orderedB at h
    simp only [Bool.and_eq_true] at h
    have h1 := allR_get h.1 i hi
    have h2 := allR_get h.2 i hi
    simp only [okAt, litB, Bool.and_eq_true, Bool.or_eq_true, beq_iff_eq, decide_eq_true_eq] at h1 h2
    simp only [atomAt, Bool.and_eq_true, Bool.or_eq_true, beq_iff_eq, decide_eq_true_eq]
    refine ⟨by omega, ?_⟩
    rcases h1.2 with h3 | h3
    · exact .inl h3
    · by_cases hi0 : i = 0
      · exact .inl hi0
      · have h4 := allR_get h.2 (i - 1) (by omega)
        simp only [decide_eq_true_eq] at h4
        exact .inr ((ordI_pos (by omega) (by omega)).1 h3)
  · intro h
    have hp : ∀ i, i < l.length → 1 ≤ ix l i ∧ ix l i ≤ n ∧ (i = 0 ∨ ix l (i - 1) < ix l i) := fun i hi => by
      have := allR_get h i hi
      simp only [atomAt, Bool.and_eq_true, Bool.or_eq_true, beq_iff_eq, decide_eq_true_eq] at this
      exact ⟨this.1.1, this.1.2, this.2⟩
    unfold increasingB orderedB
    rw [Bool.and_eq_true]
    refine ⟨allR_true fun i hi => ?_, allR_true fun i hi => by have := hp i hi; simp only [decide_eq_true_eq]; omega⟩
    have h1 := hp i hi
    simp only [okAt, litB, Bool.and_eq_true, Bool.or_eq_true, beq_iff_eq, decide_eq_true_eq]
    refine ⟨by omega, ?_⟩
    by_cases hi0 : i = 0
    · exact .inl hi0
    · have h2 := hp (i - 1) (by omega)
      exact .inr ((ordI_pos (by omega) (by omega)).2 (by omega))

def AtRel (l : List Int) (P : Nat → Bool) (w : World) (i : Value) (wx : World) : Prop := ∃ k : Nat, k ≤ l.length ∧ i = .int .i64 k ∧ (∀ j, j < k → P j = true) ∧ Below w.heap.size w wx

set_option maxHeartbeats 2000000 in
theorem atoms_ref (v : Value) (l : List Int) (n : Int) (w : World) (h : Ints w v l) :
    Calls Try.prog 35 #[v, .int .i64 n] w fun e w' => e = .returned (.bool (increasingB l n)) ∧ Below w.heap.size w w' := by
  have HE := Lib.hid (atoms_increasing l n)
  obtain ⟨a, c, rfl, -, hl, -, hcell⟩ := h.form
  have HFI := Lib.hid h.2
  clear h
  go_enter Try.func35, Try.ntmps35
  go_wp2
  go_loopw [5] (fun i wx => AtRel l (atomAt l n) w i wx) (fun i _ => l.length - (intOf i).toNat)
  case atStart => exact ⟨0, by omega, rfl, fun j hj => absurd hj (Nat.not_lt_zero _), Below.refl _ _⟩
  case round =>
    obtain ⟨k, hk, rfl, hall, hb⟩ := hrel
    have HA := Lib.hid hall
    clear hall
    by_cases hlt : k < l.length
    · obtain ⟨b, off, rfl, hbl, hc⟩ := hcell (by omega)
      have hlr : b < wr.heap.size := Nat.lt_of_lt_of_le hbl hb.size
      have k1 : ∀ e : Ext wr, e.world.cell? ⟨b, off + k, none⟩ = some (.int .i64 (ix l k)) := fun e => (bcell e.below _ _ hlr).trans ((bcell hb _ _ hbl).trans (hc k hlt))
      have HK := Lib.hid (show atomAt l n k = (decide (1 ≤ ix l k ∧ ix l k ≤ n) && (k == 0 || decide (ix l (k - 1) < ix l k))) from rfl)
      have HB : Hid (atomAt l n k = false → increasingB l n = false) := Lib.hid (fun h => by rw [HE.out]; exact allR_false k hlt h)
      have HG : Hid (atomAt l n k = true → ∀ j, j < k + 1 → atomAt l n j = true) := Lib.hid (fun h => lt_succ_all HA.out h)
      have hf := HFI.out k
      by_cases c1 : ix l k < 1
      · have HF := Lib.hid (HB.out (by rw [HK.out, decide_eq_false (by omega)]; rfl))
        clear hc
        have d1 : decide (ix l k < 1) = true := decide_eq_true c1
        go_wp2
        refine wp_region_ext (by kernel_rfl) (by kernel_rfl) ?_
        repeat (go_big_quiet_step (fail))
        refine wpQuiet_nil ?_
        intro _ hw'
        obtain ⟨⟨w9, hb9⟩, rfl⟩ := hw'
        try dsimp only
        go_wp2
        go_ret
        exact ⟨ret_bool HF.out.symm, bon hb hb9⟩
      · have d1 : decide (ix l k < 1) = false := decide_eq_false c1
        by_cases c2 : n < ix l k
        · have HF := Lib.hid (HB.out (by rw [HK.out, decide_eq_false (by omega)]; rfl))
          clear hc
          have d2 : decide (n < ix l k) = true := decide_eq_true c2
          go_wp2
          refine wp_region_ext (by kernel_rfl) (by kernel_rfl) ?_
          repeat (go_big_quiet_step (fail))
          refine wpQuiet_nil ?_
          intro _ hw'
          obtain ⟨⟨w9, hb9⟩, rfl⟩ := hw'
          try dsimp only
          go_wp2
          go_ret
          exact ⟨ret_bool HF.out.symm, bon hb hb9⟩
        · have d2 : decide (n < ix l k) = false := decide_eq_false c2
          by_cases c3 : k = 0
          · subst c3
            have k10 : ∀ e : Ext wr, e.world.cell? ⟨b, off, none⟩ = some (.int .i64 (ix l 0)) := k1
            have HN := Lib.hid (HG.out (by rw [HK.out, decide_eq_true (by omega)]; rfl))
            clear hc
            go_wp2
            refine wp_region_ext (by kernel_rfl) (by kernel_rfl) ?_
            repeat (go_big_quiet_step (fail))
            refine wpQuiet_nil ?_
            intro _ hw'
            obtain ⟨⟨w9, hb9⟩, rfl⟩ := hw'
            try dsimp only
            go_wp2
            first
              | (go_roundw
                 case rel => (exact ⟨1, by omega, by go_num, HN.out, bon hb hb9⟩)
                 case measure => (simp [intOf]; omega))
              | (refine ⟨?_, ?_⟩
                 · (exact ⟨1, by omega, by go_num, HN.out, bon hb hb9⟩)
                 · (simp [intOf]; omega))
          · have c3' : 0 < k := by omega
            have d3 : decide (0 < k) = true := decide_eq_true c3'
            have k2 : ∀ e : Ext wr, e.world.cell? ⟨b, off + (k - 1), none⟩ = some (.int .i64 (ix l (k - 1))) := fun e => (bcell e.below _ _ hlr).trans ((bcell hb _ _ hbl).trans (hc (k - 1) (by omega)))
            have hf2 := HFI.out (k - 1)
            clear hc
            by_cases c4 : ix l k ≤ ix l (k - 1)
            · have HF := Lib.hid (HB.out (by rw [HK.out, show decide (ix l (k - 1) < ix l k) = false from decide_eq_false (by omega), show (k == 0) = false from beq_eq_false_iff_ne.2 c3]; simp))
              have d4 : decide (ix l k ≤ ix l (k - 1)) = true := decide_eq_true c4
              go_wp2
              refine wp_region_ext (by kernel_rfl) (by kernel_rfl) ?_
              repeat (go_big_quiet_step (fail))
              refine wpQuiet_nil ?_
              intro _ hw'
              obtain ⟨⟨w9, hb9⟩, rfl⟩ := hw'
              try dsimp only
              go_wp2
              go_ret
              exact ⟨ret_bool HF.out.symm, bon hb hb9⟩
            · have HN := Lib.hid (HG.out (by rw [HK.out, show decide (ix l (k - 1) < ix l k) = true from decide_eq_true (by omega), show decide (1 ≤ ix l k ∧ ix l k ≤ n) = true from decide_eq_true (by omega)]; simp))
              have d4 : decide (ix l k ≤ ix l (k - 1)) = false := decide_eq_false c4
              go_wp2
              refine wp_region_ext (by kernel_rfl) (by kernel_rfl) ?_
              repeat (go_big_quiet_step (fail))
              refine wpQuiet_nil ?_
              intro _ hw'
              obtain ⟨⟨w9, hb9⟩, rfl⟩ := hw'
              try dsimp only
              go_wp2
              first
                | (go_roundw
                   case rel => (exact ⟨k + 1, by omega, by go_num, HN.out, bon hb hb9⟩)
                   case measure => (simp [intOf]; omega))
                | (refine ⟨?_, ?_⟩
                   · (exact ⟨k + 1, by omega, by go_num, HN.out, bon hb hb9⟩)
                   · (simp [intOf]; omega))
    · have HF : Hid (increasingB l n = true) := Lib.hid (by rw [HE.out]; exact allR_true (fun j hj => HA.out j (by omega)))
      go_wp2
      go_ret
      exact ⟨ret_bool HF.out.symm, hb⟩

theorem before_any (x y : Int) (w : World) (h : -4611686018427387904 ≤ x ∧ x ≤ 4611686018427387904) (g : -4611686018427387904 ≤ y ∧ y ≤ 4611686018427387904) :
    Calls Try.prog 66 #[.int .i64 x, .int .i64 y] w fun e w' => e = .returned (.bool (decide (ordI x y < 0))) ∧ w = w' := by
  have HO : Hid (decide (ordI x y < 0) = (decide (x.natAbs < y.natAbs) || (decide (x.natAbs = y.natAbs) && decide (y < x)))) := Lib.hid (by
    unfold ordI orI cmpI
    grind)
  by_cases hx : x < 0 <;> by_cases hy : y < 0
  all_goals
    go_enter Try.func66, Try.ntmps66
    go_wp2
    all_goals
      go_ret
      exact ⟨ret_bool (by first | (rw [HO.out]; grind) | (unfold ordI orI cmpI; grind)), rfl⟩

end Go.Proofs.Ytkjpnpkmnpofgaa

/- ostlerref17.lits, ostlerref17.total, ostlerref17.Rule. -/
namespace Go.Proofs.Ytkjpnpkmnpofgaa
open Go.RowKit


set_option maxHeartbeats 2000000 in
theorem lits_ref (v : Value) (l : List Int) (n : Int) (w : World) (h : Ints w v l) (hn : 0 ≤ n ∧ n ≤ 4000) :
    Calls Try.prog 37 #[v, .int .i64 n] w fun e w' => e = .returned (.bool (orderedB l n)) ∧ Below w.heap.size w w' := by
  have HE : Hid (orderedB l n = allR l.length (okAt l n)) := Lib.hid rfl
  obtain ⟨a, c, rfl, -, hl, -, hcell⟩ := h.form
  have HFI := Lib.hid h.2
  clear h
  go_enter Try.func37, Try.ntmps37
  go_wp2
  go_loopw [5] (fun i wx => AtRel l (okAt l n) w i wx) (fun i _ => l.length - (intOf i).toNat)
  case atStart => exact ⟨0, by omega, rfl, fun j hj => absurd hj (Nat.not_lt_zero _), Below.refl _ _⟩
  case round =>
    obtain ⟨k, hk, rfl, hall, hb⟩ := hrel
    have HA := Lib.hid hall
    clear hall
    by_cases hlt : k < l.length
    · obtain ⟨b, off, rfl, hbl, hc⟩ := hcell (by omega)
      have hlr : b < wr.heap.size := Nat.lt_of_lt_of_le hbl hb.size
      have kk : wr.cell? ⟨b, off + k, none⟩ = some (.int .i64 (ix l k)) := (bcell hb _ _ hbl).trans (hc k hlt)
      have k1 : ∀ e : Ext wr, e.world.cell? ⟨b, off + k, none⟩ = some (.int .i64 (ix l k)) := fun e => (bcell e.below _ _ hlr).trans kk
      have HK := Lib.hid (show okAt l n k = (litB (ix l k) n && (k == 0 || decide (ordI (ix l (k - 1)) (ix l k) < 0))) from rfl)
      have HB : Hid (okAt l n k = false → orderedB l n = false) := Lib.hid (fun h => by rw [HE.out]; exact allR_false k hlt h)
      have HG : Hid (okAt l n k = true → ∀ j, j < k + 1 → okAt l n j = true) := Lib.hid (fun h => lt_succ_all HA.out h)
      have hf := HFI.out k
      by_cases c0 : ix l k = 0 ∨ n < ix l k ∨ ix l k < -n
      · have HF := Lib.hid (HB.out (by rw [HK.out, show litB (ix l k) n = false from decide_eq_false (by omega)]; rfl))
        clear hc k1
        rcases c0 with c0 | c0 | c0
        · have d0 : (ix l k == 0) = true := beq_iff_eq.2 c0
          rw [c0] at kk
          clear d0 c0
          go_wp2
          go_ret
          exact ⟨ret_bool HF.out.symm, hb⟩
        · have d0 : (ix l k == 0) = false := beq_eq_false_iff_ne.2 (by omega)
          go_wp2
          go_ret
          exact ⟨ret_bool HF.out.symm, hb⟩
        · have d0 : (ix l k == 0) = false := beq_eq_false_iff_ne.2 (by omega)
          go_wp2
          go_ret
          exact ⟨ret_bool HF.out.symm, hb⟩
      · have d0 : (ix l k == 0) = false := beq_eq_false_iff_ne.2 (by omega)
        have c1 : -n ≤ ix l k ∧ ix l k ≤ n := by omega
        have HL : Hid (litB (ix l k) n = true) := Lib.hid (decide_eq_true (by omega))
        by_cases c3 : k = 0
        · subst c3
          have k10 : ∀ e : Ext wr, e.world.cell? ⟨b, off, none⟩ = some (.int .i64 (ix l 0)) := k1
          have kk0 : wr.cell? ⟨b, off, none⟩ = some (.int .i64 (ix l 0)) := kk
          have HN := Lib.hid (HG.out (by rw [HK.out, HL.out]; rfl))
          clear hc c0
          go_wp2
          refine wp_region_ext (by kernel_rfl) (by kernel_rfl) ?_
          repeat (go_big_quiet_step (fail))
          refine wpQuiet_nil ?_
          intro _ hw'
          obtain ⟨⟨w9, hb9⟩, rfl⟩ := hw'
          try dsimp only
          go_wp2
          first
            | (go_roundw
               case rel => (exact ⟨1, by omega, by go_num, HN.out, bon hb hb9⟩)
               case measure => (simp [intOf]; omega))
            | (refine ⟨?_, ?_⟩
               · (exact ⟨1, by omega, by go_num, HN.out, bon hb hb9⟩)
               · (simp [intOf]; omega))
        · have c3' : 0 < k := by omega
          have d3 : decide (0 < k) = true := decide_eq_true c3'
          have k2 : ∀ e : Ext wr, e.world.cell? ⟨b, off + (k - 1), none⟩ = some (.int .i64 (ix l (k - 1))) := fun e => (bcell e.below _ _ hlr).trans ((bcell hb _ _ hbl).trans (hc (k - 1) (by omega)))
          have hprev := HA.out (k - 1) (by omega)
          simp only [okAt, litB, Bool.and_eq_true, decide_eq_true_eq] at hprev
          have c2 : -n ≤ ix l (k - 1) ∧ ix l (k - 1) ≤ n := ⟨hprev.1.2.1, hprev.1.2.2⟩
          clear hc c0 hprev
          cases c4 : decide (ordI (ix l (k - 1)) (ix l k) < 0) with
          | true =>
            have HN := Lib.hid (HG.out (by rw [HK.out, HL.out, c4]; simp))
            have HBF : Hid (∀ e : Ext wr, Calls Try.prog 66 #[.int .i64 (ix l (k - 1)), .int .i64 (ix l k)] e.world fun x w' => x = .returned (.bool true) ∧ e.world = w') := Lib.hid (fun e => by
              rw [← c4]; exact before_any _ _ _ (by omega) (by omega))
            go_wp2
            refine wp_region_ext (by kernel_rfl) (by kernel_rfl) ?_
            repeat (go_big_quiet_step ((first | (go_at_call 66; exact Calls.ext_of_same (HBF.out _)))))
            refine wpQuiet_nil ?_
            intro _ hw'
            obtain ⟨⟨w9, hb9⟩, rfl⟩ := hw'
            try dsimp only
            go_wp2
            first
              | (go_roundw
                 case rel => (exact ⟨k + 1, by omega, by go_num, HN.out, bon hb hb9⟩)
                 case measure => (simp [intOf]; omega))
              | (refine ⟨?_, ?_⟩
                 · (exact ⟨k + 1, by omega, by go_num, HN.out, bon hb hb9⟩)
                 · (simp [intOf]; omega))
          | false =>
            have HF := Lib.hid (HB.out (by rw [HK.out, HL.out, c4, show (k == 0) = false from beq_eq_false_iff_ne.2 c3]; rfl))
            have HBF : Hid (∀ e : Ext wr, Calls Try.prog 66 #[.int .i64 (ix l (k - 1)), .int .i64 (ix l k)] e.world fun x w' => x = .returned (.bool false) ∧ e.world = w') := Lib.hid (fun e => by
              rw [← c4]; exact before_any _ _ _ (by omega) (by omega))
            go_wp2
            refine wp_region_ext (by kernel_rfl) (by kernel_rfl) ?_
            repeat (go_big_quiet_step ((first | (go_at_call 66; exact Calls.ext_of_same (HBF.out _)))))
            refine wpQuiet_nil ?_
            intro _ hw'
            obtain ⟨⟨w9, hb9⟩, rfl⟩ := hw'
            try dsimp only
            go_wp2
            go_ret
            exact ⟨ret_bool HF.out.symm, bon hb hb9⟩
    · have HF : Hid (orderedB l n = true) := Lib.hid (by rw [HE.out]; exact allR_true (fun j hj => HA.out j (by omega)))
      go_wp2
      go_ret
      exact ⟨ret_bool HF.out.symm, hb⟩

def totI (l : List Int) : Int := if weightsB l l.length then sumTo l l.length else -1
def TotPost (l : List Int) (w : World) (e : Ending) (w' : World) : Prop := e = .returned (.int .i64 (totI l)) ∧ w = w'

theorem weights_sum' {l : List Int} {n : Int} (h : weightsB l n = true) : (∀ k, k < l.length → 1 ≤ ix l k) ∧ ∀ k, k ≤ l.length → 0 ≤ sumTo l k ∧ sumTo l k ≤ 1048576 := by
  unfold weightsB at h
  simp only [Bool.and_eq_true, decide_eq_true_eq] at h
  refine ⟨fun k hk => by have := allR_get h.1 k hk; simp at this; omega, fun k => ?_⟩
  induction k with
  | zero => intro _; simp [sumTo]
  | succ k ih =>
    intro hk
    have h1 := allR_get h.1 k (by omega)
    simp only [decide_eq_true_eq] at h1
    have := ih (by omega)
    unfold sumTo; omega

def TotRel (l : List Int) (s i : Value) : Prop := ∃ k : Nat, k ≤ l.length ∧ i = .int .i64 k ∧ s = .int .i64 (sumTo l k) ∧ (∀ j, j < k → 1 ≤ ix l j ∧ ix l j ≤ 1048576 - sumTo l j) ∧ 0 ≤ sumTo l k ∧ sumTo l k ≤ 1048576

set_option maxHeartbeats 2000000 in
theorem total_def (v : Value) (l : List Int) (w : World) (h : Ints w v l) :
    Calls Try.prog 38 #[v, .int .i64 1] w (TotPost l w) := by
  obtain ⟨a, c, rfl, -, hl, -, hcell⟩ := h.form
  have HFI := Lib.hid h.2
  clear h
  have HE : Hid (weightsB l l.length = allR l.length (fun i => decide (1 ≤ ix l i ∧ ix l i ≤ 1048576 - sumTo l i))) := Lib.hid (by unfold weightsB; simp)
  go_enter Try.func38, Try.ntmps38
  go_wp2
  go_loop [5, 6] (fun s i => TotRel l s i) (fun _ i => l.length - (intOf i).toNat)
  case atStart => exact ⟨0, by omega, rfl, rfl, fun j hj => absurd hj (Nat.not_lt_zero _), by simp [sumTo], by simp [sumTo]⟩
  case round =>
    obtain ⟨k, hk, rfl, rfl, hall, hs0, hs1⟩ := hrel
    have HA := Lib.hid hall
    clear hall
    by_cases hlt : k < l.length
    · obtain ⟨b, off, rfl, hbl, hc⟩ := hcell (by omega)
      have hk1 := hc k hlt
      have hf := HFI.out k
      have HS : Hid (sumTo l (k + 1) = sumTo l k + ix l k) := Lib.hid rfl
      have HB : Hid (¬ (1 ≤ ix l k ∧ ix l k ≤ 1048576 - sumTo l k) → TotPost l w (.returned (.int .i64 (-1))) w) := Lib.hid (fun h => ⟨by
        unfold totI
        rw [HE.out, allR_false k hlt (decide_eq_false h)]; rfl, rfl⟩)
      clear hc hcell
      by_cases c1 : 1 ≤ ix l k ∧ ix l k ≤ 1048576
      · by_cases c2 : sumTo l k + ix l k ≤ 1048576
        · have HN : Hid (∀ j, j < k + 1 → 1 ≤ ix l j ∧ ix l j ≤ 1048576 - sumTo l j) := Lib.hid (lt_succ_all HA.out (by omega))
          go_wp2
          first
            | (go_round
               case rel => (exact ⟨k + 1, by omega, by go_num, by rw [HS.out], HN.out, by rw [HS.out]; omega, by rw [HS.out]; omega⟩)
               case measure => (simp [intOf]; omega))
            | (refine ⟨?_, ?_⟩
               · (exact ⟨k + 1, by omega, by go_num, by rw [HS.out], HN.out, by rw [HS.out]; omega, by rw [HS.out]; omega⟩)
               · (simp [intOf]; omega))
        · have HP := Lib.hid (HB.out (by omega))
          go_wp2
          go_ret
          exact HP.out
      · have HP := Lib.hid (HB.out (by omega))
        by_cases c3 : ix l k < 1
        · go_wp2
          go_ret
          exact HP.out
        · have c4 : 1048576 < ix l k := by omega
          go_wp2
          go_ret
          exact HP.out
    · obtain rfl : k = l.length := by omega
      have HT : Hid (weightsB l l.length = true) := Lib.hid (by rw [HE.out]; exact allR_true (fun j hj => decide_eq_true (HA.out j hj)))
      have HP : Hid (TotPost l w (.returned (.int .i64 (sumTo l l.length))) w) := Lib.hid ⟨by unfold totI; rw [HT.out]; rfl, rfl⟩
      clear HT
      go_wp2
      go_ret
      exact HP.out

theorem totI_pos {l : List Int} (h : weightsB l l.length = true) : 0 ≤ totI l := by
  unfold totI
  rw [h]
  have := (weights_sum' h).2 l.length (Nat.le_refl _)
  simp only [if_true]; omega

theorem total_ref (v : Value) (l : List Int) (w : World) (h : Ints w v l) :
    Calls Try.prog 38 #[v, .int .i64 1] w fun e w' => ∃ t : Int, e = .returned (.int .i64 t) ∧ (weightsB l l.length = true → 0 ≤ t) ∧ (weightsB l l.length = false → t = -1) ∧ w = w' :=
  (total_def v l w h).mono fun _ _ ⟨he, hw⟩ => ⟨_, he, totI_pos, fun h => by unfold totI; rw [h]; rfl, hw⟩

set_option maxHeartbeats 4000000 in
set_option maxRecDepth 100000 in
theorem rule_ref (v : Value) (r : GR) (n : Int) (w : World) (h : RuleIs w v r) (hn : InI n) :
    Calls Try.prog 36 #[v, .int .i64 n] w fun e w' => e = .returned (.int .i64 (ruleE r n)) ∧ Below w.heap.size w w' := by
  obtain ⟨vh, vb, vw, rfl, hsl⟩ := h
  have hal := bal (Below.refl w.heap.size w) (.cells #[.bool r.choice, vh, .bool r.sum, .int .i64 r.bound, vb, vw] 44)
  have HH := Lib.hid (hsl.head.below hal)
  have HB := Lib.hid (hsl.body.below hal)
  have HW := Lib.hid (hsl.wts.below hal)
  have hbi := hsl.bound
  obtain ⟨a1, c1, rfl, -, hl1, -, -⟩ := hsl.head.form
  obtain ⟨a2, c2, rfl, -, hl2, -, -⟩ := hsl.body.form
  obtain ⟨a3, c3, rfl, -, hl3, -, -⟩ := hsl.wts.form
  unfold InI at hn hbi
  clear hsl
  by_cases h1 : n < 0 ∨ 4000 < n
  · have HF : Hid (ruleE r n = 2) := Lib.hid (by unfold ruleE; rw [if_pos h1])
    rcases h1 with h1 | h1
    · go_enter Try.func36, Try.ntmps36
      go_wp2
      go_ret
      exact ⟨ret_int HF.out.symm, hal⟩
    · go_enter Try.func36, Try.ntmps36
      go_wp2
      go_ret
      exact ⟨ret_int HF.out.symm, hal⟩
  have hn2 : 0 ≤ n ∧ n ≤ 4000 := by omega
  have HE : Hid (ruleE r n = if increasingB r.head n = false ∨ (r.choice = true ∧ r.head.length = 0) then 172
      else if orderedB r.body n = false then 173
      else if (r.sum = false ∧ (0 < r.w.length ∨ r.bound ≠ 0)) ∨ (r.sum = true ∧ (weightsB r.w r.body.length = false ∨ r.bound < 0 ∨ 1048576 < r.bound)) then 174
      else 0) := Lib.hid (by unfold ruleE; rw [if_neg h1])
  clear h1
  cases h2 : increasingB r.head n with
  | false =>
    have HF : Hid (ruleE r n = 172) := Lib.hid (by rw [HE.out, if_pos (.inl h2)])
    go_enter Try.func36, Try.ntmps36
    go_wp2_with (go_at_call 35; (with_reducible refine (atoms_ref _ _ n _ HH.out).mono ?_); rintro e w1 ⟨e1, hb1⟩; rw [h2] at e1; subst e1)
    go_ret
    exact ⟨ret_int HF.out.symm, bon hal hb1⟩
  | true =>
  by_cases h3 : r.choice = true ∧ r.head.length = 0
  · have HF : Hid (ruleE r n = 172) := Lib.hid (by rw [HE.out, if_pos (.inr h3)])
    obtain ⟨h3, h4⟩ := h3
    have hb4 : ((r.head.length : Int) == 0) = true := by simp [h4]
    generalize r.choice = rc at *
    subst h3
    clear h4
    go_enter Try.func36, Try.ntmps36
    go_wp2_with (go_at_call 35; (with_reducible refine (atoms_ref _ _ n _ HH.out).mono ?_); rintro e w1 ⟨e1, hb1⟩; rw [h2] at e1; subst e1; have hc1 := bcell hb1; have hz1 : w.heap.size < w1.heap.size := (by have := hb1.size; simp at this; omega))
    go_ret
    exact ⟨ret_int HF.out.symm, bon hal hb1⟩
  have HE2 : Hid (ruleE r n = if orderedB r.body n = false then 173
      else if (r.sum = false ∧ (0 < r.w.length ∨ r.bound ≠ 0)) ∨ (r.sum = true ∧ (weightsB r.w r.body.length = false ∨ r.bound < 0 ∨ 1048576 < r.bound)) then 174
      else 0) := Lib.hid (by rw [HE.out, if_neg (fun h => by rcases h with h | h; (rw [h2] at h; cases h); exact h3 h)])
  have hch : r.choice = false ∨ ((r.head.length : Int) == 0) = false := by
    cases hc : r.choice with
    | false => exact .inl rfl
    | true => exact .inr (beq_eq_false_iff_ne.2 (fun e => h3 ⟨hc, by omega⟩))
  clear h3 HE
  cases h5 : orderedB r.body n with
  | false =>
    have HF : Hid (ruleE r n = 173) := Lib.hid (by rw [HE2.out, if_pos h5])
    go_enter Try.func36, Try.ntmps36
    go_wp2_with (first | (go_at_call 35; (with_reducible refine (atoms_ref _ _ n _ HH.out).mono ?_); rintro e w1 ⟨e1, hb1⟩; rw [h2] at e1; subst e1; have hc1 := bcell hb1; have hz1 : w.heap.size < w1.heap.size := (by have := hb1.size; simp at this; omega); rcases hch with hch | hch) | (go_at_call 37; (with_reducible refine (lits_ref _ _ n _ (HB.out.below hb1) hn2).mono ?_); rintro e w2 ⟨e2, hb2⟩; rw [h5] at e2; subst e2; have hc2 := bcell hb2; have hz2 : w.heap.size < w2.heap.size := (by have := hb2.size; omega)))
    all_goals
      go_ret
      exact ⟨ret_int HF.out.symm, bon (bon hal hb1) hb2⟩
  | true =>
    have HE3 : Hid (ruleE r n = if (r.sum = false ∧ (0 < r.w.length ∨ r.bound ≠ 0)) ∨ (r.sum = true ∧ (weightsB r.w r.body.length = false ∨ r.bound < 0 ∨ 1048576 < r.bound)) then 174
      else 0) := Lib.hid (by rw [HE2.out, if_neg (by rw [h5]; simp)])
    clear HE2
    cases hs : r.sum with
    | false =>
      rw [hs] at hal HH HB HW
      by_cases h6 : 0 < r.w.length
      · have HF : Hid (ruleE r n = 174) := Lib.hid (by rw [HE3.out, if_pos (.inl ⟨hs, .inl h6⟩)])
        clear HE3
        go_enter Try.func36, Try.ntmps36
        go_wp2_with (first | (go_at_call 35; (with_reducible refine (atoms_ref _ _ n _ HH.out).mono ?_); rintro e w1 ⟨e1, hb1⟩; rw [h2] at e1; subst e1; have hc1 := bcell hb1; have hz1 : w.heap.size < w1.heap.size := (by have := hb1.size; simp at this; omega); rcases hch with hch | hch) | (go_at_call 37; (with_reducible refine (lits_ref _ _ n _ (HB.out.below hb1) hn2).mono ?_); rintro e w2 ⟨e2, hb2⟩; rw [h5] at e2; subst e2; have hc2 := bcell hb2; have hz2 : w.heap.size < w2.heap.size := (by have := hb2.size; omega)))
        all_goals
          go_ret
          exact ⟨ret_int HF.out.symm, bon (bon hal hb1) hb2⟩
      · by_cases h7 : r.bound = 0
        · have HF : Hid (ruleE r n = 0) := Lib.hid (by rw [HE3.out, if_neg (by rintro (⟨-, h | h⟩ | ⟨h, -⟩); (exact h6 h); (exact h h7); (rw [hs] at h; cases h))])
          have h7' : (r.bound != 0) = false := by simp [h7]
          clear HE3 h7
          go_enter Try.func36, Try.ntmps36
          go_wp2_with (first | (go_at_call 35; (with_reducible refine (atoms_ref _ _ n _ HH.out).mono ?_); rintro e w1 ⟨e1, hb1⟩; rw [h2] at e1; subst e1; have hc1 := bcell hb1; have hz1 : w.heap.size < w1.heap.size := (by have := hb1.size; simp at this; omega); rcases hch with hch | hch) | (go_at_call 37; (with_reducible refine (lits_ref _ _ n _ (HB.out.below hb1) hn2).mono ?_); rintro e w2 ⟨e2, hb2⟩; rw [h5] at e2; subst e2; have hc2 := bcell hb2; have hz2 : w.heap.size < w2.heap.size := (by have := hb2.size; omega)))
          all_goals
            go_ret
            exact ⟨ret_int HF.out.symm, bon (bon hal hb1) hb2⟩
        · have HF : Hid (ruleE r n = 174) := Lib.hid (by rw [HE3.out, if_pos (.inl ⟨hs, .inr h7⟩)])
          have h7' : (r.bound != 0) = true := by simp [h7]
          clear HE3 h7
          go_enter Try.func36, Try.ntmps36
          go_wp2_with (first | (go_at_call 35; (with_reducible refine (atoms_ref _ _ n _ HH.out).mono ?_); rintro e w1 ⟨e1, hb1⟩; rw [h2] at e1; subst e1; have hc1 := bcell hb1; have hz1 : w.heap.size < w1.heap.size := (by have := hb1.size; simp at this; omega); rcases hch with hch | hch) | (go_at_call 37; (with_reducible refine (lits_ref _ _ n _ (HB.out.below hb1) hn2).mono ?_); rintro e w2 ⟨e2, hb2⟩; rw [h5] at e2; subst e2; have hc2 := bcell hb2; have hz2 : w.heap.size < w2.heap.size := (by have := hb2.size; omega)))
          all_goals
            go_ret
            exact ⟨ret_int HF.out.symm, bon (bon hal hb1) hb2⟩
    | true =>
      rw [hs] at hal HH HB HW
      by_cases h6 : r.w.length = r.body.length
      · have h6' : ((r.w.length : Int) != (r.body.length : Int)) = false := by simp [h6]
        have HL6 := Lib.hid h6
        cases h8 : weightsB r.w r.body.length with
        | false =>
          have HF : Hid (ruleE r n = 174) := Lib.hid (by rw [HE3.out, if_pos (.inr ⟨hs, .inl h8⟩)])
          have HT : Hid (weightsB r.w r.w.length = false) := Lib.hid (by rw [h6]; exact h8)
          clear HE3 h6 h8
          go_enter Try.func36, Try.ntmps36
          go_wp2_with (first | (go_at_call 35; (with_reducible refine (atoms_ref _ _ n _ HH.out).mono ?_); rintro e w1 ⟨e1, hb1⟩; rw [h2] at e1; subst e1; have hc1 := bcell hb1; have hz1 : w.heap.size < w1.heap.size := (by have := hb1.size; simp at this; omega); rcases hch with hch | hch) | (go_at_call 37; (with_reducible refine (lits_ref _ _ n _ (HB.out.below hb1) hn2).mono ?_); rintro e w2 ⟨e2, hb2⟩; rw [h5] at e2; subst e2; have hc2 := bcell hb2; have hz2 : w.heap.size < w2.heap.size := (by have := hb2.size; omega)) | (go_at_call 38; (with_reducible refine (total_ref _ _ _ ((HW.out.below hb1).below hb2)).mono ?_); rintro e w3 ⟨t, rfl, ht1, ht2, rfl⟩; have htt := ht2 HT.out; subst htt; clear ht1 ht2))
          all_goals
            go_ret
            exact ⟨ret_int HF.out.symm, bon (bon hal hb1) hb2⟩
        | true =>
          have HT : Hid (weightsB r.w r.w.length = true) := Lib.hid (by rw [h6]; exact h8)
          have HE4 : Hid (ruleE r n = if r.bound < 0 ∨ 1048576 < r.bound then 174 else 0) := Lib.hid (by rw [HE3.out, hs, h8]; simp)
          clear HE3 h6 h8
          by_cases h9 : r.bound < 0
          · have HF : Hid (ruleE r n = 174) := Lib.hid (by rw [HE4.out, if_pos (.inl h9)])
            go_enter Try.func36, Try.ntmps36
            go_wp2_with (first | (go_at_call 35; (with_reducible refine (atoms_ref _ _ n _ HH.out).mono ?_); rintro e w1 ⟨e1, hb1⟩; rw [h2] at e1; subst e1; have hc1 := bcell hb1; have hz1 : w.heap.size < w1.heap.size := (by have := hb1.size; simp at this; omega); rcases hch with hch | hch) | (go_at_call 37; (with_reducible refine (lits_ref _ _ n _ (HB.out.below hb1) hn2).mono ?_); rintro e w2 ⟨e2, hb2⟩; rw [h5] at e2; subst e2; have hc2 := bcell hb2; have hz2 : w.heap.size < w2.heap.size := (by have := hb2.size; omega)) | (go_at_call 38; (with_reducible refine (total_ref _ _ _ ((HW.out.below hb1).below hb2)).mono ?_); rintro e w3 ⟨t, rfl, ht1, ht2, rfl⟩; have htt := ht1 HT.out; clear ht1 ht2))
            all_goals
              go_ret
              exact ⟨ret_int HF.out.symm, bon (bon hal hb1) hb2⟩
          · by_cases h10 : 1048576 < r.bound
            · have HF : Hid (ruleE r n = 174) := Lib.hid (by rw [HE4.out, if_pos (.inr h10)])
              go_enter Try.func36, Try.ntmps36
              go_wp2_with (first | (go_at_call 35; (with_reducible refine (atoms_ref _ _ n _ HH.out).mono ?_); rintro e w1 ⟨e1, hb1⟩; rw [h2] at e1; subst e1; have hc1 := bcell hb1; have hz1 : w.heap.size < w1.heap.size := (by have := hb1.size; simp at this; omega); rcases hch with hch | hch) | (go_at_call 37; (with_reducible refine (lits_ref _ _ n _ (HB.out.below hb1) hn2).mono ?_); rintro e w2 ⟨e2, hb2⟩; rw [h5] at e2; subst e2; have hc2 := bcell hb2; have hz2 : w.heap.size < w2.heap.size := (by have := hb2.size; omega)) | (go_at_call 38; (with_reducible refine (total_ref _ _ _ ((HW.out.below hb1).below hb2)).mono ?_); rintro e w3 ⟨t, rfl, ht1, ht2, rfl⟩; have htt := ht1 HT.out; clear ht1 ht2))
              all_goals
                go_ret
                exact ⟨ret_int HF.out.symm, bon (bon hal hb1) hb2⟩
            · have HF : Hid (ruleE r n = 0) := Lib.hid (by rw [HE4.out, if_neg (by omega)])
              go_enter Try.func36, Try.ntmps36
              go_wp2_with (first | (go_at_call 35; (with_reducible refine (atoms_ref _ _ n _ HH.out).mono ?_); rintro e w1 ⟨e1, hb1⟩; rw [h2] at e1; subst e1; have hc1 := bcell hb1; have hz1 : w.heap.size < w1.heap.size := (by have := hb1.size; simp at this; omega); rcases hch with hch | hch) | (go_at_call 37; (with_reducible refine (lits_ref _ _ n _ (HB.out.below hb1) hn2).mono ?_); rintro e w2 ⟨e2, hb2⟩; rw [h5] at e2; subst e2; have hc2 := bcell hb2; have hz2 : w.heap.size < w2.heap.size := (by have := hb2.size; omega)) | (go_at_call 38; (with_reducible refine (total_ref _ _ _ ((HW.out.below hb1).below hb2)).mono ?_); rintro e w3 ⟨t, rfl, ht1, ht2, rfl⟩; have htt := ht1 HT.out; clear ht1 ht2))
              all_goals
                go_ret
                exact ⟨ret_int HF.out.symm, bon (bon hal hb1) hb2⟩
      · have h6' : ((r.w.length : Int) != (r.body.length : Int)) = true := by simp; omega
        have HF : Hid (ruleE r n = 174) := Lib.hid (by
          have h8 : weightsB r.w r.body.length = false := by
            unfold weightsB
            rw [show decide ((r.w.length : Int) = (r.body.length : Int)) = false from decide_eq_false (by omega)]; simp
          rw [HE3.out, if_pos (.inr ⟨hs, .inl h8⟩)])
        clear HE3 h6
        go_enter Try.func36, Try.ntmps36
        go_wp2_with (first | (go_at_call 35; (with_reducible refine (atoms_ref _ _ n _ HH.out).mono ?_); rintro e w1 ⟨e1, hb1⟩; rw [h2] at e1; subst e1; have hc1 := bcell hb1; have hz1 : w.heap.size < w1.heap.size := (by have := hb1.size; simp at this; omega); rcases hch with hch | hch) | (go_at_call 37; (with_reducible refine (lits_ref _ _ n _ (HB.out.below hb1) hn2).mono ?_); rintro e w2 ⟨e2, hb2⟩; rw [h5] at e2; subst e2; have hc2 := bcell hb2; have hz2 : w.heap.size < w2.heap.size := (by have := hb2.size; omega)))
        all_goals
          go_ret
          exact ⟨ret_int HF.out.symm, bon (bon hal hb1) hb2⟩

end Go.Proofs.Ytkjpnpkmnpofgaa

/- ostlerref17.names. -/
namespace Go.Proofs.Ytkjpnpkmnpofgaa
open Go.RowKit


theorem toList_inj {s t : ByteArray} (h : s.toList = t.toList) : s = t := by
  rw [Lib.toList_data, Lib.toList_data] at h
  cases s; cases t
  simpa using h

def NmRel (l : List ByteArray) (w : World) (i : Value) (wx : World) : Prop := ∃ k : Nat, k ≤ l.length ∧ i = .int .i64 k ∧ (∀ j, j < k → nameAt l j = true) ∧ Below w.heap.size w wx
def NmRel2 (l : List ByteArray) (s : ByteArray) (m : Nat) (w : World) (i : Value) (wx : World) : Prop := ∃ k : Nat, k ≤ m ∧ i = .int .i64 k ∧ (emptyS s = true ∨ ∀ j, j < k → ixS l j ≠ s) ∧ Below w.heap.size w wx

set_option maxHeartbeats 2000000 in
theorem names_ref (v : Value) (l : List ByteArray) (w : World) (h : Strs w v l) :
    Calls Try.prog 34 #[v] w fun e w' => e = .returned (.bool (namesB l)) ∧ Below w.heap.size w w' := by
  obtain ⟨a, c, rfl, -, hl, -, hsz, hcell⟩ := h.form
  have HSZ := Lib.hid hsz
  have HC := Lib.hid hcell
  clear h hsz hcell
  have HE : Hid (namesB l = allR l.length (nameAt l)) := Lib.hid rfl
  go_enter Try.func34, Try.ntmps34
  go_wp2
  go_loopw [3] (fun i wx => NmRel l w i wx) (fun i _ => l.length - (intOf i).toNat)
  case atStart => exact ⟨0, by omega, rfl, fun j hj => absurd hj (Nat.not_lt_zero _), Below.refl _ _⟩
  case round =>
    obtain ⟨k, hk, rfl, hall, hb⟩ := hrel
    have HA := Lib.hid hall
    have HB := Lib.hid hb
    clear hall
    by_cases hlt : k < l.length
    · obtain ⟨b, off, hab, hbl, hc⟩ := HC.out (by omega)
      subst hab
      obtain ⟨s, hs⟩ : ∃ s, s = ixS l k := ⟨_, rfl⟩
      have HSE := Lib.hid hs
      have hcl : w.cell? ⟨b, off + k, none⟩ = some (.string s) := by rw [hs]; exact hc k hlt
      have hk1 := (bcell hb _ _ hbl).trans hcl
      have hsz1 : s.size ≤ 140737488351232 := by rw [hs]; exact HSZ.out k
      have HN : Hid (nameAt l k = (decide (s.size ≤ 200) && !nlB s && (emptyS s || allR k (fun j => decide (ixS l j ≠ s))))) := Lib.hid (by rw [hs]; rfl)
      have HBAD : Hid (nameAt l k = false → namesB l = false) := Lib.hid (fun h => by rw [HE.out]; exact allR_false k hlt h)
      have HCC := Lib.hid hc
      clear hc hs
      by_cases g1 : 200 < s.size
      · have HF := Lib.hid (HBAD.out (by rw [HN.out, decide_eq_false (by omega)]; rfl))
        go_wp2
        go_ret
        exact ⟨ret_bool HF.out.symm, hb⟩
      · cases g2 : nlB s with
        | true =>
          have HF := Lib.hid (HBAD.out (by rw [HN.out, g2]; simp))
          go_wp2_with (go_at_call 65; (with_reducible refine (containsNl_any _ _).mono ?_); rintro e w2 ⟨e2, rfl⟩; rw [g2] at e2; subst e2)
          go_ret
          exact ⟨ret_bool HF.out.symm, hb⟩
        | false =>
          go_upto_region 7 with (go_at_call 65; (with_reducible refine (containsNl_any _ _).mono ?_); rintro e w2 ⟨e2, rfl⟩; rw [g2] at e2; subst e2)
          obtain ⟨wo, rfl⟩ : ∃ wo : World, wo = wr := ⟨_, rfl⟩
          clear hk1 hb
          go_loopw [4] (fun i wx => NmRel2 l s k w i wx) (fun i _ => k - (intOf i).toNat)
          case atStart => exact ⟨0, by omega, rfl, .inr (fun j hj => absurd hj (Nat.not_lt_zero _)), HB.out⟩
          case round =>
            obtain ⟨m, hm, rfl, hall2, hb2⟩ := hrel
            have HA2 := Lib.hid hall2
            have hlr : b < wr.heap.size := Nat.lt_of_lt_of_le hbl hb2.size
            have k1 : ∀ e : Ext wr, e.world.cell? ⟨b, off + k, none⟩ = some (.string s) := fun e => (bcell e.below _ _ hlr).trans ((bcell hb2 _ _ hbl).trans hcl)
            clear hall2
            by_cases hltm : m < k
            · obtain ⟨t, ht⟩ : ∃ t, t = ixS l m := ⟨_, rfl⟩
              have k2 : ∀ e : Ext wr, e.world.cell? ⟨b, off + m, none⟩ = some (.string t) := fun e => by rw [ht]; exact (bcell e.below _ _ hlr).trans ((bcell hb2 _ _ hbl).trans (HCC.out m (by omega)))
              have HT := Lib.hid ht
              clear ht
              have hlm : m < l.length := by omega
              cases g3 : emptyS s with
              | true =>
                have g4 : s.toList.isEmpty = true := g3
                have g5 : s.toList = [] := by simpa using g4
                have g6 : (s.toList.isEmpty == false) = false := by rw [g4]; rfl
                go_wp2
                refine wp_region_ext (by kernel_rfl) (by kernel_rfl) ?_
                repeat (go_big_quiet_step (fail))
                refine wpQuiet_nil ?_
                intro _ hw'
                obtain ⟨⟨w9, hb9⟩, rfl⟩ := hw'
                try dsimp only
                go_wp2
                first
                  | (go_roundw
                     case rel => (exact ⟨m + 1, by omega, by go_num, .inl g3, bon hb2 hb9⟩)
                     case measure => (simp [intOf]; omega))
                  | (refine ⟨?_, ?_⟩
                     · (exact ⟨m + 1, by omega, by go_num, .inl g3, bon hb2 hb9⟩)
                     · (simp [intOf]; omega))
              | false =>
                have g4 : s.toList.isEmpty = false := g3
                have g5 : ¬ s.toList = [] := by simpa using g4
                by_cases g6 : s = t
                · have HF := Lib.hid (HBAD.out (by
                    rw [HN.out, g3, allR_false m hltm (decide_eq_false (fun h => h (HT.out.symm.trans g6.symm)))]; simp))
                  subst g6
                  go_wp2
                  refine wp_region_ext (by kernel_rfl) (by kernel_rfl) ?_
                  repeat (go_big_quiet_step (fail))
                  refine wpQuiet_nil ?_
                  intro _ hw'
                  obtain ⟨⟨w9, hb9⟩, rfl⟩ := hw'
                  try dsimp only
                  go_wp2
                  go_ret
                  exact ⟨ret_bool HF.out.symm, bon hb2 hb9⟩
                · have HN2 : Hid (∀ j, j < m + 1 → ixS l j ≠ s) := Lib.hid (lt_succ_all (HA2.out.resolve_left (by rw [g3]; simp)) (fun h => g6 (h.symm.trans HT.out.symm)))
                  have g7 : (s.toList == t.toList) = false := beq_eq_false_iff_ne.2 (fun e => g6 (toList_inj e))
                  clear g6
                  go_wp2
                  refine wp_region_ext (by kernel_rfl) (by kernel_rfl) ?_
                  repeat (go_big_quiet_step (fail))
                  refine wpQuiet_nil ?_
                  intro _ hw'
                  obtain ⟨⟨w9, hb9⟩, rfl⟩ := hw'
                  try dsimp only
                  go_wp2
                  first
                    | (go_roundw
                       case rel => (exact ⟨m + 1, by omega, by go_num, .inr HN2.out, bon hb2 hb9⟩)
                       case measure => (simp [intOf]; omega))
                    | (refine ⟨?_, ?_⟩
                       · (exact ⟨m + 1, by omega, by go_num, .inr HN2.out, bon hb2 hb9⟩)
                       · (simp [intOf]; omega))
            · obtain rfl : m = k := by omega
              have HNN : Hid (∀ j, j < m + 1 → nameAt l j = true) := Lib.hid (lt_succ_all HA.out (by
                rw [HN.out, g2, decide_eq_true (show s.size ≤ 200 by omega)]
                rcases HA2.out with h | h
                · rw [h]; rfl
                · rw [allR_true (fun j hj => decide_eq_true (h j hj))]; simp))
              go_wp2
              go_roundw
              case rel => exact ⟨m + 1, by omega, by go_num, HNN.out, hb2⟩
              case measure => simp [intOf]; omega
    · have HF : Hid (namesB l = true) := Lib.hid (by rw [HE.out]; exact allR_true (fun j hj => HA.out j (by omega)))
      go_wp2
      go_ret
      exact ⟨ret_bool HF.out.symm, hb⟩

end Go.Proofs.Ytkjpnpkmnpofgaa

/- ostlerref17.Valid. -/
namespace Go.Proofs.Ytkjpnpkmnpofgaa
open Go.RowKit

set_option maxHeartbeats 4000000 in
set_option maxRecDepth 100000 in
theorem valid_ref (v : Value) (p : GP) (w : World) (h : ProgIs w v p) :
    Calls Try.prog 13 #[v] w (ValidPost p w) := by
  obtain ⟨vn, vs, vr, vm, rfl, hn, hnames, hshown, hrules, hmin⟩ := h
  obtain ⟨a0, c0, rfl, -, hl0, -⟩ := hnames.form
  obtain ⟨a9, c9, rfl, -, hl9, -, -⟩ := hshown.form
  obtain ⟨a1, c1, rfl, -, hl1, -, hcell⟩ := hrules.form
  obtain ⟨a2, c2, rfl, -, hl2, -, hmcell⟩ := hmin.form
  have hal := bal (Below.refl w.heap.size w) (.cells #[.int .i64 p.n, .slice a0 p.names.length c0, .slice a9 p.shown.length c9, .slice a1 p.rules.length c1, .slice a2 p.min.length c2] 27)
  have HN := Lib.hid (hnames.below hal)
  have HS := Lib.hid (hshown.below hal)
  unfold InI at hn
  clear hrules hmin hnames hshown
  have H170 : Hid (namedB p = false → validE p = 170) := Lib.hid (fun h => by simp [validE, h])
  have hnd : namedB p = (decide (0 ≤ p.n ∧ p.n ≤ 4000 ∧ (p.names.length : Int) = p.n) && increasingB p.shown p.n && namesB p.names) := rfl
  have HND := Lib.hid hnd
  clear hnd
  by_cases g1 : p.n < 0
  · have HF := Lib.hid (H170.out (by rw [HND.out, decide_eq_false (by omega)]; rfl))
    go_enter Try.func13, Try.ntmps13
    go_wp2
    go_ret
    exact ⟨ret_int HF.out.symm, hal⟩
  by_cases g2 : 4000 < p.n
  · have HF := Lib.hid (H170.out (by rw [HND.out, decide_eq_false (by omega)]; rfl))
    go_enter Try.func13, Try.ntmps13
    go_wp2
    go_ret
    exact ⟨ret_int HF.out.symm, hal⟩
  by_cases g3 : (p.names.length : Int) = p.n
  case neg =>
    have HF := Lib.hid (H170.out (by rw [HND.out, decide_eq_false (by omega)]; rfl))
    have g3' : ((p.names.length : Int) != p.n) = true := by simp [g3]
    clear g3
    go_enter Try.func13, Try.ntmps13
    go_wp2
    go_ret
    exact ⟨ret_int HF.out.symm, hal⟩
  have g3' : ((p.names.length : Int) != p.n) = false := by simp [g3]
  have HND2 : Hid (namedB p = (increasingB p.shown p.n && namesB p.names)) := Lib.hid (by rw [HND.out, decide_eq_true (by omega)]; simp)
  clear g3 HND
  cases g5 : namesB p.names with
  | false =>
    have HF := Lib.hid (H170.out (by rw [HND2.out, g5]; simp))
    go_enter Try.func13, Try.ntmps13
    go_wp2_with (go_at_call 34; (with_reducible refine (names_ref _ _ _ HN.out).mono ?_); rintro e w1 ⟨e1, hb1⟩; rw [g5] at e1; subst e1; have hc1 := bcell hb1; have hz1 : w.heap.size < w1.heap.size := (by have := hb1.size; simp at this; omega))
    go_ret
    exact ⟨ret_int HF.out.symm, bon hal hb1⟩
  | true =>
  cases g6 : increasingB p.shown p.n with
  | false =>
    have HF := Lib.hid (H170.out (by rw [HND2.out, g6]; rfl))
    go_enter Try.func13, Try.ntmps13
    go_wp2_with (first | (go_at_call 34; (with_reducible refine (names_ref _ _ _ HN.out).mono ?_); rintro e w1 ⟨e1, hb1⟩; rw [g5] at e1; subst e1; have hc1 := bcell hb1; have hz1 : w.heap.size < w1.heap.size := (by have := hb1.size; simp at this; omega)) | (go_at_call 35; (with_reducible refine (atoms_ref _ _ p.n _ (HS.out.below hb1)).mono ?_); rintro e w2 ⟨e2, hb2⟩; rw [g6] at e2; subst e2; have hc2 := bcell hb2; have hz2 : w.heap.size < w2.heap.size := (by have := hb2.size; omega)))
    go_ret
    exact ⟨ret_int HF.out.symm, bon (bon hal hb1) hb2⟩
  | true =>
  have h1 : namedB p = true := by rw [HND2.out, g5, g6]; rfl
  by_cases h2 : 40000 < p.rules.length
  · have HF : Hid (validE p = 171) := Lib.hid (by simp [validE, h1, h2])
    clear h1
    go_enter Try.func13, Try.ntmps13
    go_wp2_with (first | (go_at_call 34; (with_reducible refine (names_ref _ _ _ HN.out).mono ?_); rintro e w1 ⟨e1, hb1⟩; rw [g5] at e1; subst e1; have hc1 := bcell hb1; have hz1 : w.heap.size < w1.heap.size := (by have := hb1.size; simp at this; omega)) | (go_at_call 35; (with_reducible refine (atoms_ref _ _ p.n _ (HS.out.below hb1)).mono ?_); rintro e w2 ⟨e2, hb2⟩; rw [g6] at e2; subst e2; have hc2 := bcell hb2; have hz2 : w.heap.size < w2.heap.size := (by have := hb2.size; omega)))
    go_ret
    exact ⟨ret_int HF.out.symm, bon (bon hal hb1) hb2⟩
  have HF : Hid (validE p = if rulesE p.rules p.n ≠ 0 then rulesE p.rules p.n else if 8 < p.min.length then 175 else if minsB p.min p.n = false then 175 else 0) := Lib.hid (by simp [validE, h1, h2])
  have hn4 : 0 ≤ p.n ∧ p.n ≤ 4000 := by omega
  clear h1
  go_enter Try.func13, Try.ntmps13
  go_wp2_with (first | (go_at_call 34; (with_reducible refine (names_ref _ _ _ HN.out).mono ?_); rintro e w1 ⟨e1, hb1⟩; rw [g5] at e1; subst e1; have hc1 := bcell hb1; have hz1 : w.heap.size < w1.heap.size := (by have := hb1.size; simp at this; omega)) | (go_at_call 35; (with_reducible refine (atoms_ref _ _ p.n _ (HS.out.below hb1)).mono ?_); rintro e w2 ⟨e2, hb2⟩; rw [g6] at e2; subst e2; have hc2 := bcell hb2; have hz2 : w.heap.size < w2.heap.size := (by have := hb2.size; omega)))
  have hb12 := bon hb1 hb2
  clear hb1 hb2
  obtain ⟨W, hW⟩ : ∃ W, W = (w.alloc (.cells #[.int .i64 p.n, .slice a0 p.names.length c0, .slice a9 p.shown.length c9, .slice a1 p.rules.length c1, .slice a2 p.min.length c2] 27)) := ⟨_, rfl⟩
  go_loopw [3] (VRel1 p.rules p.n W) (fun i _ => p.rules.length - (intOf i).toNat)
  case atStart => exact ⟨0, by omega, rfl, fun j hj => absurd hj (Nat.not_lt_zero _), by rw [hW]; exact hb12⟩
  case round =>
    obtain ⟨k, hk, rfl, hok, hb⟩ := hrel
    have HOK := Lib.hid hok
    clear hok
    have hsW : w.heap.size < W.heap.size := by rw [hW]; simp
    have hsr : w.heap.size < wr.heap.size := Nat.lt_of_lt_of_le hsW hb.size
    have q0 : wr.cell? ⟨w.heap.size, 0, none⟩ = some (.int .i64 p.n) := by rw [bcell hb _ _ hsW, hW]; go_simp
    have q3 : wr.cell? ⟨w.heap.size, 4, none⟩ = some (.slice a2 p.min.length c2) := by rw [bcell hb _ _ hsW, hW]; go_simp
    have q2 : wr.cell? ⟨w.heap.size, 3, none⟩ = some (.slice a1 p.rules.length c1) := by rw [bcell hb _ _ hsW, hW]; go_simp
    clear hc1 hc2 hb12 HN HS
    rw [← hW] at hal
    have hbw := bon hal hb
    clear hW
    by_cases hlt : k < p.rules.length
    · obtain ⟨b, off, rfl, hbl, hc⟩ := hcell (by omega)
      obtain ⟨vh, vb, vw, hcc, hsl⟩ := hc k hlt
      obtain ⟨r0, r1, r2, r3, r4, r5⟩ := hcc.below hbw hbl
      have HS := Lib.hid (hsl.below hbw)
      obtain ⟨a3, c3, rfl, -, hl3, -, -⟩ := hsl.head.form
      obtain ⟨a4, c4, rfl, -, hl4, -, -⟩ := hsl.body.form
      obtain ⟨a5, c5, rfl, -, hl5, -, -⟩ := hsl.wts.form
      have hbr := Nat.lt_of_lt_of_le hbl hbw.size
      have HR : Hid (∀ e : Ext wr, RuleIs e.world (.agg #[.bool (ixR p.rules k).choice, .slice a3 (ixR p.rules k).head.length c3, .bool (ixR p.rules k).sum, .int .i64 (ixR p.rules k).bound, .slice a4 (ixR p.rules k).body.length c4, .slice a5 (ixR p.rules k).w.length c5]) (ixR p.rules k)) := Lib.hid (fun e => ⟨_, _, _, rfl, HS.out.below e.below⟩)
      have x0 : ∀ e : Ext wr, e.world.cell? ⟨w.heap.size, 0, none⟩ = some (.int .i64 p.n) := fun e => (bcell e.below _ _ hsr).trans q0
      have x1 : ∀ e : Ext wr, e.world.cell? ⟨w.heap.size, 3, none⟩ = some (.slice (some ⟨b, off, none⟩) p.rules.length c1) := fun e => (bcell e.below _ _ hsr).trans q2
      have s0 : ∀ e : Ext wr, e.world.cell? ⟨b, off + k * 6, none⟩ = _ := fun e => (bcell e.below _ _ hbr).trans r0
      have s1 : ∀ e : Ext wr, e.world.cell? ⟨b, off + k * 6 + 1, none⟩ = _ := fun e => (bcell e.below _ _ hbr).trans r1
      have s2 : ∀ e : Ext wr, e.world.cell? ⟨b, off + k * 6 + 2, none⟩ = _ := fun e => (bcell e.below _ _ hbr).trans r2
      have s3 : ∀ e : Ext wr, e.world.cell? ⟨b, off + k * 6 + 3, none⟩ = _ := fun e => (bcell e.below _ _ hbr).trans r3
      have s4 : ∀ e : Ext wr, e.world.cell? ⟨b, off + k * 6 + 4, none⟩ = _ := fun e => (bcell e.below _ _ hbr).trans r4
      have s5 : ∀ e : Ext wr, e.world.cell? ⟨b, off + k * 6 + 5, none⟩ = _ := fun e => (bcell e.below _ _ hbr).trans r5
      have hnI : InI p.n := by unfold InI; omega
      clear hc hcell hcc hsl r0 r1 r2 r3 r4 r5
      by_cases hz : ruleE (ixR p.rules k) p.n = 0
      · have hz1 : (ruleE (ixR p.rules k) p.n == 0) = true := by simp [hz]
        have hz2 : (ruleE (ixR p.rules k) p.n != 0) = false := by simp [hz]
        have HZ := Lib.hid hz
        clear hz
        go_wp2
        refine wp_region_ext (by kernel_rfl) (by kernel_rfl) ?_
        repeat (go_big_quiet_step ((first | (go_at_call 36; exact Calls.ext_of (rule_ref _ _ _ _ (HR.out _) hnI)))))
        refine wpQuiet_nil ?_
        intro _ hw'
        obtain ⟨⟨w9, hb9⟩, rfl⟩ := hw'
        try dsimp only
        go_wp2
        first
          | (go_roundw
             case rel => (exact ⟨k + 1, by omega, by go_num, lt_succ_all HOK.out HZ.out, bon hb hb9⟩)
             case measure => (simp [intOf]; omega))
          | (refine ⟨?_, ?_⟩
             · (exact ⟨k + 1, by omega, by go_num, lt_succ_all HOK.out HZ.out, bon hb hb9⟩)
             · (simp [intOf]; omega))
      · have hz1 : (ruleE (ixR p.rules k) p.n == 0) = false := by simp [hz]
        have hz2 : (ruleE (ixR p.rules k) p.n != 0) = true := by simp [hz]
        have HZ := Lib.hid hz
        clear hz
        go_wp2
        refine wp_region_ext (by kernel_rfl) (by kernel_rfl) ?_
        repeat (go_big_quiet_step ((first | (go_at_call 36; exact Calls.ext_of (rule_ref _ _ _ _ (HR.out _) hnI)))))
        refine wpQuiet_nil ?_
        intro _ hw'
        obtain ⟨⟨w9, hb9⟩, rfl⟩ := hw'
        try dsimp only
        go_wp2
        go_ret
        refine ⟨ret_int ?_, bon hbw hb9⟩
        have e1 : rulesE p.rules p.n = ruleE (ixR p.rules k) p.n := by
          rw [rulesFrom_split p.rules p.n k hk HOK.out, show p.rules.length - k = (p.rules.length - k - 1) + 1 by omega, rulesFrom, if_pos HZ.out]
        rw [HF.out, e1, if_pos HZ.out]
    · have e1 : rulesE p.rules p.n = 0 := by
        rw [rulesFrom_split p.rules p.n k hk HOK.out, show p.rules.length - k = 0 by omega]; rfl
      rw [e1] at HF
      by_cases h3 : 8 < p.min.length
      · go_wp2
        go_ret
        exact ⟨ret_int (by rw [HF.out]; simp [h3]), hbw⟩
      go_wp2
      clear HOK hlt hk e1
      have HBW := Lib.hid hbw
      clear hbw hb hal
      obtain ⟨wo, hwo⟩ : ∃ wo : World, wo = wr := ⟨_, rfl⟩
      rw [← hwo] at q0 q3 hsr HBW ⊢
      clear hwo
      go_loopw [5] (VRel2 p.min p.n wo) (fun i _ => p.min.length - (intOf i).toNat)
      case atStart => exact ⟨0, by omega, rfl, fun j hj => absurd hj (Nat.not_lt_zero _), Below.refl _ _⟩
      case round =>
        obtain ⟨k, hk, rfl, hok, hb⟩ := hrel
        have HOK := Lib.hid hok
        clear hok
        have hbw := bon HBW.out hb
        replace q0 := (bcell hb _ _ hsr).trans q0
        replace q3 := (bcell hb _ _ hsr).trans q3
        have hsr2 := Nat.lt_of_lt_of_le hsr hb.size
        by_cases hlt : k < p.min.length
        · obtain ⟨b, off, rfl, hbl, hc⟩ := hmcell (by omega)
          obtain ⟨vl, vw, hcc, hsl⟩ := hc k hlt
          obtain ⟨vl', vw', hcc', hsl'⟩ := hc (k - 1) (by omega)
          obtain ⟨m0, m1, m2⟩ := hcc.below hbw hbl
          obtain ⟨m0', -, -⟩ := hcc'.below hbw hbl
          have HS := Lib.hid (hsl.below hbw)
          obtain ⟨a3, c3, rfl, -, hl3, -, -⟩ := hsl.lits.form
          obtain ⟨a4, c4, rfl, -, hl4, -, -⟩ := hsl.wts.form
          have hlv := hsl.level
          have hlv' := hsl'.level
          unfold InI at hlv hlv'
          have hbr := Nat.lt_of_lt_of_le hbl hbw.size
          obtain ⟨W2, hW2⟩ : ∃ W2, W2 = wr.alloc (.cells #[.int .i64 (ixM p.min k).level, .slice a3 (ixM p.min k).lits.length c3, .slice a4 (ixM p.min k).w.length c4] 77) := ⟨_, rfl⟩
          have hbx : Below wr.heap.size wr W2 := by rw [hW2]; exact bal (Below.refl _ _) _
          have hz2 : wr.heap.size < W2.heap.size := by rw [hW2]; simp
          have HL : Hid (∀ e : Ext W2, Ints e.world (.slice a3 (ixM p.min k).lits.length c3) (ixM p.min k).lits) := Lib.hid (fun e => HS.out.lits.below (bon hbx e.below))
          have HW2 : Hid (∀ e : Ext W2, Ints e.world (.slice a4 (ixM p.min k).w.length c4) (ixM p.min k).w) := Lib.hid (fun e => HS.out.wts.below (bon hbx e.below))
          have x0 : ∀ e : Ext W2, e.world.cell? ⟨w.heap.size, 0, none⟩ = some (.int .i64 p.n) := fun e => (bcell (bon hbx e.below) _ _ hsr2).trans q0
          have x1 : ∀ e : Ext W2, e.world.cell? ⟨w.heap.size, 4, none⟩ = some (.slice (some ⟨b, off, none⟩) p.min.length c2) := fun e => (bcell (bon hbx e.below) _ _ hsr2).trans q3
          have x2 : ∀ e : Ext W2, e.world.cell? ⟨wr.heap.size, 0, none⟩ = some (.int .i64 (ixM p.min k).level) := fun e => (bcell e.below _ _ hz2).trans (by rw [hW2]; go_simp)
          have x3 : ∀ e : Ext W2, e.world.cell? ⟨wr.heap.size, 1, none⟩ = some (.slice a3 (ixM p.min k).lits.length c3) := fun e => (bcell e.below _ _ hz2).trans (by rw [hW2]; go_simp)
          have x4 : ∀ e : Ext W2, e.world.cell? ⟨wr.heap.size, 2, none⟩ = some (.slice a4 (ixM p.min k).w.length c4) := fun e => (bcell e.below _ _ hz2).trans (by rw [hW2]; go_simp)
          have x5 : ∀ e : Ext W2, e.world.cell? ⟨b, off + (k - 1) * 3, none⟩ = some (.int .i64 (ixM p.min (k - 1)).level) := fun e => (bcell (bon hbx e.below) _ _ hbr).trans m0'
          clear hc hmcell hcell hcc hcc' hsl hsl' m0'
          have hW2' := hW2.symm
          clear hW2
          have hbad : minAt p.min p.n k = false → Hid (validE p = 175) := fun h => Lib.hid (by rw [HF.out, minsB, allR_false k hlt h]; simp)
          have hmk : minAt p.min p.n k = (orderedB (ixM p.min k).lits p.n && weightsB (ixM p.min k).w (ixM p.min k).lits.length && decide (-2147483647 ≤ (ixM p.min k).level ∧ (ixM p.min k).level ≤ 2147483647) && (k == 0 || decide ((ixM p.min k).level < (ixM p.min (k - 1)).level))) := rfl
          have HMK := Lib.hid hmk
          have HBAD := Lib.hid hbad
          clear hmk hbad
          have hbw2 := fun (w9 : World) (hb9 : Below W2.heap.size W2 w9) => bon hbw (bon hbx hb9)
          have HFIN := Lib.hid hbw2
          have HFIN2 : Hid (∀ w9 : World, Below W2.heap.size W2 w9 → Below wo.heap.size wo w9) := Lib.hid (fun w9 hb9 => bon hb (bon hbx hb9))
          clear hbw2
          have HLT0 : Hid (∀ e : Ext W2, Calls Try.prog 37 #[.slice a3 (ixM p.min k).lits.length c3, .int .i64 p.n] e.world fun x w' => x = .returned (.bool (orderedB (ixM p.min k).lits p.n)) ∧ Below e.world.heap.size e.world w') := Lib.hid (fun e => lits_ref _ _ _ _ (HL.out e) hn4)
          have HTT0 : Hid (∀ e : Ext W2, Calls Try.prog 38 #[.slice a4 (ixM p.min k).w.length c4, .int .i64 1] e.world fun x w' => x = .returned (.int .i64 (totI (ixM p.min k).w)) ∧ e.world = w') := Lib.hid (fun e => total_def _ _ _ (HW2.out e))
          clear HL HW2
          cases g1 : orderedB (ixM p.min k).lits p.n with
          | false =>
            have HB := HBAD.out (by rw [HMK.out, g1]; rfl)
            rw [g1] at HLT0
            have HLT := HLT0
            go_wp2
            refine wp_region_ext (by kernel_rfl) (by kernel_rfl) ?_
            repeat (go_big_quiet_step ((first | (go_at_call 37; exact Calls.ext_of (HLT.out _)) | (go_at_call 38; exact Calls.ext_of_same (HTT.out _)))))
            refine wpQuiet_nil ?_
            intro _ hw'
            obtain ⟨⟨w9, hb9⟩, rfl⟩ := hw'
            try dsimp only
            go_wp2
            go_ret
            exact ⟨ret_int HB.out.symm, HFIN.out _ hb9⟩
          | true =>
          rw [g1] at HLT0
          have HLT := HLT0
          by_cases g7 : (ixM p.min k).w.length = (ixM p.min k).lits.length
          case neg =>
            have g7' : (((ixM p.min k).w.length : Int) != ((ixM p.min k).lits.length : Int)) = true := by simp; omega
            have HB := HBAD.out (by
              have : weightsB (ixM p.min k).w (ixM p.min k).lits.length = false := by
                unfold weightsB
                rw [show decide (((ixM p.min k).w.length : Int) = ((ixM p.min k).lits.length : Int)) = false from decide_eq_false (by omega)]; simp
              rw [HMK.out, g1, this]; rfl)
            clear g7
            go_wp2
            refine wp_region_ext (by kernel_rfl) (by kernel_rfl) ?_
            repeat (go_big_quiet_step ((first | (go_at_call 37; exact Calls.ext_of (HLT.out _)) | (go_at_call 38; exact Calls.ext_of_same (HTT.out _)))))
            refine wpQuiet_nil ?_
            intro _ hw'
            obtain ⟨⟨w9, hb9⟩, rfl⟩ := hw'
            try dsimp only
            go_wp2
            go_ret
            exact ⟨ret_int HB.out.symm, HFIN.out _ hb9⟩
          have g7' : (((ixM p.min k).w.length : Int) != ((ixM p.min k).lits.length : Int)) = false := by simp [g7]
          cases g2 : weightsB (ixM p.min k).w (ixM p.min k).lits.length with
          | false =>
            have HB := HBAD.out (by rw [HMK.out, g1, g2]; rfl)
            have ht : totI (ixM p.min k).w = -1 := by unfold totI; rw [g7, g2]; rfl
            rw [ht] at HTT0
            have HTT := HTT0
            clear g7 ht
            go_wp2
            refine wp_region_ext (by kernel_rfl) (by kernel_rfl) ?_
            repeat (go_big_quiet_step ((first | (go_at_call 37; exact Calls.ext_of (HLT.out _)) | (go_at_call 38; exact Calls.ext_of_same (HTT.out _)))))
            refine wpQuiet_nil ?_
            intro _ hw'
            obtain ⟨⟨w9, hb9⟩, rfl⟩ := hw'
            try dsimp only
            go_wp2
            go_ret
            exact ⟨ret_int HB.out.symm, HFIN.out _ hb9⟩
          | true =>
          have ht : 0 ≤ totI (ixM p.min k).w := totI_pos (by rw [g7]; exact g2)
          have ht' : decide (totI (ixM p.min k).w < 0) = false := decide_eq_false (by omega)
          have HTT := HTT0
          clear g7
          by_cases g3 : (ixM p.min k).level < -2147483647
          · have HB := HBAD.out (by rw [HMK.out, g1, g2]; simp; omega)
            go_wp2
            refine wp_region_ext (by kernel_rfl) (by kernel_rfl) ?_
            repeat (go_big_quiet_step ((first | (go_at_call 37; exact Calls.ext_of (HLT.out _)) | (go_at_call 38; exact Calls.ext_of_same (HTT.out _)))))
            refine wpQuiet_nil ?_
            intro _ hw'
            obtain ⟨⟨w9, hb9⟩, rfl⟩ := hw'
            try dsimp only
            go_wp2
            go_ret
            exact ⟨ret_int HB.out.symm, HFIN.out _ hb9⟩
          have g3' : decide ((ixM p.min k).level < -2147483647) = false := by simp; omega
          by_cases g4 : 2147483647 < (ixM p.min k).level
          · have HB := HBAD.out (by rw [HMK.out, g1, g2]; simp; omega)
            go_wp2
            refine wp_region_ext (by kernel_rfl) (by kernel_rfl) ?_
            repeat (go_big_quiet_step ((first | (go_at_call 37; exact Calls.ext_of (HLT.out _)) | (go_at_call 38; exact Calls.ext_of_same (HTT.out _)))))
            refine wpQuiet_nil ?_
            intro _ hw'
            obtain ⟨⟨w9, hb9⟩, rfl⟩ := hw'
            try dsimp only
            go_wp2
            go_ret
            exact ⟨ret_int HB.out.symm, HFIN.out _ hb9⟩
          have g4' : decide (2147483647 < (ixM p.min k).level) = false := by simp; omega
          have g34 : decide (-2147483647 ≤ (ixM p.min k).level ∧ (ixM p.min k).level ≤ 2147483647) = true := by simp; omega
          by_cases hk0 : k = 0
          · have hkp : decide (0 < k) = false := by simp; omega
            have HZ : Hid (minAt p.min p.n k = true) := Lib.hid (by rw [HMK.out, g1, g2, g34, hk0]; rfl)
            clear hk0 g34
            go_wp2
            refine wp_region_ext (by kernel_rfl) (by kernel_rfl) ?_
            repeat (go_big_quiet_step ((first | (go_at_call 37; exact Calls.ext_of (HLT.out _)) | (go_at_call 38; exact Calls.ext_of_same (HTT.out _)))))
            refine wpQuiet_nil ?_
            intro _ hw'
            obtain ⟨⟨w9, hb9⟩, rfl⟩ := hw'
            try dsimp only
            go_wp2
            first
              | (go_roundw
                 case rel => (exact ⟨k + 1, by omega, by go_num, lt_succ_all HOK.out HZ.out, HFIN2.out _ hb9⟩)
                 case measure => (simp [intOf]; omega))
              | (refine ⟨?_, ?_⟩
                 · (exact ⟨k + 1, by omega, by go_num, lt_succ_all HOK.out HZ.out, HFIN2.out _ hb9⟩)
                 · (simp [intOf]; omega))
          have hkp : decide (0 < k) = true := by simp; omega
          have hkq : (0 : Int) < (k : Int) := by omega
          have hkn : (0 : Int) ≤ (k : Int) - 1 := by omega
          have hkm : ((k : Int) - 1).toNat = k - 1 := by omega
          have hkb : (k == 0) = false := by simp [hk0]
          by_cases g5 : (ixM p.min (k - 1)).level ≤ (ixM p.min k).level
          · have HB := HBAD.out (by rw [HMK.out, g1, g2, g34, hkb]; simp; omega)
            clear g34 hkb
            go_wp2
            refine wp_region_ext (by kernel_rfl) (by kernel_rfl) ?_
            repeat (go_big_quiet_step ((first | (go_at_call 37; exact Calls.ext_of (HLT.out _)) | (go_at_call 38; exact Calls.ext_of_same (HTT.out _)))))
            refine wpQuiet_nil ?_
            intro _ hw'
            obtain ⟨⟨w9, hb9⟩, rfl⟩ := hw'
            try dsimp only
            go_wp2
            go_ret
            exact ⟨ret_int HB.out.symm, HFIN.out _ hb9⟩
          · have g5' : decide ((ixM p.min (k - 1)).level ≤ (ixM p.min k).level) = false := by simp; omega
            have HZ : Hid (minAt p.min p.n k = true) := Lib.hid (by rw [HMK.out, g1, g2, g34, hkb]; simp; omega)
            clear g34 hkb
            go_wp2
            refine wp_region_ext (by kernel_rfl) (by kernel_rfl) ?_
            repeat (go_big_quiet_step ((first | (go_at_call 37; exact Calls.ext_of (HLT.out _)) | (go_at_call 38; exact Calls.ext_of_same (HTT.out _)))))
            refine wpQuiet_nil ?_
            intro _ hw'
            obtain ⟨⟨w9, hb9⟩, rfl⟩ := hw'
            try dsimp only
            go_wp2
            first
              | (go_roundw
                 case rel => (exact ⟨k + 1, by omega, by go_num, lt_succ_all HOK.out HZ.out, HFIN2.out _ hb9⟩)
                 case measure => (simp [intOf]; omega))
              | (refine ⟨?_, ?_⟩
                 · (exact ⟨k + 1, by omega, by go_num, lt_succ_all HOK.out HZ.out, HFIN2.out _ hb9⟩)
                 · (simp [intOf]; omega))
        · have HL2 : Hid (k = p.min.length) := Lib.hid (by omega)
          have HE : Hid (validE p = 0) := Lib.hid (by rw [HF.out, minsB, allR_true (by rw [← HL2.out]; exact HOK.out)]; simp [h3])
          go_wp2
          go_ret
          exact ⟨ret_int HE.out.symm, hbw⟩

end Go.Proofs.Ytkjpnpkmnpofgaa
