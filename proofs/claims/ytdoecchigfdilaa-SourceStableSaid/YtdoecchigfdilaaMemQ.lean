/- reduct.member: a set of atoms as a map and a closure. -/
import Derived.Test.YtdoecchigfdilaaMB
import Derived.Test.YtdoecchigfdilaaME
namespace Go.Proofs.Ytdoecchigfdilaa
open Go.RowKit

theorem run_makeMapI {P : Program} {t kt et : TypeId} (ht : P.underlying t = some (.map kt et)) (n : Int) (w : World) : (Instr.makeMap t (some (.int .i64 n))).run P w = .ok (.map (some w.heap.size)) (w.alloc (.map #[] 0)) := by
  simp [Instr.makeMap, run_underlying ht, Result.andThen, asInt, asIntOf]

/-- The map of a list's atoms under way. -/
def MemSt (W4 : World) (bm : Nat) (U : List Int) (k : Nat) (wx : World) : Prop :=
  ∃ G, MapIs (Value.int .i64) wx bm (mapI G) ∧ (∀ y, 0 ≤ G y ∧ G y ≤ k ∧ (0 < G y ↔ y ∈ U.take k)) ∧ Below W4.heap.size W4 wx

def MemRel (W4 : World) (bm : Nat) (U : List Int) (i : Value) (wx : World) : Prop := ∃ k : Nat, k ≤ U.length ∧ i = .int .i64 k ∧ MemSt W4 bm U k wx

theorem take_ixM (U : List Int) (k : Nat) (hk : k < U.length) : U.take (k + 1) = U.take k ++ [ix U k] := by
  rw [List.take_succ_eq_append_getElem hk]
  simp [ix, List.getD_eq_getElem?_getD, List.getElem?_eq_getElem hk]

theorem MemSt.start (W4 : World) (U : List Int) : MemSt W4 W4.heap.size U 0 (W4.alloc (.map #[] 0)) := by
  refine ⟨fun _ => 0, ?_, fun y => by simp, bal (Below.refl _ _) _⟩
  have : mapI (fun _ => 0) = fun _ => none := by funext x; simp [mapI]
  rw [this]; exact MapIs.made W4

theorem MemSt.put {W4 wx w7 : World} {U : List Int} {k : Nat} {G : Int → Int} (hG : ∀ y, 0 ≤ G y ∧ G y ≤ k ∧ (0 < G y ↔ y ∈ U.take k)) (hb : Below W4.heap.size W4 wx) (hk : k < U.length)
    (hm : MapIs (Value.int .i64) w7 W4.heap.size (upd (mapI G) (ix U k) (some (.int .i64 (G (ix U k) + 1))))) (hg : wx.grownBy w7 (some W4.heap.size)) : MemSt W4 W4.heap.size U (k + 1) w7 := by
  have hx := hG (ix U k)
  have hsz := hb.size
  refine ⟨setI G (ix U k) (G (ix U k) + 1), by rw [mapI_set (by omega)]; exact hm, fun y => ?_, hb.trans ⟨hg.os, hg.tape, hg.output, hg.size, fun i hi => hg.block i (by omega) (fun e => by have := Option.some.inj e; omega)⟩⟩
  rw [take_ixM U k hk, List.mem_append, List.mem_singleton]
  by_cases e : y = ix U k
  · subst e
    have e2 : setI G (ix U k) (G (ix U k) + 1) (ix U k) = G (ix U k) + 1 := by simp [setI]
    rw [e2]
    exact ⟨by omega, by omega, ⟨fun _ => .inr rfl, fun _ => by omega⟩⟩
  · have e2 : setI G (ix U k) (G (ix U k) + 1) y = G y := by simp [setI, e]
    rw [e2]
    have := hG y
    exact ⟨this.1, by omega, ⟨fun h => .inl (this.2.2.1 h), fun h => this.2.2.2 (h.resolve_right e)⟩⟩

/-- The closure of member: its box holds a map that holds m's atoms. -/
def InM (w : World) (mb : Nat) (m : List Int) : Prop :=
  ∃ b G, Blk w mb [.map (some b)] 38 ∧ MapIs (Value.int .i64) w b (mapI G) ∧ ∀ y, 0 < G y ↔ y ∈ m

theorem InM.below {w w' : World} {mb : Nat} {m : List Int} (h : InM w mb m) (hb : Below w.heap.size w w') : InM w' mb m :=
  let ⟨b, G, h1, h2, h3⟩ := h; ⟨b, G, h1.below hb, h2.below hb, h3⟩
theorem InM.lt {w : World} {mb : Nat} {m : List Int} (h : InM w mb m) : mb < w.heap.size := let ⟨_, _, h1, _⟩ := h; h1.lt

def MbRel (W : World) (m : List Int) (i : Value) (wx : World) : Prop := MemRel W W.heap.size m i wx ∧ Blk wx (W.heap.size + 1) [.map (some W.heap.size)] 38

set_option maxHeartbeats 1000000 in
theorem member_any (v : Value) (m : List Int) (w : World) (h : Ints w v m) (hlen : m.length ≤ 1000000000) :
    Calls Try.prog 63 #[v] w fun e w' => ∃ mb, e = .returned (.func (.func 93) #[] #[.pointer (some ⟨mb, 0, none⟩)]) ∧ InM w' mb m ∧ Below w.heap.size w w' := by
  obtain ⟨a1, c1, rfl, -, hl1, -, hcell⟩ := h.form
  clear h
  have hmm := fun n w => run_makeMapI Try.underlying38 n w
  go_enter Try.func63, Try.ntmps63
  go_wp2
  go_loopw [11] (fun i wx => MbRel w m i wx) (fun i _ => m.length - (intOf i).toNat)
  case atStart => exact ⟨⟨0, Nat.zero_le _, rfl, (let ⟨G, h1, h2, h3⟩ := MemSt.start w m; ⟨G, h1.alloc _, h2, bal h3 _⟩)⟩, Blk.newAt _ _ _ (by simp)⟩
  case round =>
    obtain ⟨⟨k, hk, rfl, hst⟩, hbk⟩ := hrel
    obtain ⟨G, hmap, hG, hbl⟩ := hst
    have HBL := Lib.hid hbl
    have HMAP := Lib.hid hmap
    have HG := Lib.hid hG
    have HBK := Lib.hid hbk
    have kb := hbk.cell 0
    by_cases hlt : k < m.length
    · obtain ⟨b, off, rfl, hbl2, hc⟩ := hcell (by omega)
      have hcx : wr.cell? ⟨b, off + k, none⟩ = some (.int .i64 (ix m k)) := (bcell hbl _ _ hbl2).trans (hc k hlt)
      have hlk := mapI_look hmap (ix m k)
      have hGk := hG (ix m k)
      have hGb : 0 ≤ G (ix m k) ∧ G (ix m k) ≤ 1000000000 := by omega
      clear hc hcell hmap hG hbl hGk hbk hmm
      go_wp2_with (at_mapUpdate; refine wpList_mput _ _ (ix m k) (.int .i64 (G (ix m k) + 1)) kvInt 38 3 3 Try.underlying38 Try.underlying3 rfl _ _ _ rfl rfl rfl rfl HMAP.out ?_; intro w7 hm7 hg7 hs7; have HS7 := Lib.hid (MemSt.put HG.out HBL.out hlt hm7 hg7); have HB7 := Lib.hid (HBK.out.same (hg7.block _ HBK.out.lt (by intro e; have := Option.some.inj e; omega))); clear hm7 hg7 hs7)
      first
        | (go_roundw
           case rel => (exact ⟨⟨k + 1, hlt, by go_num, HS7.out⟩, HB7.out⟩)
           case measure => (simp [intOf]; omega))
        | (refine ⟨?_, ?_⟩
           · (exact ⟨⟨k + 1, hlt, by go_num, HS7.out⟩, HB7.out⟩)
           · (simp [intOf]; omega))
    · obtain rfl : k = m.length := by omega
      have HIN : Hid (InM wr (w.heap.size + 1) m) := Lib.hid ⟨_, G, hbk, hmap, fun y => by have := (hG y).2.2; rwa [List.take_length] at this⟩
      clear hmap hG hbk hmm
      go_wp2
      go_ret
      exact ⟨_, rfl, HIN.out, HBL.out⟩

theorem memb1_any (x : Int) (m : List Int) (mb : Nat) (w : World) (h : InM w mb m) :
    Calls Try.prog 93 #[.int .i64 x, .pointer (some ⟨mb, 0, none⟩)] w fun e w' => e = .returned (.bool (decide (x ∈ m))) ∧ w = w' := by
  obtain ⟨b, G, hb, hm, hG⟩ := h
  have hlk := mapI_look hm x
  have kb := hb.cell 0
  have HF : Hid (decide (0 < G x) = decide (x ∈ m)) := Lib.hid (decide_eq_decide.2 (hG x))
  clear hm hG hb
  go_enter Try.func93, Try.ntmps93
  go_wp2
  go_ret
  exact ⟨ret_bool HF.out, rfl⟩

/-- A literal is true in a set. -/
def litT (m : List Int) (l : Int) : Bool := if 0 < l then decide (l ∈ m) else !decide (-l ∈ m)

theorem holdsL_any (x : Int) (m : List Int) (mb : Nat) (w : World) (h : InM w mb m) (hx : -9223372036854775808 < x ∧ x ≤ 9223372036854775807) :
    Calls Try.prog 92 #[.int .i64 x, .func (.func 93) #[] #[.pointer (some ⟨mb, 0, none⟩)]] w fun e w' => e = .returned (.bool (litT m x)) ∧ w = w' := by
  have H := Lib.hid h
  clear h
  by_cases hp : 0 < x
  · have HF : Hid (litT m x = decide (x ∈ m)) := Lib.hid (if_pos hp)
    go_enter Try.func92, Try.ntmps92
    go_wp2_with (go_at_call 93; (with_reducible refine (memb1_any _ m _ _ H.out).mono ?_); rintro e w1 ⟨rfl, rfl⟩)
    go_ret
    exact ⟨ret_bool HF.out.symm, rfl⟩
  · have HF : Hid (litT m x = !decide (-x ∈ m)) := Lib.hid (if_neg hp)
    go_enter Try.func92, Try.ntmps92
    go_wp2_with (go_at_call 93; (with_reducible refine (memb1_any _ m _ _ H.out).mono ?_); rintro e w1 ⟨rfl, rfl⟩)
    go_ret
    exact ⟨ret_bool HF.out.symm, rfl⟩

end Go.Proofs.Ytdoecchigfdilaa
