/- Lists of lists of bytes that came in; the number of a map's entries. -/
import Derived.Test.YtkjpnpkmnpofgaaOpen
import Derived.Test.YtkjpnpkmnpofgaaPlain2
namespace Go.Proofs.Ytkjpnpkmnpofgaa
open Go.RowKit

def ix8 (l : List (List Int)) (i : Nat) : List Int := l.getD i []

def Rows8 (w : World) (v : Value) (ls : List (List Int)) : Prop := ∃ f : Nat → Value, Sl w v 24 ls.length f ∧ ∀ i, i < ls.length → Bytes8 w (f i) (ix8 ls i)

theorem Rows8.below {w w' : World} {v : Value} {ls : List (List Int)} (h : Rows8 w v ls) (hb : Below w.heap.size w w') : Rows8 w' v ls :=
  let ⟨f, h1, h2⟩ := h; ⟨f, h1.below hb, fun i hi => (h2 i hi).below hb⟩

theorem Rows8.form {w : World} {v : Value} {ls : List (List Int)} (h : Rows8 w v ls) : ∃ a c, v = .slice a ls.length c ∧ ls.length ≤ c ∧ c ≤ maxLen ∧ ls.length ≤ 1000000000000000 := by
  obtain ⟨f, ⟨a, c, e, h1, h2, h3, -⟩, -⟩ := h
  exact ⟨a, c, e, h1, h2, by omega⟩

/-- One row: its value, in this world and all above. -/
theorem Rows8.at {w : World} {ad : Option Addr} {n c : Nat} {ls : List (List Int)} (h : Rows8 w (.slice ad n c) ls) {k : Nat} (hk : k < ls.length) :
    ∃ b off v, ad = some ⟨b, off, none⟩ ∧ b < w.heap.size ∧ w.cell? ⟨b, off + k, none⟩ = some v ∧ Bytes8 w v (ix8 ls k) := by
  obtain ⟨f, ⟨a2, c2, e, h1, h2, h3, h4⟩, h5⟩ := h
  obtain ⟨b, off, e2, hl, hc⟩ := h4 (by omega)
  simp only [Value.slice.injEq] at e
  exact ⟨b, off, f k, e.1.trans e2, hl, hc k hk, h5 k hk⟩

section
variable {H : Type} {enc : TypeId × Value → H} {w : World}

theorem open_Rows8 {cs : List Value} (h : Reads enc Try.prog w 28 cs) : ∃ v l, cs = [v] ∧ Rows8 w v l := by
  obtain ⟨a, n, cap, rfl, h1, h2, h3, h4⟩ := open_slc (sz := 1) (byt := 24) Try.underlying28 (by kernel_rfl) (Nat.le_refl _) (by kernel_rfl) h
  by_cases hp : 0 < n
  · obtain ⟨b, off, rfl, hb, hel⟩ := h4 hp
    obtain ⟨l, hl, hq⟩ := list_of (nilS, ([] : List Int)) (Q := fun i (q : Value × List Int) => w.cell? ⟨b, off + i, none⟩ = some q.1 ∧ Bytes8 w q.1 q.2) n (fun i hi => by
      obtain ⟨cs', h5, h6, h7⟩ := hel i hi
      obtain ⟨v, z, rfl, hz⟩ := open_Bytes8 h7
      have := h6 0 (by omega)
      simp only [Nat.mul_one, Nat.add_zero, List.getElem?_cons_zero] at this
      exact ⟨(v, z), this, hz⟩)
    have hix : ∀ i, i < n → ix8 (l.map (·.2)) i = (l.getD i (nilS, [])).2 := fun i hi => by
      simp [ix8, List.getD_eq_getElem?_getD, List.getElem?_eq_getElem (show i < l.length by omega)]
    refine ⟨_, l.map (·.2), rfl, fun i => (l.getD i (nilS, [])).1, ⟨_, cap, by rw [List.length_map, hl], by simp [hl]; omega, h2, by simp [hl]; omega, fun _ => ⟨b, off, rfl, hb, fun i hi => ?_⟩⟩, fun i hi => ?_⟩
    · simp only [List.length_map, hl] at hi
      exact (hq i hi).1
    · simp only [List.length_map, hl] at hi
      rw [hix i hi]
      exact (hq i hi).2
  · obtain rfl : n = 0 := by omega
    exact ⟨_, [], rfl, fun _ => nilS, ⟨a, cap, rfl, h1, h2, by simp, fun h => absurd h (by simp)⟩, fun i hi => absurd hi (by simp)⟩
end

/-! ### The number of entries -/
theorem count_keys {G : Int → Int} : ∀ (n : Nat) (l : List Int), l.Nodup → (∀ k, k ∈ l ↔ 1 ≤ k ∧ k ≤ n ∧ 0 < G k) → l.length = cntF G n
  | 0, l, _, h => by
    cases l with
    | nil => rfl
    | cons x l => have := (h x).1 (.head _); omega
  | n + 1, l, hn, h => by
    unfold cntF
    by_cases e : 0 < G ((n : Int) + 1)
    · have hm : (n : Int) + 1 ∈ l := (h _).2 ⟨by omega, by push_cast; omega, e⟩
      have hl := List.length_erase_of_mem hm
      have hp : 0 < l.length := List.length_pos_of_mem hm
      have := count_keys n (l.erase ((n : Int) + 1)) (hn.erase _) (fun k => by
        rw [hn.mem_erase_iff, h k]
        push_cast
        constructor
        · rintro ⟨h1, h2, h3, h4⟩; exact ⟨h2, by omega, h4⟩
        · rintro ⟨h2, h3, h4⟩; exact ⟨by omega, h2, by omega, h4⟩)
      rw [if_pos e]; omega
    · have := count_keys n l hn (fun k => by
        rw [h k]
        push_cast
        constructor
        · rintro ⟨h2, h3, h4⟩
          refine ⟨h2, ?_, h4⟩
          have : k ≠ (n : Int) + 1 := fun e' => e (e' ▸ h4)
          omega
        · rintro ⟨h2, h3, h4⟩; exact ⟨h2, by omega, h4⟩)
      rw [if_neg e]; omega

theorem map_size {w : World} {b : Nat} {G : Int → Int} {n : Nat} (h : MapIs (Value.int .i64) w b (mapI G)) (hG : ∀ x, G x ≠ 0 ↔ (1 ≤ x ∧ x ≤ n ∧ 0 < G x)) :
    ∃ es clock, w.heap[b]? = some (.map es clock) ∧ es.size = cntF G n := by
  obtain ⟨es, clock, hb, hs, hk, hg⟩ := h
  refine ⟨es, clock, hb, ?_⟩
  have hkeys : ∀ x ∈ es.toList, ∃ k : Int, x.key = Value.int .i64 k := hk
  let key : MapEntry → Int := fun x => match x.key with | .int _ k => k | _ => 0
  have hkey : ∀ x ∈ es.toList, x.key = Value.int .i64 (key x) := fun x hx => by
    obtain ⟨k, e⟩ := hkeys x hx
    simp only [key, e]
  have hnd : (es.toList.map key).Nodup := by
    have h3 := hs.2.2
    have e : es.toList.map (·.key) = (es.toList.map key).map (Value.int .i64) := by
      rw [List.map_map]
      exact List.map_congr_left fun x hx => hkey x hx
    rw [e] at h3
    exact (List.pairwise_map.1 h3).imp (fun h e => h (by rw [e]))
  have := count_keys (G := G) n (es.toList.map key) hnd (fun k => by
    rw [← hG k]
    constructor
    · intro hm
      obtain ⟨x, hx, e⟩ := List.mem_map.1 hm
      have := (hg k x.val).2 ⟨x, hx, by rw [hkey x hx, e], rfl⟩
      intro h0
      simp [mapI, h0] at this
    · intro h0
      obtain ⟨x, hx, e, -⟩ := (hg k (.int .i64 (G k))).1 (by simp [mapI, h0])
      rw [hkey x hx] at e
      injection e with _ e
      exact List.mem_map.2 ⟨x, hx, e⟩)
  simpa using this

end Go.Proofs.Ytkjpnpkmnpofgaa
