/- lose. -/
import Derived.Test.YtkjpnpkmnpofgaaTry2
import Derived.Test.YtkjpnpkmnpofgaaPlain2
import Derived.Deep.LoopGhost
namespace Go.Proofs.Ytkjpnpkmnpofgaa
open Go.RowKit


theorem Ints.at {w : World} {ad : Option Addr} {n c : Nat} {l : List Int} (h : Ints w (.slice ad n c) l) {k : Nat} (hk : k < l.length) :
    ∃ b off, ad = some ⟨b, off, none⟩ ∧ b < w.heap.size ∧ w.cell? ⟨b, off + k, none⟩ = some (.int .i64 (ix l k)) := by
  obtain ⟨a2, c2, e, -, -, -, hc⟩ := h.form
  obtain ⟨b, off, e2, hl, hcc⟩ := hc (by omega)
  simp only [Value.slice.injEq] at e
  exact ⟨b, off, e.1.trans e2, hl, hcc k hk⟩

theorem run_slice1 (g off n cap : Nat) (hn : n + 1 ≤ cap) (w : World) :
    (Instr.slice 23 (.slice (some ⟨g, off, none⟩) (n + 1) cap) (some (.int .i64 1)) none none).run Try.prog w = .ok (.slice (if cap = 1 then some ⟨g, off, none⟩ else some ⟨g, off + 1, none⟩) n (cap - 1)) w := by
  have ht : Try.prog.underlying 23 = some (.slice (Try.prog.elem 23)) := by kernel_rfl
  rw [run_slice_l w 23 (some ⟨g, off, none⟩) (n + 1) cap ht .i64 1 (by omega) (by omega)]
  have hs : (sizeOf (Try.prog.elem 23)).run Try.prog w = .ok 1 w := by kernel_rfl
  rw [hs]
  show Result.ok (sliced _ 1 (n + 1) cap 1) w = _
  unfold sliced
  by_cases h : cap = 1
  · subst h; simp
  · simp [h, Addr.add]

/-- The queue's head is there to be taken. -/
theorem QS.pop {base c1 q : Nat} {s : SP} {p : GP} {F K : Int → Int} {clock : Int} {a : List Int} {y : Int} {l : List Int} {w : World} (h : QS base c1 q s p F K clock a (y :: l) w) :
    ∃ g off cap av, Blk w q [.slice (some ⟨g, off, none⟩) (l.length + 1) cap] 23 ∧ w.cell? ⟨g, off, none⟩ = some (.int .i64 y) ∧ l.length + 1 ≤ cap ∧ cap ≤ maxLen ∧ InI y ∧
      (∀ w' : World, (Instr.slice 23 (.slice (some ⟨g, off, none⟩) (l.length + 1) cap) (some (.int .i64 1)) none none).run Try.prog w' = .ok (.slice av l.length (cap - 1)) w') ∧
      QS base c1 q s p F K clock a l (w.setCell ⟨q, 0, none⟩ (.slice av l.length (cap - 1))) := by
  obtain ⟨vq, hq, hr⟩ := h.queue
  have hne := hr.far hq (by decide)
  have hcq : c1 ≠ q := by
    rintro rfl
    have hb := h.box
    unfold Blk at hb hq
    rw [hb] at hq
    have := Option.some.inj hq
    injection this with _ h2 _
    revert h2; decide
  have h0 := hr
  rcases hr.2 with ⟨_, e⟩ | ⟨g, off, cap, cur, rfl, hb, hg, h1, h2, h3, h4⟩
  · cases e
  · have h1' : l.length + 1 ≤ cap := by simpa using h1
    refine ⟨g, off, cap, _, hq, ?_, h1', h2, by have := h0.1 0; simpa [ix, InI] using this, fun w' => run_slice1 g off l.length cap h1' w', ?_⟩
    · have := h4 0 (by simp)
      rw [Nat.add_zero] at this
      rw [cell_of_row w g off cur 3 (0, 0) hg, this]; simp [ix]
    · have hlow := h.lo
      have ht := h.src.top
      have hgq : g ≠ q := fun e => hne (by simp [Value.ownBlock, e])
      have hkeep : ∀ v i, i < base → (w.setCell ⟨q, 0, none⟩ v).heap[i]? = w.heap[i]? := fun v i hi => Below.heap_setCell _ _ _ _ (show i ≠ q by omega)
      have hQ : QRow base w (.slice (if cap = 1 then some ⟨g, off, none⟩ else some ⟨g, off + 1, none⟩) l.length (cap - 1)) l := by
        split
        · rename_i e
          obtain rfl : l = [] := by cases l with
            | nil => rfl
            | cons x l => simp at h1'; omega
          exact ⟨fun i => by simp [ix], .inr ⟨g, off, cap - 1, cur, rfl, hb, hg, by simp, by omega, by omega, fun i hi => by simp at hi⟩⟩
        · have := h0.tail
          simpa using this
      exact ⟨h.src.keep (by simp [World.setCell]) (fun i hi => hkeep _ i hi), h.box.setOther _ _ hcq, ⟨_, hq.set 0 _, hQ.kept (fun i _ _ hi => Below.heap_setCell _ _ _ _ (fun e => by
        subst e; split at hi <;> simp [Value.ownBlock] at hi <;> exact hgq hi))⟩, h.lo⟩

/-- lose, under way, in memory. -/
def LSt (base c1 q : Nat) (s : SP) (p : GP) (clock : Int) (a : List Int) (w0 : World) (X : Int) (R : Int → Int → Prop) (n : Nat) (wx : World) : Prop :=
  ∃ F K l, QS base c1 q s p F K clock a l wx ∧ LI p a F K clock l X R ∧ Lim base s.mut w0 wx ∧ cntF F p.n.toNat + l.length ≤ n

def LR1 (base c1 q : Nat) (s : SP) (p : GP) (clock : Int) (a : List Int) (w0 : World) (i : Value) (wx : World) : Prop :=
  ∃ x : Int, 1 ≤ x ∧ x ≤ p.n + 1 ∧ i = .int .i64 x ∧ LSt base c1 q s p clock a w0 x (fun z _ => x ≤ z) p.n.toNat wx

def LR3 (base c1 q : Nat) (s : SP) (p : GP) (clock : Int) (a : List Int) (w0 : World) (row : List Int) (N : Nat) (i : Value) (wx : World) : Prop :=
  ∃ k : Nat, k ≤ row.length ∧ i = .int .i64 k ∧ LSt base c1 q s p clock a w0 (p.n + 1) (R3 row k) N wx

def LR4 (base c1 q : Nat) (s : SP) (p : GP) (clock : Int) (a : List Int) (w0 : World) (row head : List Int) (k N : Nat) (i : Value) (wx : World) : Prop :=
  ∃ m : Nat, m ≤ head.length ∧ i = .int .i64 m ∧ LSt base c1 q s p clock a w0 (p.n + 1) (R4 row head k m) N wx

def LosePost (s : SP) (p : GP) (a : List Int) (clock : Int) (w w' : World) : Prop :=
  Lim w.heap.size s.mut w w' ∧ ∃ F' K', Lost p a F' K' clock ∧ Src w.heap.size s p F' K' clock a w'

section
variable {m : Nat} {s : SP} {p : GP} {F K : Int → Int} {clock : Int} {a : List Int} {w : World}

theorem LSt.start (h : Src m s p F K clock a w) (hi : SInv p F K clock) : ∀ w', w' = (w.alloc (.cells #[.pointer (some ⟨s.b, 0, none⟩)] 31)).alloc (.cells #[nilS] 23) →
    LR1 w.heap.size w.heap.size (w.heap.size + 1) s p clock a w (.int .i64 1) w' := by
  rintro w' rfl
  have hv := validP h.valid
  have hvn := hv.n
  have h1 := LI.start (p := p) (a := a) hi hvn.1
  have ht := h.top
  have hb : Below w.heap.size w ((w.alloc (.cells #[.pointer (some ⟨s.b, 0, none⟩)] 31)).alloc (.cells #[nilS] 23)) := bal (bal (Below.refl _ _) _) _
  refine ⟨1, by omega, by omega, rfl, F, K, [], ⟨(h.mono ht.2 (Nat.le_refl _)).below hb, (Blk.new w _ _).alloc _, ⟨nilS, Blk.new2 w _ _ _, QRow.nil _ _⟩, ⟨Nat.le_refl _, by omega⟩⟩, h1, .of_below hb (Nat.le_refl _), ?_⟩
  have := h1.cnt
  omega

theorem LI.cntDrop {l : List Int} {X : Int} {R : Int → Int → Prop} {N : Nat} (h : LI p a F K clock l X R) (hc : cntF F p.n.toNat + l.length ≤ N) (x : Int) (hx : 0 < F x) : cntF (setI F x 0) p.n.toNat + (l ++ [x]).length ≤ N := by
  have hi := h.inv x
  have h3 := cntF_down F x hx p.n.toNat (by omega) (by omega)
  simp only [List.length_append, List.length_singleton]
  omega

/-- x has been dropped. -/
theorem LSt.dropped {base c1 q N : Nat} {l : List Int} {X X' x : Int} {R R' : Int → Int → Prop} {w0 w1 w2 : World} (h : LI p a F K clock l X R) (hc : cntF F p.n.toNat + l.length ≤ N) (hl : Lim base s.mut w0 w1)
    (hx : 0 < F x) (h1 : Lim base s.mut w1 w2) (h2 : if 0 < F x then QS base c1 q s p (setI F x 0) (setI K x 0) clock a (l ++ [x]) w2 else w2 = w1) (hX : ∀ z, z < X' → z ≠ x → z < X) (hR : ∀ z i, z ≠ x → R z i → R' z i) : LSt base c1 q s p clock a w0 X' R' N w2 := by
  rw [if_pos hx] at h2
  exact ⟨_, _, _, h2, h.drop x hx hX hR, hl.trans h1, h.cntDrop hc x hx⟩

set_option maxHeartbeats 4000000 in
set_option maxRecDepth 100000 in
theorem lose_any (h : Src m s p F K clock a w) (hi : SInv p F K clock) :
    Calls Try.prog 40 #[.pointer (some ⟨s.b, 0, none⟩)] w fun e w' => e = .returned (.tuple #[]) ∧ LosePost s p a clock w w' := by
  have HST := Lib.hid (LSt.start h hi)
  have hv := validP h.valid
  have hvn := hv.n
  have hvr := hv.rules
  clear h hi hv
  go_enter Try.func40, Try.ntmps40
  go_wp2
  go_loopw [4] (fun i wx => LR1 w.heap.size w.heap.size (w.heap.size + 1) s p clock a w i wx) (fun i _ => (p.n + 1 - intOf i).toNat)
  case atStart => exact HST.out _ rfl
  case round =>
    obtain ⟨x, hx1, hx2, rfl, F', K', l, hqs, hli, hlim, hcnt⟩ := hrel
    have HQ := Lib.hid hqs
    have HLI := Lib.hid hli
    have HLM := Lib.hid hlim
    have HCN := Lib.hid hcnt
    have hbox := hqs.box.lt
    have ht := hqs.src.top
    obtain ⟨va, hob, -⟩ := hqs.src.obj
    have zb := hob.lt
    have kb : ∀ e : Ext wr, ∀ o, e.world.cell? ⟨w.heap.size, o, none⟩ = [Value.pointer (some ⟨s.b, 0, none⟩)][o]? := fun e o => (bcell e.below _ o hbox).trans (HQ.out.box.cell o)
    have ko : ∀ e : Ext wr, ∀ o, e.world.cell? ⟨s.b, o, none⟩ = [Value.int .i64 p.n, s.vn, nilS, s.vr, nilS, .map (some s.bh), .map (some s.bu), .map (some s.bf), .map (some s.bk), .int .i64 clock, va][o]? := fun e o => (bcell e.below _ o zb).trans (hob.cell o)
    have kb0 := HQ.out.box.cell
    have ko0 := hob.cell
    have HS : Hid (∀ e : Ext wr, Src w.heap.size s p F' K' clock a e.world) := Lib.hid (fun e => HQ.out.src.below e.below)
    clear hqs hli hlim hcnt hob
    by_cases hlt : x ≤ p.n
    · by_cases hF : 0 < F' x
      · have hinv := HLI.out.inv x
        obtain ⟨i, hi, hil⟩ : ∃ i : Nat, F' x = i + 1 ∧ i < p.rules.length := ⟨(F' x - 1).toNat, by omega, by have := hinv.resolve_left (by omega); have := this.2.2.2.1.2.1; omega⟩
        have HI := Lib.hid hi
        have hi4 : i ≤ 40000 := by omega
        have kF : ∀ e : Ext wr, (Instr.lookup 48 (.map (some s.bf)) (.int .i64 x) false).run Try.prog e.world = .ok (.int .i64 ((i : Int) + 1)) e.world := fun e => by rw [← HI.out]; exact (HS.out e).lookF x
        have kK : ∀ e : Ext wr, (Instr.lookup 48 (.map (some s.bk)) (.int .i64 x) false).run Try.prog e.world = .ok (.int .i64 (K' x)) e.world := fun e => (HS.out e).lookK x
        have HFD : Hid (∀ e : Ext wr, Calls Try.prog 42 #[.pointer (some ⟨s.b, 0, none⟩), .int .i64 x] e.world fun x w' => x = .returned (.bool true) ∧ e.world = w') := Lib.hid (fun e => by
          rw [← decide_eq_true hF]; exact founded_any (HS.out e) x)
        have hxI : InI x := by unfold InI; omega
        have hlen : (l.length + 1) * 8 ≤ 140737488351232 := by have := HCN.out; omega
        have HF := Lib.hid hF
        clear hF hi hinv
        cases ho : offB a x with
        | true =>
          have HOF : Hid (∀ e : Ext wr, Calls Try.prog 43 #[.pointer (some ⟨s.b, 0, none⟩), .int .i64 x] e.world fun x w' => x = .returned (.bool true) ∧ e.world = w') := Lib.hid (fun e => by
            rw [← ho]; exact off_any (HS.out e) x (by omega) (by omega))
          go_wp2
          refine wp_region_ext (by kernel_rfl) (by kernel_rfl) ?_
          repeat (go_big_quiet_step ((first | (go_at_call 42; exact Calls.ext_of_same (HFD.out _)) | (go_at_call 43; exact Calls.ext_of_same (HOF.out _)))))
          refine wpQuiet_nil ?_
          intro _ hw'
          obtain ⟨⟨w9, hb9⟩, rfl⟩ := hw'
          try dsimp only
          have HQ9 := Lib.hid (HQ.out.below hb9)
          have HL9 := Lib.hid (HLM.out.trans (.of_below hb9 ht.2))
          go_wp2_with (go_at_call 67; refine (drop_any HQ9.out x hxI hlen).mono ?_; rintro e w1 ⟨rfl, hl1, hq1⟩; have HN := Lib.hid (LSt.dropped (X' := x + 1) (R' := fun z _ => x + 1 ≤ z) HLI.out HCN.out HL9.out HF.out hl1 hq1 (fun z h1 h2 => by omega) (fun z i h1 h2 => by show x + 1 ≤ z; have : x ≤ z := h2; omega)); clear hl1 hq1)
          first
            | (go_roundw
               case rel => (exact ⟨x + 1, by omega, by omega, rfl, HN.out⟩)
               case measure => (simp [intOf]; omega))
            | (refine ⟨?_, ?_⟩
               · (exact ⟨x + 1, by omega, by omega, rfl, HN.out⟩)
               · (simp [intOf]; omega))
        | false =>
          have HOF : Hid (∀ e : Ext wr, Calls Try.prog 43 #[.pointer (some ⟨s.b, 0, none⟩), .int .i64 x] e.world fun x w' => x = .returned (.bool false) ∧ e.world = w') := Lib.hid (fun e => by
            rw [← ho]; exact off_any (HS.out e) x (by omega) (by omega))
          cases hav : availB p a F' K' i (K' x) with
          | true =>
            have HAV : Hid (∀ e : Ext wr, Calls Try.prog 68 #[.pointer (some ⟨s.b, 0, none⟩), .int .i64 i, .int .i64 (K' x)] e.world fun x w' => x = .returned (.bool true) ∧ Below e.world.heap.size e.world w') := Lib.hid (fun e => by
              rw [← hav]; exact available_any (HS.out e) i hil (K' x))
            go_wp2
            refine wp_region_ext (by kernel_rfl) (by kernel_rfl) ?_
            repeat (go_big_quiet_step ((first | (go_at_call 42; exact Calls.ext_of_same (HFD.out _)) | (go_at_call 43; exact Calls.ext_of_same (HOF.out _)) | (go_at_call 68; exact Calls.ext_of (HAV.out _)))))
            refine wpQuiet_nil ?_
            intro _ hw'
            obtain ⟨⟨w9, hb9⟩, rfl⟩ := hw'
            try dsimp only
            go_wp2
            first
              | (go_roundw
                 case rel => (exact ⟨x + 1, by omega, by omega, rfl, F', K', l, HQ.out.below hb9, HLI.out.keep (fun z h1 h2 => by by_cases e : z = x; (subst e; right; exact ho); (left; omega)) (fun z h1 h2 => by by_cases e : z = x; (subst e; left; rw [HI.out, Int.add_sub_cancel]; exact hav); (right; show x + 1 ≤ z; have : x ≤ z := h2; omega)), HLM.out.trans (.of_below hb9 ht.2), HCN.out⟩)
                 case measure => (simp [intOf]; omega))
              | (refine ⟨?_, ?_⟩
                 · (exact ⟨x + 1, by omega, by omega, rfl, F', K', l, HQ.out.below hb9, HLI.out.keep (fun z h1 h2 => by by_cases e : z = x; (subst e; right; exact ho); (left; omega)) (fun z h1 h2 => by by_cases e : z = x; (subst e; left; rw [HI.out, Int.add_sub_cancel]; exact hav); (right; show x + 1 ≤ z; have : x ≤ z := h2; omega)), HLM.out.trans (.of_below hb9 ht.2), HCN.out⟩)
                 · (simp [intOf]; omega))
          | false =>
            have HAV : Hid (∀ e : Ext wr, Calls Try.prog 68 #[.pointer (some ⟨s.b, 0, none⟩), .int .i64 i, .int .i64 (K' x)] e.world fun x w' => x = .returned (.bool false) ∧ Below e.world.heap.size e.world w') := Lib.hid (fun e => by
              rw [← hav]; exact available_any (HS.out e) i hil (K' x))
            go_wp2
            refine wp_region_ext (by kernel_rfl) (by kernel_rfl) ?_
            repeat (go_big_quiet_step ((first | (go_at_call 42; exact Calls.ext_of_same (HFD.out _)) | (go_at_call 43; exact Calls.ext_of_same (HOF.out _)) | (go_at_call 68; exact Calls.ext_of (HAV.out _)))))
            refine wpQuiet_nil ?_
            intro _ hw'
            obtain ⟨⟨w9, hb9⟩, rfl⟩ := hw'
            try dsimp only
            have HQ9 := Lib.hid (HQ.out.below hb9)
            have HL9 := Lib.hid (HLM.out.trans (.of_below hb9 ht.2))
            go_wp2_with (go_at_call 67; refine (drop_any HQ9.out x hxI hlen).mono ?_; rintro e w1 ⟨rfl, hl1, hq1⟩; have HN := Lib.hid (LSt.dropped (X' := x + 1) (R' := fun z _ => x + 1 ≤ z) HLI.out HCN.out HL9.out HF.out hl1 hq1 (fun z h1 h2 => by omega) (fun z i h1 h2 => by show x + 1 ≤ z; have : x ≤ z := h2; omega)); clear hl1 hq1)
            first
              | (go_roundw
                 case rel => (exact ⟨x + 1, by omega, by omega, rfl, HN.out⟩)
                 case measure => (simp [intOf]; omega))
              | (refine ⟨?_, ?_⟩
                 · (exact ⟨x + 1, by omega, by omega, rfl, HN.out⟩)
                 · (simp [intOf]; omega))
      · have HFD : Hid (∀ e : Ext wr, Calls Try.prog 42 #[.pointer (some ⟨s.b, 0, none⟩), .int .i64 x] e.world fun x w' => x = .returned (.bool false) ∧ e.world = w') := Lib.hid (fun e => by
          rw [← decide_eq_false hF]; exact founded_any (HS.out e) x)
        go_wp2
        refine wp_region_ext (by kernel_rfl) (by kernel_rfl) ?_
        repeat (go_big_quiet_step ((first | (go_at_call 42; exact Calls.ext_of_same (HFD.out _)))))
        refine wpQuiet_nil ?_
        intro _ hw'
        obtain ⟨⟨w9, hb9⟩, rfl⟩ := hw'
        try dsimp only
        go_wp2
        first
          | (go_roundw
             case rel => (exact ⟨x + 1, by omega, by omega, rfl, F', K', l, HQ.out.below hb9, HLI.out.keep (fun z h1 h2 => by by_cases e : z = x; (subst e; omega); (left; omega)) (fun z h1 h2 => by by_cases e : z = x; (subst e; omega); (right; show x + 1 ≤ z; omega)), HLM.out.trans (.of_below hb9 ht.2), HCN.out⟩)
             case measure => (simp [intOf]; omega))
          | (refine ⟨?_, ?_⟩
             · (exact ⟨x + 1, by omega, by omega, rfl, F', K', l, HQ.out.below hb9, HLI.out.keep (fun z h1 h2 => by by_cases e : z = x; (subst e; omega); (left; omega)) (fun z h1 h2 => by by_cases e : z = x; (subst e; omega); (right; show x + 1 ≤ z; omega)), HLM.out.trans (.of_below hb9 ht.2), HCN.out⟩)
             · (simp [intOf]; omega))
    · have hst : Hid (LSt w.heap.size w.heap.size (w.heap.size + 1) s p clock a w (p.n + 1) (fun _ _ => False) p.n.toNat wr) := Lib.hid ⟨F', K', l, HQ.out, HLI.out.keep (fun z h1 h2 => by left; omega) (fun z h1 h2 => by
        rcases HLI.out.inv z with h3 | h3
        · omega
        · have : x ≤ z := h2
          omega), HLM.out, HCN.out⟩
      go_wp2
      obtain ⟨wo, rfl⟩ : ∃ wo : World, wo = wr := ⟨_, rfl⟩
      clear kb ko kb0 ko0 HS HQ HLI HLM HCN hbox ht zb
      go_loopg [] p.n.toNat (fun k wx => LSt w.heap.size w.heap.size (w.heap.size + 1) s p clock a w (p.n + 1) (fun _ _ => False) k wx)
      case atStart => exact hst.out
      case round =>
        obtain ⟨F2, K2, l2, hqs, hli, hlim, hcnt⟩ := hrel
        have HLI := Lib.hid hli
        have HLM := Lib.hid hlim
        have HCN := Lib.hid hcnt
        clear hst hli hlim hcnt
        cases l2 with
        | nil =>
          have HP : Hid (LosePost s p a clock w wr) := Lib.hid ⟨HLM.out, F2, K2, HLI.out.done (by omega) (fun _ _ h => h), hqs.src⟩
          obtain ⟨vq, hq, hr⟩ := hqs.queue
          obtain ⟨aq, nq, cq, rfl⟩ := hr.form
          obtain rfl : nq = 0 := by
            rcases hr.2 with ⟨e, _⟩ | ⟨_, _, _, _, e, _⟩
            · simp only [Value.slice.injEq] at e; exact e.2.1
            · simp only [Value.slice.injEq] at e; exact e.2.1
          have kq := hq.cell
          clear hq hr hqs
          go_wp2
          refine bodyPost_end (v := .tuple #[]) ?_ rfl ?_
          · simp [results, Try.results40, go_sem]
          · exact ⟨rfl, HP.out⟩
        | cons y l2 =>
          have hy := HLI.out.q y (.head _)
          have hrowU := hqs.src.rowsU
          obtain ⟨g, off, cap, av, hq, hkg, hcap1, hcap2, hyI, hsl, hpop⟩ := hqs.pop
          have HPOP := Lib.hid hpop
          have kq := hq.cell
          have fq := hq.free
          have hbx := hqs.box.lt
          have hlo := hqs.lo
          have zq := hq.lt
          have kb := hqs.box.cell
          obtain ⟨va, hob, -⟩ := hqs.src.obj
          have ko := hob.cell
          have ht := hqs.src.top
          have hh := hqs.src.hi
          obtain ⟨au, cu, hvu, -, hlu, -, -⟩ := (hqs.src.now.useRow y).form
          have HVU := Lib.hid hvu
          have HRU := Lib.hid hrowU
          have HY := Lib.hid hy
          have hz2 : 2 ≤ 3 := by omega
          clear hrowU hvu hqs hob hq
          go_upto_region 11 with fail
          have HST : Hid (LSt w.heap.size w.heap.size (w.heap.size + 1) s p clock a w (p.n + 1) (R3 (s.Ru y) 0) (gk - 1) (wr.setCell ⟨w.heap.size + 1, 0, none⟩ (.slice av l2.length (cap - 1)))) := Lib.hid ⟨F2, K2, l2, HPOP.out, HLI.out.pop (fun z i h => absurd h id) (fun z i _ h => R3.start HRU.out HY.out.1 h), HLM.out.trans (.setCell _ (.inr (by omega))), by have := HCN.out; simp only [List.length_cons] at this; omega⟩
          have HGK : Hid (gk - 1 < gk) := Lib.hid (by have := HCN.out; simp only [List.length_cons] at this; omega)
          have HZ : Hid ((wr.setCell ⟨w.heap.size + 1, 0, none⟩ (.slice av l2.length (cap - 1))).heap.size = wr.heap.size) := Lib.hid (by simp [World.setCell])
          clear kb ko kq fq hkg hsl
          generalize wr.setCell ⟨w.heap.size + 1, 0, none⟩ (.slice av l2.length (cap - 1)) = W1 at HST HPOP HZ ⊢
          have kb := HPOP.out.box.cell
          obtain ⟨va1, hob, -⟩ := HPOP.out.src.obj
          have ko := hob.cell
          have hlk : (Instr.lookup 50 (.map (some s.bu)) (.int .i64 y) false).run Try.prog W1 = .ok (.slice au (s.Ru y).length cu) W1 := by
            have := HPOP.out.src.now.uses.lookup kvInt Try.underlying50 Try.underlying3 (Try.zeroValue23 W1) y
            rw [← HVU.out]; exact this
          clear hob
          go_wp2
          obtain ⟨wo2, rfl⟩ : ∃ wo : World, wo = wr := ⟨_, rfl⟩
          clear kb ko hlk HPOP HLI HLM HCN
          go_loopw [66] (fun i wx => LR3 w.heap.size w.heap.size (w.heap.size + 1) s p clock a w (s.Ru y) (gk - 1) i wx) (fun i _ => (s.Ru y).length - (intOf i).toNat)
          case atStart => exact ⟨0, Nat.zero_le _, rfl, HST.out⟩
          case round =>
            obtain ⟨k, hk, rfl, F3, K3, l3, hqs, hli, hlim, hcnt⟩ := hrel
            have HLI := Lib.hid hli
            have HLM := Lib.hid hlim
            have HCN := Lib.hid hcnt
            have HQ := Lib.hid hqs
            clear HST hli hlim hcnt
            by_cases hlt : k < (s.Ru y).length
            · obtain ⟨i, hii, hil⟩ := rowU_at HRU.out hlt
              have hi4 : i ≤ 40000 := by omega
              have hfx := hqs.src.now
              obtain ⟨bu, offu, hau, hblu, hcu⟩ := Ints.at (by rw [← HVU.out]; exact hfx.useRow y) hlt
              subst hau
              rw [hii] at hcu
              obtain ⟨ar, cr, hvr2, hcr⟩ := hfx.cells
              obtain ⟨br, offr, har, hbr, hcc⟩ := hcr (by omega)
              subst har
              obtain ⟨-, rc1, -⟩ := hcc i hil
              obtain ⟨ah, ch, hvh, -, hlh, -, -⟩ := (hfx.rulesA.2 i hil).head.form
              rw [hvh] at rc1
              have HVH := Lib.hid hvh
              have kb := hqs.box.cell
              obtain ⟨va3, hob, -⟩ := hqs.src.obj
              have ko := hob.cell
              rw [hvr2] at ko
              have HII := Lib.hid hii
              have HST4 : Hid (LSt w.heap.size w.heap.size (w.heap.size + 1) s p clock a w (p.n + 1) (R4 (s.Ru y) (ixR p.rules i).head k 0) (gk - 1) wr) := Lib.hid ⟨F3, K3, l3, hqs, HLI.out.keep (fun z h1 h2 => .inl h2) (fun z h1 h2 => .inr (R4.start h2 (fun h3 => by
                rcases HLI.out.inv z with h4 | h4
                · omega
                · have := h4.2.2.2.1.2.2
                  rw [h3, HII.out] at this
                  simpa using this))), HLM.out, HCN.out⟩
              clear hfx hcr hcc hvh hvr2 hob hqs hii
              go_wp2
              obtain ⟨wo3, rfl⟩ : ∃ wo : World, wo = wr := ⟨_, rfl⟩
              clear kb ko HQ HLI HLM HCN rc1 hcu
              go_loopw [81] (fun iv wx => LR4 w.heap.size w.heap.size (w.heap.size + 1) s p clock a w (s.Ru y) (ixR p.rules i).head k (gk - 1) iv wx) (fun iv _ => (ixR p.rules i).head.length - (intOf iv).toNat)
              case atStart => exact ⟨0, Nat.zero_le _, rfl, HST4.out⟩
              case round =>
                obtain ⟨n, hn, rfl, F4, K4, l4, hqs, hli, hlim, hcnt⟩ := hrel
                have HLI := Lib.hid hli
                have HLM := Lib.hid hlim
                have HCN := Lib.hid hcnt
                have HQ := Lib.hid hqs
                clear HST4 hli hlim hcnt
                by_cases hlt4 : n < (ixR p.rules i).head.length
                · obtain ⟨bh, offh, hah, hblh, hch⟩ := Ints.at (by rw [← HVH.out]; exact (hqs.src.now.rulesA.2 i hil).head) hlt4
                  subst hah
                  obtain ⟨h, hhd⟩ : ∃ h, h = ix (ixR p.rules i).head n := ⟨_, rfl⟩
                  rw [← hhd] at hch
                  have HHD := Lib.hid hhd
                  have hbox := hqs.box.lt
                  have ht4 := hqs.src.top
                  obtain ⟨va4, hob, -⟩ := hqs.src.obj
                  have zb := hob.lt
                  have kb : ∀ e : Ext wr, ∀ o, e.world.cell? ⟨w.heap.size, o, none⟩ = [Value.pointer (some ⟨s.b, 0, none⟩)][o]? := fun e o => (bcell e.below _ o hbox).trans (HQ.out.box.cell o)
                  have ko : ∀ e : Ext wr, ∀ o, e.world.cell? ⟨s.b, o, none⟩ = [Value.int .i64 p.n, s.vn, nilS, s.vr, nilS, .map (some s.bh), .map (some s.bu), .map (some s.bf), .map (some s.bk), .int .i64 clock, va4][o]? := fun e o => (bcell e.below _ o zb).trans (hob.cell o)
                  have HS : Hid (∀ e : Ext wr, Src w.heap.size s p F4 K4 clock a e.world) := Lib.hid (fun e => HQ.out.src.below e.below)
                  have hfit : InI h := by have := HQ.out.src.rowsH; have h1 := (HQ.out.src.now.rulesA.2 i hil).head.2 n; rw [← hhd] at h1; exact h1
                  have hbi : InI (F4 h) := HQ.out.src.fitF h
                  unfold InI at hbi
                  have kK : ∀ e : Ext wr, (Instr.lookup 48 (.map (some s.bk)) (.int .i64 h) false).run Try.prog e.world = .ok (.int .i64 (K4 h)) e.world := fun e => (HS.out e).lookK h
                  clear hqs hob hhd
                  by_cases hF : F4 h = i + 1
                  · have kF : ∀ e : Ext wr, (Instr.lookup 48 (.map (some s.bf)) (.int .i64 h) false).run Try.prog e.world = .ok (.int .i64 ((i : Int) + 1)) e.world := fun e => by rw [← hF]; exact (HS.out e).lookF h
                    have HF := Lib.hid hF
                    have HF0 : Hid (0 < F4 h) := Lib.hid (by omega)
                    clear hF hbi
                    cases hav : availB p a F4 K4 i (K4 h) with
                    | true =>
                      have HAV : Hid (∀ e : Ext wr, Calls Try.prog 68 #[.pointer (some ⟨s.b, 0, none⟩), .int .i64 i, .int .i64 (K4 h)] e.world fun x w' => x = .returned (.bool true) ∧ Below e.world.heap.size e.world w') := Lib.hid (fun e => by
                        rw [← hav]; exact available_any (HS.out e) i hil (K4 h))
                      go_wp2
                      refine wp_region_ext (by kernel_rfl) (by kernel_rfl) ?_
                      repeat (go_big_quiet_step ((first | (go_at_call 68; exact Calls.ext_of (HAV.out _)))))
                      refine wpQuiet_nil ?_
                      intro _ hw'
                      obtain ⟨⟨w9, hb9⟩, rfl⟩ := hw'
                      try dsimp only
                      go_wp2
                      first
                        | (go_roundw
                           case rel => (exact ⟨n + 1, by omega, by go_num, F4, K4, l4, HQ.out.below hb9, HLI.out.keep (fun z h1 h2 => .inl h2) (fun z h1 h2 => (R4.next h2).imp (fun ⟨e1, e2⟩ => by rw [HII.out] at e2; rw [e1, ← HHD.out, HF.out, Int.add_sub_cancel]; exact hav) id), HLM.out.trans (.of_below hb9 ht4.2), HCN.out⟩)
                           case measure => (simp [intOf]; omega))
                        | (refine ⟨?_, ?_⟩
                           · (exact ⟨n + 1, by omega, by go_num, F4, K4, l4, HQ.out.below hb9, HLI.out.keep (fun z h1 h2 => .inl h2) (fun z h1 h2 => (R4.next h2).imp (fun ⟨e1, e2⟩ => by rw [HII.out] at e2; rw [e1, ← HHD.out, HF.out, Int.add_sub_cancel]; exact hav) id), HLM.out.trans (.of_below hb9 ht4.2), HCN.out⟩)
                           · (simp [intOf]; omega))
                    | false =>
                      have HAV : Hid (∀ e : Ext wr, Calls Try.prog 68 #[.pointer (some ⟨s.b, 0, none⟩), .int .i64 i, .int .i64 (K4 h)] e.world fun x w' => x = .returned (.bool false) ∧ Below e.world.heap.size e.world w') := Lib.hid (fun e => by
                        rw [← hav]; exact available_any (HS.out e) i hil (K4 h))
                      have hlen : (l4.length + 1) * 8 ≤ 140737488351232 := by have := HLI.out.cnt; have := HCN.out; omega
                      go_wp2
                      refine wp_region_ext (by kernel_rfl) (by kernel_rfl) ?_
                      repeat (go_big_quiet_step ((first | (go_at_call 68; exact Calls.ext_of (HAV.out _)))))
                      refine wpQuiet_nil ?_
                      intro _ hw'
                      obtain ⟨⟨w9, hb9⟩, rfl⟩ := hw'
                      try dsimp only
                      have HQ9 := Lib.hid (HQ.out.below hb9)
                      have HL9 := Lib.hid (HLM.out.trans (.of_below hb9 ht4.2))
                      go_wp2_with (go_at_call 67; refine (drop_any HQ9.out h hfit hlen).mono ?_; rintro e w1 ⟨rfl, hl1, hq1⟩; have HN := Lib.hid (LSt.dropped (X' := p.n + 1) (R' := R4 (s.Ru y) (ixR p.rules i).head k (n + 1)) HLI.out HCN.out HL9.out HF0.out hl1 hq1 (fun z h1 h2 => h1) (fun z j h1 h2 => (R4.next h2).resolve_left (fun h3 => h1 (h3.1.trans HHD.out.symm)))); clear hl1 hq1)
                      first
                        | (go_roundw
                           case rel => (exact ⟨n + 1, by omega, by go_num, HN.out⟩)
                           case measure => (simp [intOf]; omega))
                        | (refine ⟨?_, ?_⟩
                           · (exact ⟨n + 1, by omega, by go_num, HN.out⟩)
                           · (simp [intOf]; omega))
                  · have kF : ∀ e : Ext wr, (Instr.lookup 48 (.map (some s.bf)) (.int .i64 h) false).run Try.prog e.world = .ok (.int .i64 (F4 h)) e.world := fun e => (HS.out e).lookF h
                    have hne : (F4 h == (i : Int) + 1) = false := by simpa using hF
                    have HF := Lib.hid hF
                    clear hF
                    go_wp2
                    refine wp_region_ext (by kernel_rfl) (by kernel_rfl) ?_
                    repeat (go_big_quiet_step (fail))
                    refine wpQuiet_nil ?_
                    intro _ hw'
                    obtain ⟨⟨w9, hb9⟩, rfl⟩ := hw'
                    try dsimp only
                    go_wp2
                    first
                      | (go_roundw
                         case rel => (exact ⟨n + 1, by omega, by go_num, F4, K4, l4, HQ.out.below hb9, HLI.out.keep (fun z h1 h2 => .inl h2) (fun z h1 h2 => .inr ((R4.next h2).resolve_left (fun ⟨e1, e2⟩ => by rw [HII.out] at e2; rw [e1, ← HHD.out] at e2; exact HF.out (by omega)))), HLM.out.trans (.of_below hb9 ht4.2), HCN.out⟩)
                         case measure => (simp [intOf]; omega))
                      | (refine ⟨?_, ?_⟩
                         · (exact ⟨n + 1, by omega, by go_num, F4, K4, l4, HQ.out.below hb9, HLI.out.keep (fun z h1 h2 => .inl h2) (fun z h1 h2 => .inr ((R4.next h2).resolve_left (fun ⟨e1, e2⟩ => by rw [HII.out] at e2; rw [e1, ← HHD.out] at e2; exact HF.out (by omega)))), HLM.out.trans (.of_below hb9 ht4.2), HCN.out⟩)
                         · (simp [intOf]; omega))
                · have hst : Hid (LSt w.heap.size w.heap.size (w.heap.size + 1) s p clock a w (p.n + 1) (R3 (s.Ru y) (k + 1)) (gk - 1) wr) := Lib.hid ⟨F4, K4, l4, hqs, HLI.out.keep (fun z h1 h2 => .inl h2) (fun z h1 h2 => by
                    obtain rfl : n = (ixR p.rules i).head.length := by omega
                    exact .inr (R4.done h2)), HLM.out, HCN.out⟩
                  clear hqs
                  go_wp2
                  first
                    | (go_roundw
                       case rel => (exact ⟨k + 1, by omega, by go_num, hst.out⟩)
                       case measure => (simp [intOf]; omega))
                    | (refine ⟨?_, ?_⟩
                       · (exact ⟨k + 1, by omega, by go_num, hst.out⟩)
                       · (simp [intOf]; omega))
            · have hst : Hid (LSt w.heap.size w.heap.size (w.heap.size + 1) s p clock a w (p.n + 1) (fun _ _ => False) (gk - 1) wr) := Lib.hid ⟨F3, K3, l3, hqs, HLI.out.keep (fun z h1 h2 => .inl h2) (fun z h1 h2 => by
                obtain rfl : k = (s.Ru y).length := by omega
                exact absurd h2 R3.done), HLM.out, HCN.out⟩
              clear hqs
              go_wp2
              go_roundg (gk - 1)
              case measure => exact HGK.out
              case rel => exact hst.out
end

end Go.Proofs.Ytkjpnpkmnpofgaa
