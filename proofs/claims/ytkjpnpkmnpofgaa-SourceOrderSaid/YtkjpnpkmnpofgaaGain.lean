/- gain. -/
import Derived.Test.YtkjpnpkmnpofgaaLose
namespace Go.Proofs.Ytkjpnpkmnpofgaa
open Go.RowKit

theorem increasing_at {l : List Int} {n : Int} (h : increasingB l n = true) {j : Nat} (hj : j < l.length) : 1 ≤ ix l j ∧ ix l j ≤ n := by
  have h1 := ordered_lit (increasing_ordered h) (ix_mem hj)
  unfold increasingB at h
  simp only [Bool.and_eq_true] at h
  have h2 := allR_get h.2 j hj
  simp only [decide_eq_true_eq] at h2
  omega

/-- gain, under way, in memory. -/
def GSt (base c1 q : Nat) (s : SP) (p : GP) (a : List Int) (w0 : World) (C0 : Int) (R : Int → Int → Prop) (n : Nat) (wx : World) : Prop :=
  ∃ F K clock l, QS base c1 q s p F K clock a l wx ∧ GI p a F K clock C0 l R ∧ Lim base s.mut w0 wx ∧ p.n.toNat + l.length ≤ n + cntF F p.n.toNat

def GR1 (base c1 q : Nat) (s : SP) (p : GP) (a : List Int) (w0 : World) (C0 : Int) (i : Value) (wx : World) : Prop :=
  ∃ x : Int, 1 ≤ x ∧ x ≤ p.n + 1 ∧ i = .int .i64 x ∧ GSt base c1 q s p a w0 C0 (fun z _ => x ≤ z) p.n.toNat wx

def GR3 (base c1 q : Nat) (s : SP) (p : GP) (a : List Int) (w0 : World) (C0 : Int) (row : List Int) (N : Nat) (i : Value) (wx : World) : Prop :=
  ∃ k : Nat, k ≤ row.length ∧ i = .int .i64 k ∧ GSt base c1 q s p a w0 C0 (R3 row k) N wx

def GR4 (base c1 q : Nat) (s : SP) (p : GP) (a : List Int) (w0 : World) (C0 : Int) (row head : List Int) (k N : Nat) (i : Value) (wx : World) : Prop :=
  ∃ m : Nat, m ≤ head.length ∧ i = .int .i64 m ∧ GSt base c1 q s p a w0 C0 (R4 row head k m) N wx

def GainPost (s : SP) (p : GP) (a : List Int) (clock : Int) (w w' : World) : Prop :=
  Lim w.heap.size s.mut w w' ∧ ∃ F' K' clock', Found p a F' K' clock' ∧ clock' ≤ clock + 4000 ∧ Src w.heap.size s p F' K' clock' a w'

section
variable {m : Nat} {s : SP} {p : GP} {F K : Int → Int} {clock : Int} {a : List Int} {w : World}

theorem GSt.start (h : Src m s p F K clock a w) (hi : Lost p a F K clock) : ∀ w', w' = (w.alloc (.cells #[.pointer (some ⟨s.b, 0, none⟩)] 31)).alloc (.cells #[nilS] 23) →
    GR1 w.heap.size w.heap.size (w.heap.size + 1) s p a w clock (.int .i64 1) w' := by
  rintro w' rfl
  have hv := validP h.valid
  have hvn := hv.n
  have h1 := GI.start (p := p) (a := a) hi
  have ht := h.top
  have hb : Below w.heap.size w ((w.alloc (.cells #[.pointer (some ⟨s.b, 0, none⟩)] 31)).alloc (.cells #[nilS] 23)) := bal (bal (Below.refl _ _) _) _
  exact ⟨1, by omega, by omega, rfl, F, K, clock, [], ⟨(h.mono ht.2 (Nat.le_refl _)).below hb, (Blk.new w _ _).alloc _, ⟨nilS, Blk.new2 w _ _ _, QRow.nil _ _⟩, ⟨Nat.le_refl _, by omega⟩⟩, h1, .of_below hb (Nat.le_refl _), by simp⟩

/-- x has been tried. -/
theorem GSt.tried {base c1 q N : Nat} {l : List Int} {x C0 : Int} {R R' : Int → Int → Prop} {w0 w1 w2 : World} (hrow : RowsAt (fun _ => true) (fun i => (ixR p.rules i).head) p.rules.length 0 s.Rh) (hc : 0 ≤ clock)
    (h : GI p a F K clock C0 l R) (hn : p.n.toNat + l.length ≤ N + cntF F p.n.toNat) (hl : Lim base s.mut w0 w1) (hx : 1 ≤ x ∧ x ≤ p.n)
    (h1 : Lim base s.mut w1 w2) (h2 : TryPost base c1 q s p F K clock a l x w2) (hR : ∀ z i, z ≠ x → R z i → R' z i) : GSt base c1 q s p a w0 C0 R' N w2 := by
  have hmem : ∀ i, i ∈ s.Rh x ↔ InHead p i x := fun i => by
    rw [(hrow x).2 i]; simp [InHead]
  rcases h2 with ⟨h3, h4, i, h5, h6, h7⟩ | ⟨h3, h7⟩
  · refine ⟨_, _, _, _, h7, h.push hc x i h3 hx h4 ((hmem i).1 h5) h6 hR, hl.trans h1, ?_⟩
    have := cntF_up F x (i + 1) h3 (by have := ((hmem i).1 h5).1; omega) p.n.toNat hx.1 (by omega)
    simp only [List.length_append, List.length_singleton]
    omega
  · refine ⟨_, _, _, _, h7, h.keep (fun z i h4 h5 h6 h8 h9 h10 => ?_), hl.trans h1, hn⟩
    by_cases e : z = x
    · subst e
      rcases h3 with h3 | h3 | h3
      · exact absurd h3 h6
      · rw [h8] at h3; cases h3
      · exact .inl (h3 i ((hmem i).2 h9))
    · exact .inr (hR z i e h10)

theorem GI.small {l : List Int} {C0 : Int} {R : Int → Int → Prop} (h : GI p a F K clock C0 l R) (hn : 0 ≤ p.n ∧ p.n ≤ 4000) (hC : C0 ≤ 2305843009213693952) : (l.length + 1) * 8 ≤ 140737488351232 ∧ clock < 4611686018427387904 ∧ l.length ≤ 4000 := by
  have h1 := cntF_le F p.n.toNat
  have h2 := h.cnt
  have h3 := h.clk
  omega

set_option maxHeartbeats 4000000 in
set_option maxRecDepth 100000 in
theorem gain_any (h : Src m s p F K clock a w) (hi : Lost p a F K clock) (hC : clock ≤ 2305843009213693952) :
    Calls Try.prog 41 #[.pointer (some ⟨s.b, 0, none⟩)] w fun e w' => e = .returned (.tuple #[]) ∧ GainPost s p a clock w w' := by
  have HST := Lib.hid (GSt.start h hi)
  have hv := validP h.valid
  have hvn := hv.n
  have hvr := hv.rules
  have HHD := Lib.hid hv.head
  clear h hi hv
  go_enter Try.func41, Try.ntmps41
  go_wp2
  go_loopw [4] (fun i wx => GR1 w.heap.size w.heap.size (w.heap.size + 1) s p a w clock i wx) (fun i _ => (p.n + 1 - intOf i).toNat)
  case atStart => exact HST.out _ rfl
  case round =>
    obtain ⟨x, hx1, hx2, rfl, F', K', clk, l, hqs, hli, hlim, hcnt⟩ := hrel
    have HQ := Lib.hid hqs
    have HLI := Lib.hid hli
    have HLM := Lib.hid hlim
    have HCN := Lib.hid hcnt
    have hsm := hli.small hvn hC
    have kb0 := hqs.box.cell
    obtain ⟨va, hob, -⟩ := hqs.src.obj
    have ko0 := hob.cell
    have HROW := Lib.hid hqs.src.rowsH
    have HCL := Lib.hid hqs.src.fitC.1
    clear hqs hli hlim hcnt hob
    by_cases hlt : x ≤ p.n
    · have hxr : 1 ≤ x ∧ x ≤ 4000 := by omega
      go_wp2_with (go_at_call 69; refine (try_any HQ.out x hxr hsm.1 hsm.2.1).mono ?_; rintro e w1 ⟨rfl, hl1, hq1⟩; have HN := Lib.hid (GSt.tried (R' := fun z _ => x + 1 ≤ z) HROW.out HCL.out HLI.out HCN.out HLM.out ⟨hx1, hlt⟩ hl1 hq1 (fun z i h1 h2 => by show x + 1 ≤ z; have : x ≤ z := h2; omega)); clear hl1 hq1)
      first
        | (go_roundw
           case rel => (exact ⟨x + 1, by omega, by omega, rfl, HN.out⟩)
           case measure => (simp [intOf]; omega))
        | (refine ⟨?_, ?_⟩
           · (exact ⟨x + 1, by omega, by omega, rfl, HN.out⟩)
           · (simp [intOf]; omega))
    · have hst : Hid (GSt w.heap.size w.heap.size (w.heap.size + 1) s p a w clock (fun _ _ => False) p.n.toNat wr) := Lib.hid ⟨F', K', clk, l, HQ.out, HLI.out.keep (fun z i h1 h2 h3 h4 h5 h6 => by
        have : x ≤ z := h6
        omega), HLM.out, HCN.out⟩
      go_wp2
      obtain ⟨wo, rfl⟩ : ∃ wo : World, wo = wr := ⟨_, rfl⟩
      clear kb0 ko0 HQ HLI HLM HCN HROW HCL hsm
      go_loopg [] p.n.toNat (fun k wx => GSt w.heap.size w.heap.size (w.heap.size + 1) s p a w clock (fun _ _ => False) k wx)
      case atStart => exact hst.out
      case round =>
        obtain ⟨F2, K2, clk2, l2, hqs, hli, hlim, hcnt⟩ := hrel
        have HLI := Lib.hid hli
        have HLM := Lib.hid hlim
        have HCN := Lib.hid hcnt
        have hsm := hli.small hvn hC
        clear hst hli hlim hcnt
        cases l2 with
        | nil =>
          have HP : Hid (GainPost s p a clock w wr) := Lib.hid (by
            obtain ⟨h1, h2⟩ := HLI.out.done (fun _ _ h => h)
            have h3 := cntF_le F2 p.n.toNat
            exact ⟨HLM.out, F2, K2, clk2, h1, by omega, hqs.src⟩)
          obtain ⟨vq, hq, hr⟩ := hqs.queue
          obtain ⟨aq, nq, cq, rfl⟩ := hr.form
          obtain rfl : nq = 0 := by
            rcases hr.2 with ⟨e, _⟩ | ⟨_, _, _, _, e, _⟩
            · simp only [Value.slice.injEq] at e; exact e.2.1
            · simp only [Value.slice.injEq] at e; exact e.2.1
          have kq := hq.cell
          clear hq hr hqs
          go_wp2
          refine bodyPost_end (v := .tuple #[]) ?_ rfl ?_
          · simp [results, Try.results41, go_sem]
          · exact ⟨rfl, HP.out⟩
        | cons y l2 =>
          have hy := HLI.out.q y (.head _)
          have hrowU := hqs.src.rowsU
          obtain ⟨g, off, cap, av, hq, hkg, hcap1, hcap2, hyI, hsl, hpop⟩ := hqs.pop
          have HPOP := Lib.hid hpop
          have kq := hq.cell
          have fq := hq.free
          have hbx := hqs.box.lt
          have hlo := hqs.lo
          have zq := hq.lt
          have kb := hqs.box.cell
          obtain ⟨va, hob, -⟩ := hqs.src.obj
          have ko := hob.cell
          have ht := hqs.src.top
          have hh := hqs.src.hi
          obtain ⟨au, cu, hvu, -, hlu, -, -⟩ := (hqs.src.now.useRow y).form
          have HVU := Lib.hid hvu
          have HRU := Lib.hid hrowU
          have HY := Lib.hid hy
          clear hrowU hvu hqs hob hq
          go_upto_region 10 with fail
          have HST : Hid (GSt w.heap.size w.heap.size (w.heap.size + 1) s p a w clock (R3 (s.Ru y) 0) (gk - 1) (wr.setCell ⟨w.heap.size + 1, 0, none⟩ (.slice av l2.length (cap - 1)))) := Lib.hid ⟨F2, K2, clk2, l2, HPOP.out, HLI.out.pop (fun z i h => absurd h id) (fun z i _ h => R3.start HRU.out HY.out.1 h), HLM.out.trans (.setCell _ (.inr (by omega))), by have := HCN.out; have := HLI.out.cnt; simp only [List.length_cons] at *; omega⟩
          have HGK : Hid (gk - 1 < gk) := Lib.hid (by have := HCN.out; have := cntF_le F2 p.n.toNat; simp only [List.length_cons] at *; omega)
          have HZ : Hid ((wr.setCell ⟨w.heap.size + 1, 0, none⟩ (.slice av l2.length (cap - 1))).heap.size = wr.heap.size) := Lib.hid (by simp [World.setCell])
          clear kb ko kq fq hkg hsl
          generalize wr.setCell ⟨w.heap.size + 1, 0, none⟩ (.slice av l2.length (cap - 1)) = W1 at HST HPOP HZ ⊢
          have kb := HPOP.out.box.cell
          obtain ⟨va1, hob, -⟩ := HPOP.out.src.obj
          have ko := hob.cell
          have hlk : (Instr.lookup 50 (.map (some s.bu)) (.int .i64 y) false).run Try.prog W1 = .ok (.slice au (s.Ru y).length cu) W1 := by
            have := HPOP.out.src.now.uses.lookup kvInt Try.underlying50 Try.underlying3 (Try.zeroValue23 W1) y
            rw [← HVU.out]; exact this
          clear hob
          go_wp2
          obtain ⟨wo2, rfl⟩ : ∃ wo : World, wo = wr := ⟨_, rfl⟩
          clear kb ko hlk HPOP HLI HLM HCN hsm
          go_loopw [40] (fun i wx => GR3 w.heap.size w.heap.size (w.heap.size + 1) s p a w clock (s.Ru y) (gk - 1) i wx) (fun i _ => (s.Ru y).length - (intOf i).toNat)
          case atStart => exact ⟨0, Nat.zero_le _, rfl, HST.out⟩
          case round =>
            obtain ⟨k, hk, rfl, F3, K3, clk3, l3, hqs, hli, hlim, hcnt⟩ := hrel
            have HLI := Lib.hid hli
            have HLM := Lib.hid hlim
            have HCN := Lib.hid hcnt
            have HQ := Lib.hid hqs
            clear HST hli hlim hcnt
            by_cases hlt : k < (s.Ru y).length
            · obtain ⟨i, hii, hil⟩ := rowU_at HRU.out hlt
              have hi4 : i ≤ 40000 := by omega
              have hfx := hqs.src.now
              obtain ⟨bu, offu, hau, hblu, hcu⟩ := Ints.at (by rw [← HVU.out]; exact hfx.useRow y) hlt
              subst hau
              rw [hii] at hcu
              obtain ⟨ar, cr, hvr2, hcr⟩ := hfx.cells
              obtain ⟨br, offr, har, hbr, hcc⟩ := hcr (by omega)
              subst har
              obtain ⟨-, rc1, -⟩ := hcc i hil
              obtain ⟨ah, ch, hvh, -, hlh, -, -⟩ := (hfx.rulesA.2 i hil).head.form
              rw [hvh] at rc1
              have HVH := Lib.hid hvh
              have kb := hqs.box.cell
              obtain ⟨va3, hob, -⟩ := hqs.src.obj
              have ko := hob.cell
              rw [hvr2] at ko
              have HII := Lib.hid hii
              have HST4 : Hid (GSt w.heap.size w.heap.size (w.heap.size + 1) s p a w clock (R4 (s.Ru y) (ixR p.rules i).head k 0) (gk - 1) wr) := Lib.hid ⟨F3, K3, clk3, l3, hqs, HLI.out.keep (fun z j _ _ _ _ h1 h2 => .inr (R4.start h2 (fun h3 => by
                  have := h1.2.2
                  rw [h3, HII.out] at this
                  simpa using this))), HLM.out, HCN.out⟩
              clear hfx hcr hcc hvh hvr2 hob hqs hii
              go_wp2
              obtain ⟨wo3, rfl⟩ : ∃ wo : World, wo = wr := ⟨_, rfl⟩
              clear kb ko HQ HLI HLM HCN rc1 hcu
              go_loopw [55] (fun iv wx => GR4 w.heap.size w.heap.size (w.heap.size + 1) s p a w clock (s.Ru y) (ixR p.rules i).head k (gk - 1) iv wx) (fun iv _ => (ixR p.rules i).head.length - (intOf iv).toNat)
              case atStart => exact ⟨0, Nat.zero_le _, rfl, HST4.out⟩
              case round =>
                obtain ⟨n, hn, rfl, F4, K4, clk4, l4, hqs, hli, hlim, hcnt⟩ := hrel
                have HLI := Lib.hid hli
                have HLM := Lib.hid hlim
                have HCN := Lib.hid hcnt
                have HQ := Lib.hid hqs
                have hsm := hli.small hvn hC
                clear HST4 hli hlim hcnt
                by_cases hlt4 : n < (ixR p.rules i).head.length
                · obtain ⟨bh, offh, hah, hblh, hch⟩ := Ints.at (by rw [← HVH.out]; exact (hqs.src.now.rulesA.2 i hil).head) hlt4
                  subst hah
                  have hhx := increasing_at (HHD.out i hil) hlt4
                  have HRR : Hid (∀ z j, z ≠ ix (ixR p.rules i).head n → R4 (s.Ru y) (ixR p.rules i).head k n z j → R4 (s.Ru y) (ixR p.rules i).head k (n + 1) z j) := Lib.hid (fun z j h1 h2 => (R4.next h2).resolve_left (fun h3 => h1 h3.1))
                  have HROW := Lib.hid hqs.src.rowsH
                  have HCL := Lib.hid hqs.src.fitC.1
                  generalize ix (ixR p.rules i).head n = h at *
                  have hxr : 1 ≤ h ∧ h ≤ 4000 := by omega
                  clear hqs
                  go_wp2_with (go_at_call 69; refine (try_any HQ.out h hxr hsm.1 hsm.2.1).mono ?_; rintro e w1 ⟨rfl, hl1, hq1⟩; have HN := Lib.hid (GSt.tried HROW.out HCL.out HLI.out HCN.out HLM.out hhx hl1 hq1 HRR.out); clear hl1 hq1)
                  first
                    | (go_roundw
                       case rel => (exact ⟨n + 1, by omega, by go_num, HN.out⟩)
                       case measure => (simp [intOf]; omega))
                    | (refine ⟨?_, ?_⟩
                       · (exact ⟨n + 1, by omega, by go_num, HN.out⟩)
                       · (simp [intOf]; omega))
                · have hst : Hid (GSt w.heap.size w.heap.size (w.heap.size + 1) s p a w clock (R3 (s.Ru y) (k + 1)) (gk - 1) wr) := Lib.hid ⟨F4, K4, clk4, l4, hqs, HLI.out.keep (fun z j _ _ _ _ h1 h2 => by
                    obtain rfl : n = (ixR p.rules i).head.length := by omega
                    exact .inr (R4.done h2)), HLM.out, HCN.out⟩
                  clear hqs
                  go_wp2
                  first
                    | (go_roundw
                       case rel => (exact ⟨k + 1, by omega, by go_num, hst.out⟩)
                       case measure => (simp [intOf]; omega))
                    | (refine ⟨?_, ?_⟩
                       · (exact ⟨k + 1, by omega, by go_num, hst.out⟩)
                       · (simp [intOf]; omega))
            · have hst : Hid (GSt w.heap.size w.heap.size (w.heap.size + 1) s p a w clock (fun _ _ => False) (gk - 1) wr) := Lib.hid ⟨F3, K3, clk3, l3, hqs, HLI.out.keep (fun z j _ _ _ _ h1 h2 => by
                obtain rfl : k = (s.Ru y).length := by omega
                exact absurd h2 R3.done), HLM.out, HCN.out⟩
              clear hqs
              go_wp2
              go_roundg (gk - 1)
              case measure => exact HGK.out
              case rel => exact hst.out

end

end Go.Proofs.Ytkjpnpkmnpofgaa
