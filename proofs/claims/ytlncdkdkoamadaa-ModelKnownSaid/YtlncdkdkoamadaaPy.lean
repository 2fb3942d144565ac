/-
  WALKS: Play of the program.
-/
import Derived.Test.YtlncdkdkoamadaaTr
import Derived.Deep.CutRange
namespace Go.Proofs.Ytlncdkdkoamadaa
open Go.RowKit

theorem tmod_facts (a : Int) (L : Nat) (hL : 0 < L) : -(L : Int) < a.tmod L ∧ a.tmod L < L ∧ (a.tmod L + L) % (L : Int) = a % (L : Int) := by
  have h1 := Int.tmod_lt_of_pos a (b := (L : Int)) (by omega)
  have h2 := Int.lt_tmod_of_pos a (b := (L : Int)) (by omega)
  refine ⟨h2, h1, ?_⟩
  rw [Int.add_emod_right, Int.tmod_def, Int.sub_mul_emod_self_left]

theorem two_cells (w : World) (o : Obj) (x : Nat × Nat × Bool) : ∀ j u, (evC x)[j]? = some u → ((w.alloc o).alloc (.cells #[.int .i64 (x.1 : Nat), .int .i64 (x.2.1 : Nat), .bool x.2.2] 41)).cell? ⟨w.heap.size + 1, j, none⟩ = some u := by
  intro j u hu
  have h := evC_cells (w.alloc o) x j u hu
  rwa [show (w.alloc o).heap.size = w.heap.size + 1 by simp] at h

theorem TrInv.push' {R : World → (Nat → Nat) → G → Prop} {w wr W' : World} {lab : Nat → Nat} {s : G} {v v' : Value} {k : Nat} {xs ys : List Value} {o1 o2 : Obj} (h0 : TrInv R w wr lab s v k xs) (hF : Frames R) (hg : ((wr.alloc o1).alloc o2).grownBy W' v.ownBlock) (ho : W'.ownsRow w.heap.size 41 3 v' (k + 1) ys) (hx : ∃ zs, ys = xs ++ zs) (hat : v'.ownBlock = v.ownBlock ∨ v'.ownBlock = some (wr.heap.size + 1 + 1)) :
    ∃ lab', TrInv R w W' lab' s v' (k + 1) ys := by
  obtain ⟨zs, rfl⟩ := hx
  have h : TrInv R w ((wr.alloc o1).alloc o2) lab s v k xs := h0.keep hF (((Below.refl _ _).alloc (Nat.le_refl _) _).alloc (by simp) _)
  exact ⟨_, h.push hF hg ho (by rcases hat with e | e; exact .inl e; exact .inr (by rw [e]; simp))⟩

theorem own_len3 {w : World} {base : Nat} {e : TypeId} {v : Value} {n : Nat} {xs : List Value} (h : w.ownsRow base e 3 v n xs) : lenV v = n := by
  obtain ⟨A, c, rfl, _⟩ := own_form3 h
  rfl

theorem own_slice {w : World} {base : Nat} {e : TypeId} {st : Nat} {v : Value} {n : Nat} {xs : List Value} (h : w.ownsRow base e st v n xs) : ∃ A c, v = .slice A n c := by
  obtain ⟨hl, ⟨rfl, rfl⟩ | ⟨g, cap, cur, rfl, _⟩⟩ := h
  · exact ⟨none, 0, rfl⟩
  · exact ⟨_, _, rfl⟩

/-- What Play answers. -/
def PlayOut (w : World) (n : Nat) (wk : Int) (f : Nat → Int) (m : Nat) (g : Nat → Int) (e : Ending) (w' : World) : Prop :=
  Below w.heap.size w w' ∧ ((goodTree n f ∧ ∃ v, e = .returned (.tuple #[v, .int .i64 0]) ∧ w'.ownsRow w.heap.size 41 3 v (2 * n - 1) (evCs (G.evTo (G.init n (thr wk) f) m g) (2 * n - 1))) ∨ (¬ goodTree n f ∧ e = .returned (.tuple #[.slice none 0 0, .int .i64 2])))

set_option maxHeartbeats 6400000 in
set_option maxRecDepth 100000 in
theorem play_any (A : Option Addr) (n c : Nat) (wk : Int) (C : Option Addr) (m d : Nat) (f g : Nat → Int) (w : World) (hm : n ≤ maxLen) (hm2 : m ≤ 4294967296) (ha : RdI w A n f) (hc : RdI w C m g) :
    Calls Try.prog 29 #[.slice A n c, .int .i64 wk, .slice C m d] w (PlayOut w n wk f m g) := by
  obtain ⟨i41, hi, hz0, hz1, hz2⟩ : ∃ i, Try.prog.info? 41 = some i ∧ i.zero = some (.agg #[.int .i64 0, .int .i64 0, .bool false]) ∧ i.size = 3 ∧ i.bytes = 24 := by
    have h := info41
    cases e : Try.prog.info? 41 with
    | none => rw [e] at h; cases h
    | some i => rw [e] at h; simp at h; exact ⟨i, rfl, h.1, h.2.1, h.2.2⟩
  have HC := Lib.hid hc
  have HN := Lib.hid (new_rn (c := c) (wk := wk) (fun _ => 0) 1 (by decide) (fun _ _ => by decide) hm ha)
  clear ha hc hm
  go_enter Try.func29, Try.ntmps29
  go_wp2_with fail
  go_step3
  go_wp2_with fail
  refine HN.out.mono ?_
  rintro e w2 (⟨hg, r, lab, rfl, hr, hl, hb2⟩ | ⟨hg, rfl, hb2⟩)
  case inr =>
    have HB := Lib.hid hb2
    have HG := Lib.hid hg
    clear hb2 hg HN
    go_wp2_with fail
    try rw [Exit.noGoto_ret]
    go_ret2
    exact ⟨HB.out, .inr ⟨HG.out, rfl⟩⟩
  have HG := Lib.hid hg
  have hn1 := hg.1
  have hn2 := hg.2.1
  obtain ⟨s0, hs0⟩ : ∃ s0, s0 = G.init n (thr wk) f := ⟨_, rfl⟩
  have hfit := hr.fit
  rw [← hs0] at hr hfit
  have hsn : s0.n = n := by rw [hs0]; rfl
  have hsm : s0.mov = 0 := by rw [hs0]; rfl
  have HRF := Lib.hid (fun k hk => G.runTo_fit (m := m) (g := g) hfit hsm k hk)
  have HS0 := Lib.hid hs0
  have HSN := Lib.hid hsn
  have HT : Hid (TrInv (fun w lab s => Rn w lab 1 r s) w w2 lab s0 (.slice none 0 0) 0 []) := ⟨hb2, hr, fun b hb => hl b hb, World.ownsRow_nil _ _ _ _, fun g hg => by cases hg⟩
  clear hr hl hb2 HN hg hs0 hfit hsn hsm
  go_wp2_with fail
  go_step3
  go_wp2_with fail
  go_loopw [10] (fun v wr => Hid (∃ (k : Nat) (lab : Nat → Nat), k + 1 ≤ 2 * n ∧ TrInv (fun w lab s => Rn w lab 1 r s) w wr lab (G.runTo s0 m g k) v k (evCs (G.evTo s0 m g) k))) (fun v _ => 2 * n - lenV v)
  case atStart => exact ⟨0, lab, by omega, HT.out⟩
  case round =>
    clear HT
    obtain ⟨k, lab, hk, hI⟩ := hrel.out
    clear hrel
    obtain ⟨Av, cv, hv, _⟩ := own_form3 hI.lst
    subst hv
    obtain ⟨hf1, hf2, hf3⟩ := HRF.out k (by rw [HSN.out]; exact hk)
    have hst : ∀ t, t = G.thrAt (G.runTo s0 m g k) m g k → (G.runTo s0 m g k).step t = G.runTo s0 m g (k + 1) ∧ (G.runTo s0 m g k).move t = G.evTo s0 m g k := fun t ht => by subst ht; exact ⟨rfl, rfl⟩
    have HST := Lib.hid hst
    have HI := Lib.hid hI
    have HEV := Lib.hid (evCs_succ (G.evTo s0 m g) k)
    generalize hsk : G.runTo s0 m g k = s at *
    rw [HSN.out] at hf3
    have hrl := filter_range_len s.rdy s.T
    have hT := hf1.T_le
    change s.readies.length ≤ s.T at hrl
    have HRY := Lib.hid hI.run.Ready
    have HF1 := Lib.hid hf1
    have HF2 := Lib.hid hf2
    have HF3 := Lib.hid hf3
    clear hI hst hsk hf1 hf2 hf3
    by_cases hlt : k + 1 < 2 * n
    · have hL0 := (G.not_done HF1.out.inv (by rw [HF2.out, HF3.out]; exact hlt)).2
      go_wp2_with fail
      refine HRY.out.mono ?_
      rintro e w4 ⟨v4, rfl, ho4, hb4⟩
      obtain ⟨g4, c4, hv4⟩ := own_form ho4 hL0
      subst hv4
      have HI4 := Lib.hid (HI.out.keep (frames_rn r) hb4)
      have HO4 := Lib.hid ho4
      have hpk := G.pickAt_lt (m := m) (g := g) (k := k) hL0
      have HP : Hid (G.thrAt s m g k = s.readies.getD (G.pickAt m g s.readies.length k) 0) := rfl
      have HRD := Lib.hid (G.thrAt_rdy (s := s) (m := m) (g := g) (k := k) hL0)
      have hC0 : Hid (m = 0 ∨ (0 < m ∧ ∃ pb po, C = some ⟨pb, po, none⟩ ∧ (k % m < m) ∧ w4.cell? ⟨pb, po + k % m, none⟩ = some (.int .i64 (g (k % m))))) := by
        refine Lib.hid ?_
        rcases Nat.eq_zero_or_pos m with h | h
        · exact .inl h
        · obtain ⟨pb, po, rfl, hpl, hpc⟩ := HC.out h
          refine .inr ⟨h, pb, po, rfl, Nat.mod_lt _ h, ?_⟩
          rw [HI4.out.bel.cell (p := ⟨pb, po + k % m, none⟩) hpl, hpc _ (Nat.mod_lt _ h)]
      obtain ⟨pk, hpke⟩ : ∃ pk, pk = G.pickAt m g s.readies.length k := ⟨_, rfl⟩
      rw [← hpke] at hpk HP
      have HPK := Lib.hid hpke
      have hd0 : ((s.readies.length : Int) == 0) = false := by rw [beq_eq_false_iff_ne]; omega
      obtain ⟨L, hL⟩ : ∃ L, L = s.readies.length := ⟨_, rfl⟩
      rw [← hL] at hd0 hpk HPK hrl hL0 ho4
      clear hb4 HRY hpke
      rw [← hL]
      have HL := Lib.hid hL
      clear hL ho4
      go_upto_if 31 with (fail)
      go_cut [12] from 24 to 65 (fun a wx => Hid (a = .int .i64 (pk : Nat) ∧ wx = w4))
      case first =>
        rcases hC0.out with hm0 | ⟨hm0, pb, po, hCe, hkm, hcell⟩
        · have e : pk = 0 := by rw [HPK.out]; unfold G.pickAt; rw [if_pos hm0]
          subst e
          clear hC0
          go_wp2_with fail
          go_meet
          exact ⟨rfl, rfl⟩
        · subst hCe
          have hm1 : ((m : Int) == 0) = false := by rw [beq_eq_false_iff_ne]; omega
          have hk2 : (k : Int) < 1000 := by omega
          have hL2 : (L : Int) ≤ 17 := by omega
          clear hC0
          go_upto_region 10 with (fail)
          obtain ⟨h1, h2, h3⟩ := tmod_facts (g (k % m)) L hL0
          have e : (pk : Int) = ((g (k % m)).tmod L + L) % (L : Int) := by
            have h4 := Int.emod_nonneg (g (k % m)) (b := (L : Int)) (by omega)
            rw [h3, HPK.out]
            unfold G.pickAt
            rw [if_neg (by omega)]
            omega
          have E := Lib.hid e
          clear h3 e
          generalize (g (k % m)).tmod (L : Int) = tm at *
          go_wp2_with fail
          go_meet
          exact ⟨by rw [E.out], rfl⟩
      case rest =>
        obtain ⟨h12, hwx⟩ := hcut.out
        have hwy := hwx.symm
        clear hcut HPK hC0 hwx
        subst hwy
        subst h12
        have hcr : w4.cell? ⟨g4, pk, none⟩ = some (.int .i64 ((G.thrAt s m g k : Nat) : Int)) := by
          rw [HO4.out.cellAt pk (by rw [← HL.out]; omega), HP.out]
          have h2 : pk < s.readies.length := by rw [← HL.out]; exact hpk
          simp [intl, List.getD, h2]
        obtain ⟨t, ht⟩ : ∃ t, t = G.thrAt s m g k := ⟨_, rfl⟩
        rw [← ht] at hcr
        obtain ⟨e1, e2⟩ := HST.out t ht
        have HE1 := Lib.hid e1
        have HE2 := Lib.hid e2
        have HSTP := Lib.hid (HI4.out.run.Step t (by rw [ht]; exact HRD.out))
        clear ht e1 e2 HST HP HRD HO4
        go_wp2_with fail
        refine HSTP.out.mono ?_
        rintro e w5 ⟨rfl, hk5, lab5, hl5, hr5⟩
        have HI5 := Lib.hid (HI4.out.step hk5 hl5 hr5)
        rw [HE1.out] at HI5
        rw [HE2.out]
        unfold evV
        clear hk5 hl5 hr5 hcr
        go_wp2_with (at_builtin; refine wpList_app3 rfl (.tmp 62) (.tmp 64) 58 rfl w.heap.size 41 i41 _ Try.underlying58 hi hz0 hz1 hz2 rfl _ k _ rfl ((HI5.out.lst.alloc _).alloc _) (w5.heap.size + 1) (evC (s0.evTo m g k)) ?_ rfl ?_ (evC_one _) ?_ ?_ ?_)
        case refine_1 => rfl
        case refine_2 => exact two_cells _ _ _
        case refine_3 => omega
        case refine_4 => simp; have := HI5.out.bel.size; omega
        intro v6 w6 ho6 hg6 hat6
        rw [← HEV.out] at ho6
        have HI7 := Lib.hid (HI5.out.push' (frames_rn r) hg6 ho6 ⟨_, HEV.out⟩ hat6)
        clear ho6 hg6 hat6 HI5 HI4
        go_wp2_with fail
        obtain ⟨lab7, h7⟩ := HI7.out
        have hl6 := own_len3 h7.lst
        have hlk : lenV (.slice Av k cv) = k := rfl
        exact ⟨⟨k + 1, lab7, by omega, h7⟩, by omega⟩
    · have hke : k + 1 = 2 * n := by omega
      have hfin : s.readies = [] := (G.readies_nil HF1.out.inv).2 ((G.done_iff HF1.out.inv).2 (by rw [HF2.out, HF3.out]; exact hke))
      rw [hfin] at HRY
      go_wp2_with fail
      refine HRY.out.mono ?_
      rintro e w4 ⟨v4, rfl, ho4, hb4⟩
      obtain ⟨A4, c4, rfl⟩ := own_slice ho4
      have hI4 := Lib.hid (HI.out.keep (frames_rn r) hb4)
      clear ho4 hb4
      have hk1 : k = 2 * n - 1 := by omega
      have h1 := hI4.out.bel
      have h2 := hI4.out.lst
      rw [hk1] at h2
      have H1 := Lib.hid h1
      have H2 := Lib.hid h2
      clear h1 h2
      go_wp2_with fail
      try rw [Exit.noGoto_ret]
      go_ret2
      exact ⟨H1.out, .inl ⟨HG.out, _, rfl, by rw [← HS0.out]; exact H2.out⟩⟩
end Go.Proofs.Ytlncdkdkoamadaa
