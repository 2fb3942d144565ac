/-
  THE WALK of the law ModelEnds.
-/
import Derived.Test.YtlncdkdkoamadaaL1
import Derived.Test.YtlncdkdkoamadaaPureE
namespace Go.Proofs.Ytlncdkdkoamadaa
open Go.RowKit

/-- At the head of a round: the run, the law's three lists, all below the run's own blocks. -/
structure EInv (w wr : World) (N1 N2 M r gb ge gr n : Nat) (wk : Int) (f : Nat → Int) (k : Nat) (s : G) (q : Nat → Nat) : Prop where
  bel : Below w.heap.size w wr
  run : RunIn wr (fun b => b < N1 ∨ (N2 ≤ b ∧ b < M)) r s
  mov : s.mov = k
  sn : s.n = n
  sT : s.T = thr wk
  sp : s.par = f
  ran : G.Ran s q
  ob : wr.ownsRow w.heap.size 4 1 (.slice (some ⟨gb, 0, none⟩) n n) n (bools s.beg n)
  oe : wr.ownsRow w.heap.size 4 1 (.slice (some ⟨ge, 0, none⟩) n n) n (bools s.fin n)
  orr : wr.ownsRow w.heap.size 3 1 (.slice (some ⟨gr, 0, none⟩) n n) n (ints q n)
  lb : N2 ≤ gb ∧ gb < M
  le : N2 ≤ ge ∧ ge < M
  lr : N2 ≤ gr ∧ gr < M
  ne : gb ≠ ge

/-- In the midst of a round: the run is a move ahead of the law's lists. -/
structure EMid (w W : World) (N1 N2 M r gb ge gr n : Nat) (wk : Int) (f : Nat → Int) (k : Nat) (s : G) (q : Nat → Nat) (t : Nat) : Prop where
  bel : Below w.heap.size w W
  run : RunIn W (fun b => b < N1 ∨ (N2 ≤ b ∧ b < M)) r (s.step t)
  inv : s.Inv
  mov : s.mov = k
  sn : s.n = n
  sT : s.T = thr wk
  sp : s.par = f
  ran : G.Ran s q
  ob : W.ownsRow w.heap.size 4 1 (.slice (some ⟨gb, 0, none⟩) n n) n (bools s.beg n)
  oe : W.ownsRow w.heap.size 4 1 (.slice (some ⟨ge, 0, none⟩) n n) n (bools s.fin n)
  orr : W.ownsRow w.heap.size 3 1 (.slice (some ⟨gr, 0, none⟩) n n) n (ints q n)
  lb : N2 ≤ gb ∧ gb < M
  le : N2 ≤ ge ∧ ge < M
  lr : N2 ≤ gr ∧ gr < M
  ne : gb ≠ ge

section
variable {w wr w4 w5 W W' : World} {N1 N2 M r gb ge gr n : Nat} {wk : Int} {f : Nat → Int} {k : Nat} {s : G} {q : Nat → Nat} {t : Nat}
theorem EInv.event (h : EInv w wr N1 N2 M r gb ge gr n wk f k s q) (hN1 : w.heap.size ≤ N1) (hb : Below wr.heap.size wr w4) (hk : Kept (fun b => b < N1 ∨ (N2 ≤ b ∧ b < M)) w4 w5)
    (hr : RunIn w5 (fun b => b < N1 ∨ (N2 ≤ b ∧ b < M)) r (s.step t)) (o : Obj) : EMid w (w5.alloc o) N1 N2 M r gb ge gr n wk f k s q t := by
  have hs := h.bel.size
  have hP := hr.P_lt
  have hkp : ∀ g, (N2 ≤ g ∧ g < M) → g < wr.heap.size → (w5.alloc o).heap[g]? = wr.heap[g]? := fun g hg hl => by
    rw [Below.heap_alloc _ _ _ (hP g (.inr hg)), hk.block g (.inr hg), hb.block g hl]
  exact {
    bel := ((h.bel.trans (hb.mono hs)).trans (hk.below (fun b hb => .inl (Nat.lt_of_lt_of_le hb hN1)))).alloc (by have := hk.size; have := hb.size; omega) _
    run := hr.keep ((Below.refl _ _).alloc (Nat.le_refl _) _)
    inv := h.run.inv
    mov := h.mov
    sn := h.sn
    sT := h.sT
    sp := h.sp
    ran := h.ran
    ob := own_congr h.ob fun g hg => by have := own_lt h.ob hg; cases hg; exact hkp _ h.lb this
    oe := own_congr h.oe fun g hg => by have := own_lt h.oe hg; cases hg; exact hkp _ h.le this
    orr := own_congr h.orr fun g hg => by have := own_lt h.orr hg; cases hg; exact hkp _ h.lr this
    lb := h.lb
    le := h.le
    lr := h.lr
    ne := h.ne }
theorem EMid.drewN (h : EMid w W N1 N2 M r gb ge gr n wk f k s q t) (j : Nat) : EMid w (W.drewN j) N1 N2 M r gb ge gr n wk f k s q t :=
  { bel := below_drewN h.bel _, run := h.run.drewN j, inv := h.inv, mov := h.mov, sn := h.sn, sT := h.sT, sp := h.sp, ran := h.ran,
    ob := own_congr h.ob fun _ _ => rfl, oe := own_congr h.oe fun _ _ => rfl, orr := own_congr h.orr fun _ _ => rfl, lb := h.lb, le := h.le, lr := h.lr, ne := h.ne }
theorem EMid.set (h : EMid w W N1 N2 M r gb ge gr n wk f k s q t) {g i : Nat} (hg : N2 ≤ g ∧ g < M) (hw : w.heap.size ≤ g) (u : Value) : Below w.heap.size w (W.setCell ⟨g, i, none⟩ u) ∧ RunIn (W.setCell ⟨g, i, none⟩ u) (fun b => b < N1 ∨ (N2 ≤ b ∧ b < M)) r (s.step t) :=
  ⟨h.bel.setCell (by show w.heap.size ≤ g; exact hw) _, h.run.setCell (p := ⟨g, i, none⟩) (.inr hg) _⟩
theorem EMid.ended (h : EMid w W N1 N2 M r gb ge gr n wk f k s q t) (hw2 : w.heap.size ≤ N2) {c : Nat} (hb : (s.step t).beg = s.beg) (hf : (s.step t).fin = fun i => if i = c then true else s.fin i)
    (hs : (s.step t).stk = fun u => if u = t then (s.stk t).dropLast else s.stk u) : EInv w (W.setCell ⟨ge, c, none⟩ (.bool true)) N1 N2 M r gb ge gr n wk f (k + 1) (s.step t) q := by
  have h1 := h.set (i := c) h.le (by have := h.le.1; omega) (.bool true)
  have hst := (h.oe.stored c (.bool true)).1
  rw [bools_set (f' := (s.step t).fin) (by rw [hf]; simp) (fun j hj => by rw [hf]; simp [hj])] at hst
  exact {
    bel := h1.1
    run := h1.2
    mov := by rw [G.step_mov, h.mov]
    sn := by rw [G.step_n, h.sn]
    sT := by rw [G.step_T, h.sT]
    sp := by rw [G.step_par, h.sp]
    ran := G.ran_end h.ran hs
    ob := by rw [hb]; exact set_own h.ob _ (fun e => h.ne (by cases e; rfl))
    oe := hst
    orr := set_own h.orr _ (own_ne h.oe h.orr (by decide) rfl)
    lb := h.lb
    le := h.le
    lr := h.lr
    ne := h.ne }
theorem EMid.begun (h : EMid w W N1 N2 M r gb ge gr n wk f k s q t) (hw2 : w.heap.size ≤ N2) {c u : Nat} (hcb : s.beg c = false) (hu : u = s.onto t) (hb : (s.step t).beg = fun i => if i = c then true else s.beg i) (hf : (s.step t).fin = s.fin)
    (hs : (s.step t).stk = fun u => if u = s.onto t then s.stk u ++ [c] else s.stk u) : EInv w ((W.setCell ⟨gb, c, none⟩ (.bool true)).setCell ⟨gr, c, none⟩ (.int .i64 (u : Nat))) N1 N2 M r gb ge gr n wk f (k + 1) (s.step t) (fun i => if i = c then s.onto t else q i) := by
  subst hu
  have h1 := h.set (i := c) h.lb (by have := h.lb.1; omega) (.bool true)
  have hst := (h.ob.stored c (.bool true)).1
  rw [bools_set (f' := (s.step t).beg) (by rw [hb]; simp) (fun j hj => by rw [hb]; simp [hj])] at hst
  have hor := set_own h.orr (g0 := gb) (i := c) (.bool true) (own_ne h.ob h.orr (by decide) rfl)
  have hst2 := (hor.stored c (.int .i64 (s.onto t : Nat))).1
  rw [ints_set (f' := fun i => if i = c then s.onto t else q i) (by simp) (fun j hj => by simp [hj])] at hst2
  have hgr : ∀ {v : Value} {xs : List Value}, World.ownsRow (W.setCell ⟨gb, c, none⟩ (.bool true)) w.heap.size 4 1 v n xs → World.ownsRow ((W.setCell ⟨gb, c, none⟩ (.bool true)).setCell ⟨gr, c, none⟩ (.int .i64 (s.onto t : Nat))) w.heap.size 4 1 v n xs := fun hv =>
    set_own hv _ (own_ne hor hv (by decide) rfl)
  exact {
    bel := h1.1.setCell (by show w.heap.size ≤ gr; have := h.lr.1; omega) _
    run := h1.2.setCell (p := ⟨gr, c, none⟩) (.inr h.lr) _
    mov := by rw [G.step_mov, h.mov]
    sn := by rw [G.step_n, h.sn]
    sT := by rw [G.step_T, h.sT]
    sp := by rw [G.step_par, h.sp]
    ran := G.ran_beg h.inv h.ran hcb hs
    ob := hgr hst
    oe := by rw [hf]; exact hgr (set_own h.oe _ (fun e => h.ne (by cases e; rfl)))
    orr := hst2
    lb := h.lb
    le := h.le
    lr := h.lr
    ne := h.ne }
end

theorem rdB_own {w : World} {base : Nat} {e : TypeId} {A : Option Addr} {n c : Nat} {f : Nat → Bool} (h : w.ownsRow base e 1 (.slice A n c) n (bools f n)) : RdB w A n f := fun hn => by
  obtain ⟨g, cap, hv, _, hl, _, _, hc, _⟩ := own_some h hn
  simp only [Value.slice.injEq] at hv
  obtain ⟨rfl, _, _⟩ := hv
  exact ⟨g, 0, rfl, hl, fun i hi => by rw [Nat.zero_add]; exact hc i _ (bools_get hi)⟩

set_option maxHeartbeats 20000000 in
set_option maxRecDepth 100000 in
theorem ends_law (A : Option Addr) (n c : Nat) (wk : Int) (C : Option Addr) (m d : Nat) (f g : Nat → Int) (w : World) (hm : n ≤ maxLen) (hm2 : m ≤ maxLen) (ha : RdI w A n f) (hc : RdI w C m g) :
    Calls Try.prog 4 #[.slice A n c, .int .i64 wk, .slice C m d] w fun e w' => e = .returned (.bool true) ∧ Below w.heap.size w w' := by
  have HA := Lib.hid ha
  have HC := Lib.hid hc
  have hm' := hm
  have hm2' := hm2
  unfold maxLen at hm' hm2'
  have HM := Lib.hid hm
  clear ha hm hc hm2
  go_enter Try.func4, Try.ntmps4
  go_wp2_with fail
  refine (works_any w).mono ?_
  rintro e w1 ⟨rfl, hb1⟩
  have HN := Lib.hid (new_all (P := fun b => b < w1.heap.size) (c := c) (wk := wk) (fun b hb => hb) HM.out (HA.out.below hb1 (Nat.le_refl _)))
  have HB1 := Lib.hid hb1
  clear hb1
  go_wp2_with fail
  refine HN.out.mono ?_
  rintro e w2 (⟨hg, r, rfl, hr2, hb2⟩ | ⟨hg, rfl, hb2⟩)
  case inr =>
    have HB2 := Lib.hid (HB1.out.trans (hb2.mono HB1.out.size))
    clear HN hb2 HB1 hg
    go_wp2_with fail
    go_ret
    exact ⟨rfl, HB2.out⟩
  have HB2 := Lib.hid (HB1.out.trans (hb2.mono HB1.out.size))
  have HG := Lib.hid hg
  have HR2 := Lib.hid hr2
  have hn1 := hg.1
  have hn2 := hg.2.1
  have hN0 : w.heap.size ≤ w1.heap.size := HB1.out.size
  clear HN hb2 HB1 hg hr2
  have hmk := fun u => made 49 4 (.bool false) 1 n Try.underlying49 info4 rfl (by omega) (by omega) u
  have hmk2 := fun u => made 22 3 (.int .i64 0) 8 n Try.underlying22 info3 rfl (by omega) (by omega) u
  go_upto_region 7 with (fail)
  go_cut [10, 11] from 37 to 41 (fun a b wx => Hid (∃ gb ge, a = .slice (some ⟨gb, 0, none⟩) n n ∧ b = .slice (some ⟨ge, 0, none⟩) n n ∧ gb ≠ ge ∧ w2.heap.size ≤ gb ∧ w2.heap.size ≤ ge ∧ wx.ownsRow w2.heap.size 4 1 (.slice (some ⟨gb, 0, none⟩) n n) n (List.replicate n (.bool false)) ∧ wx.ownsRow w2.heap.size 4 1 (.slice (some ⟨ge, 0, none⟩) n n) n (List.replicate n (.bool false)) ∧ Below w2.heap.size w2 wx))
  case first =>
    go_region
    all_goals
      have h1 := own_made w2 w2.heap.size 4 (.bool false) n (Nat.le_refl _) (by omega)
      have hb1 : Below w2.heap.size w2 (w2.alloc (.cells (madeCells #[.bool false] n) 4)) := (Below.refl _ _).alloc (Nat.le_refl _) _
      have h2 := own_made (w2.alloc (.cells (madeCells #[.bool false] n) 4)) w2.heap.size 4 (.bool false) n hb1.size (by omega)
      have hb2 : Below (w2.alloc (.cells (madeCells #[.bool false] n) 4)).heap.size (w2.alloc (.cells (madeCells #[.bool false] n) 4)) ((w2.alloc (.cells (madeCells #[.bool false] n) 4)).alloc (.cells (madeCells #[.bool false] n) 4)).drew := ((Below.refl _ _).alloc (Nat.le_refl _) _).drew
      have H1 := Lib.hid (own_below h1 hb2)
      have H2 := Lib.hid (show ((w2.alloc (.cells (madeCells #[.bool false] n) 4)).alloc (.cells (madeCells #[.bool false] n) 4)).drew.ownsRow w2.heap.size 4 1 (.slice (some ⟨w2.heap.size + 1, 0, none⟩) n n) n (List.replicate n (.bool false)) by have h2' := h2; simp at h2'; exact h2')
      have H3 := Lib.hid (hb1.trans (hb2.mono hb1.size))
      clear h1 h2 hb1 hb2
      go_wp2_with fail
      go_meet
    case rel => exact ⟨w2.heap.size, w2.heap.size + 1, rfl, rfl, by omega, by omega, by omega, H1.out, H2.out, H3.out⟩
    case rel => exact ⟨w2.heap.size + 1, w2.heap.size, rfl, rfl, by omega, by omega, by omega, H2.out, H1.out, H3.out⟩
  case rest =>
    obtain ⟨gb, ge, rfl, rfl, hne, hgb, hge, ho1, ho2, hb3⟩ := hcut.out
    have hgb2 := own_lt ho1 (g := gb) rfl
    have hge2 := own_lt ho2 (g := ge) rfl
    have hb4 : Below wc.heap.size wc (wc.alloc (.cells (madeCells #[.int .i64 0] n) 3)) := (Below.refl _ _).alloc (Nat.le_refl _) _
    have ho3 := own_made wc w2.heap.size 3 (.int .i64 0) n hb3.size (by omega)
    have ho1' := own_below ho1 hb4
    have ho2' := own_below ho2 hb4
    have hb5 := hb3.trans (hb4.mono hb3.size)
    have hsz : (wc.alloc (.cells (madeCells #[.int .i64 0] n) 3)).heap.size = wc.heap.size + 1 := World.size_alloc _ _
    have hr3 : RunIn (wc.alloc (.cells (madeCells #[.int .i64 0] n) 3)) (fun b => b < w1.heap.size ∨ (w2.heap.size ≤ b ∧ b < wc.heap.size + 1)) r (G.init n (thr wk) f) :=
      HR2.out.more hb5 (fun b hb => hb.imp id fun h => by rw [hsz]; exact h)
    have hw2c := hb3.size
    have HE0 : Hid (∀ W4, W4 = (wc.alloc (.cells (madeCells #[.int .i64 0] n) 3)).setCell ⟨gb, 0, none⟩ (.bool true) → EInv w W4 w1.heap.size w2.heap.size (wc.heap.size + 1) r gb ge wc.heap.size n wk f 0 (G.init n (thr wk) f) (fun _ => 0)) := by
      rintro W4 rfl
      have hw := HB2.out.size
      have hst := (ho1'.stored 0 (.bool true)).1
      have hset : (List.replicate n (Value.bool false)).set 0 (.bool true) = bools (G.init n (thr wk) f).beg n := by
        rw [← vals_const]
        exact bools_set (f := fun _ => false) (x := true) (by simp [G.init]) (fun j hj => by simp [G.init, hj])
      rw [hset] at hst
      exact {
        bel := (HB2.out.trans (hb5.mono hw)).setCell (by show w.heap.size ≤ gb; omega) _
        run := hr3.setCell (p := ⟨gb, 0, none⟩) (.inr ⟨hgb, by show gb < _; omega⟩) _
        mov := rfl
        sn := rfl
        sT := rfl
        sp := rfl
        ran := G.ran_init _ _ _
        ob := own_base hst hw
        oe := by
          have : bools (G.init n (thr wk) f).fin n = List.replicate n (.bool false) := vals_const (.bool false) n
          rw [this]
          exact own_base (set_own ho2' _ (fun e => hne (by cases e; rfl))) hw
        orr := by
          have : ints (fun _ => 0) n = List.replicate n (.int .i64 0) := vals_const (.int .i64 0) n
          rw [this]
          exact own_base (set_own ho3 _ (fun e => by cases e; exact Nat.lt_irrefl _ hgb2)) hw
        lb := ⟨hgb, by omega⟩
        le := ⟨hge, by omega⟩
        lr := ⟨hw2c, by omega⟩
        ne := hne }
    have hcb : (wc.alloc (.cells (madeCells #[.int .i64 0] n) 3)).cell? ⟨gb, 0, none⟩ = some (.bool false) := by rw [ho1'.cellAt 0 (by omega)]; simp [show 0 < n by omega]
    have hfb := ho1'.frozenAt 0
    have hwc2 : w.heap.size ≤ w2.heap.size := HB2.out.size
    have hlt1 := hr3.P_lt
    have hN1 : w1.heap.size ≤ wc.heap.size + 1 := by
      rcases Nat.lt_or_ge (wc.heap.size + 1) w1.heap.size with h | h
      · have := hlt1 (wc.heap.size + 1) (.inl h); rw [hsz] at this; omega
      · exact h
    clear ho1 ho2 ho3 ho1' ho2' hb3 hb4 hb5 hr3 hcut hsz HR2 HB2 hlt1 hw2c hgb hge hne hmk
    go_upto_region 9 with (fail)
    generalize wc.alloc (.cells (madeCells #[.int .i64 0] n) 3) = W3 at *
    go_wp2_with fail
    generalize hMM : wc.heap.size + 1 = M at *
    generalize wc.heap.size = gr at *
    have HE1 := HE0.out _ rfl
    have HS : Hid (∃ (k : Nat) (s : G) (q : Nat → Nat), k + 1 ≤ 2 * n ∧ Value.int .i64 (0 : Int) = .int .i64 (k : Nat) ∧ EInv w (W3.setCell ⟨gb, 0, none⟩ (.bool true)) w1.heap.size w2.heap.size M r gb ge gr n wk f k s q) := ⟨0, _, _, by omega, rfl, HE1⟩
    clear HE0 HE1
    go_loopw [48] (fun i wr => Hid (∃ (k : Nat) (s : G) (q : Nat → Nat), k + 1 ≤ 2 * n ∧ i = .int .i64 (k : Nat) ∧ EInv w wr w1.heap.size w2.heap.size M r gb ge gr n wk f k s q)) (fun i _ => 2 * n - (intOf i).toNat)
    case atStart => exact HS
    case round =>
      clear HS
      obtain ⟨k, s, q, hk, rfl, hE⟩ := hrel.out
      have HE := Lib.hid hE
      have HRY := Lib.hid hE.run.Ready
      by_cases hlt : k + 1 < 2 * n
      · have hd : (k : Int) < 2 * (n : Int) - 1 := by omega
        have hf0 : s.fin 0 = false := by
          have h1 := G.done_iff hE.run.inv
          rw [hE.mov, hE.sn] at h1
          cases h : s.fin 0 with
          | false => rfl
          | true => exact absurd (h1.1 h) (by omega)
        have hlen : 0 < s.readies.length := by
          rcases Nat.eq_zero_or_pos s.readies.length with h | h
          · have := (G.readies_nil hE.run.inv).1 (List.length_eq_zero_iff.1 h)
            rw [hf0] at this; cases this
          · exact h
        clear hE hrel
        go_wp2_with fail
        refine HRY.out.mono ?_
        rintro e w4 ⟨v4, rfl, ho4, hb4⟩
        obtain ⟨g4, c4, rfl⟩ := own_form ho4 hlen
        have hr4 := HE.out.run.keep hb4
        have HDN := Lib.hid hr4.Done
        have HMV := Lib.hid hr4.Moves
        generalize hL : s.readies.length = L at *
        have hz : decide ((L : Int) = 0) = false := by simp; omega
        clear HRY
        go_wp2_with fail
        refine HDN.out.mono ?_
        rintro e w5 ⟨rfl, hw5⟩
        subst hw5
        rw [hf0]
        clear HDN
        go_wp2_with fail
        refine HMV.out.mono ?_
        rintro e w5 ⟨rfl, hw5⟩
        subst hw5
        have hmv := HE.out.mov
        rw [hmv]
        clear HMV hmv
        have hb4' := HE.out.bel.trans (hb4.mono HE.out.bel.size)
        have HB4 := Lib.hid hb4
        have HB4' := Lib.hid hb4'
        have HR4 := Lib.hid hr4
        have HO4 := Lib.hid ho4
        clear hb4 hb4' hr4 ho4
        have hC0 : m = 0 ∨ (0 < m ∧ ∃ pb po, C = some ⟨pb, po, none⟩ ∧ (k % m < m) ∧ w4.cell? ⟨pb, po + k % m, none⟩ = some (.int .i64 (g (k % m)))) := by
          rcases Nat.eq_zero_or_pos m with h | h
          · exact .inl h
          · obtain ⟨pb, po, rfl, hpl, hpc⟩ := HC.out h
            refine .inr ⟨h, pb, po, rfl, Nat.mod_lt _ h, ?_⟩
            rw [HB4'.out.cell (p := ⟨pb, po + k % m, none⟩) hpl, hpc _ (Nat.mod_lt _ h)]
        have hC := Lib.hid hC0
        clear hC0
        go_upto_if 68 with (fail)
        go_cut [15] from 49 to 79 (fun a wx => Hid (∃ x, x < L ∧ a = .int .i64 (x : Nat) ∧ wx = w4))
        case first =>
          rcases hC.out with hm0 | ⟨hm0, pb, po, hCe, hkm, hcell⟩
          · have hd2 : decide ((0 : Int) < (m : Int)) = false := by simp; omega
            clear hC
            go_wp2_with fail
            go_meet
            exact ⟨0, by omega, rfl, rfl⟩
          · have hd2 : decide ((0 : Int) < (m : Int)) = true := by simp; omega
            subst hCe
            clear hC
            go_wp2_with fail
            · go_meet
              exact ⟨0, by omega, rfl, rfl⟩
            · go_meet
              have hx1 := Int.emod_nonneg (g (k % m)) (b := (L : Int)) (by omega)
              have hx2 := Int.emod_lt_of_pos (g (k % m)) (b := (L : Int)) (by omega)
              exact ⟨(g (k % m) % L).toNat, by omega, by congr 1; omega, rfl⟩
        case rest =>
          obtain ⟨x, hx, rfl, rfl⟩ := hcut.out
          have hL' : L ≤ 17 := by
            have h1 : s.readies.length ≤ s.T := by have := filter_range_len s.rdy s.T; exact this
            have h2 := HE.out.run.T_le
            omega
          have hxc := HO4.out.cellAt x (by rw [Nat.mul_one]; exact hx)
          have hxt : s.readies[x]? = some (s.readies.getD x 0) := by simp [List.getD, show x < s.readies.length by omega]
          rw [intl_get hxt] at hxc
          have hrd : s.rdy (s.readies.getD x 0) = true := G.mem_readies (List.mem_of_getElem? hxt)
          generalize s.readies.getD x 0 = t at *
          have HST := Lib.hid (HR4.out.Step t hrd)
          have hI := HE.out.run.inv
          clear hcut HC hxt
          go_wp2_with fail
          refine HST.out.mono ?_
          rintro e w5 ⟨rfl, hr5, hk5⟩
          have hmf : (s.move t).1 < s.T ∧ (s.move t).2.1 < n := by
            cases hkd : s.kid? (s.top t) with
            | none =>
              have h1 := G.end_facts hI hrd hkd
              rw [h1.1, ← HE.out.sn]; exact ⟨h1.2.2.1, h1.2.1⟩
            | some c =>
              have h1 := G.beg_facts hI hrd hkd
              rw [h1.1, ← HE.out.sn]; exact ⟨h1.2.2.2.1, h1.2.1⟩
          have HK5 := Lib.hid hk5
          have HR5 := Lib.hid hr5
          have hth := hmf.1
          have hnd := hmf.2
          rw [HE.out.sT] at hth
          have hmv : s.move t = ((s.move t).1, (s.move t).2.1, (s.move t).2.2) := rfl
          have HMV := Lib.hid hmv
          clear hmf hk5 hr5 HST hmv hxc
          generalize (s.move t).1 = th at *
          generalize (s.move t).2.1 = nd at *
          generalize (s.move t).2.2 = en at *
          unfold evV
          go_upto_region 20 with (fail)
          have kA : (w5.alloc (Obj.cells #[Value.int IntKind.i64 (th : Nat), Value.int IntKind.i64 (nd : Nat), Value.bool en] 41)).cell? ⟨w5.heap.size, 0, none⟩ = some (.int .i64 (th : Nat)) := by simp
          have kB : (w5.alloc (Obj.cells #[Value.int IntKind.i64 (th : Nat), Value.int IntKind.i64 (nd : Nat), Value.bool en] 41)).cell? ⟨w5.heap.size, 1, none⟩ = some (.int .i64 (nd : Nat)) := by simp
          have kC : (w5.alloc (Obj.cells #[Value.int IntKind.i64 (th : Nat), Value.int IntKind.i64 (nd : Nat), Value.bool en] 41)).cell? ⟨w5.heap.size, 2, none⟩ = some (.bool en) := by simp
          have HM5 := Lib.hid (HE.out.event hN0 HB4.out HK5.out HR5.out (Obj.cells #[Value.int IntKind.i64 (th : Nat), Value.int IntKind.i64 (nd : Nat), Value.bool en] 41))
          have hpe : w5.heap.size < (w5.alloc (Obj.cells #[Value.int IntKind.i64 (th : Nat), Value.int IntKind.i64 (nd : Nat), Value.bool en] 41)).heap.size := by simp
          have hpP : Hid (∀ b, (b < w1.heap.size ∨ (w2.heap.size ≤ b ∧ b < M)) → b < w5.heap.size) := Lib.hid HR5.out.P_lt
          clear HK5 HR5 HB4 HR4 HO4 HB4' HE
          generalize w5.alloc (Obj.cells #[Value.int IntKind.i64 (th : Nat), Value.int IntKind.i64 (nd : Nat), Value.bool en] 41) = W at *
          generalize w5.heap.size = pe at *
          have HAL := Lib.hid HM5.out.run.Alive
          have hal : (s.step t).alive + 1 ≤ thr wk := by
            have h1 := G.alive_le (s := s.step t)
            have h2 := HM5.out.run.T_ge
            rw [G.step_T, HM5.out.sT] at h1 h2
            omega
          have hthr : thr wk = (min (max wk 1) 16).toNat + 1 := rfl
          generalize (s.step t).alive = al at *
          go_cut [122] from 49 to 122 (fun a wx => Hid (a = .bool false ∧ wx = W))
          case first =>
            --<alive
            as_aux_lemma =>
              go_wp2_with fail
              refine HAL.out.mono ?_
              rintro e w6 ⟨rfl, hw6⟩
              subst hw6
              go_wp2_with fail
              all_goals (go_meet; exact ⟨by simp; omega, rfl⟩)
            -->alive
          case rest =>
            obtain ⟨rfl, rfl⟩ := hcut.out
            obtain ⟨pb, po, hAe, hpl, hpc⟩ := HA.out (by omega)
            have kfa : ∀ c, c < n → wc.cell? ⟨pb, po + c, none⟩ = some (.int .i64 (f c)) := fun c hc => by rw [HM5.out.bel.cell (p := ⟨pb, po + c, none⟩) hpl, hpc c hc]
            have kgb : ∀ c, c < n → wc.cell? ⟨gb, c, none⟩ = some (.bool (s.beg c)) := fun c hc => by rw [HM5.out.ob.cellAt c (by rw [Nat.mul_one]; exact hc), bools_get hc]
            have kge : ∀ c, c < n → wc.cell? ⟨ge, c, none⟩ = some (.bool (s.fin c)) := fun c hc => by rw [HM5.out.oe.cellAt c (by rw [Nat.mul_one]; exact hc), bools_get hc]
            have kgr : ∀ c, c < n → wc.cell? ⟨gr, c, none⟩ = some (.int .i64 (q c : Nat)) := fun c hc => by rw [HM5.out.orr.cellAt c (by rw [Nat.mul_one]; exact hc), ints_get hc]
            have hfb := HM5.out.ob.frozenAt nd
            have hfe := HM5.out.oe.frozenAt nd
            have hfr := HM5.out.orr.frozenAt nd
            have hsn := HM5.out.sn
            have hsp := HM5.out.sp
            have hran := HM5.out.ran
            have hw2N : w.heap.size ≤ w2.heap.size := hwc2
            subst hAe
            clear hcut HAL hpc hal hthr
            cases hkd : s.kid? (s.top t) with
            | none =>
              obtain ⟨m1, m2, m3, m4, m5, m6, m7, m8, m9, m10⟩ := G.end_facts hI hrd hkd
              have hmm := HMV.out
              rw [m1] at hmm
              simp only [Prod.mk.injEq] at hmm
              obtain ⟨e1, e2, e3⟩ := hmm
              subst e3
              subst e1
              rw [e2] at m4 m5 m6 m7 m9
              have hq := hran t m3 nd m6
              have gb1 := kgb nd hnd
              rw [m4] at gb1
              have ge1 := kge nd hnd
              rw [m5] at ge1
              have gr1 := kgr nd hnd
              rw [hq] at gr1
              have HK := Lib.hid (fun j => (HM5.out.drewN j).ended hw2N (c := nd) m8 m9 m10)
              have H7 : Hid (∀ c, 0 < c → c < n → f c = (nd : Nat) → s.fin c = true) := Lib.hid (fun c h1 h2 h3 => m7 c h1 (by rw [hsn]; exact h2) (by rw [hsp]; exact h3))
              have KFA := Lib.hid kfa
              have KGE := Lib.hid kge
              clear hran m1 m2 m3 m4 m5 m6 m7 m8 m9 m10 hq HMV hkd e2 hrd hI kgr hsp kgb kfa kge
              --<endarm
              as_aux_lemma =>
                go_wp2_with fail
                go_loopw [18] (fun i wr => Hid (∃ (c j : Nat), i = .int .i64 (c : Nat) ∧ 1 ≤ c ∧ c ≤ n ∧ wr = wc.drewN j)) (fun i _ => n - (intOf i).toNat)
                case atStart => exact ⟨1, 0, rfl, Nat.le_refl _, hn1, rfl⟩
                case round =>
                  obtain ⟨c, j, rfl, hc1, hcn, rfl⟩ := hrel.out
                  clear hrel
                  by_cases hc : c < n
                  · have ka := KFA.out c hc
                    have kb := KGE.out c hc
                    by_cases hd1 : f c = (nd : Nat)
                    · have hd1' : decide (f c = (nd : Nat)) = true := by simp [hd1]
                      rw [H7.out c hc1 hc hd1] at kb
                      go_wp2_with fail
                      go_quiet (fail)
                      go_wp2_with fail
                      go_quiet (fail)
                      go_wp2_with fail
                      exact ⟨⟨c + 1, _, by go_num, by omega, by omega, rfl⟩, by simp [intOf]; omega⟩
                    · have hd1' : decide (f c = (nd : Nat)) = false := by simp [hd1]
                      go_wp2_with fail
                      go_quiet (fail)
                      go_wp2_with fail
                      go_quiet (fail)
                      go_wp2_with fail
                      exact ⟨⟨c + 1, _, by go_num, by omega, by omega, rfl⟩, by simp [intOf]; omega⟩
                  · go_wp2_with fail
                    go_quiet (fail)
                    go_wp2_with fail
                    exact ⟨⟨k + 1, s.step t, q, by omega, by go_num, HK.out _⟩, by simp [intOf]; omega⟩
              -->endarm
            | some c0 =>
              obtain ⟨m1, m2, m3, m4, m5, m6, m7, m8, m9, m10, m11, m12, m13⟩ := G.beg_facts hI hrd hkd
              have hmm := HMV.out
              rw [m1] at hmm
              simp only [Prod.mk.injEq] at hmm
              obtain ⟨e1, e2, e3⟩ := hmm
              subst e3
              subst e2
              rw [hsp] at m6 m10
              rw [hsn] at m2
              have hpn : s.top t < n := Nat.lt_trans m7 hnd
              have kfn := kfa c0 hnd
              rw [m6] at kfn
              have gbn := kgb c0 hnd
              rw [m5] at gbn
              have gbp := kgb (s.top t) hpn
              rw [m8] at gbp
              have gep := kge (s.top t) hpn
              rw [m9] at gep
              have grn := kgr c0 hnd
              have HK := Lib.hid (fun j => (HM5.out.drewN j).begun hw2N (c := c0) (u := th) m5 e1.symm m11 m12 m13)
              have H7 : Hid (∀ c, 0 < c → c < c0 → f c = (s.top t : Nat) → s.beg c = true) := Lib.hid (fun c h1 h2 h3 => m10 c h1 h2 (by rw [h3, m6]))
              have KFA := Lib.hid kfa
              have KGB := Lib.hid kgb
              clear hran m1 m4 m5 m6 m7 m8 m9 m10 m11 m12 m13 HMV hkd e1 hrd hI kgr hsp kge kfa kgb
              generalize s.top t = p at *
              --<begarm
              as_aux_lemma =>
                go_wp2_with fail
                go_loopw [18] (fun i wr => Hid (∃ (c j : Nat), i = .int .i64 (c : Nat) ∧ 1 ≤ c ∧ c ≤ n ∧ wr = wc.drewN j)) (fun i _ => n - (intOf i).toNat)
                case atStart => exact ⟨1, 0, rfl, Nat.le_refl _, hn1, rfl⟩
                case round =>
                  obtain ⟨c, j, rfl, hc1, hcn, rfl⟩ := hrel.out
                  clear hrel
                  by_cases hc : c < n
                  · have ka := KFA.out c hc
                    have kb := KGB.out c hc
                    --<begin1
                    as_aux_lemma =>
                      by_cases hd1 : f c = (p : Nat)
                      · have hd1' : decide (f c = (p : Nat)) = true := by simp [hd1]
                        by_cases hd2 : c < c0
                        · have hd2' : decide ((c : Int) < (c0 : Int)) = true := by simp; omega
                          rw [H7.out c hc1 hd2 hd1] at kb
                          go_wp2_with fail
                          go_quiet (fail)
                          go_wp2_with fail
                          go_quiet (fail)
                          go_wp2_with fail
                          exact ⟨⟨c + 1, _, by go_num, by omega, by omega, rfl⟩, by simp [intOf]; omega⟩
                        · have hd2' : decide ((c : Int) < (c0 : Int)) = false := by simp; omega
                          go_wp2_with fail
                          go_quiet (fail)
                          go_wp2_with fail
                          go_quiet (fail)
                          go_wp2_with fail
                          exact ⟨⟨c + 1, _, by go_num, by omega, by omega, rfl⟩, by simp [intOf]; omega⟩
                      · have hd1' : decide (f c = (p : Nat)) = false := by simp [hd1]
                        go_wp2_with fail
                        go_quiet (fail)
                        go_wp2_with fail
                        go_quiet (fail)
                        go_wp2_with fail
                        exact ⟨⟨c + 1, _, by go_num, by omega, by omega, rfl⟩, by simp [intOf]; omega⟩
                    -->begin1
                  · have hd3 : decide ((c0 : Int) = 0) = false := by simp; omega
                    go_wp2_with fail
                    have hgp := hpP.out gb (.inr HM5.out.lb)
                    have hrp := hpP.out gr (.inr HM5.out.lr)
                    have e1 : ¬ pe = gb := by omega
                    have e2 : ¬ gb = pe := by omega
                    have e3 : ¬ pe = gr := by omega
                    have e4 : ¬ gr = pe := by omega
                    have e5 : ¬ gb = gr := by omega
                    have e6 : ¬ gr = gb := by omega
                    go_region
                    clear e1 e2 e3 e4 e5 e6
                    go_wp2_with fail
                    go_roundw
                    case rel => exact ⟨k + 1, s.step t, _, by omega, rfl, HK.out _⟩
                    case measure => simp [intOf]; omega
                  -->begarm
      --<exit
      · as_aux_lemma =>
        have hdn : s.fin 0 = true := (G.done_iff hE.run.inv).2 (by rw [hE.mov, hE.sn]; omega)
        have hal := G.done_alive hE.run.inv hdn
        have hrn := (G.readies_nil hE.run.inv).2 hdn
        have hop := G.done_opens hE.run.inv hdn
        have hfa := G.all_fin hE.run.inv hdn
        have HF : Hid (hasB n s.fin false = false) := by
          refine Lib.hid ?_
          unfold hasB
          rw [List.any_eq_false]
          intro i hi
          rw [hfa i (by rw [hE.sn]; exact List.mem_range.1 hi)]; simp
        have HDN := Lib.hid hE.run.Done
        have HAL := Lib.hid hE.run.Alive
        have hq : decide ((k : Int) = 2 * (n : Int) - 1) = true := by simp; omega
        have hd : decide ((k : Int) < 2 * (n : Int) - 1) = false := by simp; omega
        have hsz := hE.bel.size
        clear hE hrel hfa
        go_wp2_with fail
        refine HDN.out.mono ?_
        rintro e w5 ⟨rfl, hw5⟩
        subst hw5
        rw [hdn]
        clear HDN hdn
        go_wp2_with fail
        refine HAL.out.mono ?_
        rintro e w5 ⟨rfl, hw5⟩
        subst hw5
        rw [hal]
        clear HAL hal
        go_wp2_with fail
        refine HRY.out.mono ?_
        rintro e w6 ⟨v6, rfl, ho6, hb6⟩
        rw [hrn] at ho6
        obtain ⟨A6, c6, rfl, _⟩ := own_any ho6
        have HOP := Lib.hid (HE.out.run.keep hb6).Open
        have HB6 := Lib.hid hb6
        clear HRY hrn ho6 hb6
        go_wp2_with fail
        refine HOP.out.mono ?_
        rintro e w7 ⟨v7, rfl, ho7, hb7⟩
        rw [hop] at ho7
        obtain ⟨A7, c7, rfl, _⟩ := own_any ho7
        have HMV := Lib.hid ((HE.out.run.keep HB6.out).keep hb7).Moves
        have HB7 := Lib.hid (HB6.out.trans (hb7.mono HB6.out.size))
        clear HOP hop ho7 hb7
        go_wp2_with fail
        refine HMV.out.mono ?_
        rintro e w8 ⟨rfl, hw8⟩
        subst hw8
        have hmv := HE.out.mov
        rw [hmv]
        clear HMV hmv
        have HCB := Lib.hid (contains_B (some ⟨ge, 0, none⟩) n n s.fin false w7 (rdB_own (own_congr HE.out.oe fun g hg => HB7.out.block g (own_lt HE.out.oe hg))) (by omega))
        go_wp2_with fail
        refine HCB.out.mono ?_
        rintro e w8 ⟨rfl, hw8⟩
        subst hw8
        rw [HF.out]
        have HBB := Lib.hid (HE.out.bel.trans (HB7.out.mono hsz))
        clear HCB HF HE HB6 HB7
        go_wp2_with fail
        go_ret
        exact ⟨rfl, HBB.out⟩
      -->exit
end Go.Proofs.Ytlncdkdkoamadaa
