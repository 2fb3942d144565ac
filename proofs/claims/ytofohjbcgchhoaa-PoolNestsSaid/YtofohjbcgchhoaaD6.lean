/-
  STEPS, on: a group's counter.
-/
import Derived.Test.YtofohjbcgchhoaaD5
namespace Go.Proofs.Ytofohjbcgchhoaa
open Go.Conc
open Go.RowKit
open Go.ConcN (sumTo sumTo_congr le_sumTo)

section
variable {B0 : Nat} {w0 : World} {PP : Value → World → Prop} {γ γ' : Gh} {w w' : World} {t : Trace} {i : Nat}

theorem Works.other {l : Lo} {u : Nat} {J : Res → Prop} (h : Works l u J) : l.wg = some u := h.1

/-- One goroutine's part in one group has changed. -/
theorem Team.one (h : Team γ) (hi : i < γ.N) {u : Nat} {G G1 : WgG} {l' : Lo} (hγ' : γ' = { γ.set i l' with wg := fun x => if x = u then some G1 else γ.wg x }) (hG : γ.wg u = some G) (hb : G1.boss = G.boss) (hwg : l'.wg = (γ.lo i).wg) (hjn : l'.jn = (γ.lo i).jn)
    (hwk : ∀ x, x ≠ u → l'.wk x = (γ.lo i).wk x) (hws : ∀ x, x ≠ u → l'.ws x = (γ.lo i).ws x) (hng : (γ.lo i).md ≠ .gone) (hng' : l'.md ≠ .gone) (hmd : ∀ x B, l'.ws x = some B → l'.md = .act) (hm0 : i = 0 → l'.md = .act) (hmx : l'.md = (γ.lo i).md ∨ (γ.lo i).wg = some u)
    (hu1 : ∀ B', l'.ws u = some B' → ∃ B, (γ.lo i).ws u = some B ∧ B'.ws = B.ws ∧ γ'.cnt u ≤ B'.hi ∧ (B'.ph = 0 → G1.ph = 0) ∧ (B'.ph ≠ 0 → G1.ph ≠ 0 ∧ l'.wk u = 0)) (hu2 : ∀ B, (γ.lo i).ws u = some B → ∃ B', l'.ws u = some B' ∧ B'.ws = B.ws)
    (hub : ∀ b B, b < γ.N → b ≠ i → (γ.lo b).ws u = some B → γ'.cnt u ≤ B.hi ∧ (B.ph = 0 → G1.ph = 0) ∧ (B.ph ≠ 0 → G1.ph ≠ 0)) (hworks : ∀ b B J x, b < γ.N → (γ.lo b).ws x = some B → (i, J) ∈ B.ws → Works l' x J)
    (hwkx : l'.wk u ≠ 0 → l'.wg = some u ∨ ∃ B, l'.ws u = some B) (hph : G1.ph ≤ 4 ∧ (G1.ph = 1 → 0 < γ'.cnt u) ∧ (2 ≤ G1.ph → γ'.cnt u = 0)) (hsm : γ'.cnt u < 2147483648) (hdu : G1.ph = 2 ∨ G1.ph = 3 → G1.du < γ.N ∧ (γ'.lo G1.du).wg = some u ∧ ∃ p a, (γ'.lo G1.du).md = .rel p a G1.ph)
    (hdi : ∀ p a ph x, l'.md = .rel p a ph → ph ≠ 0 → l'.wg = some x → (ph = 2 ∨ ph = 3) ∧ ∃ G', γ'.wg x = some G' ∧ G'.ph = ph ∧ G'.du = i) (hdo : ∀ j, j ≠ i → (G.ph = 2 ∨ G.ph = 3) → G.du = j → G1.ph = G.ph ∧ G1.du = G.du) : Team γ' := by
  have hlo : ∀ j, j ≠ i → γ'.lo j = γ.lo j := fun j hj => by rw [hγ']; exact set_ne γ l' hj
  have hli : γ'.lo i = l' := by rw [hγ']; exact set_same γ i l'
  have hN : γ'.N = γ.N := by rw [hγ']; rfl
  have hw : ∀ x, γ'.wg x = if x = u then some G1 else γ.wg x := fun x => by rw [hγ']
  have hcn : ∀ x, x ≠ u → γ'.cnt x = γ.cnt x := fun x hx => by
    unfold Gh.cnt
    rw [hN]
    refine sumTo_congr fun j _ => ?_
    by_cases e : j = i
    · subst e; rw [hli]; exact hwk x hx
    · rw [hlo j e]
  have hwg' : ∀ j, (γ'.lo j).wg = (γ.lo j).wg := fun j => by
    by_cases e : j = i
    · subst e; rw [hli]; exact hwg
    · rw [hlo j e]
  have hjn' : ∀ j, (γ'.lo j).jn = (γ.lo j).jn := fun j => by
    by_cases e : j = i
    · subst e; rw [hli]; exact hjn
    · rw [hlo j e]
  have hgone : ∀ j, (γ'.lo j).md = .gone ↔ (γ.lo j).md = .gone := fun j => by
    by_cases e : j = i
    · subst e; rw [hli]; exact ⟨fun x => absurd x hng', fun x => absurd x hng⟩
    · rw [hlo j e]
  exact {
    pos := by rw [hN]; exact h.pos
    main := by
      refine ⟨?_, by rw [hwg']; exact h.main.2⟩
      by_cases e : 0 = i
      · rw [← e] at hli; rw [hli]; exact hm0 e.symm
      · rw [hlo 0 e]; exact h.main.1
    boss := fun b hbN x B hB => by
      rw [hN] at hbN
      have memb : ∀ (l0 : List (Nat × (Res → Prop))), (∀ c J, (c, J) ∈ l0 → c < γ.N ∧ b < c ∧ Works (γ.lo c) x J) → (∃ B0', (γ.lo b).ws x = some B0' ∧ B0'.ws = l0) → ∀ c J, (c, J) ∈ l0 → c < γ'.N ∧ b < c ∧ Works (γ'.lo c) x J := fun l0 hl0 ⟨B0', hB0, hB0l⟩ c J hc => by
        obtain ⟨k1, k2, k3⟩ := hl0 c J hc
        refine ⟨by rw [hN]; exact k1, k2, ?_⟩
        by_cases e : c = i
        · rw [e, hli]
          exact hworks b B0' J x hbN hB0 (by rw [hB0l, ← e]; exact hc)
        · rw [hlo c e]; exact k3
      by_cases eb : b = i
      · rw [eb] at hB memb hbN ⊢
        rw [hli] at hB ⊢
        by_cases ex : x = u
        · rw [ex] at hB memb ⊢
          obtain ⟨Bo, hBo, e1, e2, e3, e4⟩ := hu1 B hB
          obtain ⟨k1, k2, k3, k4, Gx, k5, k6, k7, k8⟩ := h.boss i hi u Bo hBo
          rw [hG] at k5
          cases k5
          refine ⟨hmd u B hB, by rw [e1]; exact k2, ?_, e2, G1, by rw [hw, if_pos rfl], by rw [hb]; exact k6, e3, e4⟩
          rw [e1]
          exact memb Bo.ws k3 ⟨Bo, hBo, rfl⟩
        · have hBo := hB
          rw [hws x ex] at hBo
          obtain ⟨k1, k2, k3, k4, Gx, k5, k6, k7, k8⟩ := h.boss i hi x B hBo
          refine ⟨hmd x B hB, k2, memb B.ws k3 ⟨B, hBo, rfl⟩, by rw [hcn x ex]; exact k4, Gx, by rw [hw, if_neg ex]; exact k5, k6, k7, fun e => ⟨(k8 e).1, by rw [hwk x ex]; exact (k8 e).2⟩⟩
      · rw [hlo b eb] at hB ⊢
        obtain ⟨k1, k2, k3, k4, Gx, k5, k6, k7, k8⟩ := h.boss b hbN x B hB
        refine ⟨k1, k2, memb B.ws k3 ⟨B, hB, rfl⟩, ?_⟩
        by_cases ex : x = u
        · rw [ex] at hB k5 k8 ⊢
          rw [hG] at k5
          cases k5
          obtain ⟨m1, m2, m3⟩ := hub b B hbN eb hB
          exact ⟨m1, G1, by rw [hw, if_pos rfl], by rw [hb]; exact k6, m2, fun e => ⟨m3 e, (k8 e).2⟩⟩
        · exact ⟨by rw [hcn x ex]; exact k4, Gx, by rw [hw, if_neg ex]; exact k5, k6, k7, k8⟩
    led := fun c hc hc0 hg => by
      rw [hN] at hc
      obtain ⟨b, x, B, J, k1, k2, k3⟩ := h.led c hc hc0 (fun e => hg ((hgone c).2 e))
      by_cases eb : b = i
      · rw [eb] at k1 k2
        by_cases ex : x = u
        · rw [ex] at k2
          obtain ⟨B', e1, e2⟩ := hu2 B k2
          exact ⟨i, u, B', J, by rw [hN]; exact k1, by rw [hli]; exact e1, by rw [e2]; exact k3⟩
        · exact ⟨i, x, B, J, by rw [hN]; exact k1, by rw [hli, hws x ex]; exact k2, k3⟩
      · exact ⟨b, x, B, J, by rw [hN]; exact k1, by rw [hlo b eb]; exact k2, k3⟩
    wk := fun j hj x e => by
      rw [hN] at hj
      by_cases ej : j = i
      · rw [ej, hli] at e ⊢
        by_cases ex : x = u
        · rw [ex] at e ⊢; exact hwkx e
        · rw [hwk x ex] at e
          rw [hwg, hws x ex]
          exact h.wk i hi x e
      · rw [hlo j ej] at e ⊢; exact h.wk j hj x e
    small := fun x => by
      by_cases ex : x = u
      · rw [ex]; exact hsm
      · rw [hcn x ex]; exact h.small x
    wph := fun x Gx hx => by
      rw [hw] at hx
      by_cases ex : x = u
      · rw [if_pos ex] at hx
        cases hx
        rw [ex, hN]
        exact ⟨hph.1, hph.2.1, hph.2.2, hdu⟩
      · rw [if_neg ex] at hx
        obtain ⟨k1, k2, k3, k4⟩ := h.wph x Gx hx
        rw [hcn x ex, hN]
        refine ⟨k1, k2, k3, fun e => ?_⟩
        obtain ⟨m1, m2, p, a, m3⟩ := k4 e
        refine ⟨m1, by rw [hwg']; exact m2, ?_⟩
        by_cases ed : Gx.du = i
        · -- its duty is of another group: it is not this one's
          rw [ed, hli]
          rw [ed] at m2 m3
          rcases hmx with hm | hm
          · exact ⟨p, a, by rw [hm]; exact m3⟩
          · rw [hm] at m2; exact absurd (Option.some.inj m2).symm ex
        · rw [hlo _ ed]; exact ⟨p, a, m3⟩
    duty := fun j hj p a ph x e hph' hx => by
      rw [hN] at hj
      by_cases ej : j = i
      · rw [ej] at e hx ⊢
        rw [hli] at e hx
        exact hdi p a ph x e hph' hx
      · rw [hlo j ej] at e hx
        obtain ⟨k1, Gx, k2, k3, k4⟩ := h.duty j hj p a ph x e hph' hx
        refine ⟨k1, ?_⟩
        by_cases ex : x = u
        · rw [ex] at k2 ⊢
          rw [hG] at k2
          cases k2
          obtain ⟨m1, m2⟩ := hdo j ej (by omega) k4
          exact ⟨G1, by rw [hw, if_pos rfl], by rw [m1]; exact k3, by rw [m2]; exact k4⟩
        · exact ⟨Gx, by rw [hw, if_neg ex]; exact k2, k3, k4⟩
    gone := fun j hj e => by
      rw [hN] at hj
      have hji : j ≠ i := fun e' => hng ((hgone i).1 (e' ▸ e))
      rw [hlo j hji] at e ⊢
      exact h.gone j hj e
    jn := fun j hj e => by
      rw [hN] at hj
      rw [hjn']
      obtain ⟨k1, k2⟩ := h.jn j hj (fun x => e ((hgone j).2 x))
      exact ⟨k1, fun j' hj' hx => by rw [hN] at hj'; rw [hjn'] at hx; exact k2 j' hj' hx⟩
    jng := fun c hc e => by
      rw [hN] at hc
      obtain ⟨j, k1, k2, k3⟩ := h.jng c hc ((hgone c).1 e)
      exact ⟨j, by rw [hN]; exact k1, fun x => k2 ((hgone j).1 x), by rw [hjn']; exact k3⟩
    jlt := fun j hj c e => by rw [hN] at hj ⊢; rw [hjn'] at e; exact h.jlt j hj c e
    nown := fun x e j hj => by
      rw [hN] at hj
      rw [hw] at e
      by_cases ex : x = u
      · rw [if_pos ex] at e; cases e
      · rw [if_neg ex] at e
        obtain ⟨k1, k2, k3⟩ := h.nown x e j hj
        by_cases ej : j = i
        · rw [ej] at k1 k2 k3 ⊢
          rw [hli, hwk x ex, hws x ex, hwg]; exact ⟨k1, k2, k3⟩
        · rw [hlo j ej]; exact ⟨k1, k2, k3⟩ }
end
end Go.Proofs.Ytofohjbcgchhoaa
