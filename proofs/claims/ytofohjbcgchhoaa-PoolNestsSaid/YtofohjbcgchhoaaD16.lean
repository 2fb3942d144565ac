/-
  STEPS, on: what is forgotten, what is counted; goroutine 0 alone.
-/
import Derived.Test.YtofohjbcgchhoaaD15
namespace Go.Proofs.Ytofohjbcgchhoaa
open Go.Conc
open Go.RowKit
open Go.ConcN (sumTo sumTo_congr le_sumTo)

section
variable {B0 : Nat} {w0 : World} {PP : Value → World → Prop} {γ γ' : Gh} {w : World} {t : Trace} {i : Nat}

/-- What is known may be forgotten; members may be counted; a bound of slots may grow. -/
theorem Whole.know (h : Whole B0 w0 γ w t) (hi : i < γ.N) (hact : (γ.lo i).md = .act) {pk' : Nat → Nat} {cl' al' : Nat → Prop} {gk' : Nat → Option Nat} {sk' : Nat → Nat} {tk' : Tk → Nat} {l' : Lo} (hl : l' = { γ.lo i with pk := pk', cl := cl', al := al', gk := gk', sk := sk', res := ⟨(γ.lo i).res.cells, tk'⟩ })
    (hpk : ∀ p, pk' p ≤ (γ.lo i).pk p) (hcl : ∀ x, cl' x → (γ.lo i).cl x) (hal : ∀ x, al' x → (γ.lo i).al x) (htk : ∀ k, (∀ c, k ≠ .gm c) → tk' k = (γ.lo i).res.tk k)
    (hgm : ∀ c, (gk' c = (γ.lo i).gk c ∧ tk' (.gm c) = (γ.lo i).res.tk (.gm c)) ∨ ∃ g bg n p, (γ.lo i).gk c = some g ∧ gk' c = some (g + 1) ∧ tk' (.gm c) = (γ.lo i).res.tk (.gm c) + 1 ∧ (γ.lo i).gl c = some (bg, n, p) ∧ (γ.lo i).res.tk (.gm c) + 1 ≤ (γ.lo i).res.tk (.alive p))
    (hsk : ∀ p G, γ.pool p = some G → G.solo = true → i = 0 → γ.sum (.slot p) ≤ sk' p) :
    Whole B0 w0 (γ.set i l') w t ∧ ∀ wake, Keeps (SY B0 w0 PP) i γ w (γ.set i l') w wake := by
  have F : ∀ {α : Type} (f : Lo → α), f l' = f (γ.lo i) → ∀ j, f ((γ.set i l').lo j) = f (γ.lo j) := fun f h j => set_field f γ i l' h j
  have ftk : ∀ k, (∀ c, k ≠ .gm c) → ∀ j, ((γ.set i l').lo j).res.tk k = (γ.lo j).res.tk k := fun k hk => F (fun l => l.res.tk k) (by rw [hl]; exact htk k hk)
  have hs : ∀ k, (∀ c, k ≠ .gm c) → (γ.set i l').sum k = γ.sum k := fun k hk => sumTo_congr fun j _ => ftk k hk j
  have hcells := F (fun l => l.res.cells) (by rw [hl])
  have hcnt : ∀ x, (γ.set i l').cnt x = γ.cnt x := fun x => cnt_congr (γ := γ) (γ' := γ.set i l') rfl (fun j _ => F Lo.wk (by rw [hl]) j) x
  refine ⟨⟨?_, ?_, ?_, ?_, ?_⟩, fun wake => Keeps.atom h (fun j hj => set_ne γ l' hj) rfl (fun c hc => hc) (fun _ _ _ => rfl) (fun _ _ _ ho => ho) wake⟩
  · exact {
      bel := h.mem.bel
      big := h.mem.big
      cell := fun j hj a v e => by rw [hcells] at e; exact h.mem.cell j hj a v e
      ro := fun j hj a v e => by rw [F Lo.ro (by rw [hl]) j] at e; exact h.mem.ro j hj a v e
      pool := fun p G hG => by rw [hs _ (by simp), hs _ (by simp), hs _ (by simp)]; exact h.mem.pool p G hG
      oc := fun j hj c cap e => by rw [F Lo.oc (by rw [hl]) j] at e; exact h.mem.oc j hj c cap e
      wg := fun u G hG => by rw [hcnt]; exact h.mem.wg u G hG
      gate := fun c G hG => by rw [hs _ (by simp)]; exact h.mem.gate c G hG }
  · exact h.own.of rfl rfl rfl rfl (fun j _ => hcells j) (fun j _ a v => by rw [F Lo.ro (by rw [hl]) j]; exact id)
  · have hh := h.nums
    exact {
      slot := fun j hj p => by rw [ftk _ (by simp) j, ftk _ (by simp) j]; exact hh.slot j hj p
      pool := fun p G hG => by rw [hs _ (by simp)]; exact hh.pool p G hG
      pk := fun j hj p G hG => by
        by_cases e : j = i
        · rw [e, set_same, hl]; exact Nat.le_trans (hpk p) (hh.pk i hi p G hG)
        · rw [set_ne γ _ e]; exact hh.pk j hj p G hG
      pl := fun j hj p a b d e => by rw [F Lo.pl (by rw [hl]) j] at e; exact hh.pl j hj p a b d e
      gl := fun j hj c bg n p e => by rw [F Lo.gl (by rw [hl]) j] at e; exact hh.gl j hj c bg n p e
      cl := fun j hj c e => by
        by_cases ej : j = i
        · rw [ej, set_same, hl] at e; exact hh.cl i hi c (hcl c e)
        · rw [set_ne γ _ ej] at e; exact hh.cl j hj c e
      gate := fun c G hG => by
        rw [hs _ (by simp), hs _ (by simp)]
        obtain ⟨k1, k2⟩ := hh.gate c G hG
        refine ⟨k1, ?_⟩
        rcases k2 with k2 | ⟨k2, k3, k4, k5⟩ | k2
        · exact .inl k2
        · exact .inr (.inl ⟨k2, k3, k4, fun j hj => by rw [ftk _ (by simp) j, ftk _ (by simp) j]; exact k5 j hj⟩)
        · exact .inr (.inr k2)
      al := fun j hj c e => by
        rw [hs _ (by simp)]
        by_cases ej : j = i
        · rw [ej, set_same, hl] at e; exact hh.al i hi c (hal c e)
        · rw [set_ne γ _ ej] at e; exact hh.al j hj c e
      gm := fun c G hG hc j hj => by
        rw [ftk (.alive G.p) (by simp) j]
        by_cases ej : j = i
        · rw [ej, set_same, hl]
          rcases hgm c with ⟨_, e⟩ | ⟨g, bg, n, p, _, _, e3, e4, e5⟩
          · show tk' (.gm c) ≤ _
            rw [e]; exact hh.gm c G hG hc i hi
          · obtain ⟨cl, e6⟩ := hh.gl i hi c bg n p e4
            have e7 : G = ⟨bg, n, p, cl⟩ := Option.some.inj ((show γ.gate c = some G from hG).symm.trans e6)
            rw [e7]
            show tk' (.gm c) ≤ _
            rw [e3]; exact e5
        · rw [set_ne γ _ ej]; exact hh.gm c G hG hc j hj
      gk := fun j hj c k e => by
        have hsum := sum_set γ hi l' (.gm c)
        have e1 : l'.res.tk (.gm c) = tk' (.gm c) := by rw [hl]
        rw [e1] at hsum
        rcases hgm c with ⟨g1, g2⟩ | ⟨g, bg, n, p, g1, g2, g3, _⟩
        · have e2 : ((γ.set i l').lo j).gk c = (γ.lo j).gk c := F (fun l => l.gk c) (by rw [hl]; exact g1) j
          rw [e2] at e
          have := hh.gk j hj c k e
          omega
        · have hj' : j = i := by
            by_cases ej : j = i
            · exact ej
            · rw [set_ne γ _ ej, (hh.gku i hi c (by rw [g1]; simp)).2 j hj ej] at e; cases e
          rw [hj', set_same, hl] at e
          have e : gk' c = some k := e
          rw [g2] at e
          cases e
          have := hh.gk i hi c g g1
          omega
      gku := fun j hj c e => by
        have key : ∀ j, ((γ.set i l').lo j).gk c ≠ none ↔ (γ.lo j).gk c ≠ none := fun j => by
          by_cases ej : j = i
          · rw [ej, set_same, hl]
            rcases hgm c with ⟨g1, _⟩ | ⟨g, bg, n, p, g1, g2, _⟩
            · show gk' c ≠ none ↔ _
              rw [g1]
            · show gk' c ≠ none ↔ _
              rw [g1, g2]; simp
          · rw [set_ne γ _ ej]
        obtain ⟨k1, k2⟩ := hh.gku j hj c ((key j).1 e)
        refine ⟨k1, fun k hk hne => ?_⟩
        by_cases e0 : ((γ.set i l').lo k).gk c = none
        · exact e0
        · exact absurd (k2 k hk hne) ((key k).1 e0)
      nopk := fun p hp j hj => by
        by_cases e : j = i
        · rw [e, set_same, hl]
          have h1 := hpk p
          have h2 := hh.nopk p hp i hi
          show pk' p = 0
          omega
        · rw [set_ne γ _ e]; exact hh.nopk p hp j hj
      idle := fun j hj e c => by rw [F Lo.md (by rw [hl]) j] at e; rw [ftk _ (by simp) j]; exact hh.idle j hj e c
      chp := hh.chp
      chpp := hh.chpp
      solo := fun p G hG hso => by
        rw [hs _ (by simp)]
        by_cases e : (0 : Nat) = i
        · rw [e, set_same, hl]; exact hsk p G hG hso e.symm
        · rw [set_ne γ _ e]; exact hh.solo p G hG hso
      oc := fun j hj c e => by
        rw [F Lo.oc (by rw [hl]) j] at e
        obtain ⟨k1, k2, k3⟩ := hh.oc j hj c e
        exact ⟨k1, k2, fun k hk hne => by rw [F Lo.oc (by rw [hl]) k]; exact k3 k hk hne⟩
      bgi := hh.bgi
      nop := fun p hp j hj => by rw [ftk _ (by simp) j, ftk _ (by simp) j, ftk _ (by simp) j]; exact hh.nop p hp j hj
      nog := fun c hc j hj => by
        rw [ftk _ (by simp) j, ftk _ (by simp) j]
        refine ⟨(hh.nog c hc j hj).1, (hh.nog c hc j hj).2.1, ?_⟩
        by_cases ej : j = i
        · rw [ej, set_same, hl]
          rcases hgm c with ⟨_, g2⟩ | ⟨g, bg, n, p, g1, _⟩
          · show tk' (.gm c) = 0
            rw [g2]; exact (hh.nog c hc i hi).2.2
          · exact absurd hc (hh.gku i hi c (by rw [g1]; simp)).1
        · rw [set_ne γ _ ej]; exact (hh.nog c hc j hj).2.2 }
  · exact h.team.share hact (by rw [hl]; exact hact) (by rw [hl]) (by rw [hl]) (by rw [hl]) (by rw [hl]) (by rw [hl])
  · have := h.stills (l' := l') (pool := γ.pool) (gate := γ.gate) (w' := w) (u := []) hi (fun x hx => by cases hx) (by rw [hl]; rfl) (at_congr rfl rfl rfl) rfl
    rw [show ([] : List MemOp).toArray = #[] from rfl, Array.append_empty] at this
    exact this

/-- Goroutine 0 leads nobody: then nobody else is there any more. -/
theorem Whole.alone (h : Whole B0 w0 γ w t) (ha : ∀ u B, (γ.lo 0).ws u = some B → B.ws = []) : ∀ j, j < γ.N → j ≠ 0 → (γ.lo j).md = .gone := by
  intro j
  induction j using Nat.strongRecOn with
  | _ j ih =>
    intro hj hj0
    cases hm : (γ.lo j).md with
    | gone => rfl
    | _ =>
      exfalso
      obtain ⟨b, u, B, J, h1, h2, h3⟩ := h.team.led j hj hj0 (by rw [hm]; simp)
      obtain ⟨k1, _, k3, _⟩ := h.team.boss b h1 u B h2
      have hlt := (k3 j J h3).2.1
      by_cases e : b = 0
      · rw [e] at h2
        rw [ha u B h2] at h3; cases h3
      · have := ih b hlt h1 e
        rw [k1] at this; cases this
theorem Whole.alone_sum (h : Whole B0 w0 γ w t) (ha : ∀ u B, (γ.lo 0).ws u = some B → B.ws = []) (k : Tk) : γ.sum k = (γ.lo 0).res.tk k := by
  have hg := h.alone ha
  have hz : ∀ j, j < γ.N → j ≠ 0 → (γ.lo j).res.tk k = 0 := fun j hj h0 => (h.team.gone j hj (hg j hj h0)).2.1 k
  have := sumTo_one h.team.pos (fun j => (γ.lo j).res.tk k) (fun j => if j = 0 then 0 else (γ.lo j).res.tk k) (fun j hj => if_neg hj)
  have h0 : sumTo γ.N (fun j => if j = 0 then 0 else (γ.lo j).res.tk k) = 0 := sumTo_zero fun j hj => by
    by_cases e : j = 0
    · rw [if_pos e]
    · rw [if_neg e]; exact hz j hj e
  rw [h0, if_pos rfl] at this
  have e : γ.sum k = sumTo γ.N (fun j => (γ.lo j).res.tk k) := rfl
  omega

/-- The end: all is clean, all handed over; who is left only leaves. -/
theorem Whole.finish (h : Whole B0 w0 γ w t) (ha : ∀ u B, (γ.lo 0).ws u = some B → B.ws = []) : (∀ said, ¬ Race said t) ∧ t.HandedOver ∧ ∀ j, j < γ.N → j ≠ 0 → ∃ d, (γ.lo j).quit = some d ∧ Deaf t j = d := by
  have hg := h.alone ha
  refine ⟨h.tr.clean, h.tr.over h.team.pos (by simp [Lo.tg, h.team.main.1, Md.st]) (fun j hj hj0 => ?_), fun j hj hj0 => ⟨(γ.lo j).df, by simp [Lo.quit, hg j hj hj0], h.tr.df j hj⟩⟩
  obtain ⟨b, k1, k2, k3⟩ := h.team.jng j hj (hg j hj hj0)
  have : b = 0 := by
    by_cases e : b = 0
    · exact e
    · exact absurd (hg b k1 e) k2
  rw [this] at k3
  exact k3

/-- A counter of the pool is read, goroutine 0 alone. -/
theorem Whole.pool_read (h : Whole B0 w0 γ w t) (hi : i < γ.N) (hact : (γ.lo i).md = .act) {p ch cap o : Nat} {so : Bool} (hpl : (γ.lo i).pl p = some (ch, cap, so)) (ho : 1 ≤ o ∧ o < 4) (fn : FuncId) (pos : String) :
    Whole B0 w0 γ w (t ++ MemOp.ofEvents i fn pos #[⟨.cell ⟨p, o, none⟩, false, true⟩]) ∧ ∀ wake, Keeps (SY B0 w0 PP) i γ w γ w wake := by
  obtain ⟨k, hG⟩ := h.nums.pl i hi p ch cap so hpl
  have hp : AT γ ⟨p, o, none⟩ := ⟨rfl, .inl ⟨by rw [show γ.pool p = some _ from hG]; rfl, ho.1, ho.2⟩⟩
  exact ⟨h.atom hi fn pos rfl (fun j hj => rfl) rfl rfl rfl rfl rfl rfl h.mem h.nums h.team rfl rfl (fun e he => by
    obtain rfl : e = ⟨.cell ⟨p, o, none⟩, false, true⟩ := by simpa using he
    exact ⟨lt_of_cell2 (h.mem.pool p _ hG).2.1, hp⟩) (.inl hact), fun wake => Keeps.atom h (fun _ _ => rfl) rfl (fun c hc => hc) (fun _ _ _ => rfl) (fun _ _ _ ho => ho) wake⟩
end
end Go.Proofs.Ytofohjbcgchhoaa
