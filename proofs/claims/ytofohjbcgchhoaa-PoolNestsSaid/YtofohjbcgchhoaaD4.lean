/-
  STEPS, on: what the pool's own functions do to its counters.
-/
import Derived.Test.YtofohjbcgchhoaaD3
namespace Go.Proofs.Ytofohjbcgchhoaa
open Go.Conc
open Go.RowKit
open Go.ConcN (sumTo sumTo_congr le_sumTo)

section
variable {B0 : Nat} {w0 : World} {PP : Value → World → Prop} {γ : Gh} {w : World} {t : Trace} {i : Nat}

theorem sumTo_le {N : Nat} {f g : Nat → Nat} (h : ∀ j, j < N → f j ≤ g j) : sumTo N f ≤ sumTo N g := by
  induction N with
  | zero => exact Nat.le_refl _
  | succ n ih =>
    have h1 := ih fun j hj => h j (by omega)
    have h2 := h n (by omega)
    show sumTo n f + f n ≤ sumTo n g + g n
    omega

theorem pool_id {l' : Lo} {p : Nat} {G : PoolG} (hG : γ.pool p = some G) : ({ γ.set i l' with pool := fun q => if q = p then some G else γ.pool q } : Gh) = γ.set i l' := by
  have : (fun q => if q = p then some G else γ.pool q) = γ.pool := by
    funext q
    by_cases e : q = p
    · rw [if_pos e, e, hG]
    · rw [if_neg e]
  rw [this]
  rfl

def rw2 (a : Addr) : Array Event := #[⟨.cell a, false, true⟩, ⟨.cell a, true, true⟩]

/-- One more is alive. -/
theorem Whole.alive_up (h : Whole B0 w0 γ w t) (hi : i < γ.N) (hact : (γ.lo i).md = .act) {p ch cap : Nat} {so : Bool} (hpl : (γ.lo i).pl p = some (ch, cap, so)) (hlt : (γ.lo i).res.tk (.alive p) < (γ.lo i).res.tk (.slot p)) (fn : FuncId) (pos : String) :
    ∃ n : Nat, w.cell? ⟨p, 1, none⟩ = some (.int .i64 n) ∧ w.frozen? ⟨p, 1, none⟩ = false ∧ n + 1 ≤ cap ∧ cap ≤ 16 ∧
      (∀ c bg m g, (γ.lo i).gl c = some (bg, m, p) → (γ.lo i).gk c = some g → 0 < (γ.lo i).res.tk (.tr c) → g ≤ n) ∧
      Whole B0 w0 (γ.set i ((γ.lo i).tok (.alive p) ((γ.lo i).res.tk (.alive p) + 1))) (w.setCell ⟨p, 1, none⟩ (.int .i64 (n + 1 : Nat))) (t ++ MemOp.ofEvents i fn pos (rw2 ⟨p, 1, none⟩)) ∧
      ∀ wake, Keeps (SY B0 w0 PP) i γ w (γ.set i ((γ.lo i).tok (.alive p) ((γ.lo i).res.tk (.alive p) + 1))) (w.setCell ⟨p, 1, none⟩ (.int .i64 (n + 1 : Nat))) wake := by
  obtain ⟨k, hG⟩ := h.nums.pl i hi p ch cap so hpl
  obtain ⟨l', hl'⟩ : ∃ l', l' = (γ.lo i).tok (.alive p) ((γ.lo i).res.tk (.alive p) + 1) := ⟨_, rfl⟩
  have hn := h.nums.pool p _ hG
  have hsum := sum_set γ hi l' (.alive p)
  rw [hl', tok_same] at hsum
  rw [← hl'] at hsum ⊢
  have hle : (γ.set i l').sum (.alive p) ≤ γ.sum (.slot p) := sumTo_le fun j hj => by
    by_cases e : j = i
    · subst e; rw [set_same, hl', tok_same]; omega
    · rw [set_ne γ _ e]; exact h.nums.slot j hj p
  have hN : Nums (γ.set i l') := by
    refine h.nums.ab hi (by rw [hl']; rfl) (by rw [hl']; rfl) (by rw [hl']; rfl) (by rw [hl']; rfl) (by rw [hl']; rfl) (by rw [hl']; rfl) (by rw [hl']; rfl) (by rw [hl']; rfl) (by rw [hl']; rfl) (fun k h1 h2 => by rw [hl', tok_ne _ _ (h1 p)]) (fun q => ?_) (fun c G hc hcl => ?_) (fun q hq => ?_)
    · by_cases e : q = p
      · subst e; rw [hl', tok_same, tok_ne _ _ (by simp)]; omega
      · rw [hl', tok_ne _ _ (by simp [e]), tok_ne _ _ (by simp)]; exact h.nums.slot i hi q
    · have := h.nums.gm c G hc hcl i hi
      rw [hl', tok_ne _ _ (by simp)]
      by_cases e : G.p = p
      · rw [e, tok_same]; rw [e] at this; omega
      · rw [tok_ne _ _ (by simp [e])]; exact this
    · have hqp : q ≠ p := fun e => by rw [e, hG] at hq; cases hq
      have := h.nums.nop q hq i hi
      rw [hl', tok_ne _ _ (by simp [hqp]), tok_ne _ _ (by simp)]
      exact ⟨this.2.1, this.2.2⟩
  refine ⟨γ.sum (.alive p), (h.mem.pool p _ hG).2.1, (h.mem.pool p _ hG).2.2.2.2.1 1, by have := hn.2.2.2; simp only at this; omega, hn.2.2.1, fun c bg m g hgl hgk htr => ?_, ?_⟩
  · obtain ⟨cl, hgt⟩ := h.nums.gl i hi c bg m p hgl
    have hop : cl = false := by
      have hs := le_sum γ hi (.tr c)
      rcases (h.nums.gate c _ hgt).2 with ⟨e, _⟩ | ⟨e, _⟩ | ⟨_, _, e⟩
      · exact e
      · exact e
      · omega
    have hge := h.nums.gk i hi c g hgk
    rw [← hge]
    exact sumTo_le fun j hj => h.nums.gm c _ hgt hop j hj
  · have hsum' : (γ.set i l').sum (.alive p) = γ.sum (.alive p) + 1 := by omega
    have key := h.setPool (PP := PP) hi hact hG (o := 1) (by omega) (l' := l') (G1 := ⟨ch, cap, k, so⟩) ⟨rfl, rfl, rfl⟩ (.int .i64 (γ.sum (.alive p) + 1 : Nat)) fn pos (by rw [hl']; rfl) (by rw [hl']; rfl) (by rw [hl']; exact hact) (by rw [hl']; rfl) (by rw [hl']; rfl) (by rw [hl']; rfl) (by rw [hl']; rfl) (by rw [hl']; rfl) (by rw [hl']; rfl) (by rw [hl']; rfl)
      (by rw [pool_id hG]; exact hN) (by rw [hl', tok_ne _ _ (by simp)]) (fun k _ h1 h2 => by rw [hl', tok_ne _ _ h1]) ⟨fun _ => by rw [hsum'], fun e => absurd rfl e⟩ ⟨fun e => absurd e (by decide), fun _ => rfl⟩ ⟨fun e => absurd e (by decide), fun _ => by rw [hl', tok_ne _ _ (by simp)]⟩
    rw [pool_id hG] at key
    exact key

/-- One less. -/
theorem Whole.alive_down (h : Whole B0 w0 γ w t) (hi : i < γ.N) (hact : (γ.lo i).md = .act) {p ch cap : Nat} {so : Bool} (hpl : (γ.lo i).pl p = some (ch, cap, so)) {x : Nat} (hx : (γ.lo i).res.tk (.alive p) = x + 1) (hgm : ∀ c, (γ.lo i).res.tk (.gm c) = 0 ∨ (γ.lo i).cl c) (fn : FuncId) (pos : String) :
    ∃ n : Nat, w.cell? ⟨p, 1, none⟩ = some (.int .i64 (n + 1 : Nat)) ∧ w.frozen? ⟨p, 1, none⟩ = false ∧ n ≤ 16 ∧
      Whole B0 w0 (γ.set i ((γ.lo i).tok (.alive p) x)) (w.setCell ⟨p, 1, none⟩ (.int .i64 n)) (t ++ MemOp.ofEvents i fn pos (rw2 ⟨p, 1, none⟩)) ∧
      ∀ wake, Keeps (SY B0 w0 PP) i γ w (γ.set i ((γ.lo i).tok (.alive p) x)) (w.setCell ⟨p, 1, none⟩ (.int .i64 n)) wake := by
  obtain ⟨k, hG⟩ := h.nums.pl i hi p ch cap so hpl
  obtain ⟨l', hl'⟩ : ∃ l', l' = (γ.lo i).tok (.alive p) x := ⟨_, rfl⟩
  have hn := h.nums.pool p _ hG
  have hsum := sum_set γ hi l' (.alive p)
  rw [hl', tok_same, hx] at hsum
  rw [← hl'] at hsum ⊢
  have hle : γ.sum (.alive p) ≤ γ.sum (.slot p) := sumTo_le fun j hj => h.nums.slot j hj p
  have hN : Nums (γ.set i l') := by
    refine h.nums.ab hi (by rw [hl']; rfl) (by rw [hl']; rfl) (by rw [hl']; rfl) (by rw [hl']; rfl) (by rw [hl']; rfl) (by rw [hl']; rfl) (by rw [hl']; rfl) (by rw [hl']; rfl) (by rw [hl']; rfl) (fun k h1 h2 => by rw [hl', tok_ne _ _ (h1 p)]) (fun q => ?_) (fun c G hc hcl => ?_) (fun q hq => ?_)
    · by_cases e : q = p
      · subst e; rw [hl', tok_same, tok_ne _ _ (by simp)]; have := h.nums.slot i hi q; omega
      · rw [hl', tok_ne _ _ (by simp [e]), tok_ne _ _ (by simp)]; exact h.nums.slot i hi q
    · rw [hl', tok_ne _ _ (by simp)]
      rcases hgm c with e | e
      · omega
      · obtain ⟨G', hG', hc'⟩ := h.nums.cl i hi c e
        rw [hc] at hG'
        cases hG'
        rw [hcl] at hc'; cases hc'
    · have hqp : q ≠ p := fun e => by rw [e, hG] at hq; cases hq
      have := h.nums.nop q hq i hi
      rw [hl', tok_ne _ _ (by simp [hqp]), tok_ne _ _ (by simp)]
      exact ⟨this.2.1, this.2.2⟩
  have h1 := le_sum γ hi (.alive p)
  rw [hx] at h1
  have e1 : γ.sum (.alive p) = (γ.set i l').sum (.alive p) + 1 := by omega
  refine ⟨(γ.set i l').sum (.alive p), by rw [← e1]; exact (h.mem.pool p _ hG).2.1, (h.mem.pool p _ hG).2.2.2.2.1 1, by have := hn.2.2.2; have := hn.2.2.1; simp only at *; omega, ?_⟩
  have key := h.setPool (PP := PP) hi hact hG (o := 1) (by omega) (l' := l') (G1 := ⟨ch, cap, k, so⟩) ⟨rfl, rfl, rfl⟩ (.int .i64 ((γ.set i l').sum (.alive p) : Nat)) fn pos (by rw [hl']; rfl) (by rw [hl']; rfl) (by rw [hl']; exact hact) (by rw [hl']; rfl) (by rw [hl']; rfl) (by rw [hl']; rfl) (by rw [hl']; rfl) (by rw [hl']; rfl) (by rw [hl']; rfl) (by rw [hl']; rfl)
      (by rw [pool_id hG]; exact hN) (by rw [hl', tok_ne _ _ (by simp)]) (fun k _ h1 h2 => by rw [hl', tok_ne _ _ h1]) ⟨fun _ => rfl, fun e => absurd rfl e⟩ ⟨fun e => absurd e (by decide), fun _ => rfl⟩ ⟨fun e => absurd e (by decide), fun _ => by rw [hl', tok_ne _ _ (by simp)]⟩
  rw [pool_id hG] at key
  exact key

/-- One more has begun. -/
theorem Whole.begun_up (h : Whole B0 w0 γ w t) (hi : i < γ.N) (hact : (γ.lo i).md = .act) {p ch cap : Nat} {so : Bool} (hpl : (γ.lo i).pl p = some (ch, cap, so)) (fn : FuncId) (pos : String) :
    ∃ n : Int, w.cell? ⟨p, 3, none⟩ = some (.int .i64 n) ∧ w.frozen? ⟨p, 3, none⟩ = false ∧
      Whole B0 w0 (γ.set i ((γ.lo i).tok (.begun p) ((γ.lo i).res.tk (.begun p) + 1))) (w.setCell ⟨p, 3, none⟩ (.int .i64 (IntKind.i64.wrap (n + 1)))) (t ++ MemOp.ofEvents i fn pos (rw2 ⟨p, 3, none⟩)) ∧
      ∀ wake, Keeps (SY B0 w0 PP) i γ w (γ.set i ((γ.lo i).tok (.begun p) ((γ.lo i).res.tk (.begun p) + 1))) (w.setCell ⟨p, 3, none⟩ (.int .i64 (IntKind.i64.wrap (n + 1)))) wake := by
  obtain ⟨k, hG⟩ := h.nums.pl i hi p ch cap so hpl
  obtain ⟨l', hl'⟩ : ∃ l', l' = (γ.lo i).tok (.begun p) ((γ.lo i).res.tk (.begun p) + 1) := ⟨_, rfl⟩
  have hsum := sum_set γ hi l' (.begun p)
  rw [hl', tok_same] at hsum
  rw [← hl'] at hsum ⊢
  have hN : Nums (γ.set i l') := by
    refine h.nums.ab hi (by rw [hl']; rfl) (by rw [hl']; rfl) (by rw [hl']; rfl) (by rw [hl']; rfl) (by rw [hl']; rfl) (by rw [hl']; rfl) (by rw [hl']; rfl) (by rw [hl']; rfl) (by rw [hl']; rfl) (fun k h1 h2 => by rw [hl', tok_ne _ _ (h2 p)]) (fun q => ?_) (fun c G hc hcl => ?_) (fun q hq => ?_)
    · rw [hl', tok_ne _ _ (by simp), tok_ne _ _ (by simp)]; exact h.nums.slot i hi q
    · rw [hl', tok_ne _ _ (by simp), tok_ne _ _ (by simp)]; exact h.nums.gm c G hc hcl i hi
    · have hqp : q ≠ p := fun e => by rw [e, hG] at hq; cases hq
      have := h.nums.nop q hq i hi
      rw [hl', tok_ne _ _ (by simp), tok_ne _ _ (by simp [hqp])]
      exact ⟨this.2.1, this.2.2⟩
  have e1 : (γ.set i l').sum (.begun p) = γ.sum (.begun p) + 1 := by omega
  have e2 : IntKind.i64.wrap (IntKind.i64.wrap (γ.sum (.begun p) : Nat) + 1) = IntKind.i64.wrap ((γ.set i l').sum (.begun p) : Nat) := by
    rw [e1, IntKind.wrap_i64, IntKind.wrap_i64, IntKind.wrap_i64]
    omega
  refine ⟨_, (h.mem.pool p _ hG).2.2.2.1, (h.mem.pool p _ hG).2.2.2.2.1 3, ?_⟩
  rw [e2]
  have key := h.setPool (PP := PP) hi hact hG (o := 3) (by omega) (l' := l') (G1 := ⟨ch, cap, k, so⟩) ⟨rfl, rfl, rfl⟩ (.int .i64 (IntKind.i64.wrap ((γ.set i l').sum (.begun p) : Nat))) fn pos (by rw [hl']; rfl) (by rw [hl']; rfl) (by rw [hl']; exact hact) (by rw [hl']; rfl) (by rw [hl']; rfl) (by rw [hl']; rfl) (by rw [hl']; rfl) (by rw [hl']; rfl) (by rw [hl']; rfl) (by rw [hl']; rfl)
      (by rw [pool_id hG]; exact hN) (by rw [hl', tok_ne _ _ (by simp)]) (fun k _ h1 h2 => by rw [hl', tok_ne _ _ h2]) ⟨fun e => absurd e (by decide), fun _ => by rw [hl', tok_ne _ _ (by simp)]⟩ ⟨fun e => absurd e (by decide), fun _ => rfl⟩ ⟨fun _ => rfl, fun e => absurd rfl e⟩
  rw [pool_id hG] at key
  exact key

/-- What is known of a peak grows; the peak itself may. -/
theorem Nums.peak (h : Nums γ) (hi : i < γ.N) {p : Nat} {G : PoolG} (hG : γ.pool p = some G) {k' : Nat} (hk : G.pk ≤ k') (hkc : k' ≤ G.cap) {x : Nat} (hx : x ≤ k') {l' : Lo} (hl : l' = { γ.lo i with pk := fun q => if q = p then x else (γ.lo i).pk q }) :
    Nums { γ.set i l' with pool := fun q => if q = p then some { G with pk := k' } else γ.pool q } := by
  have F : ∀ {α : Type} (f : Lo → α), f l' = f (γ.lo i) → ∀ j, f ((γ.set i l').lo j) = f (γ.lo j) := fun f h j => set_field f γ i l' h j
  have htk : ∀ j, ((γ.set i l').lo j).res.tk = (γ.lo j).res.tk := F (fun l => l.res.tk) (by rw [hl])
  obtain ⟨γ', hγ'⟩ : ∃ γ' : Gh, γ' = { γ.set i l' with pool := fun q => if q = p then some { G with pk := k' } else γ.pool q } := ⟨_, rfl⟩
  rw [← hγ']
  have hlo : ∀ j, γ'.lo j = (γ.set i l').lo j := fun j => by rw [hγ']
  have hN : γ'.N = γ.N := by rw [hγ']; rfl
  have hgt : γ'.gate = γ.gate := by rw [hγ']; rfl
  have hs : ∀ k, γ'.sum k = γ.sum k := fun k => by
    unfold Gh.sum
    rw [hN]
    exact sumTo_congr fun j _ => by rw [hlo, htk]
  have hpl : ∀ q, γ'.pool q = if q = p then some { G with pk := k' } else γ.pool q := fun q => by rw [hγ']
  have hpn : ∀ q, γ'.pool q = none → γ.pool q = none := fun q hq => by
    rw [hpl] at hq
    by_cases e : q = p
    · rw [if_pos e] at hq; cases hq
    · rwa [if_neg e] at hq
  have hps : ∀ q Gq, γ'.pool q = some Gq → ∃ G0, γ.pool q = some G0 ∧ Gq.ch = G0.ch ∧ Gq.cap = G0.cap ∧ Gq.solo = G0.solo ∧ G0.pk ≤ Gq.pk ∧ (Gq.pk ≤ G0.cap) := fun q Gq hq => by
    rw [hpl] at hq
    by_cases e : q = p
    · rw [if_pos e] at hq; cases hq
      exact ⟨G, by rw [e]; exact hG, rfl, rfl, rfl, hk, hkc⟩
    · rw [if_neg e] at hq
      exact ⟨Gq, hq, rfl, rfl, rfl, Nat.le_refl _, (h.pool q Gq hq).1⟩
  exact {
    slot := fun j hj q => by rw [hN] at hj; rw [hlo, htk]; exact h.slot j hj q
    pool := fun q Gq hq => by
      obtain ⟨G0, h0, e1, e2, e3, e4, e5⟩ := hps q Gq hq
      obtain ⟨k1, k2, k3, k4⟩ := h.pool q G0 h0
      rw [hs, e2]
      exact ⟨e5, k2, k3, k4⟩
    pk := fun j hj q Gq hq => by
      rw [hN] at hj
      rw [hlo]
      by_cases e : j = i
      · subst e
        rw [set_same, hl]
        simp only
        by_cases eq : q = p
        · rw [if_pos eq]
          rw [hpl, if_pos eq] at hq
          cases hq
          exact hx
        · rw [if_neg eq]
          obtain ⟨G0, h0, _, _, _, e4, _⟩ := hps q Gq hq
          exact Nat.le_trans (h.pk j hj q G0 h0) e4
      · rw [set_ne γ _ e]
        obtain ⟨G0, h0, _, _, _, e4, _⟩ := hps q Gq hq
        exact Nat.le_trans (h.pk j hj q G0 h0) e4
    pl := fun j hj q ch cap so e => by
      rw [hN] at hj
      rw [hlo, F Lo.pl (by rw [hl]) j] at e
      obtain ⟨k0, h0⟩ := h.pl j hj q ch cap so e
      rw [hpl]
      by_cases eq : q = p
      · rw [if_pos eq]
        rw [eq, hG] at h0
        cases h0
        exact ⟨k', rfl⟩
      · rw [if_neg eq]; exact ⟨k0, h0⟩
    gl := fun j hj c bg n q e => by rw [hN] at hj; rw [hlo, F Lo.gl (by rw [hl]) j] at e; rw [hgt]; exact h.gl j hj c bg n q e
    cl := fun j hj c e => by rw [hN] at hj; rw [hlo, F Lo.cl (by rw [hl]) j] at e; rw [hgt]; exact h.cl j hj c e
    gate := fun c Gc hc => by
      rw [hgt] at hc
      rw [hs, hs]
      obtain ⟨h1, h2⟩ := h.gate c Gc hc
      refine ⟨h1, ?_⟩
      rcases h2 with h2 | ⟨h2, h3, h4, h5⟩ | h2
      · exact .inl h2
      · exact .inr (.inl ⟨h2, h3, h4, fun j hj => by rw [hN] at hj; rw [hlo, htk]; exact h5 j hj⟩)
      · exact .inr (.inr h2)
    al := fun j hj c e => by rw [hN] at hj; rw [hlo, F Lo.al (by rw [hl]) j] at e; rw [hgt, hs]; exact h.al j hj c e
    gm := fun c Gc hc hcl j hj => by rw [hN] at hj; rw [hgt] at hc; rw [hlo, htk]; exact h.gm c Gc hc hcl j hj
    gku := fun j hj c e => by
      rw [hN] at hj
      rw [hlo, F Lo.gk (by rw [hl]) j] at e
      obtain ⟨k1, k2⟩ := h.gku j hj c e
      exact ⟨by rw [hgt]; exact k1, fun k hk hne => by rw [hN] at hk; rw [hlo, F Lo.gk (by rw [hl]) k]; exact k2 k hk hne⟩
    nopk := fun q hq j hj => by
      rw [hN] at hj
      have hqp : q ≠ p := fun e => by rw [hpl, if_pos e] at hq; cases hq
      rw [hlo]
      by_cases e : j = i
      · rw [e, set_same, hl]
        simp only [if_neg hqp]
        exact h.nopk q (hpn q hq) i hi
      · rw [set_ne γ _ e]; exact h.nopk q (hpn q hq) j hj
    gk := fun j hj c k e => by rw [hN] at hj; rw [hlo, F Lo.gk (by rw [hl]) j] at e; rw [hs]; exact h.gk j hj c k e
    idle := fun j hj e c => by rw [hN] at hj; rw [hlo, F Lo.md (by rw [hl]) j] at e; rw [hlo, htk]; exact h.idle j hj e c
    chp := fun q Gq c hq => by
      obtain ⟨G0, h0, e1, _⟩ := hps q Gq hq
      rw [hgt, e1]; exact h.chp q G0 c h0
    chpp := fun q Gq q' Gq' hq hq' e => by
      obtain ⟨G0, h0, e1, _⟩ := hps q Gq hq
      obtain ⟨G1, h1, e1', _⟩ := hps q' Gq' hq'
      exact h.chpp q G0 q' G1 h0 h1 (by rw [← e1, ← e1']; exact e)
    solo := fun q Gq hq hso => by
      obtain ⟨G0, h0, _, _, e3, _⟩ := hps q Gq hq
      rw [hs, hlo, F Lo.sk (by rw [hl]) 0]
      exact h.solo q G0 h0 (by rw [← e3]; exact hso)
    oc := fun j hj c e => by
      rw [hN] at hj
      rw [hlo, F Lo.oc (by rw [hl]) j] at e
      obtain ⟨k1, k2, k3⟩ := h.oc j hj c e
      refine ⟨by rw [hgt]; exact k1, fun q Gq hq => ?_, fun k hk hne => ?_⟩
      · obtain ⟨G0, h0, e1, _⟩ := hps q Gq hq
        rw [e1]; exact k2 q G0 h0
      · rw [hN] at hk
        rw [hlo, F Lo.oc (by rw [hl]) k]; exact k3 k hk hne
    bgi := fun c Gc c' Gc' hc hc' e => by rw [hgt] at hc hc'; exact h.bgi c Gc c' Gc' hc hc' e
    nop := fun q hq j hj => by rw [hN] at hj; rw [hlo, htk]; exact h.nop q (hpn q hq) j hj
    nog := fun c hc j hj => by rw [hN] at hj; rw [hgt] at hc; rw [hlo, htk]; exact h.nog c hc j hj }

def Lo.pkd (l : Lo) (p x : Nat) : Lo := { l with pk := fun q => if q = p then x else l.pk q }
/-- The peak is read. -/
theorem Whole.peak_load (h : Whole B0 w0 γ w t) (hi : i < γ.N) (hact : (γ.lo i).md = .act) {p ch cap : Nat} {so : Bool} (hpl : (γ.lo i).pl p = some (ch, cap, so)) (fn : FuncId) (pos : String) :
    ∃ n : Nat, w.cell? ⟨p, 2, none⟩ = some (.int .i64 n) ∧ (γ.lo i).pk p ≤ n ∧ n ≤ cap ∧
      Whole B0 w0 (γ.set i ((γ.lo i).pkd p n)) w (t ++ MemOp.ofEvents i fn pos #[⟨.cell ⟨p, 2, none⟩, false, true⟩]) ∧ ∀ wake, Keeps (SY B0 w0 PP) i γ w (γ.set i ((γ.lo i).pkd p n)) w wake := by
  obtain ⟨k, hG⟩ := h.nums.pl i hi p ch cap so hpl
  have hn := h.nums.pool p _ hG
  have hp : AT γ ⟨p, 2, none⟩ := ⟨rfl, .inl ⟨by rw [show γ.pool p = some _ from hG]; rfl, by show 1 ≤ 2; omega, by show 2 < 4; omega⟩⟩
  obtain ⟨l', hl'⟩ : ∃ l', l' = (γ.lo i).pkd p k := ⟨_, rfl⟩
  have F : ∀ {α : Type} (f : Lo → α), f l' = f (γ.lo i) → ∀ j, f ((γ.set i l').lo j) = f (γ.lo j) := fun f h j => set_field f γ i l' h j
  refine ⟨k, (h.mem.pool p _ hG).2.2.1, h.nums.pk i hi p _ hG, hn.1, ?_⟩
  rw [← hl']
  have hNums : Nums (γ.set i l') := by
    have := h.nums.peak hi hG (k' := k) (Nat.le_refl _) hn.1 (x := k) (Nat.le_refl _) hl'
    rwa [pool_id hG] at this
  refine ⟨h.atom hi fn pos rfl (fun j hj => set_ne γ l' hj) (by rw [set_same, hl']; rfl) (by rw [set_same, hl']; rfl) (by rw [set_same, hl']; rfl) (by rw [set_same, hl']; rfl) (at_congr rfl rfl rfl) (sd_congr rfl) ?_ hNums ?_ rfl (by rw [set_same, hl']; rfl) (fun e he => ?_) (.inl hact), fun wake => ?_⟩
  · exact h.mem.of rfl rfl rfl rfl (fun j _ => F Lo.res (by rw [hl']; rfl) j) (fun j _ a v => by rw [F Lo.ro (by rw [hl']; rfl) j]; exact id) (fun j _ => F Lo.wk (by rw [hl']; rfl) j) (fun j _ => F Lo.oc (by rw [hl']; rfl) j)
  · exact h.team.share hact (by rw [hl']; exact hact) (by rw [hl']; rfl) (by rw [hl']; rfl) (by rw [hl']; rfl) (by rw [hl']; rfl) (by rw [hl']; rfl)
  · obtain rfl : e = ⟨.cell ⟨p, 2, none⟩, false, true⟩ := by simpa using he
    exact ⟨lt_of_cell2 (h.mem.pool p _ hG).2.1, hp⟩
  · exact Keeps.atom h (fun j hj => set_ne γ l' hj) rfl (fun c hc => hc) (fun _ _ _ => rfl) (fun _ _ _ ho => ho) wake

/-- The peak is raised, where it stands as it was read; else it has grown. -/
theorem Whole.peak_cas (h : Whole B0 w0 γ w t) (hi : i < γ.N) (hact : (γ.lo i).md = .act) {p ch cap : Nat} {so : Bool} (hpl : (γ.lo i).pl p = some (ch, cap, so)) {x y : Nat} (hx : x ≤ (γ.lo i).pk p) (hxy : x < y) (hy : y ≤ cap) (fn : FuncId) (pos : String) :
    ∃ n : Nat, w.cell? ⟨p, 2, none⟩ = some (.int .i64 n) ∧ w.frozen? ⟨p, 2, none⟩ = false ∧
      (n = x → Whole B0 w0 { γ.set i ((γ.lo i).pkd p y) with pool := fun q => if q = p then some ⟨ch, cap, y, so⟩ else γ.pool q } (w.setCell ⟨p, 2, none⟩ (.int .i64 y)) (t ++ MemOp.ofEvents i fn pos (rw2 ⟨p, 2, none⟩)) ∧ ∀ wake, Keeps (SY B0 w0 PP) i γ w { γ.set i ((γ.lo i).pkd p y) with pool := fun q => if q = p then some ⟨ch, cap, y, so⟩ else γ.pool q } (w.setCell ⟨p, 2, none⟩ (.int .i64 y)) wake) ∧
      (n ≠ x → Whole B0 w0 (γ.set i ((γ.lo i).pkd p (x + 1))) w (t ++ MemOp.ofEvents i fn pos #[⟨.cell ⟨p, 2, none⟩, false, true⟩]) ∧ ∀ wake, Keeps (SY B0 w0 PP) i γ w (γ.set i ((γ.lo i).pkd p (x + 1))) w wake) := by
  obtain ⟨k, hG⟩ := h.nums.pl i hi p ch cap so hpl
  have hn := h.nums.pool p _ hG
  have hpk := h.nums.pk i hi p _ hG
  simp only at hpk hn
  have hp : AT γ ⟨p, 2, none⟩ := ⟨rfl, .inl ⟨by rw [show γ.pool p = some _ from hG]; rfl, by show 1 ≤ 2; omega, by show 2 < 4; omega⟩⟩
  refine ⟨k, (h.mem.pool p _ hG).2.2.1, (h.mem.pool p _ hG).2.2.2.2.1 2, fun e => ?_, fun e => ?_⟩
  · subst e
    obtain ⟨l', hl'⟩ : ∃ l', l' = (γ.lo i).pkd p y := ⟨_, rfl⟩
    rw [← hl']
    exact h.setPool (PP := PP) hi hact hG (o := 2) (by omega) (l' := l') (G1 := ⟨ch, cap, y, so⟩) ⟨rfl, rfl, rfl⟩ (.int .i64 (y : Nat)) fn pos (by rw [hl']; rfl) (by rw [hl']; rfl) (by rw [hl']; exact hact) (by rw [hl']; rfl) (by rw [hl']; rfl) (by rw [hl']; rfl) (by rw [hl']; rfl) (by rw [hl']; rfl) (by rw [hl']; rfl) (by rw [hl']; rfl)
      (h.nums.peak hi hG (k' := y) (by simp only; omega) (by simp only; omega) (x := y) (Nat.le_refl _) hl') (by rw [hl']; rfl) (fun k _ h1 h2 => by rw [hl']; rfl) ⟨fun e => absurd e (by decide), fun _ => by rw [hl']; rfl⟩ ⟨fun _ => rfl, fun e => absurd rfl e⟩ ⟨fun e => absurd e (by decide), fun _ => by rw [hl']; rfl⟩
  · obtain ⟨l', hl'⟩ : ∃ l', l' = (γ.lo i).pkd p (x + 1) := ⟨_, rfl⟩
    have F : ∀ {α : Type} (f : Lo → α), f l' = f (γ.lo i) → ∀ j, f ((γ.set i l').lo j) = f (γ.lo j) := fun f h j => set_field f γ i l' h j
    rw [← hl']
    have hNums : Nums (γ.set i l') := by
      have := h.nums.peak hi hG (k' := k) (Nat.le_refl _) hn.1 (x := x + 1) (by omega) hl'
      rwa [pool_id hG] at this
    refine ⟨h.atom hi fn pos rfl (fun j hj => set_ne γ l' hj) (by rw [set_same, hl']; rfl) (by rw [set_same, hl']; rfl) (by rw [set_same, hl']; rfl) (by rw [set_same, hl']; rfl) (at_congr rfl rfl rfl) (sd_congr rfl) ?_ hNums ?_ rfl (by rw [set_same, hl']; rfl) (fun e he => ?_) (.inl hact), fun wake => ?_⟩
    · exact h.mem.of rfl rfl rfl rfl (fun j _ => F Lo.res (by rw [hl']; rfl) j) (fun j _ a v => by rw [F Lo.ro (by rw [hl']; rfl) j]; exact id) (fun j _ => F Lo.wk (by rw [hl']; rfl) j) (fun j _ => F Lo.oc (by rw [hl']; rfl) j)
    · exact h.team.share hact (by rw [hl']; exact hact) (by rw [hl']; rfl) (by rw [hl']; rfl) (by rw [hl']; rfl) (by rw [hl']; rfl) (by rw [hl']; rfl)
    · obtain rfl : e = ⟨.cell ⟨p, 2, none⟩, false, true⟩ := by simpa using he
      exact ⟨lt_of_cell2 (h.mem.pool p _ hG).2.1, hp⟩
    · exact Keeps.atom h (fun j hj => set_ne γ l' hj) rfl (fun c hc => hc) (fun _ _ _ => rfl) (fun _ _ _ ho => ho) wake
end
end Go.Proofs.Ytofohjbcgchhoaa
