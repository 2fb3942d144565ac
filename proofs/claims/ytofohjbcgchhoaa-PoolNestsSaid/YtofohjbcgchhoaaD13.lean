/-
  STEPS, on: a gate.
-/
import Derived.Test.YtofohjbcgchhoaaD12
namespace Go.Proofs.Ytofohjbcgchhoaa
open Go.Conc
open Go.RowKit
open Go.ConcN (sumTo sumTo_congr le_sumTo)

def Gh.setg (γ : Gh) (i : Nat) (l : Lo) (c : Nat) (G : GateG) : Gh := { γ.set i l with gate := fun x => if x = c then some G else γ.gate x }
section
variable {B0 : Nat} {w0 : World} {PP : Value → World → Prop} {γ : Gh} {w : World} {t : Trace} {i : Nat}

/-- Rights, beginnings at one gate have changed. -/
theorem Nums.gt (h : Nums γ) {l' : Lo} {c : Nat} {G G1 : GateG} (hG : γ.gate c = some G) (hst : G1.bg = G.bg ∧ G1.n = G.n ∧ G1.p = G.p) (hact : l'.md = .act) (hpk : l'.pk = (γ.lo i).pk) (hpl : l'.pl = (γ.lo i).pl) (hgl : l'.gl = (γ.lo i).gl) (hgk : l'.gk = (γ.lo i).gk) (hoc : l'.oc = (γ.lo i).oc) (hsk : l'.sk = (γ.lo i).sk)
    (htk : ∀ k, k ≠ .tr c → k ≠ .tb c → l'.res.tk k = (γ.lo i).res.tk k) (hcl : ∀ x, l'.cl x → (γ.lo i).cl x ∨ (x = c ∧ G1.closed = true)) (hmono : G.closed = true → G1.closed = true) (hal : ∀ x, l'.al x → (γ.lo i).al x ∨ x = c) (hAl : (∃ j, j < γ.N ∧ ((γ.set i l').lo j).al c) → (γ.set i l').sum (.tb c) = G.n)
    (hgate : (G1.closed = false ∧ (γ.set i l').sum (.tb c) < G1.n ∧ (γ.set i l').sum (.tr c) + (γ.set i l').sum (.tb c) = G1.n) ∨ (G1.closed = false ∧ (γ.set i l').sum (.tb c) = G1.n ∧ (γ.set i l').sum (.tr c) = 1 ∧ ∀ j, j < γ.N → ((γ.set i l').lo j).res.tk (.tr c) ≠ 0 → ((γ.set i l').lo j).res.tk (.tb c) ≠ 0) ∨ (G1.closed = true ∧ (γ.set i l').sum (.tb c) = G1.n ∧ (γ.set i l').sum (.tr c) = 0)) :
    Nums (γ.setg i l' c G1) := by
  have F : ∀ {α : Type} (f : Lo → α), f l' = f (γ.lo i) → ∀ j, f ((γ.set i l').lo j) = f (γ.lo j) := fun f h j => set_field f γ i l' h j
  have htk' : ∀ k, k ≠ .tr c → k ≠ .tb c → ∀ j, ((γ.set i l').lo j).res.tk k = (γ.lo j).res.tk k := fun k h1 h2 => F (fun l => l.res.tk k) (htk k h1 h2)
  have hs : ∀ k, k ≠ .tr c → k ≠ .tb c → (γ.set i l').sum k = γ.sum k := fun k h1 h2 => sumTo_congr fun j _ => htk' k h1 h2 j
  obtain ⟨γ', hγ'⟩ : ∃ γ', γ' = γ.setg i l' c G1 := ⟨_, rfl⟩
  rw [← hγ']
  have hlo : ∀ j, γ'.lo j = (γ.set i l').lo j := fun j => by rw [hγ']; rfl
  have hN : γ'.N = γ.N := by rw [hγ']; rfl
  have hpool : γ'.pool = γ.pool := by rw [hγ']; rfl
  have hgx : ∀ x, γ'.gate x = if x = c then some G1 else γ.gate x := fun x => by rw [hγ']; rfl
  have hs' : ∀ k, γ'.sum k = (γ.set i l').sum k := fun k => by rw [hγ']; rfl
  have old : ∀ x Gx, γ'.gate x = some Gx → ∃ G0, γ.gate x = some G0 ∧ Gx.bg = G0.bg ∧ Gx.n = G0.n ∧ Gx.p = G0.p ∧ (x ≠ c → Gx = G0) := fun x Gx hx => by
    rw [hgx] at hx
    by_cases e : x = c
    · rw [if_pos e] at hx; cases hx
      exact ⟨G, by rw [e]; exact hG, hst.1, hst.2.1, hst.2.2, fun x => absurd e x⟩
    · rw [if_neg e] at hx
      exact ⟨Gx, hx, rfl, rfl, rfl, fun _ => rfl⟩
  have hnone : ∀ x, γ'.gate x = none ↔ γ.gate x = none := fun x => by
    rw [hgx]
    by_cases e : x = c
    · rw [if_pos e, e, hG]; simp
    · rw [if_neg e]
  exact {
    slot := fun j hj q => by rw [hN] at hj; rw [hlo, htk' _ (by simp) (by simp) j, htk' _ (by simp) (by simp) j]; exact h.slot j hj q
    pool := fun q G' hq => by rw [hpool] at hq; rw [hs', hs _ (by simp) (by simp)]; exact h.pool q G' hq
    pk := fun j hj q G' hq => by rw [hN] at hj; rw [hpool] at hq; rw [hlo, F Lo.pk hpk j]; exact h.pk j hj q G' hq
    pl := fun j hj q a b d e => by rw [hN] at hj; rw [hlo, F Lo.pl hpl j] at e; rw [hpool]; exact h.pl j hj q a b d e
    gl := fun j hj x bg n q e => by
      rw [hN] at hj
      rw [hlo, F Lo.gl hgl j] at e
      obtain ⟨cl, h1⟩ := h.gl j hj x bg n q e
      rw [hgx]
      by_cases ex : x = c
      · rw [if_pos ex]
        rw [ex, hG] at h1
        injection h1 with h1
        obtain ⟨s1, s2, s3⟩ := hst
        rw [h1] at s1 s2 s3
        simp only at s1 s2 s3
        exact ⟨G1.closed, by cases G1; simp only at s1 s2 s3; rw [s1, s2, s3]⟩
      · rw [if_neg ex]; exact ⟨cl, h1⟩
    cl := fun j hj x e => by
      rw [hN] at hj
      have key : (γ.lo j).cl x ∨ (x = c ∧ G1.closed = true) := by
        rw [hlo] at e
        by_cases ej : j = i
        · rw [ej, set_same] at e; rw [ej]; exact hcl x e
        · rw [set_ne γ _ ej] at e; exact .inl e
      rw [hgx]
      rcases key with key | ⟨key, hc⟩
      · obtain ⟨Gx, h1, h2⟩ := h.cl j hj x key
        by_cases ex : x = c
        · rw [if_pos ex]
          rw [ex, hG] at h1
          cases h1
          exact ⟨G1, rfl, hmono h2⟩
        · rw [if_neg ex]; exact ⟨Gx, h1, h2⟩
      · rw [if_pos key]; exact ⟨G1, rfl, hc⟩
    gate := fun x Gx hx => by
      by_cases ex : x = c
      · rw [hgx, if_pos ex] at hx
        cases hx
        rw [ex, hs', hs', hN]
        have := (h.gate c G hG).1
        refine ⟨by rw [hst.2.1]; exact this, ?_⟩
        rcases hgate with k2 | ⟨k2, k3, k4, k5⟩ | k2
        · exact .inl k2
        · exact .inr (.inl ⟨k2, k3, k4, fun j hj => by rw [hlo]; exact k5 j hj⟩)
        · exact .inr (.inr k2)
      · obtain ⟨G0, h0, _, _, _, h1⟩ := old x Gx hx
        rw [h1 ex] at *
        rw [hs', hs', hs (.tr x) (by simp [ex]) (by simp), hs (.tb x) (by simp) (by simp [ex])]
        obtain ⟨k1, k2⟩ := h.gate x G0 h0
        refine ⟨k1, ?_⟩
        rcases k2 with k2 | ⟨k2, k3, k4, k5⟩ | k2
        · exact .inl k2
        · exact .inr (.inl ⟨k2, k3, k4, fun j hj => by rw [hN] at hj; rw [hlo, htk' (.tr x) (by simp [ex]) (by simp) j, htk' (.tb x) (by simp) (by simp [ex]) j]; exact k5 j hj⟩)
        · exact .inr (.inr k2)
    al := fun j hj x e => by
      rw [hN] at hj
      by_cases ex : x = c
      · rw [ex] at e ⊢
        rw [hlo] at e
        refine ⟨G1, by rw [hgx, if_pos rfl], ?_⟩
        rw [hs', hst.2.1]
        exact hAl ⟨j, hj, e⟩
      · have key : (γ.lo j).al x := by
          rw [hlo] at e
          by_cases ej : j = i
          · rw [ej, set_same] at e; rw [ej]; exact (hal x e).resolve_right ex
          · rw [set_ne γ _ ej] at e; exact e
        obtain ⟨G0, h1, h2⟩ := h.al j hj x key
        exact ⟨G0, by rw [hgx, if_neg ex]; exact h1, by rw [hs', hs _ (by simp) (by simp [ex])]; exact h2⟩
    gm := fun x Gx hx hc j hj => by
      rw [hN] at hj
      obtain ⟨G0, h0, _, _, h3, h4⟩ := old x Gx hx
      rw [hlo, htk' _ (by simp) (by simp) j, htk' _ (by simp) (by simp) j, h3]
      refine h.gm x G0 h0 ?_ j hj
      by_cases ex : x = c
      · rw [ex, hG] at h0
        cases h0
        rw [hgx, if_pos ex] at hx
        cases hx
        cases hg : G.closed with
        | false => rfl
        | true => rw [hmono hg] at hc; cases hc
      · rw [← h4 ex]; exact hc
    gku := fun j hj x e => by
      rw [hN] at hj
      rw [hlo, F Lo.gk hgk j] at e
      obtain ⟨k1, k2⟩ := h.gku j hj x e
      exact ⟨fun e' => k1 ((hnone x).1 e'), fun k hk hne => by rw [hN] at hk; rw [hlo, F Lo.gk hgk k]; exact k2 k hk hne⟩
    nopk := fun q hq j hj => by rw [hN] at hj; rw [hpool] at hq; rw [hlo, F Lo.pk hpk j]; exact h.nopk q hq j hj
    gk := fun j hj x k e => by rw [hN] at hj; rw [hlo, F Lo.gk hgk j] at e; rw [hs', hs _ (by simp) (by simp)]; exact h.gk j hj x k e
    idle := fun j hj e x => by
      rw [hN] at hj
      rw [hlo] at e ⊢
      by_cases ej : j = i
      · rw [ej, set_same] at e; exact absurd hact e
      · rw [set_ne γ _ ej] at e ⊢; exact h.idle j hj e x
    chp := fun q G' x hq => by
      rw [hpool] at hq
      rw [hnone]
      exact h.chp q G' x hq
    chpp := fun q G' q' G'' hq hq' e => by rw [hpool] at hq hq'; exact h.chpp q G' q' G'' hq hq' e
    solo := fun q G' hq hso => by rw [hpool] at hq; rw [hs', hs _ (by simp) (by simp), hlo, F Lo.sk hsk 0]; exact h.solo q G' hq hso
    oc := fun j hj x e => by
      rw [hN] at hj
      rw [hlo, F Lo.oc hoc j] at e
      obtain ⟨k1, k2, k3⟩ := h.oc j hj x e
      refine ⟨(hnone x).2 k1, fun q G' hq => by rw [hpool] at hq; exact k2 q G' hq, fun k hk hne => ?_⟩
      rw [hN] at hk
      rw [hlo, F Lo.oc hoc k]; exact k3 k hk hne
    bgi := fun x Gx x' Gx' hx hx' e => by
      obtain ⟨G0, h0, e1, _⟩ := old x Gx hx
      obtain ⟨G0', h0', e1', _⟩ := old x' Gx' hx'
      exact h.bgi x G0 x' G0' h0 h0' (by rw [← e1, ← e1']; exact e)
    nop := fun q hq j hj => by
      rw [hN] at hj
      rw [hpool] at hq
      rw [hlo, htk' _ (by simp) (by simp) j, htk' _ (by simp) (by simp) j, htk' _ (by simp) (by simp) j]; exact h.nop q hq j hj
    nog := fun x hx j hj => by
      rw [hN] at hj
      have hx' := (hnone x).1 hx
      have hxc : x ≠ c := fun e => by rw [e, hG] at hx'; cases hx'
      rw [hlo, htk' (.tr x) (by simp [hxc]) (by simp) j, htk' (.tb x) (by simp) (by simp [hxc]) j, htk' _ (by simp) (by simp) j]
      exact h.nog x hx' j hj }

def Lo.ald (l : Lo) (c : Nat) : Lo := { l with al := fun x => l.al x ∨ x = c }
def Lo.cld (l : Lo) (c : Nat) : Lo := { l with cl := fun x => l.cl x ∨ x = c }

theorem gate_id {l' : Lo} {c : Nat} {G : GateG} (hG : γ.gate c = some G) : γ.setg i l' c G = γ.set i l' := by
  have : (fun q => if q = c then some G else γ.gate q) = γ.gate := by
    funext q
    by_cases e : q = c
    · rw [if_pos e, e, hG]
    · rw [if_neg e]
  unfold Gh.setg
  rw [this]
  rfl

/-- What a goroutine at a gate knows. -/
theorem Whole.at_gate (h : Whole B0 w0 γ w t) (hi : i < γ.N) {c bg n p x : Nat} (hgl : (γ.lo i).gl c = some (bg, n, p)) (htr : (γ.lo i).res.tk (.tr c) = x + 1) (htb : (γ.lo i).res.tk (.tb c) = 0) : γ.gate c = some ⟨bg, n, p, false⟩ ∧ γ.sum (.tb c) < n ∧ γ.sum (.tr c) + γ.sum (.tb c) = n ∧ n < 4294967296 := by
  obtain ⟨cl, hG⟩ := h.nums.gl i hi c bg n p hgl
  have hle := le_sum γ hi (.tr c)
  obtain ⟨hn, hc⟩ := h.nums.gate c _ hG
  rcases hc with ⟨h1, h2, h3⟩ | ⟨h1, h2, h3, h4⟩ | ⟨_, _, h3⟩
  · simp only at h1
    rw [h1] at hG
    exact ⟨hG, h2, h3, hn⟩
  · exact absurd htb (h4 i hi (by omega))
  · omega

/-- One more has begun at the gate. -/
theorem Whole.gate_begin (h : Whole B0 w0 γ w t) (hi : i < γ.N) (hact : (γ.lo i).md = .act) {c bg n p x : Nat} (hgl : (γ.lo i).gl c = some (bg, n, p)) (htr : (γ.lo i).res.tk (.tr c) = x + 1) (htb : (γ.lo i).res.tk (.tb c) = 0) (fn : FuncId) (pos : String) :
    ∃ k : Nat, k < n ∧ n < 4294967296 ∧ w.cell? ⟨bg, 0, none⟩ = some (.int .i64 k) ∧ w.frozen? ⟨bg, 0, none⟩ = false ∧ ∃ l', (k + 1 = n → x = 0 ∧ l' = ((γ.lo i).tok (.tb c) 1).ald c) ∧ (k + 1 ≠ n → l' = ((γ.lo i).tok (.tb c) 1).tok (.tr c) x) ∧
      Whole B0 w0 (γ.set i l') (w.setCell ⟨bg, 0, none⟩ (.int .i64 (k + 1 : Nat))) (t ++ MemOp.ofEvents i fn pos (rw2 ⟨bg, 0, none⟩)) ∧ ∀ wake, Keeps (SY B0 w0 PP) i γ w (γ.set i l') (w.setCell ⟨bg, 0, none⟩ (.int .i64 (k + 1 : Nat))) wake := by
  obtain ⟨hG, h1, h2, hn⟩ := h.at_gate hi hgl htr htb
  obtain ⟨_, m2, _, m4, m5⟩ := h.mem.gate c _ hG
  simp only at m2 m4 m5
  have hlt := le_sum γ hi (.tr c)
  obtain ⟨l', hl'⟩ : ∃ l', l' = if γ.sum (.tb c) + 1 = n then ((γ.lo i).tok (.tb c) 1).ald c else ((γ.lo i).tok (.tb c) 1).tok (.tr c) x := ⟨_, rfl⟩
  have hf : ∀ {α : Type} (f : Lo → α), (∀ l a b, f (Lo.tok l a b) = f l) → (∀ l a, f (Lo.ald l a) = f l) → f l' = f (γ.lo i) := fun f e1 e2 => by
    rw [hl']
    split
    · rw [e2, e1]
    · rw [e1, e1]
  have htkx : ∀ k, k ≠ .tr c → k ≠ .tb c → l'.res.tk k = (γ.lo i).res.tk k := fun k k1 k2 => by
    rw [hl']
    split
    · exact tok_ne _ _ k2
    · rw [tok_ne _ _ k1, tok_ne _ _ k2]
  have tb1 : l'.res.tk (.tb c) = 1 := by
    rw [hl']
    split
    · exact tok_same _ _ _
    · rw [tok_ne _ _ (by simp), tok_same]
  have tr1 : l'.res.tk (.tr c) = if γ.sum (.tb c) + 1 = n then x + 1 else x := by
    rw [hl']
    split
    · show ((γ.lo i).tok (.tb c) 1).res.tk (.tr c) = _
      rw [tok_ne _ _ (by simp), htr]
    · rw [tok_same]
  have s1 := sum_set γ hi l' (.tb c)
  have s2 := sum_set γ hi l' (.tr c)
  rw [tb1, htb] at s1
  rw [tr1, htr] at s2
  have F : ∀ {α : Type} (f : Lo → α), (∀ l a b, f (Lo.tok l a b) = f l) → (∀ l a, f (Lo.ald l a) = f l) → ∀ j, f ((γ.set i l').lo j) = f (γ.lo j) := fun f e1 e2 j => set_field f γ i l' (hf f e1 e2) j
  have hmd : l'.md = .act := (hf Lo.md (fun _ _ _ => rfl) (fun _ _ => rfl)).trans hact
  have hNums : Nums (γ.set i l') := by
    have := h.nums.gt (i := i) (l' := l') hG (G1 := ⟨bg, n, p, false⟩) ⟨rfl, rfl, rfl⟩ hmd (hf Lo.pk (fun _ _ _ => rfl) (fun _ _ => rfl)) (hf Lo.pl (fun _ _ _ => rfl) (fun _ _ => rfl)) (hf Lo.gl (fun _ _ _ => rfl) (fun _ _ => rfl)) (hf Lo.gk (fun _ _ _ => rfl) (fun _ _ => rfl)) (hf Lo.oc (fun _ _ _ => rfl) (fun _ _ => rfl)) (hf Lo.sk (fun _ _ _ => rfl) (fun _ _ => rfl)) htkx
      (fun y e => .inl (by rw [hf Lo.cl (fun _ _ _ => rfl) (fun _ _ => rfl)] at e; exact e)) id (fun y e => by
        rw [hl'] at e
        split at e
        · exact e
        · exact .inl e) (fun ⟨j, hj, e⟩ => by
        by_cases e2 : γ.sum (.tb c) + 1 = n
        · simp only; omega
        · exfalso
          have old : (γ.lo j).al c := by
            by_cases ej : j = i
            · rw [ej, set_same, hl', if_neg e2] at e; rw [ej]; exact e
            · rw [set_ne γ _ ej] at e; exact e
          obtain ⟨G0, g1, g2⟩ := h.nums.al j hj c old
          rw [hG] at g1
          cases g1
          simp only at g2
          omega) (by
        by_cases e2 : γ.sum (.tb c) + 1 = n
        · rw [if_pos e2] at s2 tr1
          refine .inr (.inl ⟨rfl, by simp only; omega, by omega, fun j hj e => ?_⟩)
          by_cases ej : j = i
          · rw [ej, set_same, tb1]; decide
          · exfalso
            rw [set_ne γ _ ej] at e
            have := sumTo_one hi (fun k => (γ.lo k).res.tk (.tr c)) (fun k => if k = i then 0 else (γ.lo k).res.tk (.tr c)) (fun k hk => if_neg hk)
            rw [if_pos rfl] at this
            have hj2 : (if j = i then 0 else (γ.lo j).res.tk (.tr c)) ≤ sumTo γ.N (fun k => if k = i then 0 else (γ.lo k).res.tk (.tr c)) := le_sumTo (f := fun k => if k = i then 0 else (γ.lo k).res.tk (.tr c)) hj
            rw [if_neg ej] at hj2
            have hsum : γ.sum (.tr c) = sumTo γ.N (fun k => (γ.lo k).res.tk (.tr c)) := rfl
            omega
        · rw [if_neg e2] at s2
          exact .inl ⟨rfl, by simp only; omega, by simp only; omega⟩)
    rwa [gate_id hG] at this
  have hAT : AT γ ⟨bg, 0, none⟩ := ⟨rfl, .inr (.inr ⟨c, _, hG, rfl⟩)⟩
  have hblk : bg < w.heap.size := lt_of_cell2 m4
  have nebl : ∀ q (Gq : PoolG), γ.pool q = some Gq → ∀ o, 1 ≤ o → (⟨bg, 0, none⟩ : Addr) ≠ ⟨q, o, none⟩ := fun q Gq _ o ho e => by
    have : (0 : Nat) = o := by injection e
    omega
  have newg : ∀ u (Gu : WgG), γ.wg u = some Gu → ∀ o, (⟨bg, 0, none⟩ : Addr) ≠ ⟨u, o, none⟩ := fun u Gu hu o e => by
    have e1 : bg = u := by injection e
    rw [e1] at m4
    have := (h.mem.wg u Gu hu).2.1
    rw [m4] at this
    cases this
  refine ⟨γ.sum (.tb c), h1, hn, m4, m5 0, l', fun e => ⟨by omega, by rw [hl', if_pos e]⟩, fun e => by rw [hl', if_neg e], ?_, fun wake => ?_⟩
  · refine h.atom hi fn pos rfl (fun j hj => set_ne γ l' hj) (by rw [set_same]; exact hf (fun l => l.res.cells) (fun _ _ _ => rfl) (fun _ _ => rfl)) (by rw [set_same]; exact hf Lo.ro (fun _ _ _ => rfl) (fun _ _ => rfl)) (by rw [set_same, hmd, hact]) (by rw [set_same]; exact hf Lo.jn (fun _ _ _ => rfl) (fun _ _ => rfl)) (at_congr rfl rfl rfl) (sd_congr rfl) ?_ hNums ?_ (by simp [World.setCell]) (by rw [set_same, hf Lo.df (fun _ _ _ => rfl) (fun _ _ => rfl)]; rfl) (fun e he => ?_) (.inl hact)
    · refine Mem.setAt h _ hAT m2 _ rfl (fun j _ => F (fun l => l.res.cells) (fun _ _ _ => rfl) (fun _ _ => rfl) j) (fun j _ => F Lo.ro (fun _ _ _ => rfl) (fun _ _ => rfl) j) (fun j _ => F Lo.oc (fun _ _ _ => rfl) (fun _ _ => rfl) j) (fun q G' hq => ?_) (fun u G' hu => ?_) (fun d G' hd => ?_)
      · have hso : ∀ k, k ≠ .tr c → k ≠ .tb c → (γ.set i l').sum k = γ.sum k := fun k k1 k2 => by
          have := sum_set γ hi l' k
          rw [htkx k k1 k2] at this
          omega
        exact ⟨G', hq, rfl, rfl, fun e => absurd e (nebl q G' hq 1 (by omega)), fun _ => hso _ (by simp) (by simp), fun e => absurd e (nebl q G' hq 2 (by omega)), fun _ => rfl, fun e => absurd e (nebl q G' hq 3 (by omega)), fun _ => by rw [hso _ (by simp) (by simp)], hso _ (by simp) (by simp)⟩
      · exact ⟨G', hu, fun e => absurd e (newg u G' hu 0), fun _ => by rw [cnt_congr (γ := γ) (γ' := γ.set i l') rfl (fun j _ => F Lo.wk (fun _ _ _ => rfl) (fun _ _ => rfl) j)], fun e => absurd e (newg u G' hu 1), fun _ => rfl⟩
      · refine ⟨G', hd, rfl, rfl, fun e => ?_, fun e => ?_⟩
        · have e1 : bg = G'.bg := by injection e
          have : d = c := (h.nums.bgi c _ d G' hG hd e1).symm
          rw [this]
          congr 2
          omega
        · have hdc : d ≠ c := fun e' => e (by rw [e'] at hd; have e2 : G' = ⟨bg, n, p, false⟩ := Option.some.inj (hd.symm.trans hG); rw [e2])
          have := sum_set γ hi l' (.tb d)
          rw [htkx (.tb d) (by simp) (by simp [hdc])] at this
          omega
    · exact h.team.share hact hmd (hf Lo.wg (fun _ _ _ => rfl) (fun _ _ => rfl)) (hf Lo.wk (fun _ _ _ => rfl) (fun _ _ => rfl)) (hf Lo.ws (fun _ _ _ => rfl) (fun _ _ => rfl)) (hf Lo.jn (fun _ _ _ => rfl) (fun _ _ => rfl)) (hf Lo.ob (fun _ _ _ => rfl) (fun _ _ => rfl))
    · simp only [rw2, List.mem_toArray, List.mem_cons, List.not_mem_nil, or_false] at he
      rcases he with rfl | rfl <;> exact ⟨hblk, hAT⟩
  · exact Keeps.atom h (fun j hj => set_ne γ l' hj) rfl (fun c hc => hc) (fun u G' hu => setCell_cell_ne _ (newg u G' hu 1)) (fun _ _ _ ho => ho.setCell _ _) wake

/-- The gate is opened for all. -/
theorem Whole.gate_close (h : Whole B0 w0 γ w t) (hi : i < γ.N) (hact : (γ.lo i).md = .act) {c bg n p : Nat} (hgl : (γ.lo i).gl c = some (bg, n, p)) (hal : (γ.lo i).al c) (htr : (γ.lo i).res.tk (.tr c) = 1) (fn : FuncId) (pos : String) {es : Array Event} (hes : ∀ e ∈ es, ∃ wr, e = ⟨.obj c, wr, true⟩) (hd : deafBehind (γ.lo i).df es = (γ.lo i).df) :
    w.heap[c]? = some (.chan 0 #[] false 0 0 false) ∧ Whole B0 w0 (γ.setg i (((γ.lo i).tok (.tr c) 0).cld c) c ⟨bg, n, p, true⟩) (w.setChan c 0 #[] true 0 0 false) (t ++ MemOp.ofEvents i fn pos es) ∧ Keeps (SY B0 w0 PP) i γ w (γ.setg i (((γ.lo i).tok (.tr c) 0).cld c) c ⟨bg, n, p, true⟩) (w.setChan c 0 #[] true 0 0 false) true := by
  obtain ⟨cl, hG⟩ := h.nums.gl i hi c bg n p hgl
  obtain ⟨G0, hG0, hal2⟩ := h.nums.al i hi c hal
  rw [hG] at hG0
  cases hG0
  simp only at hal2
  have hle := le_sum γ hi (.tr c)
  have hst : cl = false ∧ γ.sum (.tr c) = 1 := by
    rcases (h.nums.gate c _ hG).2 with ⟨h1, h2, h3⟩ | ⟨h1, h2, h3, h4⟩ | ⟨_, _, h3⟩
    · simp only at h2; omega
    · exact ⟨h1, h3⟩
    · omega
  obtain ⟨hcl, hs1⟩ := hst
  rw [hcl] at hG
  obtain ⟨m1, m2, m3, m4, m5⟩ := h.mem.gate c _ hG
  simp only at m2 m3 m4 m5
  obtain ⟨l', hl'⟩ : ∃ l', l' = ((γ.lo i).tok (.tr c) 0).cld c := ⟨_, rfl⟩
  rw [← hl']
  have F : ∀ {α : Type} (f : Lo → α), f l' = f (γ.lo i) → ∀ j, f ((γ.set i l').lo j) = f (γ.lo j) := fun f h j => set_field f γ i l' h j
  have htkx : ∀ k, k ≠ .tr c → l'.res.tk k = (γ.lo i).res.tk k := fun k k1 => by rw [hl']; exact tok_ne _ _ k1
  have tr0 : l'.res.tk (.tr c) = 0 := by rw [hl']; exact tok_same _ _ _
  have s2 := sum_set γ hi l' (.tr c)
  rw [tr0, htr] at s2
  have hso : ∀ k, k ≠ .tr c → (γ.set i l').sum k = γ.sum k := fun k k1 => by
    have := sum_set γ hi l' k
    rw [htkx k k1] at this
    omega
  obtain ⟨γ', hγ'⟩ : ∃ γ', γ' = γ.setg i l' c ⟨bg, n, p, true⟩ := ⟨_, rfl⟩
  have hmd : l'.md = .act := by rw [hl']; exact hact
  have hNums : Nums γ' := by
    rw [hγ']
    refine h.nums.gt (i := i) (l' := l') hG ⟨rfl, rfl, rfl⟩ hmd (by rw [hl']; rfl) (by rw [hl']; rfl) (by rw [hl']; rfl) (by rw [hl']; rfl) (by rw [hl']; rfl) (by rw [hl']; rfl) (fun k k1 _ => htkx k k1) (fun x e => ?_) (fun _ => rfl) (fun x e => .inl (by rw [hl'] at e; exact e)) (fun _ => by rw [hso _ (by simp)]; exact hal2) (.inr (.inr ⟨rfl, by rw [hso _ (by simp)]; exact hal2, by omega⟩))
    rw [hl'] at e
    rcases e with e | e
    · exact .inl e
    · exact .inr ⟨e, rfl⟩
  have hcell : ∀ a, (w.setChan c 0 #[] true 0 0 false).cell? a = w.cell? a := fun a => (setChan_cell m3 _ _ _ _ _ _ a).1
  have hfroz : ∀ a, (w.setChan c 0 #[] true 0 0 false).frozen? a = w.frozen? a := fun a => (setChan_cell m3 _ _ _ _ _ _ a).2
  have hsz : (w.setChan c 0 #[] true 0 0 false).heap.size = w.heap.size := by simp [World.setChan]
  have hgx : ∀ x, γ'.gate x = if x = c then some ⟨bg, n, p, true⟩ else γ.gate x := fun x => by rw [hγ']; rfl
  have hAT : AT γ' = AT γ := by
    funext a
    unfold AT
    have e1 : γ'.pool = γ.pool := by rw [hγ']; rfl
    have e2 : γ'.wg = γ.wg := by rw [hγ']; rfl
    rw [e1, e2]
    have : (∃ x G, γ'.gate x = some G ∧ G.bg = a.block) ↔ ∃ x G, γ.gate x = some G ∧ G.bg = a.block := by
      constructor
      · rintro ⟨x, G, h1, h2⟩
        rw [hgx] at h1
        by_cases e : x = c
        · rw [if_pos e] at h1; cases h1; exact ⟨c, _, hG, h2⟩
        · rw [if_neg e] at h1; exact ⟨x, G, h1, h2⟩
      · rintro ⟨x, G, h1, h2⟩
        by_cases e : x = c
        · rw [e, hG] at h1; cases h1; exact ⟨c, ⟨bg, n, p, true⟩, by rw [hgx, if_pos rfl], h2⟩
        · exact ⟨x, G, by rw [hgx, if_neg e]; exact h1, h2⟩
    rw [this]
  have hlo : ∀ j, γ'.lo j = (γ.set i l').lo j := fun j => by rw [hγ']; rfl
  have hN : γ'.N = γ.N := by rw [hγ']; rfl
  have hsum : ∀ k, γ'.sum k = (γ.set i l').sum k := fun k => by rw [hγ']; rfl
  refine ⟨m3, ?_, ?_⟩
  · rw [← hγ']
    refine h.atom hi fn pos hN (fun j hj => by rw [hlo]; exact set_ne γ l' hj) (by rw [hlo, set_same, hl']; rfl) (by rw [hlo, set_same, hl']; rfl) (by rw [hlo, set_same, hmd, hact]) (by rw [hlo, set_same, hl']; rfl) hAT (sd_congr (by rw [hγ']; rfl)) ?_ hNums ?_ hsz (by rw [hlo, set_same, hl', hd]; rfl) (fun e he => ?_) (.inl hact)
    · exact {
        bel := h.mem.bel.trans ⟨rfl, rfl, rfl, by rw [hsz]; exact Nat.le_refl _, fun k hk => setChan_heap _ _ _ _ _ _ _ _ _ (by omega)⟩
        big := by rw [hsz]; exact h.mem.big
        cell := fun j hj a v hv => by
          rw [hN] at hj
          rw [hlo, F (fun l => l.res.cells) (by rw [hl']; rfl) j] at hv
          rw [hcell, hfroz]; exact h.mem.cell j hj a v hv
        ro := fun j hj a v hv => by rw [hN] at hj; rw [hlo, F Lo.ro (by rw [hl']; rfl) j] at hv; rw [hcell]; exact h.mem.ro j hj a v hv
        pool := fun q G' hq => by
          have hq : γ.pool q = some G' := by rw [hγ'] at hq; exact hq
          obtain ⟨h1, h2, h3, h4, h5, h6, buf1, s1, r1, h7, h8⟩ := h.mem.pool q G' hq
          have hne : G'.ch ≠ c := fun e => by
            rcases h.nums.chp q G' c hq with e' | e'
            · rw [e'] at hG; cases hG
            · exact e' e.symm
          rw [hsum, hsum, hsum, hso _ (by simp), hso _ (by simp), hso _ (by simp), hcell, hcell, hcell]
          exact ⟨h1, h2, h3, h4, fun j => by rw [hfroz]; exact h5 j, h6, buf1, s1, r1, by rw [setChan_heap _ _ _ _ _ _ _ _ _ hne]; exact h7, h8⟩
        oc := fun j hj x cap' e => by
          rw [hN] at hj
          rw [hlo, F Lo.oc (by rw [hl']; rfl) j] at e
          obtain ⟨h1, h2⟩ := h.mem.oc j hj x cap' e
          have hne : x ≠ c := fun e' => by
            have := (h.nums.oc j hj x (by rw [e]; simp)).1
            rw [e', hG] at this; cases this
          exact ⟨h1, by rw [setChan_heap _ _ _ _ _ _ _ _ _ hne]; exact h2⟩
        wg := fun u G' hu' => by
          have hu' : γ.wg u = some G' := by rw [hγ'] at hu'; exact hu'
          rw [cnt_congr (γ := γ) (γ' := γ') hN (fun j _ => by rw [hlo]; exact F Lo.wk (by rw [hl']; rfl) j), hcell, hcell]
          obtain ⟨h1, h2, h3, h4⟩ := h.mem.wg u G' hu'
          exact ⟨h1, h2, h3, fun j => by rw [hfroz]; exact h4 j⟩
        gate := fun x G' hx => by
          rw [hsum, hso _ (by simp), hcell]
          rw [hgx] at hx
          by_cases e : x = c
          · rw [if_pos e] at hx; cases hx
            rw [e]
            exact ⟨m1, m2, setChan_at m3 _ _ _ _ _ _, m4, fun j => by rw [hfroz]; exact m5 j⟩
          · rw [if_neg e] at hx
            obtain ⟨h1, h2, h3, h4, h5⟩ := h.mem.gate x G' hx
            exact ⟨h1, h2, by rw [setChan_heap _ _ _ _ _ _ _ _ _ e]; exact h3, h4, fun j => by rw [hfroz]; exact h5 j⟩ }
    · have ht := h.team.share (i := i) (l' := l') hact hmd (by rw [hl']; rfl) (by rw [hl']; rfl) (by rw [hl']; rfl) (by rw [hl']; rfl) (by rw [hl']; rfl)
      exact ht.of hN (by rw [hγ']; rfl) (fun j _ => by rw [hlo]) (fun j _ => by rw [hlo]) (fun j _ => by rw [hlo]) (fun j _ => by rw [hlo]) (fun j _ => by rw [hlo]) (fun j _ => by rw [hlo]) (fun j _ => .inr (by rw [hlo])) (fun j _ => .inr (by rw [hlo]))
    · obtain ⟨wr, rfl⟩ := hes e he
      exact lt_of_heap m3
  · rw [← hγ']
    refine ⟨fun j _ hj => .inl (by show γ'.lo j = γ.lo j; rw [hlo]; exact set_ne γ l' hj), fun j hj hs => .inl rfl, fun j x hj hg => ?_⟩
    obtain ⟨g1, g2, g3, g4⟩ := hg
    have ej : γ'.lo j = γ.lo j := by rw [hlo]; exact set_ne γ l' hj
    refine ⟨⟨by rw [hN]; exact g1, by rw [ej]; exact g2, ?_, by rw [ej]; exact g4⟩, fun ho => ?_⟩
    · rw [hgx]
      by_cases e : x = c
      · rw [if_pos e]; rfl
      · rw [if_neg e]; exact g3
    · by_cases e : x = c
      · rw [e]; exact .inr ⟨rfl, 0, #[], 0, 0, false, setChan_at m3 _ _ _ _ _ _⟩
      · obtain ⟨c1, s1, r1, tm, ho⟩ := ho
        exact .inl ⟨c1, s1, r1, tm, by rw [setChan_heap _ _ _ _ _ _ _ _ _ e]; exact ho⟩

/-- Who has seen the gate open knows it. -/
theorem Whole.know_shut (h : Whole B0 w0 γ w t) (hi : i < γ.N) (hact : (γ.lo i).md = .act) {c : Nat} {G : GateG} (hG : γ.gate c = some G) (hcl : G.closed = true) {u : List MemOp} (hu : ∀ x ∈ u, x.g = i ∧ Still x.act ∧ x.act.low w.heap.size) :
    Whole B0 w0 (γ.set i ((γ.lo i).cld c)) w (t ++ u.toArray) ∧ ∀ wake, Keeps (SY B0 w0 PP) i γ w (γ.set i ((γ.lo i).cld c)) w wake := by
  obtain ⟨l', hl'⟩ : ∃ l', l' = (γ.lo i).cld c := ⟨_, rfl⟩
  have F : ∀ {α : Type} (f : Lo → α), f l' = f (γ.lo i) → ∀ j, f ((γ.set i l').lo j) = f (γ.lo j) := fun f h j => set_field f γ i l' h j
  rw [← hl']
  refine ⟨⟨?_, ?_, ?_, ?_, ?_⟩, fun wake => Keeps.atom h (fun j hj => set_ne γ l' hj) rfl (fun c hc => hc) (fun _ _ _ => rfl) (fun _ _ _ ho => ho) wake⟩
  · exact h.mem.of rfl rfl rfl rfl (fun j _ => F Lo.res (by rw [hl']; rfl) j) (fun j _ a v => by rw [F Lo.ro (by rw [hl']; rfl) j]; exact id) (fun j _ => F Lo.wk (by rw [hl']; rfl) j) (fun j _ => F Lo.oc (by rw [hl']; rfl) j)
  · exact h.own.of rfl rfl rfl rfl (fun j _ => F (fun l => l.res.cells) (by rw [hl']; rfl) j) (fun j _ a v => by rw [F Lo.ro (by rw [hl']; rfl) j]; exact id)
  · have := h.nums.gt (i := i) (l' := l') hG (G1 := G) ⟨rfl, rfl, rfl⟩ (by rw [hl']; exact hact) (by rw [hl']; rfl) (by rw [hl']; rfl) (by rw [hl']; rfl) (by rw [hl']; rfl) (by rw [hl']; rfl) (by rw [hl']; rfl) (fun k _ _ => by rw [hl']; rfl) (fun x e => by
        rw [hl'] at e
        rcases e with e | e
        · exact .inl e
        · exact .inr ⟨e, hcl⟩) id (fun x e => .inl (by rw [hl'] at e; exact e)) (fun ⟨j, hj, e⟩ => by
        rw [F Lo.al (by rw [hl']; rfl) j] at e
        obtain ⟨G0, g1, g2⟩ := h.nums.al j hj c e
        rw [hG] at g1
        cases g1
        rw [sum_congr (γ := γ) (γ' := γ.set i l') rfl (fun j _ => F Lo.res (by rw [hl']; rfl) j)]
        exact g2) (by
        have hr := F Lo.res (by rw [hl']; rfl)
        rw [sum_congr (γ := γ) (γ' := γ.set i l') rfl (fun j _ => hr j), sum_congr (γ := γ) (γ' := γ.set i l') rfl (fun j _ => hr j)]
        rcases (h.nums.gate c G hG).2 with k | ⟨k, _⟩ | k
        · exact .inl k
        · rw [hcl] at k; cases k
        · exact .inr (.inr k))
    rwa [gate_id hG] at this
  · exact h.team.share hact (by rw [hl']; exact hact) (by rw [hl']; rfl) (by rw [hl']; rfl) (by rw [hl']; rfl) (by rw [hl']; rfl) (by rw [hl']; rfl)
  · exact h.stills (l' := l') (pool := γ.pool) (gate := γ.gate) hi hu (by rw [hl']; rfl) (at_congr rfl rfl rfl) rfl
end
end Go.Proofs.Ytofohjbcgchhoaa
