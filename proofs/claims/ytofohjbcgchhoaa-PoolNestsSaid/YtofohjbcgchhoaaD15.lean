/-
  STEPS, on: a new pool, a new gate.
-/
import Derived.Test.YtofohjbcgchhoaaD14
namespace Go.Proofs.Ytofohjbcgchhoaa
open Go.Conc
open Go.RowKit
open Go.ConcN (sumTo sumTo_congr le_sumTo)

section
variable {B0 : Nat} {w0 : World} {PP : Value → World → Prop} {γ γ' : Gh} {w : World} {t : Trace} {i : Nat}

theorem sumTo_zero {N : Nat} {f : Nat → Nat} (h : ∀ j, j < N → f j = 0) : sumTo N f = 0 := by
  induction N with
  | zero => rfl
  | succ n ih =>
    have h1 := ih fun j hj => h j (by omega)
    have h2 := h n (by omega)
    show sumTo n f + f n = 0
    omega

/-- A new pool, out of a channel of its own. -/
def Lo.opp (l : Lo) (p ch cap : Nat) (so : Bool) : Lo :=
  { l with pl := fun q => if q = p then some (ch, cap, so) else l.pl q, oc := fun c => if c = ch then none else l.oc c, ro := fun a v => l.ro a v ∨ (a = ⟨p, 0, none⟩ ∧ v = .chan (some ch)) }
theorem Whole.open_pool (h : Whole B0 w0 γ w t) (hi : i < γ.N) (hact : (γ.lo i).md = .act) (ty : TypeId) {ch cap : Nat} (so : Bool) (hoc : (γ.lo i).oc ch = some cap) (hcap : 1 ≤ cap ∧ cap ≤ 16) :
    ∃ γ', Whole B0 w0 γ' (w.alloc (.cells #[.chan (some ch), .int .i64 0, .int .i64 0, .int .i64 0] ty)) t ∧ γ'.N = γ.N ∧ (∀ wake, Keeps (SY B0 w0 PP) i γ w γ' (w.alloc (.cells #[.chan (some ch), .int .i64 0, .int .i64 0, .int .i64 0] ty)) wake) ∧ γ'.lo i = (γ.lo i).opp w.heap.size ch cap so := by
  obtain ⟨p, hp⟩ : ∃ p, p = w.heap.size := ⟨_, rfl⟩
  obtain ⟨o, ho⟩ : ∃ o, o = Obj.cells #[.chan (some ch), .int .i64 0, .int .i64 0, .int .i64 0] ty := ⟨_, rfl⟩
  obtain ⟨l', hl'⟩ : ∃ l', l' = (γ.lo i).opp p ch cap so := ⟨_, rfl⟩
  have hnone : γ.pool p = none := by
    cases e : γ.pool p with
    | none => rfl
    | some G => have := lt_of_cell2 (h.mem.pool p G e).2.1; omega
  obtain ⟨γ', hγ'⟩ : ∃ γ' : Gh, γ' = { γ.set i l' with pool := fun q => if q = p then some ⟨ch, cap, 0, so⟩ else γ.pool q } := ⟨_, rfl⟩
  have hlo : ∀ j, j ≠ i → γ'.lo j = γ.lo j := fun j hj => by rw [hγ']; exact set_ne γ l' hj
  have hli : γ'.lo i = l' := by rw [hγ']; exact set_same γ i l'
  have hN : γ'.N = γ.N := by rw [hγ']; rfl
  have hpx : ∀ q, γ'.pool q = if q = p then some ⟨ch, cap, 0, so⟩ else γ.pool q := fun q => by rw [hγ']
  have hwg : γ'.wg = γ.wg := by rw [hγ']; rfl
  have hgate : γ'.gate = γ.gate := by rw [hγ']; rfl
  have F : ∀ {α : Type} (f : Lo → α), f l' = f (γ.lo i) → ∀ j, f (γ'.lo j) = f (γ.lo j) := fun f h j => by
    by_cases e : j = i
    · rw [e, hli]; exact h
    · rw [hlo j e]
  have fres := F Lo.res (by rw [hl']; rfl)
  have hsum : ∀ k, γ'.sum k = γ.sum k := fun k => sum_congr hN (fun j _ => fres j) k
  have hcnt : ∀ x, γ'.cnt x = γ.cnt x := fun x => cnt_congr hN (fun j _ => F Lo.wk (by rw [hl']; rfl) j) x
  have hz1 : γ.sum (.slot p) = 0 := sumTo_zero fun j hj => (h.nums.nop p hnone j hj).1
  have hz2 : γ.sum (.alive p) = 0 := sumTo_zero fun j hj => (h.nums.nop p hnone j hj).2.1
  have hz3 : γ.sum (.begun p) = 0 := sumTo_zero fun j hj => (h.nums.nop p hnone j hj).2.2
  obtain ⟨hBc, hch⟩ := h.mem.oc i hi ch cap hoc
  obtain ⟨hog, hop, hoo⟩ := h.nums.oc i hi ch (by rw [hoc]; simp)
  have hB : B0 ≤ p := by rw [hp]; exact h.mem.big
  have hpold : ∀ q G, q ≠ p → (γ'.pool q = some G ↔ γ.pool q = some G) := fun q G hq => by rw [hpx, if_neg hq]
  have hocs : ∀ j, j < γ.N → ∀ c, (γ'.lo j).oc c ≠ none → (γ.lo j).oc c ≠ none ∧ c ≠ ch := fun j hj c e => by
    by_cases ej : j = i
    · rw [ej, hli, hl'] at e
      have e : (if c = ch then none else (γ.lo i).oc c) ≠ none := e
      by_cases ec : c = ch
      · rw [if_pos ec] at e; exact absurd rfl e
      · rw [if_neg ec] at e; rw [ej]; exact ⟨e, ec⟩
    · rw [hlo j ej] at e
      exact ⟨e, fun ec => e (by rw [ec]; exact hoo j hj ej)⟩
  have hocs2 : ∀ j, j < γ.N → ∀ c, (γ.lo j).oc c = none → (γ'.lo j).oc c = none := fun j hj c e => by
    by_cases e2 : (γ'.lo j).oc c = none
    · exact e2
    · exact absurd e (hocs j hj c e2).1
  refine ⟨γ', ?_, hN, fun wake => ?_, by rw [hli, hl', hp]⟩
  · rw [← ho]
    refine h.opens o hN hlo (by rw [hli, hl']; rfl) (fun a v e => ?_) (by rw [hli, hl']; rfl) (by rw [hli, hl']; rfl) (by rw [hli, hl']; rfl) (fun a ha => ?_) ?_ ?_ ?_
    · rw [hli, hl'] at e
      rcases e with e | ⟨e, _⟩
      · exact .inl e
      · refine .inr ⟨by rw [e, hp], fun hA => ?_⟩
        rw [e] at hA
        obtain ⟨_, hA⟩ := hA
        rcases hA with ⟨_, hA, _⟩ | hA | ⟨c, G, hG, e'⟩
        · simp only at hA; omega
        · rw [hwg] at hA
          obtain ⟨G, hG⟩ := Option.isSome_iff_exists.1 hA
          have : p < w.heap.size := h.wg_lt hG
          omega
        · rw [hgate] at hG
          simp only at e'
          have := lt_of_cell2 (h.mem.gate c G hG).2.2.2.1
          omega
    · by_cases e : a.block = p
      · exact .inr (by rw [e, hp])
      · refine .inl ⟨?_, by rw [sd_congr hwg]⟩
        obtain ⟨a1, a2⟩ := ha
        refine ⟨a1, ?_⟩
        rw [hpx, if_neg e, hwg, hgate] at a2
        exact a2
    · refine h.mem.grow o hN (fun j _ => by rw [fres]) (fun j _ a v e => ?_) (fun j hj c cap' e => ?_) (fun q G hq => ?_) (fun x G hx => .inl ⟨by rw [hwg] at hx; exact hx, hcnt x⟩) (fun c G hc => .inl ⟨by rw [hgate] at hc; exact hc, hsum _⟩)
      · by_cases ej : j = i
        · rw [ej, hli, hl'] at e
          rcases e with e | ⟨e1, e2⟩
          · rw [ej]; exact .inl e
          · right
            rw [e1, e2, ho, hp, new_cell]; rfl
        · rw [hlo j ej] at e; exact .inl e
      · by_cases ej : j = i
        · rw [ej, hli, hl'] at e
          have e : (if c = ch then none else (γ.lo i).oc c) = some cap' := e
          by_cases ec : c = ch
          · rw [if_pos ec] at e; cases e
          · rw [if_neg ec] at e; rw [ej]; exact e
        · rw [hlo j ej] at e; exact e
      · by_cases e : q = p
        · rw [hpx, if_pos e] at hq
          cases hq
          right
          rw [e, ho]
          refine ⟨hB, ?_, ?_, ?_, fun j => ?_, hBc, #[], 0, 0, alloc_chan _ hch, ?_⟩
          · rw [hsum, hz2, hp, new_cell]; rfl
          · rw [hp, new_cell]; rfl
          · rw [hsum, hz3, hp, new_cell]; rfl
          · rw [hp]; exact World.frozen?_alloc_new _ _ _ _
          · rw [hsum, hz1]; rfl
        · exact .inl ⟨(hpold q G e).1 hq, hsum _, hsum _, hsum _⟩
    · have hh := h.nums
      have ftk : ∀ j, (γ'.lo j).res.tk = (γ.lo j).res.tk := fun j => by rw [fres]
      exact {
        slot := fun j hj q => by rw [hN] at hj; rw [ftk]; exact hh.slot j hj q
        pool := fun q G hq => by
          rw [hsum]
          by_cases e : q = p
          · rw [hpx, if_pos e] at hq
            cases hq
            rw [e, hz1]
            exact ⟨Nat.zero_le _, hcap.1, hcap.2, Nat.zero_le _⟩
          · exact hh.pool q G ((hpold q G e).1 hq)
        pk := fun j hj q G hq => by
          rw [hN] at hj
          rw [F Lo.pk (by rw [hl']; rfl) j]
          by_cases e : q = p
          · rw [e, hh.nopk p hnone j hj]; exact Nat.zero_le _
          · exact hh.pk j hj q G ((hpold q G e).1 hq)
        pl := fun j hj q a b d e => by
          rw [hN] at hj
          by_cases eq : q = p
          · rw [hpx, if_pos eq]
            by_cases ej : j = i
            · rw [ej, hli, hl'] at e
              have e : (if q = p then some (ch, cap, so) else (γ.lo i).pl q) = some (a, b, d) := e
              rw [if_pos eq] at e
              cases e
              exact ⟨0, rfl⟩
            · rw [hlo j ej] at e
              obtain ⟨k, hk⟩ := hh.pl j hj q a b d e
              rw [eq, hnone] at hk; cases hk
          · rw [hpx, if_neg eq]
            refine hh.pl j hj q a b d ?_
            by_cases ej : j = i
            · rw [ej, hli, hl'] at e
              have e : (if q = p then some (ch, cap, so) else (γ.lo i).pl q) = some (a, b, d) := e
              rw [if_neg eq] at e
              rw [ej]; exact e
            · rw [hlo j ej] at e; exact e
        gl := fun j hj c bg n q e => by rw [hN] at hj; rw [F Lo.gl (by rw [hl']; rfl) j] at e; rw [hgate]; exact hh.gl j hj c bg n q e
        cl := fun j hj c e => by rw [hN] at hj; rw [F Lo.cl (by rw [hl']; rfl) j] at e; rw [hgate]; exact hh.cl j hj c e
        gate := fun c G hc => by
          rw [hgate] at hc
          rw [hsum, hsum, hN]
          obtain ⟨k1, k2⟩ := hh.gate c G hc
          refine ⟨k1, ?_⟩
          rcases k2 with k2 | ⟨k2, k3, k4, k5⟩ | k2
          · exact .inl k2
          · exact .inr (.inl ⟨k2, k3, k4, fun j hj => by rw [ftk]; exact k5 j hj⟩)
          · exact .inr (.inr k2)
        al := fun j hj c e => by rw [hN] at hj; rw [F Lo.al (by rw [hl']; rfl) j] at e; rw [hgate, hsum]; exact hh.al j hj c e
        gm := fun c G hc hcl j hj => by rw [hN] at hj; rw [hgate] at hc; rw [ftk]; exact hh.gm c G hc hcl j hj
        gk := fun j hj c k e => by rw [hN] at hj; rw [F Lo.gk (by rw [hl']; rfl) j] at e; rw [hsum]; exact hh.gk j hj c k e
        gku := fun j hj c e => by
          rw [hN] at hj
          rw [F Lo.gk (by rw [hl']; rfl) j] at e
          obtain ⟨k1, k2⟩ := hh.gku j hj c e
          exact ⟨by rw [hgate]; exact k1, fun k hk hne => by rw [hN] at hk; rw [F Lo.gk (by rw [hl']; rfl) k]; exact k2 k hk hne⟩
        nopk := fun q hq j hj => by
          rw [hN] at hj
          rw [hpx] at hq
          by_cases e : q = p
          · rw [if_pos e] at hq; cases hq
          · rw [if_neg e] at hq
            rw [F Lo.pk (by rw [hl']; rfl) j]; exact hh.nopk q hq j hj
        idle := fun j hj e c => by rw [hN] at hj; rw [F Lo.md (by rw [hl']; rfl) j] at e; rw [ftk]; exact hh.idle j hj e c
        chp := fun q G c hq => by
          rw [hgate]
          by_cases e : q = p
          · rw [hpx, if_pos e] at hq
            cases hq
            simp only
            by_cases ec : c = ch
            · rw [ec]; exact .inl hog
            · exact .inr ec
          · exact hh.chp q G c ((hpold q G e).1 hq)
        chpp := fun q G q' G' hq hq' e => by
          by_cases e1 : q = p <;> by_cases e2 : q' = p
          · rw [e1, e2]
          · rw [hpx, if_pos e1] at hq
            cases hq
            exact absurd e.symm (hop q' G' ((hpold q' G' e2).1 hq'))
          · rw [hpx, if_pos e2] at hq'
            cases hq'
            exact absurd e (hop q G ((hpold q G e1).1 hq))
          · exact hh.chpp q G q' G' ((hpold q G e1).1 hq) ((hpold q' G' e2).1 hq') e
        solo := fun q G hq hso => by
          rw [hsum, F Lo.sk (by rw [hl']; rfl) 0]
          by_cases e : q = p
          · rw [e, hz1]; exact Nat.zero_le _
          · exact hh.solo q G ((hpold q G e).1 hq) hso
        oc := fun j hj c e => by
          rw [hN] at hj
          obtain ⟨e1, e2⟩ := hocs j hj c e
          obtain ⟨k1, k2, k3⟩ := hh.oc j hj c e1
          refine ⟨by rw [hgate]; exact k1, fun q G hq => ?_, fun k hk hne => by rw [hN] at hk; exact hocs2 k hk c (k3 k hk hne)⟩
          by_cases eq : q = p
          · rw [hpx, if_pos eq] at hq
            cases hq
            exact fun x => e2 x.symm
          · exact k2 q G ((hpold q G eq).1 hq)
        bgi := fun c G c' G' hc hc' e => by rw [hgate] at hc hc'; exact hh.bgi c G c' G' hc hc' e
        nop := fun q hq j hj => by
          rw [hN] at hj
          rw [hpx] at hq
          by_cases e : q = p
          · rw [if_pos e] at hq; cases hq
          · rw [if_neg e] at hq
            rw [ftk]; exact hh.nop q hq j hj
        nog := fun c hc j hj => by rw [hN] at hj; rw [hgate] at hc; rw [ftk]; exact hh.nog c hc j hj }
    · exact h.team.of hN hwg (fun j _ => F Lo.md (by rw [hl']; rfl) j) (fun j _ => F Lo.wg (by rw [hl']; rfl) j) (fun j _ => F Lo.wk (by rw [hl']; rfl) j) (fun j _ => F Lo.ws (by rw [hl']; rfl) j) (fun j _ => F Lo.jn (by rw [hl']; rfl) j) (fun j _ => F Lo.ob (by rw [hl']; rfl) j) (fun j _ => .inr (fres j)) (fun j _ => by
        by_cases e : j = i
        · rw [e]; exact .inl hact
        · exact .inr (by rw [hlo j e]))
  · rw [← ho]
    exact Keeps.opens h o hN hlo (fun c hc => by rw [hgate]; exact hc) wake

/-- A new gate, out of a channel of its own. -/
def Lo.opg (l : Lo) (c bg n p : Nat) : Lo :=
  { l with res := ⟨l.res.cells, fun k => if k = .tr c then n else l.res.tk k⟩, gl := fun x => if x = c then some (bg, n, p) else l.gl x, oc := fun x => if x = c then none else l.oc x, gk := fun x => if x = c then some 0 else l.gk x }
theorem Whole.open_gate (h : Whole B0 w0 γ w t) (hi : i < γ.N) (hact : (γ.lo i).md = .act) (ty : TypeId) {c : Nat} (n p : Nat) (hoc : (γ.lo i).oc c = some 0) (hn : 1 ≤ n ∧ n < 4294967296) :
    ∃ γ', Whole B0 w0 γ' (w.alloc (.cells #[.int .i64 0] ty)) t ∧ γ'.N = γ.N ∧ (∀ wake, Keeps (SY B0 w0 PP) i γ w γ' (w.alloc (.cells #[.int .i64 0] ty)) wake) ∧ γ'.lo i = (γ.lo i).opg c w.heap.size n p := by
  obtain ⟨bg, hbg⟩ : ∃ bg, bg = w.heap.size := ⟨_, rfl⟩
  obtain ⟨o, ho⟩ : ∃ o, o = Obj.cells #[.int .i64 0] ty := ⟨_, rfl⟩
  obtain ⟨l', hl'⟩ : ∃ l', l' = (γ.lo i).opg c bg n p := ⟨_, rfl⟩
  obtain ⟨hBc, hch⟩ := h.mem.oc i hi c 0 hoc
  obtain ⟨hog, hop, hoo⟩ := h.nums.oc i hi c (by rw [hoc]; simp)
  obtain ⟨γ', hγ'⟩ : ∃ γ' : Gh, γ' = γ.setg i l' c ⟨bg, n, p, false⟩ := ⟨_, rfl⟩
  have hlo : ∀ j, j ≠ i → γ'.lo j = γ.lo j := fun j hj => by rw [hγ']; exact set_ne γ l' hj
  have hli : γ'.lo i = l' := by rw [hγ']; exact set_same γ i l'
  have hN : γ'.N = γ.N := by rw [hγ']; rfl
  have hpool : γ'.pool = γ.pool := by rw [hγ']; rfl
  have hwg : γ'.wg = γ.wg := by rw [hγ']; rfl
  have hgx : ∀ x, γ'.gate x = if x = c then some ⟨bg, n, p, false⟩ else γ.gate x := fun x => by rw [hγ']; rfl
  have F : ∀ {α : Type} (f : Lo → α), f l' = f (γ.lo i) → ∀ j, f (γ'.lo j) = f (γ.lo j) := fun f h j => by
    by_cases e : j = i
    · rw [e, hli]; exact h
    · rw [hlo j e]
  have ftk : ∀ k, k ≠ .tr c → ∀ j, (γ'.lo j).res.tk k = (γ.lo j).res.tk k := fun k hk => F (fun l => l.res.tk k) (by rw [hl']; show (if k = .tr c then n else _) = _; rw [if_neg hk])
  have fcell := F (fun l => l.res.cells) (by rw [hl']; rfl)
  have hsum : ∀ k, k ≠ .tr c → γ'.sum k = γ.sum k := fun k hk => by
    unfold Gh.sum
    rw [hN]
    exact sumTo_congr fun j _ => ftk k hk j
  have hcnt : ∀ x, γ'.cnt x = γ.cnt x := fun x => cnt_congr hN (fun j _ => F Lo.wk (by rw [hl']; rfl) j) x
  have hz := h.nums.nog c hog
  have hz2 : γ.sum (.tb c) = 0 := sumTo_zero fun j hj => (hz j hj).2.1
  have hz3 : γ.sum (.gm c) = 0 := sumTo_zero fun j hj => (hz j hj).2.2
  have hz1 : γ'.sum (.tr c) = n := by
    have h0 : γ.sum (.tr c) = 0 := sumTo_zero fun j hj => (hz j hj).1
    have h1 := sum_set γ hi l' (.tr c)
    have h2 : γ'.sum (.tr c) = (γ.set i l').sum (.tr c) := by rw [hγ']; rfl
    have h3 : l'.res.tk (.tr c) = n := by rw [hl']; show (if _ then _ else _) = _; rw [if_pos rfl]
    have h4 := (hz i hi).1
    omega
  have hB : B0 ≤ bg := by rw [hbg]; exact h.mem.big
  have hgold : ∀ x G, x ≠ c → (γ'.gate x = some G ↔ γ.gate x = some G) := fun x G hx => by rw [hgx, if_neg hx]
  have hocs : ∀ j, j < γ.N → ∀ x, (γ'.lo j).oc x ≠ none → (γ.lo j).oc x ≠ none ∧ x ≠ c := fun j hj x e => by
    by_cases ej : j = i
    · rw [ej, hli, hl'] at e
      have e : (if x = c then none else (γ.lo i).oc x) ≠ none := e
      by_cases ec : x = c
      · rw [if_pos ec] at e; exact absurd rfl e
      · rw [if_neg ec] at e; rw [ej]; exact ⟨e, ec⟩
    · rw [hlo j ej] at e
      exact ⟨e, fun ec => e (by rw [ec]; exact hoo j hj ej)⟩
  have hocs2 : ∀ j, j < γ.N → ∀ x, (γ.lo j).oc x = none → (γ'.lo j).oc x = none := fun j hj x e => by
    by_cases e2 : (γ'.lo j).oc x = none
    · exact e2
    · exact absurd e (hocs j hj x e2).1
  have hgk : ∀ j, j < γ.N → ∀ x, x ≠ c → (γ'.lo j).gk x = (γ.lo j).gk x := fun j hj x hx => F (fun l => l.gk x) (by rw [hl']; show (if x = c then some 0 else _) = _; rw [if_neg hx]) j
  have hgkn : ∀ j, j < γ.N → (γ.lo j).gk c = none := fun j hj => by
    cases e : (γ.lo j).gk c with
    | none => rfl
    | some k => exact absurd hog (h.nums.gku j hj c (by rw [e]; simp)).1
  refine ⟨γ', ?_, hN, fun wake => ?_, by rw [hli, hl', hbg]⟩
  · rw [← ho]
    refine h.opens o hN hlo (by rw [hli, hl']; rfl) (fun a v e => .inl (by rw [hli, hl'] at e; exact e)) (by rw [hli, hl']; rfl) (by rw [hli, hl']; rfl) (by rw [hli, hl']; rfl) (fun a ha => ?_) ?_ ?_ ?_
    · by_cases e : a.block = bg
      · exact .inr (by rw [e, hbg])
      · refine .inl ⟨?_, by rw [sd_congr hwg]⟩
        obtain ⟨a1, a2⟩ := ha
        refine ⟨a1, ?_⟩
        rw [hpool, hwg] at a2
        rcases a2 with a2 | a2 | ⟨x, G, hG, e'⟩
        · exact .inl a2
        · exact .inr (.inl a2)
        · refine .inr (.inr ?_)
          by_cases ex : x = c
          · rw [hgx, if_pos ex] at hG
            cases hG
            exact absurd e'.symm e
          · exact ⟨x, G, (hgold x G ex).1 hG, e'⟩
    · refine h.mem.grow o hN (fun j _ => fcell j) (fun j _ a v e => .inl (by rw [F Lo.ro (by rw [hl']; rfl) j] at e; exact e)) (fun j hj x cap' e => ?_) (fun q G hq => .inl ⟨by rw [hpool] at hq; exact hq, hsum _ (by simp), hsum _ (by simp), hsum _ (by simp)⟩) (fun x G hx => .inl ⟨by rw [hwg] at hx; exact hx, hcnt x⟩) (fun x G hx => ?_)
      · by_cases ej : j = i
        · rw [ej, hli, hl'] at e
          have e : (if x = c then none else (γ.lo i).oc x) = some cap' := e
          by_cases ec : x = c
          · rw [if_pos ec] at e; cases e
          · rw [if_neg ec] at e; rw [ej]; exact e
        · rw [hlo j ej] at e; exact e
      · by_cases e : x = c
        · rw [hgx, if_pos e] at hx
          cases hx
          right
          rw [e, ho]
          refine ⟨hBc, hB, alloc_chan _ hch, ?_, fun j => ?_⟩
          · rw [hsum _ (by simp), hz2, hbg, new_cell]; rfl
          · rw [hbg]; exact World.frozen?_alloc_new _ _ _ _
        · exact .inl ⟨(hgold x G e).1 hx, hsum _ (by simp)⟩
    · have hh := h.nums
      exact {
        slot := fun j hj q => by rw [hN] at hj; rw [ftk _ (by simp) j, ftk _ (by simp) j]; exact hh.slot j hj q
        pool := fun q G hq => by rw [hpool] at hq; rw [hsum _ (by simp)]; exact hh.pool q G hq
        pk := fun j hj q G hq => by rw [hN] at hj; rw [hpool] at hq; rw [F Lo.pk (by rw [hl']; rfl) j]; exact hh.pk j hj q G hq
        pl := fun j hj q a b d e => by rw [hN] at hj; rw [F Lo.pl (by rw [hl']; rfl) j] at e; rw [hpool]; exact hh.pl j hj q a b d e
        gl := fun j hj x bg' n' q e => by
          rw [hN] at hj
          by_cases ex : x = c
          · rw [hgx, if_pos ex]
            by_cases ej : j = i
            · rw [ej, hli, hl'] at e
              have e : (if x = c then some (bg, n, p) else (γ.lo i).gl x) = some (bg', n', q) := e
              rw [if_pos ex] at e
              cases e
              exact ⟨false, rfl⟩
            · rw [hlo j ej] at e
              obtain ⟨cl, hG⟩ := hh.gl j hj x bg' n' q e
              rw [ex, hog] at hG; cases hG
          · rw [hgx, if_neg ex]
            refine hh.gl j hj x bg' n' q ?_
            by_cases ej : j = i
            · rw [ej, hli, hl'] at e
              have e : (if x = c then some (bg, n, p) else (γ.lo i).gl x) = some (bg', n', q) := e
              rw [if_neg ex] at e
              rw [ej]; exact e
            · rw [hlo j ej] at e; exact e
        cl := fun j hj x e => by
          rw [hN] at hj
          rw [F Lo.cl (by rw [hl']; rfl) j] at e
          obtain ⟨G, g1, g2⟩ := hh.cl j hj x e
          have ex : x ≠ c := fun e' => by rw [e', hog] at g1; cases g1
          exact ⟨G, by rw [hgx, if_neg ex]; exact g1, g2⟩
        gate := fun x G hx => by
          rw [hN]
          by_cases ex : x = c
          · rw [hgx, if_pos ex] at hx
            cases hx
            rw [ex, hz1, hsum _ (by simp), hz2]
            exact ⟨hn.2, .inl ⟨rfl, by simp only; omega, rfl⟩⟩
          · have hx' := (hgold x G ex).1 hx
            rw [hsum (.tr x) (by simp [ex]), hsum (.tb x) (by simp)]
            obtain ⟨k1, k2⟩ := hh.gate x G hx'
            refine ⟨k1, ?_⟩
            rcases k2 with k2 | ⟨k2, k3, k4, k5⟩ | k2
            · exact .inl k2
            · exact .inr (.inl ⟨k2, k3, k4, fun j hj => by rw [ftk (.tr x) (by simp [ex]) j, ftk (.tb x) (by simp) j]; exact k5 j hj⟩)
            · exact .inr (.inr k2)
        al := fun j hj x e => by
          rw [hN] at hj
          rw [F Lo.al (by rw [hl']; rfl) j] at e
          obtain ⟨G, g1, g2⟩ := hh.al j hj x e
          have ex : x ≠ c := fun e' => by rw [e', hog] at g1; cases g1
          exact ⟨G, by rw [hgx, if_neg ex]; exact g1, by rw [hsum _ (by simp)]; exact g2⟩
        gm := fun x G hx hcl j hj => by
          rw [hN] at hj
          rw [ftk _ (by simp) j, ftk _ (by simp) j]
          by_cases ex : x = c
          · rw [ex, (hz j hj).2.2]; exact Nat.zero_le _
          · exact hh.gm x G ((hgold x G ex).1 hx) hcl j hj
        gk := fun j hj x k e => by
          rw [hN] at hj
          rw [hsum _ (by simp)]
          by_cases ex : x = c
          · rw [ex] at e ⊢
            by_cases ej : j = i
            · rw [ej, hli, hl'] at e
              have e : (if c = c then some 0 else (γ.lo i).gk c) = some k := e
              rw [if_pos rfl] at e
              cases e
              exact hz3
            · rw [hlo j ej, hgkn j hj] at e; cases e
          · rw [hgk j hj x ex] at e; exact hh.gk j hj x k e
        gku := fun j hj x e => by
          rw [hN] at hj
          by_cases ex : x = c
          · rw [ex] at e ⊢
            refine ⟨by rw [hgx, if_pos rfl]; simp, fun k hk hne => ?_⟩
            rw [hN] at hk
            by_cases ej : j = i
            · rw [hlo k (fun x => hne (x.trans ej.symm))]; exact hgkn k hk
            · rw [hlo j ej, hgkn j hj] at e; exact absurd rfl e
          · rw [hgk j hj x ex] at e
            obtain ⟨k1, k2⟩ := hh.gku j hj x e
            exact ⟨by rw [hgx, if_neg ex]; exact k1, fun k hk hne => by rw [hN] at hk; rw [hgk k hk x ex]; exact k2 k hk hne⟩
        nopk := fun q hq j hj => by rw [hN] at hj; rw [hpool] at hq; rw [F Lo.pk (by rw [hl']; rfl) j]; exact hh.nopk q hq j hj
        idle := fun j hj e x => by
          rw [hN] at hj
          by_cases ej : j = i
          · rw [ej, hli, hl'] at e; exact absurd hact e
          · rw [hlo j ej] at e ⊢; exact hh.idle j hj e x
        chp := fun q G x hq => by
          rw [hpool] at hq
          by_cases ex : x = c
          · exact .inr fun e => hop q G hq (by rw [← e, ex])
          · rw [hgx, if_neg ex]; exact hh.chp q G x hq
        chpp := fun q G q' G' hq hq' e => by rw [hpool] at hq hq'; exact hh.chpp q G q' G' hq hq' e
        solo := fun q G hq hso => by rw [hpool] at hq; rw [hsum _ (by simp), F Lo.sk (by rw [hl']; rfl) 0]; exact hh.solo q G hq hso
        oc := fun j hj x e => by
          rw [hN] at hj
          obtain ⟨e1, e2⟩ := hocs j hj x e
          obtain ⟨k1, k2, k3⟩ := hh.oc j hj x e1
          exact ⟨by rw [hgx, if_neg e2]; exact k1, fun q G hq => by rw [hpool] at hq; exact k2 q G hq, fun k hk hne => by rw [hN] at hk; exact hocs2 k hk x (k3 k hk hne)⟩
        bgi := fun x G x' G' hx hx' e => by
          have big : ∀ y Gy, y ≠ c → γ'.gate y = some Gy → Gy.bg ≠ bg := fun y Gy hy hgy e' => by
            have := lt_of_cell2 (h.mem.gate y Gy ((hgold y Gy hy).1 hgy)).2.2.2.1
            omega
          by_cases e1 : x = c <;> by_cases e2 : x' = c
          · rw [e1, e2]
          · rw [hgx, if_pos e1] at hx
            cases hx
            exact absurd e.symm (big x' G' e2 hx')
          · rw [hgx, if_pos e2] at hx'
            cases hx'
            exact absurd e (big x G e1 hx)
          · exact hh.bgi x G x' G' ((hgold x G e1).1 hx) ((hgold x' G' e2).1 hx') e
        nop := fun q hq j hj => by rw [hN] at hj; rw [hpool] at hq; rw [ftk _ (by simp) j, ftk _ (by simp) j, ftk _ (by simp) j]; exact hh.nop q hq j hj
        nog := fun x hx j hj => by
          rw [hN] at hj
          rw [hgx] at hx
          by_cases ex : x = c
          · rw [if_pos ex] at hx; cases hx
          · rw [if_neg ex] at hx
            rw [ftk (.tr x) (by simp [ex]) j, ftk _ (by simp) j, ftk _ (by simp) j]; exact hh.nog x hx j hj }
    · have ht := h.team.share (i := i) (l' := l') hact (by rw [hl']; exact hact) (by rw [hl']; rfl) (by rw [hl']; rfl) (by rw [hl']; rfl) (by rw [hl']; rfl) (by rw [hl']; rfl)
      have hlo' : ∀ j, γ'.lo j = (γ.set i l').lo j := fun j => by rw [hγ']; rfl
      exact ht.of hN (by rw [hγ']; rfl) (fun j _ => by rw [hlo']) (fun j _ => by rw [hlo']) (fun j _ => by rw [hlo']) (fun j _ => by rw [hlo']) (fun j _ => by rw [hlo']) (fun j _ => by rw [hlo']) (fun j _ => .inr (by rw [hlo'])) (fun j _ => .inr (by rw [hlo']))
  · rw [← ho]
    refine Keeps.opens h o hN hlo (fun x hx => ?_) wake
    rw [hgx]
    by_cases ex : x = c
    · rw [if_pos ex]; rfl
    · rw [if_neg ex]; exact hx
end
end Go.Proofs.Ytofohjbcgchhoaa
