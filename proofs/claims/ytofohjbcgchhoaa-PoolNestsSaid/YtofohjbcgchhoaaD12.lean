/-
  STEPS, on: a go statement.
-/
import Derived.Test.YtofohjbcgchhoaaD11
namespace Go.Proofs.Ytofohjbcgchhoaa
open Go.Conc
open Go.RowKit
open Go.ConcN (sumTo sumTo_congr le_sumTo)

/-- What a child begins with. -/
def Lo.child (l : Lo) (N u : Nat) (R : Res) (J : Res → Prop) : Lo :=
  { md := .act, df := 0, res := R, ro := l.ro, jn := (· = N), pk := l.pk, pl := l.pl, gl := l.gl, cl := l.cl, wg := some u, wk := fun y => if y = u then 1 else 0, ws := fun _ => none, gk := fun _ => none, oc := fun _ => none, sk := fun _ => 0, ob := J, al := l.al }
/-- What its parent is left with. -/
def Lo.parent (l : Lo) (N u x : Nat) (R : Res) (J : Res → Prop) (ws : List (Nat × (Res → Prop))) (hi : Nat) : Lo :=
  { l with res := R, wk := fun y => if y = u then x else l.wk y, ws := fun y => if y = u then some ⟨(N, J) :: ws, hi, 0⟩ else l.ws y }
def Gh.born (γ : Gh) (i : Nat) (lp lc : Lo) : Gh := { γ with N := γ.N + 1, lo := fun j => if j = γ.N then lc else if j = i then lp else γ.lo j }

/-- How what is owned is parted. -/
structure Parts (l : Lo) (Rc Rr : Res) : Prop where
  tk : ∀ k, l.res.tk k = Rc.tk k + Rr.tk k
  cc : ∀ a v, Rc.cells a = some v → l.res.cells a = some v ∧ Rr.cells a = none
  cr : ∀ a v, Rr.cells a = some v → l.res.cells a = some v
  slot : ∀ p, Rc.tk (.alive p) ≤ Rc.tk (.slot p) ∧ Rr.tk (.alive p) ≤ Rr.tk (.slot p)
  gm : ∀ c, l.cl c ∨ (Rr.tk (.gm c) = 0 ∧ (Rc.tk (.gm c) = 0 ∨ ∃ bg n p, l.gl c = some (bg, n, p) ∧ Rc.tk (.gm c) ≤ Rc.tk (.alive p)))
  tr : ∀ c, l.res.tk (.tr c) ≠ 0 → l.res.tk (.tb c) = 0

section
variable {B0 : Nat} {w0 : World} {PP : Value → World → Prop} {γ : Gh} {w : World} {t : Trace} {i : Nat}

theorem Whole.fork (h : Whole B0 w0 γ w t) (hi : i < γ.N) (hdf : (γ.lo i).df = 0) {u hi' x : Nat} {ws : List (Nat × (Res → Prop))} (hB : (γ.lo i).ws u = some ⟨ws, hi', 0⟩) (hwk : (γ.lo i).wk u = x + 1) {Rc Rr : Res} (hP : Parts (γ.lo i) Rc Rr) (J : Res → Prop) {a b : MemOp} (ha : a.g = i ∧ a.act = .go γ.N) (hb : b.g = γ.N ∧ b.act = .start) :
    Whole B0 w0 (γ.born i ((γ.lo i).parent γ.N u x Rr J ws hi') ((γ.lo i).child γ.N u Rc J)) w (t ++ #[a, b]) ∧ Keeps (SY B0 w0 PP) i γ w (γ.born i ((γ.lo i).parent γ.N u x Rr J ws hi') ((γ.lo i).child γ.N u Rc J)) w false := by
  obtain ⟨hact, hnd, hwsm, hcnt, G, hG, hGb, hp0, _⟩ := h.team.boss i hi u _ hB
  obtain ⟨lp, hlp⟩ : ∃ lp, lp = (γ.lo i).parent γ.N u x Rr J ws hi' := ⟨_, rfl⟩
  obtain ⟨lc, hlc⟩ : ∃ lc, lc = (γ.lo i).child γ.N u Rc J := ⟨_, rfl⟩
  obtain ⟨γ', hγ'⟩ : ∃ γ', γ' = γ.born i lp lc := ⟨_, rfl⟩
  rw [← hlp, ← hlc, ← hγ']
  have hne : i ≠ γ.N := by omega
  have eN : γ'.lo γ.N = lc := by rw [hγ']; simp [Gh.born]
  have ei : γ'.lo i = lp := by rw [hγ']; simp [Gh.born, hne]
  have eo : ∀ j, j ≠ γ.N → j ≠ i → γ'.lo j = γ.lo j := fun j h1 h2 => by rw [hγ']; simp [Gh.born, h1, h2]
  have hN : γ'.N = γ.N + 1 := by rw [hγ']; rfl
  have hpool : γ'.pool = γ.pool := by rw [hγ']; rfl
  have hwg : γ'.wg = γ.wg := by rw [hγ']; rfl
  have hgate : γ'.gate = γ.gate := by rw [hγ']; rfl
  have hAT : AT γ' = AT γ := at_congr hpool hwg hgate
  have hmdp : lp.md = .act := by rw [hlp]; exact hact
  have hmdc : lc.md = .act := by rw [hlc]; rfl
  -- a field that all three bear alike
  have C : ∀ {α : Type} (f : Lo → α), f lp = f (γ.lo i) → ∀ j, j ≠ γ.N → f (γ'.lo j) = f (γ.lo j) := fun f h1 j hj => by
    by_cases e : j = i
    · rw [e, ei]; exact h1
    · rw [eo j hj e]
  have hs : ∀ k, γ'.sum k = γ.sum k := fun k => by
    have h1 := sumTo_one hi (fun j => (γ.lo j).res.tk k) (fun j => if j = i then lp.res.tk k else (γ.lo j).res.tk k) (fun j hj => if_neg hj)
    rw [if_pos rfl] at h1
    have h2 : sumTo γ.N (fun j => (γ'.lo j).res.tk k) = sumTo γ.N (fun j => if j = i then lp.res.tk k else (γ.lo j).res.tk k) := sumTo_congr fun j hj => by
      by_cases e : j = i
      · rw [e, ei, if_pos rfl]
      · rw [eo j (by omega) e, if_neg e]
    have h3 : γ'.sum k = sumTo γ.N (fun j => (γ'.lo j).res.tk k) + (γ'.lo γ.N).res.tk k := by unfold Gh.sum; rw [hN]; rfl
    rw [eN] at h3
    have h4 := hP.tk k
    have h5 : lp.res.tk k = Rr.tk k := by rw [hlp]; rfl
    have h6 : lc.res.tk k = Rc.tk k := by rw [hlc]; rfl
    have h7 : γ.sum k = sumTo γ.N (fun j => (γ.lo j).res.tk k) := rfl
    omega
  have hcn : ∀ y, γ'.cnt y = γ.cnt y := fun y => by
    have h1 := sumTo_one hi (fun j => (γ.lo j).wk y) (fun j => if j = i then lp.wk y else (γ.lo j).wk y) (fun j hj => if_neg hj)
    rw [if_pos rfl] at h1
    have h2 : sumTo γ.N (fun j => (γ'.lo j).wk y) = sumTo γ.N (fun j => if j = i then lp.wk y else (γ.lo j).wk y) := sumTo_congr fun j hj => by
      by_cases e : j = i
      · rw [e, ei, if_pos rfl]
      · rw [eo j (by omega) e, if_neg e]
    have h3 : γ'.cnt y = sumTo γ.N (fun j => (γ'.lo j).wk y) + (γ'.lo γ.N).wk y := by unfold Gh.cnt; rw [hN]; rfl
    rw [eN] at h3
    have h7 : γ.cnt y = sumTo γ.N (fun j => (γ.lo j).wk y) := rfl
    by_cases e : y = u
    · have h5 : lp.wk y = x := by rw [hlp]; simp [Lo.parent, e]
      have h6 : lc.wk y = 1 := by rw [hlc]; simp [Lo.child, e]
      have h8 : (γ.lo i).wk y = x + 1 := by rw [e]; exact hwk
      omega
    · have h5 : lp.wk y = (γ.lo i).wk y := by rw [hlp]; simp [Lo.parent, e]
      have h6 : lc.wk y = 0 := by rw [hlc]; simp [Lo.child, e]
      omega
  have cp : ∀ a v, lp.res.cells a = some v → (γ.lo i).res.cells a = some v := fun a v e => hP.cr a v (by rw [hlp] at e; exact e)
  have ccc : ∀ a v, lc.res.cells a = some v → (γ.lo i).res.cells a = some v ∧ lp.res.cells a = none := fun a v e => by
    rw [hlc] at e
    obtain ⟨h1, h2⟩ := hP.cc a v e
    exact ⟨h1, by rw [hlp]; exact h2⟩
  -- the cells of the new ghost are of the old
  have own_of : ∀ j a, j < γ.N + 1 → (γ'.lo j).res.cells a ≠ none → ∃ j', j' < γ.N ∧ (γ.lo j').res.cells a ≠ none ∧ (j ≠ γ.N → j' = j) ∧ (j = γ.N → j' = i) := fun j a hj e => by
    by_cases e1 : j = γ.N
    · rw [e1, eN] at e
      obtain ⟨v, hv⟩ := Option.ne_none_iff_exists'.1 e
      exact ⟨i, hi, by rw [(ccc a v hv).1]; simp, fun e => absurd e1 e, fun _ => rfl⟩
    · by_cases e2 : j = i
      · rw [e2, ei] at e
        obtain ⟨v, hv⟩ := Option.ne_none_iff_exists'.1 e
        exact ⟨i, hi, by rw [cp a v hv]; simp, fun _ => e2.symm, fun _ => rfl⟩
      · rw [eo j e1 e2] at e
        exact ⟨j, by omega, e, fun _ => rfl, fun e => absurd e e1⟩
  have ro_of : ∀ j a v, j < γ.N + 1 → (γ'.lo j).ro a v → ∃ j', j' < γ.N ∧ (γ.lo j').ro a v := fun j a v hj e => by
    by_cases e1 : j = γ.N
    · rw [e1, eN, hlc] at e; exact ⟨i, hi, e⟩
    · by_cases e2 : j = i
      · rw [e2, ei, hlp] at e; exact ⟨i, hi, e⟩
      · rw [eo j e1 e2] at e; exact ⟨j, by omega, e⟩
  refine ⟨⟨?_, ?_, ?_, ?_, ?_⟩, ?_⟩
  · exact {
      bel := h.mem.bel
      big := h.mem.big
      cell := fun j hj a v e => by
        by_cases e1 : j = γ.N
        · rw [e1, eN] at e; exact h.mem.cell i hi a v (ccc a v e).1
        · by_cases e2 : j = i
          · rw [e2, ei] at e; exact h.mem.cell i hi a v (cp a v e)
          · rw [eo j e1 e2] at e; exact h.mem.cell j (by omega) a v e
      ro := fun j hj a v e => by
        obtain ⟨j', h1, h2⟩ := ro_of j a v (by omega) e
        exact h.mem.ro j' h1 a v h2
      pool := fun q G' hq => by rw [hpool] at hq; rw [hs, hs, hs]; exact h.mem.pool q G' hq
      oc := fun j hj y cap e => by
        by_cases e1 : j = γ.N
        · rw [e1, eN, hlc] at e; cases e
        · rw [C Lo.oc (by rw [hlp]; rfl) j e1] at e; exact h.mem.oc j (by omega) y cap e
      wg := fun y G' hy => by rw [hwg] at hy; rw [hcn]; exact h.mem.wg y G' hy
      gate := fun y G' hy => by rw [hgate] at hy; rw [hs]; exact h.mem.gate y G' hy }
  · exact {
      ex := fun j k hj hk hjk a e => by
        by_cases e0 : (γ'.lo k).res.cells a = none
        · exact e0
        · exfalso
          obtain ⟨j', j1, j2, j3, j4⟩ := own_of j a (by omega) e
          obtain ⟨k', k1, k2, k3, k4⟩ := own_of k a (by omega) e0
          by_cases e1 : j' = k'
          · -- then one of the two is the child, the other its parent
            by_cases ej : j = γ.N
            · have hk' : k ≠ γ.N := fun x => hjk (ej.trans x.symm)
              have : k = i := by rw [← k3 hk', ← e1, j4 ej]
              rw [ej, eN] at e
              rw [this, ei] at e0
              obtain ⟨v, hv⟩ := Option.ne_none_iff_exists'.1 e
              exact e0 (ccc a v hv).2
            · by_cases ek : k = γ.N
              · have : j = i := by rw [← j3 ej, e1, k4 ek]
                rw [ek, eN] at e0
                rw [this, ei] at e
                obtain ⟨v, hv⟩ := Option.ne_none_iff_exists'.1 e0
                exact e (ccc a v hv).2
              · exact hjk ((j3 ej).symm.trans (e1.trans (k3 ek)))
          · exact k2 (h.own.ex j' k' j1 k1 e1 a j2)
      exro := fun j k hj hk a v e e' => by
        obtain ⟨j', j1, j2, _⟩ := own_of j a (by omega) e
        obtain ⟨k', k1, k2⟩ := ro_of k a v (by omega) e'
        exact h.own.exro j' k' j1 k1 a v j2 k2
      exAT := fun j hj a e => by
        obtain ⟨j', j1, j2, _⟩ := own_of j a (by omega) e
        rw [hAT]; exact h.own.exAT j' j1 a j2
      roAT := fun j hj a v e => by
        obtain ⟨k', k1, k2⟩ := ro_of j a v (by omega) e
        rw [hAT]; exact h.own.roAT k' k1 a v k2 }
  · have hh := h.nums
    have tkp : ∀ k, lp.res.tk k = Rr.tk k := fun k => by rw [hlp]; rfl
    have tkc : ∀ k, lc.res.tk k = Rc.tk k := fun k => by rw [hlc]; rfl
    exact {
      slot := fun j hj q => by
        by_cases e1 : j = γ.N
        · rw [e1, eN, tkc, tkc]; exact (hP.slot q).1
        · by_cases e2 : j = i
          · rw [e2, ei, tkp, tkp]; exact (hP.slot q).2
          · rw [eo j e1 e2]; exact hh.slot j (by omega) q
      pool := fun q G' hq => by rw [hpool] at hq; rw [hs]; exact hh.pool q G' hq
      pk := fun j hj q G' hq => by
        rw [hpool] at hq
        by_cases e1 : j = γ.N
        · rw [e1, eN, hlc]; exact hh.pk i hi q G' hq
        · rw [C Lo.pk (by rw [hlp]; rfl) j e1]; exact hh.pk j (by omega) q G' hq
      pl := fun j hj q a' b' c' e => by
        rw [hpool]
        by_cases e1 : j = γ.N
        · rw [e1, eN, hlc] at e; exact hh.pl i hi q a' b' c' e
        · rw [C Lo.pl (by rw [hlp]; rfl) j e1] at e; exact hh.pl j (by omega) q a' b' c' e
      gl := fun j hj y bg n q e => by
        rw [hgate]
        by_cases e1 : j = γ.N
        · rw [e1, eN, hlc] at e; exact hh.gl i hi y bg n q e
        · rw [C Lo.gl (by rw [hlp]; rfl) j e1] at e; exact hh.gl j (by omega) y bg n q e
      cl := fun j hj y e => by
        rw [hgate]
        by_cases e1 : j = γ.N
        · rw [e1, eN, hlc] at e; exact hh.cl i hi y e
        · rw [C Lo.cl (by rw [hlp]; rfl) j e1] at e; exact hh.cl j (by omega) y e
      gate := fun y G' hy => by
        rw [hgate] at hy
        rw [hs, hs]
        obtain ⟨h1, h2⟩ := hh.gate y G' hy
        refine ⟨h1, ?_⟩
        rcases h2 with h2 | ⟨h2, h3, h4, h5⟩ | h2
        · exact .inl h2
        · have h6 : (γ.lo i).res.tk (.tr y) = 0 := by
            by_cases e : (γ.lo i).res.tk (.tr y) = 0
            · exact e
            · exact absurd (hP.tr y e) (h5 i hi e)
          have h7 := hP.tk (.tr y)
          refine .inr (.inl ⟨h2, h3, h4, fun j hj e => ?_⟩)
          by_cases e1 : j = γ.N
          · rw [e1, eN, tkc] at e; omega
          · by_cases e2 : j = i
            · rw [e2, ei, tkp] at e; omega
            · rw [eo j e1 e2] at e ⊢; exact h5 j (by omega) e
        · exact .inr (.inr h2)
      al := fun j hj y e => by
        rw [hgate, hs]
        by_cases e1 : j = γ.N
        · rw [e1, eN, hlc] at e; exact hh.al i hi y e
        · rw [C Lo.al (by rw [hlp]; rfl) j e1] at e; exact hh.al j (by omega) y e
      gm := fun y G' hy hcl j hj => by
        rw [hgate] at hy
        obtain ⟨g1, g2⟩ : Rr.tk (.gm y) = 0 ∧ (Rc.tk (.gm y) = 0 ∨ ∃ bg n p, (γ.lo i).gl y = some (bg, n, p) ∧ Rc.tk (.gm y) ≤ Rc.tk (.alive p)) := by
          rcases hP.gm y with g0 | g0
          · obtain ⟨G1, k1, k2⟩ := hh.cl i hi y g0
            rw [hy] at k1
            cases k1
            rw [hcl] at k2
            cases k2
          · exact g0
        by_cases e1 : j = γ.N
        · rw [e1, eN, tkc, tkc]
          rcases g2 with g2 | ⟨bg, n, p, g3, g4⟩
          · omega
          · obtain ⟨cl, g5⟩ := hh.gl i hi y bg n p g3
            rw [hy] at g5
            cases g5
            exact g4
        · by_cases e2 : j = i
          · rw [e2, ei, tkp, g1]; omega
          · rw [eo j e1 e2]; exact hh.gm y G' hy hcl j (by omega)
      gku := fun j hj y e => by
        by_cases e1 : j = γ.N
        · rw [e1, eN, hlc] at e; exact absurd rfl e
        · rw [C Lo.gk (by rw [hlp]; rfl) j e1] at e
          obtain ⟨k1, k2⟩ := hh.gku j (by omega) y e
          refine ⟨by rw [hgate]; exact k1, fun k hk hne' => ?_⟩
          by_cases e2 : k = γ.N
          · rw [e2, eN, hlc]; rfl
          · rw [C Lo.gk (by rw [hlp]; rfl) k e2]; exact k2 k (by omega) hne'
      nopk := fun q hq j hj => by
        rw [hpool] at hq
        by_cases e1 : j = γ.N
        · rw [e1, eN, hlc]; exact hh.nopk q hq i hi
        · rw [C Lo.pk (by rw [hlp]; rfl) j e1]; exact hh.nopk q hq j (by omega)
      gk := fun j hj y k e => by
        rw [hs]
        by_cases e1 : j = γ.N
        · rw [e1, eN, hlc] at e; cases e
        · rw [C Lo.gk (by rw [hlp]; rfl) j e1] at e; exact hh.gk j (by omega) y k e
      idle := fun j hj e y => by
        by_cases e1 : j = γ.N
        · rw [e1, eN] at e; exact absurd hmdc e
        · by_cases e2 : j = i
          · rw [e2, ei] at e; exact absurd hmdp e
          · rw [eo j e1 e2] at e ⊢; exact hh.idle j (by omega) e y
      chp := fun q G' y hq => by rw [hpool] at hq; rw [hgate]; exact hh.chp q G' y hq
      chpp := fun q G' q' G'' hq hq' e => by rw [hpool] at hq hq'; exact hh.chpp q G' q' G'' hq hq' e
      solo := fun q G' hq hso => by rw [hpool] at hq; rw [hs, C Lo.sk (by rw [hlp]; rfl) 0 (by omega)]; exact hh.solo q G' hq hso
      oc := fun j hj y e => by
        by_cases e1 : j = γ.N
        · rw [e1, eN, hlc] at e; exact absurd rfl e
        · rw [C Lo.oc (by rw [hlp]; rfl) j e1] at e
          obtain ⟨k1, k2, k3⟩ := hh.oc j (by omega) y e
          refine ⟨by rw [hgate]; exact k1, fun q G' hq => by rw [hpool] at hq; exact k2 q G' hq, fun k hk hne' => ?_⟩
          by_cases e2 : k = γ.N
          · rw [e2, eN, hlc]; rfl
          · rw [C Lo.oc (by rw [hlp]; rfl) k e2]; exact k3 k (by omega) hne'
      bgi := fun y G' y' G'' hy hy' e => by rw [hgate] at hy hy'; exact hh.bgi y G' y' G'' hy hy' e
      nop := fun q hq j hj => by
        rw [hpool] at hq
        have hz := hh.nop q hq i hi
        have t1 := hP.tk (.slot q)
        have t2 := hP.tk (.alive q)
        have t3 := hP.tk (.begun q)
        by_cases e1 : j = γ.N
        · rw [e1, eN, tkc, tkc, tkc]; omega
        · by_cases e2 : j = i
          · rw [e2, ei, tkp, tkp, tkp]; omega
          · rw [eo j e1 e2]; exact hh.nop q hq j (by omega)
      nog := fun y hy j hj => by
        rw [hgate] at hy
        have hz := hh.nog y hy i hi
        have t1 := hP.tk (.tr y)
        have t2 := hP.tk (.tb y)
        have t3 := hP.tk (.gm y)
        by_cases e1 : j = γ.N
        · rw [e1, eN, tkc, tkc, tkc]; omega
        · by_cases e2 : j = i
          · rw [e2, ei, tkp, tkp, tkp]; omega
          · rw [eo j e1 e2]; exact hh.nog y hy j (by omega) }
  · have hT := h.team
    have hwsx : ∀ y, y ≠ u → lp.ws y = (γ.lo i).ws y := fun y hy => by rw [hlp]; simp [Lo.parent, hy]
    have hwsu : lp.ws u = some ⟨(γ.N, J) :: ws, hi', 0⟩ := by rw [hlp]; simp [Lo.parent]
    have hwkx : ∀ y, y ≠ u → lp.wk y = (γ.lo i).wk y := fun y hy => by rw [hlp]; simp [Lo.parent, hy]
    have hcws : ∀ y, lc.ws y = none := fun y => by rw [hlc]; rfl
    have hcwg : lc.wg = some u := by rw [hlc]; rfl
    have nowg := h.lead_wg hi hB
    have keepw : ∀ c y J', c < γ.N → Works (γ.lo c) y J' → Works (γ'.lo c) y J' := fun c y J' hc hW => by
      by_cases e : c = i
      · have hW1 := hW.1
        have hW2 := hW.2
        rw [e] at hW1 hW2 ⊢
        rw [hact] at hW2
        have hyu : y ≠ u := fun e' => nowg (by rw [← e']; exact hW1)
        rw [ei]
        refine ⟨by rw [hlp]; exact hW1, ?_⟩
        rw [hmdp]
        exact ⟨by rw [hwkx y hyu]; exact hW2.1, by rw [hlp]; exact hW2.2⟩
      · rw [eo c (by omega) e]; exact hW
    have jnc : ∀ y, lc.jn y ↔ y = γ.N := fun y => by rw [hlc]; exact Iff.rfl
    have jnp : lp.jn = (γ.lo i).jn := by rw [hlp]; rfl
    exact {
      pos := by rw [hN]; omega
      main := by
        have h0 : (0 : Nat) ≠ γ.N := by have := hT.pos; omega
        rw [C Lo.md (by rw [hmdp, hact]) 0 h0, C Lo.wg (by rw [hlp]; rfl) 0 h0]
        exact hT.main
      boss := fun b' hb' y B' e => by
        by_cases e1 : b' = γ.N
        · rw [e1, eN, hcws] at e; cases e
        · rw [C Lo.md (by rw [hmdp, hact]) b' e1, hwg, hcn, hN]
          by_cases eb : b' = i ∧ y = u
          · obtain ⟨e2, e3⟩ := eb
            rw [e2, e3, ei, hwsu] at e
            cases e
            rw [e2, e3]
            refine ⟨hact, ?_, fun c' J' hm => ?_, hcnt, G, hG, hGb, hp0, fun e => absurd rfl e⟩
            · simp only [List.map_cons, List.nodup_cons]
              refine ⟨fun hm => ?_, hnd⟩
              obtain ⟨⟨c', J'⟩, hm1, hm2⟩ := List.mem_map.1 hm
              have := (hwsm c' J' hm1).1
              simp only at hm2
              omega
            · simp only [List.mem_cons, Prod.mk.injEq] at hm
              rcases hm with ⟨rfl, rfl⟩ | hm
              · refine ⟨by omega, hi, ?_⟩
                rw [eN]
                refine ⟨hcwg, ?_⟩
                rw [hmdc]
                exact ⟨by rw [hlc]; simp [Lo.child], by rw [hlc]; rfl⟩
              · obtain ⟨m1, m2, m3⟩ := hwsm c' J' hm
                exact ⟨by omega, m2, keepw c' u J' m1 m3⟩
          · have ews : (γ'.lo b').ws y = (γ.lo b').ws y := by
              by_cases e2 : b' = i
              · rw [e2, ei]; exact hwsx y fun e3 => eb ⟨e2, e3⟩
              · rw [eo b' e1 e2]
            rw [ews] at e
            obtain ⟨k1, k2, k3, k4, Gx, k5, k6, k7, k8⟩ := hT.boss b' (by omega) y B' e
            refine ⟨k1, k2, fun c' J' hm => ?_, k4, Gx, k5, k6, k7, fun e' => ⟨(k8 e').1, ?_⟩⟩
            · obtain ⟨m1, m2, m3⟩ := k3 c' J' hm
              exact ⟨by omega, m2, keepw c' y J' m1 m3⟩
            · by_cases e2 : b' = i
              · have hyu : y ≠ u := fun e3 => eb ⟨e2, e3⟩
                rw [e2, ei, hwkx y hyu, ← e2]; exact (k8 e').2
              · rw [eo b' e1 e2]; exact (k8 e').2
      led := fun c' hc' hc0 hg => by
        by_cases e1 : c' = γ.N
        · exact ⟨i, u, _, J, by omega, by rw [ei]; exact hwsu, by rw [e1]; simp⟩
        · rw [C Lo.md (by rw [hmdp, hact]) c' e1] at hg
          obtain ⟨b', y, B', J', k1, k2, k3⟩ := hT.led c' (by omega) hc0 hg
          by_cases eb : b' = i ∧ y = u
          · obtain ⟨e2, e3⟩ := eb
            rw [e2, e3, hB] at k2
            cases k2
            exact ⟨i, u, _, J', by omega, by rw [ei]; exact hwsu, by simp only [List.mem_cons]; exact .inr k3⟩
          · refine ⟨b', y, B', J', by omega, ?_, k3⟩
            by_cases e2 : b' = i
            · rw [e2, ei, hwsx y fun e3 => eb ⟨e2, e3⟩, ← e2]; exact k2
            · rw [eo b' (by omega) e2]; exact k2
      wk := fun j hj y e => by
        by_cases e1 : j = γ.N
        · rw [e1, eN] at e ⊢
          by_cases e2 : y = u
          · exact .inl (by rw [e2]; exact hcwg)
          · rw [hlc] at e; simp [Lo.child, e2] at e
        · by_cases e2 : j = i
          · rw [e2, ei] at e ⊢
            by_cases e3 : y = u
            · exact .inr ⟨_, by rw [e3]; exact hwsu⟩
            · rw [hwkx y e3] at e
              rw [hwsx y e3]
              have := hT.wk i hi y e
              rw [hlp]; exact this
          · rw [eo j e1 e2] at e ⊢; exact hT.wk j (by omega) y e
      small := fun x => by rw [hcn]; exact hT.small x
      wph := fun y Gx hy => by
        rw [hwg] at hy
        rw [hcn, hN]
        obtain ⟨k1, k2, k3, k4⟩ := hT.wph y Gx hy
        refine ⟨k1, k2, k3, fun e => ?_⟩
        obtain ⟨m1, m2, p', a', m3⟩ := k4 e
        have e1 : Gx.du ≠ γ.N := by omega
        exact ⟨by omega, by rw [C Lo.wg (by rw [hlp]; rfl) _ e1]; exact m2, p', a', by rw [C Lo.md (by rw [hmdp, hact]) _ e1]; exact m3⟩
      duty := fun j hj p' a' ph y e hp hy => by
        rw [hwg]
        by_cases e1 : j = γ.N
        · rw [e1, eN, hmdc] at e; cases e
        · rw [C Lo.md (by rw [hmdp, hact]) j e1] at e
          rw [C Lo.wg (by rw [hlp]; rfl) j e1] at hy
          exact hT.duty j (by omega) p' a' ph y e hp hy
      gone := fun j hj e => by
        by_cases e1 : j = γ.N
        · rw [e1, eN, hmdc] at e; cases e
        · by_cases e2 : j = i
          · rw [e2, ei, hmdp] at e; cases e
          · rw [eo j e1 e2] at e ⊢; exact hT.gone j (by omega) e
      jn := fun j hj e => by
        by_cases e1 : j = γ.N
        · rw [e1]
          refine ⟨by rw [eN]; exact (jnc γ.N).2 rfl, fun j' hj' hx => ?_⟩
          by_cases e2 : j' = γ.N
          · exact e2
          · rw [C Lo.jn jnp j' e2] at hx
            exact absurd (hT.jlt j' (by omega) γ.N hx) (by omega)
        · rw [C Lo.md (by rw [hmdp, hact]) j e1] at e
          obtain ⟨k1, k2⟩ := hT.jn j (by omega) e
          refine ⟨by rw [C Lo.jn jnp j e1]; exact k1, fun j' hj' hx => ?_⟩
          by_cases e2 : j' = γ.N
          · rw [e2, eN] at hx
            exact absurd ((jnc j).1 hx) e1
          · rw [C Lo.jn jnp j' e2] at hx; exact k2 j' (by omega) hx
      jng := fun c' hc' e => by
        by_cases e1 : c' = γ.N
        · rw [e1, eN, hmdc] at e; cases e
        · rw [C Lo.md (by rw [hmdp, hact]) c' e1] at e
          obtain ⟨j, k1, k2, k3⟩ := hT.jng c' (by omega) e
          exact ⟨j, by omega, by rw [C Lo.md (by rw [hmdp, hact]) j (by omega)]; exact k2, by rw [C Lo.jn jnp j (by omega)]; exact k3⟩
      jlt := fun j hj c' hx => by
        by_cases e1 : j = γ.N
        · rw [e1, eN] at hx
          have := (jnc c').1 hx
          omega
        · rw [C Lo.jn jnp j e1] at hx
          have := hT.jlt j (by omega) c' hx
          omega
      nown := fun y e j hj => by
        rw [hwg] at e
        have hyu : y ≠ u := fun e' => by rw [e', hG] at e; cases e
        by_cases e1 : j = γ.N
        · rw [e1, eN, hlc]
          exact ⟨by simp [Lo.child, hyu], rfl, by simp [Lo.child]; exact fun e => hyu e.symm⟩
        · obtain ⟨k1, k2, k3⟩ := hT.nown y e j (by omega)
          by_cases e2 : j = i
          · rw [e2] at k1 k2 k3 ⊢
            rw [ei, hwkx y hyu, hwsx y hyu]
            exact ⟨k1, k2, by rw [hlp]; exact k3⟩
          · rw [eo j e1 e2]; exact ⟨k1, k2, k3⟩ }
  · have key := h.tr.fork hi (x := a) (y := b) ha hb (by simp [Lo.tg, hact, Md.st]) hdf (gi := lp.tg) (gc := lc.tg) ⟨by rw [hlp]; simp [Lo.tg, Lo.parent, hact, Md.st], by rw [hlp]; exact hdf, by rw [hlp]; rfl⟩ ⟨by rw [hlc]; rfl, by rw [hlc]; rfl, by rw [hlc]; rfl⟩ (fun c hc => by
        obtain ⟨v, hv⟩ := Option.ne_none_iff_exists'.1 hc
        show (γ.lo i).res.cells c ≠ none
        rw [cp c v hv]; simp) (fun c hc => by
        obtain ⟨v, hv⟩ := Option.ne_none_iff_exists'.1 hc
        show (γ.lo i).res.cells c ≠ none
        rw [(ccc c v hv).1]; simp) (fun c hc => by rw [hlp] at hc; exact hc) (fun c hc => by rw [hlc] at hc; exact hc)
    have e1 : (fun j => if j = γ.N then lc.tg else if j = i then lp.tg else (γ.lo j).tg) = fun j => (γ'.lo j).tg := by
      funext j
      by_cases e1 : j = γ.N
      · rw [if_pos e1, e1, eN]
      · rw [if_neg e1]
        by_cases e2 : j = i
        · rw [if_pos e2, e2, ei]
        · rw [if_neg e2, eo j e1 e2]
    rw [e1] at key
    rw [hN, hAT, sd_congr hwg]
    exact key
  · refine ⟨fun j hj hji => .inl (eo j (Nat.ne_of_lt hj) hji), fun j hji hst => ?_, fun j c hji hgt => ?_⟩
    · obtain ⟨s1, s2, s3, y, B', s4, s5, s6⟩ := hst
      exact .inr ⟨by omega, by rw [eo j (by omega) hji]; exact s2, by rw [eo j (by omega) hji]; exact s3, y, B', by rw [eo j (by omega) hji]; exact s4, s5, s6⟩
    · obtain ⟨s1, s2, s3, s4⟩ := hgt
      exact ⟨⟨by omega, by rw [eo j (by omega) hji]; exact s2, by rw [hgate]; exact s3, by rw [eo j (by omega) hji]; exact s4⟩, .inl⟩
end
end Go.Proofs.Ytofohjbcgchhoaa
