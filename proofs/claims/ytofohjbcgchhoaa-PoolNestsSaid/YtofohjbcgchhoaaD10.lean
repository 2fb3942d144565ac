/-
  STEPS, on: the leader takes back what its workers had.
-/
import Derived.Test.YtofohjbcgchhoaaD9
namespace Go.Proofs.Ytofohjbcgchhoaa
open Go.Conc
open Go.RowKit
open Go.ConcN (sumTo sumTo_congr le_sumTo)

/-- What two have together. -/
def Res.add (a b : Res) : Res := ⟨fun x => (a.cells x).or (b.cells x), fun k => a.tk k + b.tk k⟩
def Res.zero : Res := ⟨fun _ => none, fun _ => 0⟩
/-- Nothing any more. -/
def Lo.gone (l : Lo) : Lo := { l with md := .gone, res := Res.zero, ro := fun _ _ => False, jn := fun _ => False, wk := fun _ => 0, oc := fun _ => none }
/-- .. with what c had. -/
def Lo.take (l lc : Lo) : Lo := { l with res := l.res.add lc.res, jn := fun x => l.jn x ∨ lc.jn x }

/-- The invariant but for the trace. -/
structure Core (B0 : Nat) (w0 : World) (γ : Gh) (w : World) : Prop where
  mem : Mem B0 w0 γ w
  own : Own γ
  nums : Nums γ
  team : Team γ

section
variable {B0 : Nat} {w0 : World} {PP : Value → World → Prop} {γ : Gh} {w : World} {t : Trace} {i : Nat}

theorem sumTo_two {N i c : Nat} (hi : i < N) (hc : c < N) (hic : i ≠ c) (f g : Nat → Nat) (h : ∀ j, j ≠ i → j ≠ c → g j = f j) : sumTo N g + f i + f c = sumTo N f + g i + g c := by
  have h1 := sumTo_one hi f (fun j => if j = i then g i else f j) (fun j hj => if_neg hj)
  have h2 := sumTo_one hc (fun j => if j = i then g i else f j) g (fun j hj => by
    by_cases e : j = i
    · rw [if_pos e, e]
    · rw [if_neg e]; exact h j e hj)
  rw [if_pos rfl] at h1
  rw [if_neg (fun e => hic e.symm)] at h2
  omega

def Gh.move (γ : Gh) (i c : Nat) (l : Lo) : Gh := { γ with lo := fun j => if j = i then l else if j = c then (γ.lo c).gone else γ.lo j }

/-- One worker's things go to its leader. -/
theorem Core.move (h : Core B0 w0 γ w) (hi : i < γ.N) {u c : Nat} {J : Res → Prop} {ws : List (Nat × (Res → Prop))} (hB : (γ.lo i).ws u = some ⟨(c, J) :: ws, 0, 0⟩) (hG0 : ∃ G, γ.wg u = some G ∧ G.ph = 0) :
    Core B0 w0 (γ.move i c (((γ.lo i).take (γ.lo c)).wsd u (some ⟨ws, 0, 0⟩))) w ∧ J (γ.lo c).res ∧ (∃ p, (γ.lo c).md = .quit p ⟨u, 0, none⟩) ∧ c ≠ i ∧ c < γ.N := by
  obtain ⟨hmd, hnd, hws, hcnt, G, hG, hGb, hp0, _⟩ := h.team.boss i hi u _ hB
  obtain ⟨hc, hic, hW⟩ := hws c J (by simp)
  have hcnt0 : γ.cnt u = 0 := by simp only at hcnt; omega
  have hwk0 : ∀ j, j < γ.N → (γ.lo j).wk u = 0 := fun j hj => by
    have : (γ.lo j).wk u ≤ γ.cnt u := le_sumTo (f := fun j => (γ.lo j).wk u) hj
    omega
  have hphG : G.ph = 0 := hp0 rfl
  obtain ⟨hwg, hWm⟩ := hW
  -- it only leaves
  obtain ⟨p, hq, hJ⟩ : ∃ p, (γ.lo c).md = .quit p ⟨u, 0, none⟩ ∧ J (γ.lo c).res := by
    cases hm : (γ.lo c).md with
    | act => rw [hm] at hWm; have := hwk0 c hc; have := hWm.1; omega
    | rel p a ph =>
      rw [hm] at hWm
      by_cases e : ph = 0
      · have := hWm.2.2; rw [if_pos e] at this; have := hwk0 c hc; omega
      · obtain ⟨h1, G', g1, g2, _⟩ := h.team.duty c hc p a ph u hm e hwg
        rw [hG] at g1
        cases g1
        omega
    | quit p a => rw [hm] at hWm; exact ⟨p, by rw [hWm.1], hWm.2.1⟩
    | gone => rw [hm] at hWm; exact hWm.elim
  have hci : c ≠ i := by omega
  have hna : (γ.lo c).md ≠ .act := by rw [hq]; simp
  have hng : (γ.lo c).md ≠ .gone := by rw [hq]; simp
  have hcws : ∀ x, (γ.lo c).ws x = none := fun x => by
    cases e : (γ.lo c).ws x with
    | none => rfl
    | some B => exact absurd (h.team.boss c hc x B e).1 hna
  have hcwk : ∀ x, (γ.lo c).wk x = 0 := fun x => by
    by_cases e : (γ.lo c).wk x = 0
    · exact e
    · rcases h.team.wk c hc x e with e' | ⟨B, e'⟩
      · rw [hwg] at e'
        cases e'
        exact hwk0 c hc
      · rw [hcws x] at e'; cases e'
  refine ⟨?_, hJ, ⟨p, hq⟩, hci, hc⟩
  obtain ⟨l', hl'⟩ : ∃ l', l' = ((γ.lo i).take (γ.lo c)).wsd u (some ⟨ws, 0, 0⟩) := ⟨_, rfl⟩
  obtain ⟨γ', hγ'⟩ : ∃ γ', γ' = γ.move i c l' := ⟨_, rfl⟩
  rw [← hl', ← hγ']
  have hli : γ'.lo i = l' := by rw [hγ']; simp [Gh.move]
  have hlc : γ'.lo c = (γ.lo c).gone := by rw [hγ']; simp [Gh.move, hci]
  have hlo : ∀ j, j ≠ i → j ≠ c → γ'.lo j = γ.lo j := fun j h1 h2 => by rw [hγ']; simp [Gh.move, h1, h2]
  have hN : γ'.N = γ.N := by rw [hγ']; rfl
  have hpool : γ'.pool = γ.pool := by rw [hγ']; rfl
  have hwgg : γ'.wg = γ.wg := by rw [hγ']; rfl
  have hgate : γ'.gate = γ.gate := by rw [hγ']; rfl
  have htk : ∀ k, l'.res.tk k = (γ.lo i).res.tk k + (γ.lo c).res.tk k := fun k => by rw [hl']; rfl
  have hcl : ∀ a, l'.res.cells a = ((γ.lo i).res.cells a).or ((γ.lo c).res.cells a) := fun a => by rw [hl']; rfl
  have hs : ∀ k, γ'.sum k = γ.sum k := fun k => by
    have := sumTo_two hi hc (fun e => hci e.symm) (fun j => (γ.lo j).res.tk k) (fun j => (γ'.lo j).res.tk k) (fun j h1 h2 => by rw [hlo j h1 h2])
    simp only [hli, hlc, htk] at this
    unfold Gh.sum
    rw [hN]
    have e0 : (γ.lo c).gone.res.tk k = 0 := rfl
    omega
  have hcn : ∀ x, γ'.cnt x = γ.cnt x := fun x => by
    unfold Gh.cnt
    rw [hN]
    refine sumTo_congr fun j _ => ?_
    by_cases e1 : j = i
    · rw [e1, hli, hl']; rfl
    · by_cases e2 : j = c
      · rw [e2, hlc, hcwk x]; rfl
      · rw [hlo j e1 e2]
  have hcells : ∀ a v, l'.res.cells a = some v → (γ.lo i).res.cells a = some v ∨ ((γ.lo i).res.cells a = none ∧ (γ.lo c).res.cells a = some v) := fun a v e => by
    rw [hcl] at e
    cases e1 : (γ.lo i).res.cells a with
    | none => rw [e1] at e; exact .inr ⟨rfl, by simpa using e⟩
    | some x => rw [e1] at e; exact .inl (by simpa using e)
  have hAT : AT γ' = AT γ := at_congr hpool hwgg hgate
  have goneC : ∀ a, (γ.lo c).gone.res.cells a = none := fun _ => rfl
  refine ⟨?_, ?_, ?_, ?_⟩
  · exact {
      bel := h.mem.bel
      big := h.mem.big
      cell := fun j hj a v e => by
        rw [hN] at hj
        by_cases e1 : j = i
        · rw [e1, hli] at e
          rcases hcells a v e with e' | ⟨_, e'⟩
          · exact h.mem.cell i hi a v e'
          · exact h.mem.cell c hc a v e'
        · by_cases e2 : j = c
          · rw [e2, hlc] at e; cases e
          · rw [hlo j e1 e2] at e; exact h.mem.cell j hj a v e
      ro := fun j hj a v e => by
        rw [hN] at hj
        by_cases e1 : j = i
        · rw [e1, hli, hl'] at e; exact h.mem.ro i hi a v e
        · by_cases e2 : j = c
          · rw [e2, hlc] at e; exact False.elim e
          · rw [hlo j e1 e2] at e; exact h.mem.ro j hj a v e
      pool := fun q G' hq => by rw [hpool] at hq; rw [hs, hs, hs]; exact h.mem.pool q G' hq
      oc := fun j hj x cap e => by
        rw [hN] at hj
        by_cases e1 : j = i
        · rw [e1, hli, hl'] at e; exact h.mem.oc i hi x cap e
        · by_cases e2 : j = c
          · rw [e2, hlc] at e; cases e
          · rw [hlo j e1 e2] at e; exact h.mem.oc j hj x cap e
      wg := fun x G' hx => by rw [hwgg] at hx; rw [hcn]; exact h.mem.wg x G' hx
      gate := fun x G' hx => by rw [hgate] at hx; rw [hs]; exact h.mem.gate x G' hx }
  · have cn : ∀ j a, (γ'.lo j).res.cells a ≠ none → j ≠ c ∧ ((γ.lo j).res.cells a ≠ none ∨ (j = i ∧ (γ.lo c).res.cells a ≠ none)) := fun j a e => by
      by_cases e2 : j = c
      · rw [e2, hlc] at e; exact absurd rfl e
      · refine ⟨e2, ?_⟩
        by_cases e1 : j = i
        · rw [e1, hli] at e
          obtain ⟨v, hv⟩ := Option.ne_none_iff_exists'.1 e
          rcases hcells a v hv with e' | ⟨_, e'⟩
          · exact .inl (by rw [e1, e']; simp)
          · exact .inr ⟨e1, by rw [e']; simp⟩
        · rw [hlo j e1 e2] at e; exact .inl e
    have rn : ∀ j a v, (γ'.lo j).ro a v → j ≠ c ∧ (γ.lo j).ro a v := fun j a v e => by
      by_cases e2 : j = c
      · rw [e2, hlc] at e; exact False.elim e
      · refine ⟨e2, ?_⟩
        by_cases e1 : j = i
        · rw [e1, hli, hl'] at e; rw [e1]; exact e
        · rw [hlo j e1 e2] at e; exact e
    exact {
      ex := fun j k hj hk hne a e => by
        rw [hN] at hj hk
        obtain ⟨j1, j2⟩ := cn j a e
        by_cases e0 : (γ'.lo k).res.cells a = none
        · exact e0
        · exfalso
          obtain ⟨k1, k2⟩ := cn k a e0
          have nn : ∀ x y, x < γ.N → y < γ.N → x ≠ y → (γ.lo x).res.cells a ≠ none → (γ.lo y).res.cells a ≠ none → False := fun x y hx hy hxy e1 e2 => e2 (h.own.ex x y hx hy hxy a e1)
          rcases j2 with j2 | ⟨j3, j2⟩ <;> rcases k2 with k2 | ⟨k3, k2⟩
          · exact nn j k hj hk hne j2 k2
          · exact nn j c hj hc j1 j2 k2
          · exact nn c k hc hk (fun x => k1 x.symm) j2 k2
          · exact hne (j3.trans k3.symm)
      exro := fun j k hj hk a v e e' => by
        rw [hN] at hj hk
        obtain ⟨_, j2⟩ := cn j a e
        obtain ⟨_, k2⟩ := rn k a v e'
        rcases j2 with j2 | ⟨_, j2⟩
        · exact h.own.exro j k hj hk a v j2 k2
        · exact h.own.exro c k hc hk a v j2 k2
      exAT := fun j hj a e => by
        rw [hN] at hj
        rw [hAT]
        obtain ⟨_, j2⟩ := cn j a e
        rcases j2 with j2 | ⟨_, j2⟩
        · exact h.own.exAT j hj a j2
        · exact h.own.exAT c hc a j2
      roAT := fun j hj a v e => by
        rw [hN] at hj
        rw [hAT]
        exact h.own.roAT j hj a v (rn j a v e).2 }
  · have hh := h.nums
    have F : ∀ {α : Type} (f : Lo → α), f l' = f (γ.lo i) → f (γ.lo c).gone = f (γ.lo c) → ∀ j, f (γ'.lo j) = f (γ.lo j) := fun f h1 h2 j => by
      by_cases e1 : j = i
      · rw [e1, hli]; exact h1
      · by_cases e2 : j = c
        · rw [e2, hlc]; exact h2
        · rw [hlo j e1 e2]
    exact {
      slot := fun j hj q => by
        rw [hN] at hj
        by_cases e1 : j = i
        · rw [e1, hli, htk, htk]; have := hh.slot i hi q; have := hh.slot c hc q; omega
        · by_cases e2 : j = c
          · rw [e2, hlc]; exact Nat.le_refl _
          · rw [hlo j e1 e2]; exact hh.slot j hj q
      pool := fun q G' hq => by rw [hpool] at hq; rw [hs]; exact hh.pool q G' hq
      pk := fun j hj q G' hq => by rw [hN] at hj; rw [hpool] at hq; rw [F Lo.pk (by rw [hl']; rfl) rfl j]; exact hh.pk j hj q G' hq
      pl := fun j hj q a b d e => by rw [hN] at hj; rw [F Lo.pl (by rw [hl']; rfl) rfl j] at e; rw [hpool]; exact hh.pl j hj q a b d e
      gl := fun j hj x bg n q e => by rw [hN] at hj; rw [F Lo.gl (by rw [hl']; rfl) rfl j] at e; rw [hgate]; exact hh.gl j hj x bg n q e
      cl := fun j hj x e => by rw [hN] at hj; rw [F Lo.cl (by rw [hl']; rfl) rfl j] at e; rw [hgate]; exact hh.cl j hj x e
      gate := fun x G' hx => by
        rw [hgate] at hx
        rw [hs, hs]
        obtain ⟨h1, h2⟩ := hh.gate x G' hx
        refine ⟨h1, ?_⟩
        rcases h2 with h2 | ⟨h2, h3, h4, h5⟩ | h2
        · exact .inl h2
        · refine .inr (.inl ⟨h2, h3, h4, fun j hj e => ?_⟩)
          rw [hN] at hj
          by_cases e1 : j = i
          · rw [e1, hli, htk] at e ⊢
            have hz := hh.idle c hc hna x
            have := h5 i hi (by omega)
            omega
          · by_cases e2 : j = c
            · rw [e2, hlc] at e; exact absurd rfl e
            · rw [hlo j e1 e2] at e ⊢; exact h5 j hj e
        · exact .inr (.inr h2)
      al := fun j hj x e => by rw [hN] at hj; rw [F Lo.al (by rw [hl']; rfl) rfl j] at e; rw [hgate, hs]; exact hh.al j hj x e
      gm := fun x G' hx hcl' j hj => by
        rw [hN] at hj
        rw [hgate] at hx
        by_cases e1 : j = i
        · rw [e1, hli, htk, htk]; have := hh.gm x G' hx hcl' i hi; have := hh.gm x G' hx hcl' c hc; omega
        · by_cases e2 : j = c
          · rw [e2, hlc]; exact Nat.le_refl _
          · rw [hlo j e1 e2]; exact hh.gm x G' hx hcl' j hj
      gku := fun j hj x e => by
        rw [hN] at hj
        rw [F Lo.gk (by rw [hl']; rfl) rfl j] at e
        obtain ⟨k1, k2⟩ := hh.gku j hj x e
        exact ⟨by rw [hgate]; exact k1, fun k hk hne => by rw [hN] at hk; rw [F Lo.gk (by rw [hl']; rfl) rfl k]; exact k2 k hk hne⟩
      nopk := fun q hq j hj => by rw [hN] at hj; rw [hpool] at hq; rw [F Lo.pk (by rw [hl']; rfl) rfl j]; exact hh.nopk q hq j hj
      gk := fun j hj x k e => by rw [hN] at hj; rw [F Lo.gk (by rw [hl']; rfl) rfl j] at e; rw [hs]; exact hh.gk j hj x k e
      idle := fun j hj e x => by
        rw [hN] at hj
        by_cases e1 : j = i
        · rw [e1, hli, hl'] at e; exact absurd hmd e
        · by_cases e2 : j = c
          · rw [e2, hlc]; rfl
          · rw [hlo j e1 e2] at e ⊢; exact hh.idle j hj e x
      chp := fun q G' x hq => by rw [hpool] at hq; rw [hgate]; exact hh.chp q G' x hq
      chpp := fun q G' q' G'' hq hq' e => by rw [hpool] at hq hq'; exact hh.chpp q G' q' G'' hq hq' e
      solo := fun q G' hq hso => by rw [hpool] at hq; rw [hs, F Lo.sk (by rw [hl']; rfl) rfl 0]; exact hh.solo q G' hq hso
      oc := fun j hj x e => by
        rw [hN] at hj
        have e' : (γ.lo j).oc x ≠ none := by
          by_cases e1 : j = i
          · rw [e1, hli, hl'] at e; rw [e1]; exact e
          · by_cases e2 : j = c
            · rw [e2, hlc] at e; exact absurd rfl e
            · rw [hlo j e1 e2] at e; exact e
        obtain ⟨k1, k2, k3⟩ := hh.oc j hj x e'
        refine ⟨by rw [hgate]; exact k1, fun q G' hq => by rw [hpool] at hq; exact k2 q G' hq, fun k hk hne => ?_⟩
        rw [hN] at hk
        by_cases e1 : k = i
        · rw [e1, hli, hl']; have := k3 k hk hne; rw [e1] at this; exact this
        · by_cases e2 : k = c
          · rw [e2, hlc]; rfl
          · rw [hlo k e1 e2]; exact k3 k hk hne
      bgi := fun x G' x' G'' hx hx' e => by rw [hgate] at hx hx'; exact hh.bgi x G' x' G'' hx hx' e
      nop := fun q hq j hj => by
        rw [hN] at hj
        rw [hpool] at hq
        by_cases e1 : j = i
        · rw [e1, hli, htk, htk, htk]
          have a1 := hh.nop q hq i hi
          have a2 := hh.nop q hq c hc
          omega
        · by_cases e2 : j = c
          · rw [e2, hlc]; exact ⟨rfl, rfl, rfl⟩
          · rw [hlo j e1 e2]; exact hh.nop q hq j hj
      nog := fun x hx j hj => by
        rw [hN] at hj
        rw [hgate] at hx
        by_cases e1 : j = i
        · rw [e1, hli, htk, htk, htk]
          have a1 := hh.nog x hx i hi
          have a2 := hh.nog x hx c hc
          omega
        · by_cases e2 : j = c
          · rw [e2, hlc]; exact ⟨rfl, rfl, rfl⟩
          · rw [hlo j e1 e2]; exact hh.nog x hx j hj }
  · have hT := h.team
    have hmd' : ∀ j, j ≠ c → (γ'.lo j).md = (γ.lo j).md := fun j h2 => by
      by_cases e1 : j = i
      · rw [e1, hli, hl']; rfl
      · rw [hlo j e1 h2]
    have hwg' : ∀ j, (γ'.lo j).wg = (γ.lo j).wg := fun j => by
      by_cases e1 : j = i
      · rw [e1, hli, hl']; rfl
      · by_cases e2 : j = c
        · rw [e2, hlc]; rfl
        · rw [hlo j e1 e2]
    have hwk' : ∀ j x, (γ'.lo j).wk x = (γ.lo j).wk x := fun j x => by
      by_cases e1 : j = i
      · rw [e1, hli, hl']; rfl
      · by_cases e2 : j = c
        · rw [e2, hlc, hcwk]; rfl
        · rw [hlo j e1 e2]
    have hws' : ∀ j x, (j ≠ i ∨ x ≠ u) → (γ'.lo j).ws x = (γ.lo j).ws x := fun j x hx => by
      by_cases e1 : j = i
      · rw [e1, hli, hl']
        have : x ≠ u := by rcases hx with h1 | h1; exact absurd e1 h1; exact h1
        simp [Lo.wsd, Lo.take, this]
      · by_cases e2 : j = c
        · rw [e2, hlc]; rfl
        · rw [hlo j e1 e2]
    have hwsu : (γ'.lo i).ws u = some ⟨ws, 0, 0⟩ := by rw [hli, hl']; simp [Lo.wsd]
    have hjn' : ∀ j x, (γ'.lo j).jn x → j ≠ c ∧ ((γ.lo j).jn x ∨ (j = i ∧ (γ.lo c).jn x)) := fun j x e => by
      by_cases e2 : j = c
      · rw [e2, hlc] at e; exact False.elim e
      · refine ⟨e2, ?_⟩
        by_cases e1 : j = i
        · rw [e1, hli, hl'] at e
          rw [e1]
          exact e.elim .inl fun x => .inr ⟨rfl, x⟩
        · rw [hlo j e1 e2] at e; exact .inl e
    have hjn2 : ∀ j x, j ≠ c → (γ.lo j).jn x → (γ'.lo j).jn x := fun j x h2 e => by
      by_cases e1 : j = i
      · rw [e1] at e; rw [e1, hli, hl']; exact .inl e
      · rw [hlo j e1 h2]; exact e
    have hjn3 : ∀ x, (γ.lo c).jn x → (γ'.lo i).jn x := fun x e => by rw [hli, hl']; exact .inr e
    have worksame : ∀ j x J', j ≠ c → Works (γ.lo j) x J' → Works (γ'.lo j) x J' := fun j x J' h2 hW' => by
      by_cases e1 : j = i
      · -- a leader that works is no further than at work
        refine ⟨by rw [hwg']; exact hW'.1, ?_⟩
        have h3 := hW'.2
        rw [hmd' j h2]
        rw [e1] at h3 ⊢
        rw [hmd] at h3 ⊢
        exact ⟨by rw [hwk']; exact h3.1, by rw [hli, hl']; exact h3.2⟩
      · rw [hlo j e1 h2]; exact hW'
    exact {
      pos := by rw [hN]; exact hT.pos
      main := by
        have h0c : 0 ≠ c := by omega
        rw [hmd' 0 h0c, hwg']; exact hT.main
      boss := fun b hb x B' e => by
        rw [hN] at hb
        have hbc : b ≠ c := fun e' => by
          rw [e'] at e
          rw [hws' c x (.inl hci), hcws x] at e
          cases e
        rw [hmd' b hbc, hwgg, hcn, hwk']
        by_cases ei : b = i ∧ x = u
        · obtain ⟨e1, e2⟩ := ei
          rw [e1, e2] at e ⊢
          rw [hwsu] at e
          cases e
          refine ⟨hmd, ?_, fun c' J' hm => ?_, by simp only; omega, G, hG, hGb, fun _ => hphG, fun e => absurd rfl e⟩
          · have := hnd; simp only [List.map_cons, List.nodup_cons] at this; exact this.2
          · obtain ⟨k1, k2, k3⟩ := hws c' J' (by simp [hm])
            have hne : c' ≠ c := fun e' => by
              have := hnd
              simp only [List.map_cons, List.nodup_cons] at this
              exact this.1 (by rw [← e']; exact List.mem_map.2 ⟨(c', J'), hm, rfl⟩)
            exact ⟨by rw [hN]; exact k1, k2, worksame c' u J' hne k3⟩
        · rw [hws' b x (by
            by_cases e1 : b = i
            · exact .inr fun e2 => ei ⟨e1, e2⟩
            · exact .inl e1)] at e
          obtain ⟨k1, k2, k3, k4, Gx, k5, k6, k7, k8⟩ := hT.boss b hb x B' e
          refine ⟨k1, k2, fun c' J' hm => ?_, k4, Gx, k5, k6, k7, k8⟩
          obtain ⟨m1, m2, m3⟩ := k3 c' J' hm
          have hne : c' ≠ c := fun e' => by
            rw [e'] at m3
            have hxu : x = u := by
              have := m3.1
              rw [hwg] at this
              exact (Option.some.inj this).symm
            rw [hxu] at k5
            rw [hG] at k5
            cases k5
            exact ei ⟨k6.symm.trans hGb, hxu⟩
          exact ⟨by rw [hN]; exact m1, m2, worksame c' x J' hne m3⟩
      led := fun j hj hj0 hg => by
        rw [hN] at hj
        have hjc : j ≠ c := fun e => hg (by rw [e, hlc]; rfl)
        rw [hmd' j hjc] at hg
        obtain ⟨b, x, B', J', k1, k2, k3⟩ := hT.led j hj hj0 hg
        by_cases ei : b = i ∧ x = u
        · obtain ⟨e1, e2⟩ := ei
          rw [e1, e2, hB] at k2
          cases k2
          refine ⟨i, u, ⟨ws, 0, 0⟩, J', by rw [hN]; exact hi, hwsu, ?_⟩
          simp only [List.mem_cons, Prod.mk.injEq] at k3
          rcases k3 with ⟨k3, _⟩ | k3
          · exact absurd k3 hjc
          · exact k3
        · exact ⟨b, x, B', J', by rw [hN]; exact k1, by
            rw [hws' b x (by
              by_cases e1 : b = i
              · exact .inr fun e2 => ei ⟨e1, e2⟩
              · exact .inl e1)]
            exact k2, k3⟩
      wk := fun j hj x e => by
        rw [hN] at hj
        rw [hwk'] at e
        rw [hwg']
        rcases hT.wk j hj x e with e' | ⟨B', e'⟩
        · exact .inl e'
        · by_cases ei : j = i ∧ x = u
          · obtain ⟨e1, e2⟩ := ei
            rw [e1, e2]; exact .inr ⟨_, hwsu⟩
          · exact .inr ⟨B', by
              rw [hws' j x (by
                by_cases e1 : j = i
                · exact .inr fun e2 => ei ⟨e1, e2⟩
                · exact .inl e1)]
              exact e'⟩
      small := fun x => by rw [hcn]; exact hT.small x
      wph := fun x Gx hx => by
        rw [hwgg] at hx
        rw [hcn, hN]
        obtain ⟨k1, k2, k3, k4⟩ := hT.wph x Gx hx
        refine ⟨k1, k2, k3, fun e => ?_⟩
        obtain ⟨m1, m2, p', a', m3⟩ := k4 e
        have hne : Gx.du ≠ c := fun e' => by rw [e', hq] at m3; cases m3
        exact ⟨m1, by rw [hwg']; exact m2, p', a', by rw [hmd' _ hne]; exact m3⟩
      duty := fun j hj p' a' ph x e hp hx => by
        rw [hN] at hj
        have hjc : j ≠ c := fun e' => by rw [e', hlc] at e; cases e
        rw [hmd' j hjc] at e
        rw [hwg'] at hx
        rw [hwgg]
        exact hT.duty j hj p' a' ph x e hp hx
      gone := fun j hj e => by
        rw [hN] at hj
        by_cases e2 : j = c
        · rw [e2, hlc]; exact ⟨fun _ => rfl, fun _ => rfl, fun _ _ x => x, fun _ => rfl, fun _ x => x⟩
        · rw [hmd' j e2] at e
          have e1 : j ≠ i := fun e' => by rw [e', hmd] at e; cases e
          rw [hlo j e1 e2]; exact hT.gone j hj e
      jn := fun j hj e => by
        rw [hN] at hj
        have hjc : j ≠ c := fun e' => e (by rw [e', hlc]; rfl)
        rw [hmd' j hjc] at e
        obtain ⟨k1, k2⟩ := hT.jn j hj e
        refine ⟨hjn2 j j hjc k1, fun j' hj' hx => ?_⟩
        rw [hN] at hj'
        obtain ⟨_, hx⟩ := hjn' j' j hx
        rcases hx with hx | ⟨_, hx⟩
        · exact k2 j' hj' hx
        · exact absurd (k2 c hc hx).symm hjc
      jng := fun x hx e => by
        rw [hN] at hx
        by_cases e2 : x = c
        · rw [e2]
          exact ⟨i, by rw [hN]; exact hi, by rw [hmd' i (fun e => hci e.symm), hmd]; simp, hjn3 c (hT.jn c hc hng).1⟩
        · rw [hmd' x e2] at e
          obtain ⟨j, k1, k2, k3⟩ := hT.jng x hx e
          by_cases e3 : j = c
          · rw [e3] at k3
            exact ⟨i, by rw [hN]; exact hi, by rw [hmd' i (fun e => hci e.symm), hmd]; simp, hjn3 x k3⟩
          · exact ⟨j, by rw [hN]; exact k1, by rw [hmd' j e3]; exact k2, hjn2 j x e3 k3⟩
      jlt := fun j hj x e => by
        rw [hN] at hj ⊢
        obtain ⟨_, e⟩ := hjn' j x e
        rcases e with e | ⟨_, e⟩
        · exact hT.jlt j hj x e
        · exact hT.jlt c hc x e
      nown := fun x e j hj => by
        rw [hN] at hj
        rw [hwgg] at e
        obtain ⟨k1, k2, k3⟩ := hT.nown x e j hj
        rw [hwk', hwg']
        refine ⟨k1, ?_, k3⟩
        have hxu : x ≠ u := fun e' => by rw [e', hG] at e; cases e
        rw [hws' j x (.inr hxu)]; exact k2 }
end
end Go.Proofs.Ytofohjbcgchhoaa
