/-
  STEPS, on: what a group's leader and its workers do to its counter.
-/
import Derived.Test.YtofohjbcgchhoaaD6
namespace Go.Proofs.Ytofohjbcgchhoaa
open Go.Conc
open Go.RowKit
open Go.ConcN (sumTo sumTo_congr le_sumTo)

section
variable {B0 : Nat} {w0 : World} {PP : Value → World → Prop} {γ : Gh} {w : World} {t : Trace} {i : Nat}

/-- The new ghost. -/
def Gh.setw (γ : Gh) (i : Nat) (l : Lo) (u : Nat) (G : WgG) : Gh := { γ.set i l with wg := fun x => if x = u then some G else γ.wg x }
theorem setw_same (γ : Gh) (i : Nat) (l : Lo) (u : Nat) (G : WgG) : (γ.setw i l u G).lo i = l := set_same γ i l
theorem setw_ne (γ : Gh) {i j : Nat} (l : Lo) (u : Nat) (G : WgG) (h : j ≠ i) : (γ.setw i l u G).lo j = γ.lo j := set_ne γ l h

/-- A step on a group's cells: the rest of the invariant. -/
theorem Whole.setWg (h : Whole B0 w0 γ w t) (hi : i < γ.N) {u : Nat} {G G1 : WgG} (hG : γ.wg u = some G) (hb : G1.boss = G.boss) {l' : Lo} {es : Array Event} (fn : FuncId) (pos : String) (hres : l'.res = (γ.lo i).res) (hro : l'.ro = (γ.lo i).ro) (hpk : l'.pk = (γ.lo i).pk) (hpl : l'.pl = (γ.lo i).pl) (hgl : l'.gl = (γ.lo i).gl) (hcl : l'.cl = (γ.lo i).cl)
    (hgk : l'.gk = (γ.lo i).gk) (hoc : l'.oc = (γ.lo i).oc) (hsk : l'.sk = (γ.lo i).sk) (hal : l'.al = (γ.lo i).al) (hjn : l'.jn = (γ.lo i).jn) (hst : l'.md.st = (γ.lo i).md.st) (hna : l'.md ≠ .act → (γ.lo i).md ≠ .act) (hwk : ∀ x, x ≠ u → l'.wk x = (γ.lo i).wk x)
    (hd : l'.df = deafBehind (γ.lo i).df es) (hok : ∀ e ∈ es, OkEv (γ.lo i).tg (AT γ) (sd γ) i w.heap.size e) (hs : (γ.lo i).md = .act ∨ DeafOk (γ.lo i).df es.toList) (ht : Team (γ.setw i l' u G1)) {w' : World} (o : Nat) (v : Value) (st : Bool) (hw : w' = if st then w.setCell ⟨u, o, none⟩ v else w)
    (h0 : st = true → o = 0 → v = .int .u64 (((γ.setw i l' u G1).cnt u * 4294967296 + wtOf G1.ph : Nat) : Int)) (h0' : st = false ∨ o ≠ 0 → (γ.setw i l' u G1).cnt u * 4294967296 + wtOf G1.ph = γ.cnt u * 4294967296 + wtOf G.ph)
    (h1 : st = true → o = 1 → v = .int .u32 (smOf G1.ph : Nat)) (h1' : st = false ∨ o ≠ 1 → smOf G1.ph = smOf G.ph) :
    Whole B0 w0 (γ.setw i l' u G1) w' (t ++ MemOp.ofEvents i fn pos es) := by
  obtain ⟨γ', hγ'⟩ : ∃ γ', γ' = γ.setw i l' u G1 := ⟨_, rfl⟩
  rw [← hγ'] at ht h0 h0' ⊢
  have hlo : ∀ j, j ≠ i → γ'.lo j = γ.lo j := fun j hj => by rw [hγ']; exact setw_ne γ l' u G1 hj
  have hli : γ'.lo i = l' := by rw [hγ']; exact setw_same γ i l' u G1
  have hN : γ'.N = γ.N := by rw [hγ']; rfl
  have hwx : ∀ x, γ'.wg x = if x = u then some G1 else γ.wg x := fun x => by rw [hγ']; rfl
  have hpool : γ'.pool = γ.pool := by rw [hγ']; rfl
  have hgate : γ'.gate = γ.gate := by rw [hγ']; rfl
  have cong : ∀ {α : Type} (f : Lo → α), f l' = f (γ.lo i) → ∀ j, f (γ'.lo j) = f (γ.lo j) := fun f hf j => by
    by_cases e : j = i
    · rw [e, hli]; exact hf
    · rw [hlo j e]
  have hAT : AT γ' = AT γ := by
    funext a
    unfold AT
    rw [hpool, hgate, hwx]
    by_cases e : a.block = u
    · rw [if_pos e, e, hG]; rfl
    · rw [if_neg e]
  have hsd : sd γ' = sd γ := by
    funext a
    unfold sd
    rw [hwx]
    by_cases e : a.block = u
    · rw [if_pos e, e, hG]; simp [hb]
    · rw [if_neg e]
  have hsum : ∀ k, γ'.sum k = γ.sum k := fun k => by
    unfold Gh.sum
    rw [hN]
    exact sumTo_congr fun j _ => by rw [cong Lo.res hres j]
  have hcn : ∀ x, x ≠ u → γ'.cnt x = γ.cnt x := fun x hx => by
    unfold Gh.cnt
    rw [hN]
    refine sumTo_congr fun j _ => ?_
    by_cases e : j = i
    · rw [e, hli]; exact hwk x hx
    · rw [hlo j e]
  have hB : B0 ≤ u := (h.mem.wg u G hG).1
  have hn : Nums γ' := by
    refine h.nums.of hN hpool hgate (fun j _ => cong (fun l => l.res.tk) (by rw [hres]) j) (fun j _ => cong Lo.pk hpk j) (fun j _ => cong Lo.pl hpl j) (fun j _ => cong Lo.gl hgl j) (fun j _ => cong Lo.cl hcl j) (fun j _ => cong Lo.gk hgk j) (fun j _ => cong Lo.oc hoc j) (cong Lo.sk hsk 0) (fun j _ => cong Lo.al hal j) (fun j _ e => ?_)
    by_cases ej : j = i
    · rw [ej] at e ⊢; rw [hli] at e; exact .inl (hna e)
    · rw [hlo j ej] at e; exact .inl e
  have hm : Mem B0 w0 γ' w' := by
    cases st with
    | true =>
      rw [hw, if_pos rfl]
      refine Mem.setAt h ⟨u, o, none⟩ ⟨rfl, .inr (.inl (by rw [show γ.wg u = some G from hG]; rfl))⟩ hB v hN (fun j _ => cong (fun l => l.res.cells) (by rw [hres]) j) (fun j _ => cong Lo.ro hro j) (fun j _ => cong Lo.oc hoc j) (fun p G' hp => ?_) (fun x G' hx => ?_) (fun c G' hc => ?_)
      · rw [hpool] at hp
        have hne : ∀ y, (⟨u, o, none⟩ : Addr) ≠ ⟨p, y, none⟩ := fun y e => h.pool_wg hp hG (by injection e with e1; exact e1.symm)
        exact ⟨G', hp, rfl, rfl, fun e => absurd e (hne _), fun _ => hsum _, fun e => absurd e (hne _), fun _ => rfl, fun e => absurd e (hne _), fun _ => by rw [hsum], hsum _⟩
      · rw [hwx] at hx
        by_cases e : x = u
        · rw [if_pos e] at hx
          cases hx
          rw [e]
          refine ⟨G, hG, fun e => h0 rfl (by injection e), fun e => h0' (.inr fun x => e (by rw [x])), fun e => h1 rfl (by injection e), fun e => h1' (.inr fun x => e (by rw [x]))⟩
        · rw [if_neg e] at hx
          have hne : ∀ y, (⟨u, o, none⟩ : Addr) ≠ ⟨x, y, none⟩ := fun y e' => e (by injection e' with e1; exact e1.symm)
          exact ⟨G', hx, fun e' => absurd e' (hne _), fun _ => by rw [hcn x e], fun e' => absurd e' (hne _), fun _ => rfl⟩
      · rw [hgate] at hc
        refine ⟨G', hc, rfl, rfl, fun e => ?_, fun _ => hsum _⟩
        exfalso
        have e1 : u = G'.bg := by injection e
        have k1 := (h.mem.gate c G' hc).2.2.2.1
        rw [← e1] at k1
        have k2 := (h.mem.wg u G hG).2.1
        rw [k1] at k2
        cases k2
    | false =>
      rw [hw, if_neg (by simp)]
      exact {
        bel := h.mem.bel
        big := h.mem.big
        cell := fun j hj a v hv => by rw [hN] at hj; rw [cong (fun l => l.res.cells) (by rw [hres]) j] at hv; exact h.mem.cell j hj a v hv
        ro := fun j hj a v hv => by rw [hN] at hj; rw [cong Lo.ro hro j] at hv; exact h.mem.ro j hj a v hv
        pool := fun p G' hp => by rw [hpool] at hp; rw [hsum, hsum, hsum]; exact h.mem.pool p G' hp
        oc := fun j hj c cap e => by rw [hN] at hj; rw [cong Lo.oc hoc j] at e; exact h.mem.oc j hj c cap e
        wg := fun x G' hx => by
          rw [hwx] at hx
          by_cases e : x = u
          · rw [if_pos e] at hx
            cases hx
            rw [e]
            obtain ⟨k1, k2, k3, k4⟩ := h.mem.wg u G hG
            exact ⟨k1, by rw [h0' (.inl rfl)]; exact k2, by rw [h1' (.inl rfl)]; exact k3, k4⟩
          · rw [if_neg e] at hx
            rw [hcn x e]; exact h.mem.wg x G' hx
        gate := fun c G' hc => by rw [hgate] at hc; rw [hsum]; exact h.mem.gate c G' hc }
  exact h.atom hi fn pos hN hlo (by rw [hli, hres]) (by rw [hli]; exact hro) (by rw [hli]; exact hst) (by rw [hli]; exact hjn) hAT hsd hm hn ht (by rw [hw]; cases st <;> simp [World.setCell]) (by rw [hli]; exact hd) hok hs

/-- What such a step leaves of the others: nobody else's semaphore is touched; where it is raised, all are woken. -/
theorem Keeps.wg (h : Whole B0 w0 γ w t) {u : Nat} {G G1 : WgG} {l' : Lo} {w' : World} {o : Nat} {v : Value} {wake : Bool} (hw : (w' = w.setCell ⟨u, o, none⟩ v ∧ (o ≠ 1 ∨ wake = true ∨ G.boss = i)) ∨ w' = w) (hG : γ.wg u = some G) : Keeps (SY B0 w0 PP) i γ w (γ.setw i l' u G1) w' wake where
  own j _ hj := .inl (setw_ne γ l' u G1 hj)
  stuck j hj hst := by
    obtain ⟨h1, h2, h3, x, B, h4, h5, h6⟩ := hst
    obtain ⟨_, _, _, _, G', hG', hb', _⟩ := h.team.boss j h1 x B h4
    by_cases hwk : wake = true
    · exact .inl hwk
    · refine .inr ⟨h1, by rw [setw_ne γ l' u G1 hj]; exact h2, by rw [setw_ne γ l' u G1 hj]; exact h3, x, B, by rw [setw_ne γ l' u G1 hj]; exact h4, h5, ?_⟩
      rcases hw with ⟨hw, ho⟩ | hw
      · rw [hw, setCell_cell_ne v (fun e => ?_)]
        · exact h6
        · have e1 : u = x := by injection e
          have e2 : o = 1 := by injection e
          rcases ho with ho | ho | ho
          · exact ho e2
          · exact hwk ho
          · rw [← e1] at hG'
            rw [hG] at hG'
            cases hG'
            exact hj (hb'.symm.trans ho)
      · rw [hw]; exact h6
  gate j c hj hgt := by
    obtain ⟨h1, h2, h3, h4⟩ := hgt
    refine ⟨⟨h1, by rw [setw_ne γ l' u G1 hj]; exact h2, h3, by rw [setw_ne γ l' u G1 hj]; exact h4⟩, fun hop => .inl ?_⟩
    rcases hw with ⟨hw, _⟩ | hw <;> rw [hw]
    · exact hop.setCell _ _
    · exact hop
end
end Go.Proofs.Ytofohjbcgchhoaa
