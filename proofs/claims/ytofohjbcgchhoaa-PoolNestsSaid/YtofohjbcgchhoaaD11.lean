/-
  STEPS, on: the leader has waited: it has all that its workers had.
-/
import Derived.Test.YtofohjbcgchhoaaD10
namespace Go.Proofs.Ytofohjbcgchhoaa
open Go.Conc
open Go.RowKit
open Go.ConcN (sumTo sumTo_congr le_sumTo)

section
variable {B0 : Nat} {w0 : World} {PP : Value → World → Prop} {γ : Gh} {w : World} {t : Trace} {i : Nat}

/-- Each worker's word is kept by what it had. -/
inductive Met : List (Nat × (Res → Prop)) → List Res → Prop
  | nil : Met [] []
  | cons {c : Nat} {J : Res → Prop} {r : Res} {ws : List (Nat × (Res → Prop))} {rs : List Res} : J r → Met ws rs → Met ((c, J) :: ws) (r :: rs)

/-- What they had lies apart. -/
def Apart : Res → List Res → Prop
  | _, [] => True
  | r, x :: xs => (∀ a, r.cells a ≠ none → x.cells a = none) ∧ Apart (r.add x) xs

/-- It leads nobody any more. -/
theorem Core.unlead (h : Core B0 w0 γ w) (hi : i < γ.N) {u : Nat} (hB : (γ.lo i).ws u = some ⟨[], 0, 0⟩) : Core B0 w0 (γ.set i ((γ.lo i).wsd u none)) w := by
  obtain ⟨l', hl'⟩ : ∃ l', l' = (γ.lo i).wsd u none := ⟨_, rfl⟩
  have F : ∀ {α : Type} (f : Lo → α), f l' = f (γ.lo i) → ∀ j, f ((γ.set i l').lo j) = f (γ.lo j) := fun f h j => set_field f γ i l' h j
  rw [← hl']
  refine ⟨?_, ?_, ?_, ?_⟩
  · exact h.mem.of rfl rfl rfl rfl (fun j _ => F Lo.res (by rw [hl']; rfl) j) (fun j _ a v => by rw [F Lo.ro (by rw [hl']; rfl) j]; exact id) (fun j _ => F Lo.wk (by rw [hl']; rfl) j) (fun j _ => F Lo.oc (by rw [hl']; rfl) j)
  · exact h.own.of rfl rfl rfl rfl (fun j _ => F (fun l => l.res.cells) (by rw [hl']; rfl) j) (fun j _ a v => by rw [F Lo.ro (by rw [hl']; rfl) j]; exact id)
  · exact h.nums.of rfl rfl rfl (fun j _ => F (fun l => l.res.tk) (by rw [hl']; rfl) j) (fun j _ => F Lo.pk (by rw [hl']; rfl) j) (fun j _ => F Lo.pl (by rw [hl']; rfl) j) (fun j _ => F Lo.gl (by rw [hl']; rfl) j) (fun j _ => F Lo.cl (by rw [hl']; rfl) j) (fun j _ => F Lo.gk (by rw [hl']; rfl) j) (fun j _ => F Lo.oc (by rw [hl']; rfl) j) (F Lo.sk (by rw [hl']; rfl) 0) (fun j _ => F Lo.al (by rw [hl']; rfl) j) (fun j _ e => by rw [F Lo.md (by rw [hl']; rfl) j] at e; exact .inl e)
  · have hT := h.team
    obtain ⟨hmd, _, _, hcnt, G, hG, hGb, _, _⟩ := hT.boss i hi u _ hB
    have hc : ∀ x, (γ.set i l').cnt x = γ.cnt x := fun x => cnt_congr (γ := γ) (γ' := γ.set i l') rfl (fun j _ => F Lo.wk (by rw [hl']; rfl) j) x
    have hwk0 : (γ.lo i).wk u = 0 := by
      have : (γ.lo i).wk u ≤ γ.cnt u := le_sumTo (f := fun j => (γ.lo j).wk u) hi
      simp only at hcnt
      omega
    have fmd := F Lo.md (by rw [hl']; rfl)
    have fwg := F Lo.wg (by rw [hl']; rfl)
    have fwk := F Lo.wk (by rw [hl']; rfl)
    have fjn := F Lo.jn (by rw [hl']; rfl)
    have fres := F Lo.res (by rw [hl']; rfl)
    have fro := F Lo.ro (by rw [hl']; rfl)
    have fob := F Lo.ob (by rw [hl']; rfl)
    have hws : ∀ j x, (j ≠ i ∨ x ≠ u) → ((γ.set i l').lo j).ws x = (γ.lo j).ws x := fun j x hx => by
      by_cases e : j = i
      · rw [e, set_same, hl']
        have : x ≠ u := hx.elim (fun y => absurd e y) id
        simp [Lo.wsd, this]
      · rw [set_ne γ _ e]
    have hwsu : ((γ.set i l').lo i).ws u = none := by rw [set_same, hl']; simp [Lo.wsd]
    have ne_of : ∀ j x B, ((γ.set i l').lo j).ws x = some B → (j ≠ i ∨ x ≠ u) := fun j x B e => by
      by_cases e1 : j = i
      · refine .inr fun e2 => ?_
        rw [e1, e2, hwsu] at e; cases e
      · exact .inl e1
    exact {
      pos := hT.pos
      main := by rw [fmd, fwg]; exact hT.main
      boss := fun b hb x B e => by
        rw [hws b x (ne_of b x B e)] at e
        obtain ⟨k1, k2, k3, k4, k5⟩ := hT.boss b hb x B e
        rw [fmd, hc, fwk]
        refine ⟨k1, k2, fun c J hm => ?_, k4, k5⟩
        obtain ⟨m1, m2, m3⟩ := k3 c J hm
        exact ⟨m1, m2, m3.of (by rw [fwg]) (by rw [fob]) (by rw [fmd]) (by rw [fwk]) (.inr (by rw [fres]))⟩
      led := fun c hc' hc0 hg => by
        rw [fmd] at hg
        obtain ⟨b, x, B, J, k1, k2, k3⟩ := hT.led c hc' hc0 hg
        refine ⟨b, x, B, J, k1, ?_, k3⟩
        rw [hws b x]
        · exact k2
        · by_cases e1 : b = i
          · refine .inr fun e2 => ?_
            rw [e1, e2, hB] at k2
            cases k2
            cases k3
          · exact .inl e1
      wk := fun j hj x e => by
        rw [fwk] at e
        rw [fwg]
        rcases hT.wk j hj x e with e' | ⟨B, e'⟩
        · exact .inl e'
        · refine .inr ⟨B, ?_⟩
          rw [hws j x]
          · exact e'
          · by_cases e1 : j = i
            · refine .inr fun e2 => ?_
              rw [e1, e2, hwk0] at e
              exact e rfl
            · exact .inl e1
      small := fun x => by rw [hc]; exact hT.small x
      wph := fun x G' hx => by
        rw [hc]
        obtain ⟨k1, k2, k3, k4⟩ := hT.wph x G' hx
        refine ⟨k1, k2, k3, fun e => ?_⟩
        obtain ⟨m1, m2, m3⟩ := k4 e
        exact ⟨m1, by rw [fwg]; exact m2, by rw [fmd]; exact m3⟩
      duty := fun j hj p a ph x e hp hx => by rw [fmd] at e; rw [fwg] at hx; exact hT.duty j hj p a ph x e hp hx
      gone := fun j hj e => by
        rw [fmd] at e
        rw [fres, fro, fwk, fjn]; exact hT.gone j hj e
      jn := fun j hj e => by
        rw [fmd] at e
        rw [fjn]
        exact ⟨(hT.jn j hj e).1, fun j' hj' hx => by rw [fjn] at hx; exact (hT.jn j hj e).2 j' hj' hx⟩
      jng := fun c hc' e => by
        rw [fmd] at e
        obtain ⟨j, k1, k2, k3⟩ := hT.jng c hc' e
        exact ⟨j, k1, by rw [fmd]; exact k2, by rw [fjn]; exact k3⟩
      jlt := fun j hj c e => by rw [fjn] at e; exact hT.jlt j hj c e
      nown := fun x e j hj => by
        obtain ⟨k1, k2, k3⟩ := hT.nown x e j hj
        rw [fwk, fwg]
        refine ⟨k1, ?_, k3⟩
        rw [hws j x]
        · exact k2
        · exact .inr fun e2 => by rw [e2] at e; rw [show γ.wg u = none from e] at hG; cases hG }

/-- What stands behind all the moves. -/
structure Moved (γ γ' : Gh) (i u : Nat) (ws : List (Nat × (Res → Prop))) (rs : List Res) : Prop where
  N : γ'.N = γ.N
  pool : γ'.pool = γ.pool
  wg : γ'.wg = γ.wg
  gate : γ'.gate = γ.gate
  other : ∀ j, j ≠ i → j ∉ ws.map (·.1) → γ'.lo j = γ.lo j
  went : ∀ j, j ∈ ws.map (·.1) → γ'.lo j = (γ.lo j).gone ∧ (∃ p, (γ.lo j).md = .quit p ⟨u, 0, none⟩) ∧ j ≠ i ∧ j < γ.N
  js : Met ws rs
  apart : Apart (γ.lo i).res rs
  mine : ∃ jn', γ'.lo i = { γ.lo i with res := rs.foldl Res.add (γ.lo i).res, jn := jn', ws := fun x => if x = u then some ⟨[], 0, 0⟩ else (γ.lo i).ws x }
  ex : ∀ b, (γ'.lo i).res.cells b ≠ none → (γ.lo i).res.cells b ≠ none ∨ ∃ c, c ∈ ws.map (·.1) ∧ (γ.lo c).res.cells b ≠ none
  jn : ∀ b, (γ'.lo i).jn b → (γ.lo i).jn b ∨ ∃ c, c ∈ ws.map (·.1) ∧ (γ.lo c).jn b

theorem Core.moves : ∀ (ws : List (Nat × (Res → Prop))) (γ : Gh), Core B0 w0 γ w → i < γ.N → ∀ {u : Nat}, (γ.lo i).ws u = some ⟨ws, 0, 0⟩ → ∃ γ' rs, Core B0 w0 γ' w ∧ Moved γ γ' i u ws rs
  | [], γ, h, _, u, hB => ⟨γ, [], h, rfl, rfl, rfl, rfl, fun _ _ _ => rfl, (fun j hj => by cases hj), .nil, trivial, ⟨(γ.lo i).jn, by
      have : (fun x => if x = u then some ⟨[], 0, 0⟩ else (γ.lo i).ws x) = (γ.lo i).ws := by
        funext x
        by_cases e : x = u
        · rw [if_pos e, e, hB]
        · rw [if_neg e]
      rw [this]
      rfl⟩, fun _ h => .inl h, fun _ h => .inl h⟩
  | (c, J) :: ws, γ, h, hi, u, hB => by
    obtain ⟨hmd, hnd, _, _, G, hG, _, hp0, _⟩ := h.team.boss i hi u _ hB
    obtain ⟨h1, hJ, hq, hci, hc⟩ := h.move hi hB ⟨G, hG, hp0 rfl⟩
    obtain ⟨γ1, hγ1⟩ : ∃ γ1, γ1 = γ.move i c (((γ.lo i).take (γ.lo c)).wsd u (some ⟨ws, 0, 0⟩)) := ⟨_, rfl⟩
    rw [← hγ1] at h1
    have e1 : γ1.lo i = ((γ.lo i).take (γ.lo c)).wsd u (some ⟨ws, 0, 0⟩) := by rw [hγ1]; simp [Gh.move]
    have ec : γ1.lo c = (γ.lo c).gone := by rw [hγ1]; simp [Gh.move, hci]
    have eo : ∀ j, j ≠ i → j ≠ c → γ1.lo j = γ.lo j := fun j a b => by rw [hγ1]; simp [Gh.move, a, b]
    have hN : γ1.N = γ.N := by rw [hγ1]; rfl
    obtain ⟨γ', rs, h2, M⟩ := Core.moves ws γ1 h1 (by rw [hN]; exact hi) (u := u) (by rw [e1]; simp [Lo.wsd])
    simp only [List.map_cons, List.nodup_cons] at hnd
    refine ⟨γ', (γ.lo c).res :: rs, h2, M.N.trans hN, M.pool.trans (by rw [hγ1]; rfl), M.wg.trans (by rw [hγ1]; rfl), M.gate.trans (by rw [hγ1]; rfl), fun j hj hm => ?_, fun j hj => ?_, .cons hJ M.js, ⟨h.own.ex i c hi hc (fun e => hci e.symm), by have := M.apart; rw [e1] at this; exact this⟩, ?_, fun b hb => ?_, fun b hb => ?_⟩
    · simp only [List.map_cons, List.mem_cons, not_or] at hm
      rw [M.other j hj hm.2, eo j hj hm.1]
    · simp only [List.map_cons, List.mem_cons] at hj
      rcases hj with hj | hj
      · rw [hj, M.other c hci hnd.1, ec]
        exact ⟨rfl, hq, hci, hc⟩
      · obtain ⟨k1, k2, k3, k4⟩ := M.went j hj
        have hjc : j ≠ c := fun e => hnd.1 (e ▸ hj)
        rw [eo j k3 hjc] at k1 k2
        exact ⟨k1, k2, k3, by rw [← hN]; exact k4⟩
    · obtain ⟨jn', hm⟩ := M.mine
      refine ⟨jn', ?_⟩
      rw [hm, e1]
      have : (fun x => if x = u then some (⟨[], 0, 0⟩ : Boss) else (((γ.lo i).take (γ.lo c)).wsd u (some ⟨ws, 0, 0⟩)).ws x) = fun x => if x = u then some ⟨[], 0, 0⟩ else (γ.lo i).ws x := by
        funext x
        by_cases e : x = u
        · rw [if_pos e, if_pos e]
        · rw [if_neg e, if_neg e]; simp [Lo.wsd, Lo.take, e]
      rw [this]
      rfl
    · rcases M.ex b hb with h3 | ⟨c', h3, h4⟩
      · rw [e1] at h3
        have h3 : ((γ.lo i).res.cells b).or ((γ.lo c).res.cells b) ≠ none := h3
        cases e : (γ.lo i).res.cells b with
        | none => rw [e] at h3; exact .inr ⟨c, by simp, by simpa using h3⟩
        | some v => exact .inl (by simp)
      · have hcc : c' ≠ c := fun e => hnd.1 (e ▸ h3)
        rw [eo c' (M.went c' h3).2.2.1 hcc] at h4
        exact .inr ⟨c', by simp only [List.map_cons, List.mem_cons]; exact .inr h3, h4⟩
    · rcases M.jn b hb with h3 | ⟨c', h3, h4⟩
      · rw [e1] at h3
        have h3 : (γ.lo i).jn b ∨ (γ.lo c).jn b := h3
        rcases h3 with h3 | h3
        · exact .inl h3
        · exact .inr ⟨c, by simp, h3⟩
      · have hcc : c' ≠ c := fun e => hnd.1 (e ▸ h3)
        rw [eo c' (M.went c' h3).2.2.1 hcc] at h4
        exact .inr ⟨c', by simp only [List.map_cons, List.mem_cons]; exact .inr h3, h4⟩

/-- THE ACQUIRE. -/
theorem Whole.collect (h : Whole B0 w0 γ w t) (hi : i < γ.N) (hdf : (γ.lo i).df = 0) {u : Nat} {ws : List (Nat × (Res → Prop))} (hB : (γ.lo i).ws u = some ⟨ws, 0, 0⟩) (fn : FuncId) (pos : String) :
    ∃ γ' rs jn', (Met ws rs ∧ Apart (γ.lo i).res rs) ∧ Whole B0 w0 γ' w (t ++ MemOp.ofEvents i fn pos #[⟨.mark (.acquire ⟨u, 0, none⟩), false, true⟩]) ∧ γ'.N = γ.N ∧ (∀ wake, Keeps (SY B0 w0 PP) i γ w γ' w wake) ∧
      γ'.lo i = { γ.lo i with res := rs.foldl Res.add (γ.lo i).res, jn := jn', ws := fun x => if x = u then none else (γ.lo i).ws x } := by
  obtain ⟨hact, _, _, _, G, hG, _⟩ := h.team.boss i hi u _ hB
  obtain ⟨γ1, rs, hc, M⟩ := Core.moves (i := i) ws γ ⟨h.mem, h.own, h.nums, h.team⟩ hi hB
  obtain ⟨jn', hm⟩ := M.mine
  have hi1 : i < γ1.N := by rw [M.N]; exact hi
  have hc2 := hc.unlead hi1 (u := u) (by rw [hm]; simp)
  obtain ⟨l', hl'⟩ : ∃ l', l' = (γ1.lo i).wsd u none := ⟨_, rfl⟩
  rw [← hl'] at hc2
  obtain ⟨γ', hγ'⟩ : ∃ γ', γ' = γ1.set i l' := ⟨_, rfl⟩
  rw [← hγ'] at hc2
  have hli : γ'.lo i = l' := by rw [hγ']; exact set_same γ1 i l'
  have hlo : ∀ j, j ≠ i → γ'.lo j = γ1.lo j := fun j hj => by rw [hγ']; exact set_ne γ1 l' hj
  have hN : γ'.N = γ.N := by rw [hγ']; exact M.N
  have ew : γ'.wg = γ.wg := by rw [hγ']; exact M.wg
  have hl2 : l' = { γ.lo i with res := rs.foldl Res.add (γ.lo i).res, jn := jn', ws := fun x => if x = u then none else (γ.lo i).ws x } := by
    rw [hl', hm]
    unfold Lo.wsd
    simp only
    congr 1
    funext x
    by_cases e : x = u <;> simp [e]
  refine ⟨γ', rs, jn', ⟨M.js, M.apart⟩, ⟨hc2.mem, hc2.own, hc2.nums, hc2.team, ?_⟩, hN, fun wake => ?_, by rw [hli]; exact hl2⟩
  · have hx : MemOp.ofEvents i fn pos #[⟨.mark (.acquire ⟨u, 0, none⟩), false, true⟩] = #[{ g := i, fn := fn, pos := pos, act := .mark (.acquire ⟨u, 0, none⟩) }] := by rw [ofEvents_eq]; simp [MemAct.ofEvent]
    rw [hx]
    have hAT : AT γ' = AT γ := at_congr (by rw [hγ']; exact M.pool) ew (by rw [hγ']; exact M.gate)
    have hcell : (γ1.lo i).res.cells = l'.res.cells := by rw [hl']; rfl
    have hjn : (γ1.lo i).jn = l'.jn := by rw [hl']; rfl
    have key := h.tr.acquire hi (x := { g := i, fn := fn, pos := pos, act := .mark (.acquire ⟨u, 0, none⟩) }) (a := ⟨u, 0, none⟩) ⟨rfl, rfl⟩ (by simp [Lo.tg, hact, Md.st]) hdf (h.wg_lt hG) (fun c => c ∈ ws.map (·.1)) (fun c hcm => by
        obtain ⟨_, ⟨p, hq⟩, k3, k4⟩ := M.went c hcm
        exact ⟨k3, k4, p, by simp [Lo.tg, hq, Md.st]⟩) (gi := l'.tg) ⟨by rw [hl2]; simp [Lo.tg, hact, Md.st], by rw [hl2]; exact hdf⟩ (fun b hb => by
        have hb : l'.res.cells b ≠ none := hb
        rw [← hcell] at hb
        exact M.ex b hb) (fun b hb => by
        have hb : ∃ v, l'.ro b v := hb
        rw [hl2] at hb
        exact .inl hb) (fun b hb => by
        have hb : l'.jn b := hb
        rw [← hjn] at hb
        exact M.jn b hb)
    have e1 : (fun j => if j = i then l'.tg else if j ∈ ws.map (·.1) then { st := .gone, ex := fun _ => False, rd := fun _ => False, jn := fun _ => False, df := (γ.lo j).tg.df } else (γ.lo j).tg) = fun j => (γ'.lo j).tg := by
      funext j
      by_cases e : j = i
      · rw [if_pos e, e, hli]
      · rw [if_neg e, hlo j e]
        by_cases e2 : j ∈ ws.map (·.1)
        · rw [if_pos e2, (M.went j e2).1]
          simp only [Lo.tg, Lo.gone, Md.st, Res.zero]
          congr 1
          · funext x; simp
          · funext x; simp
        · rw [if_neg e2, M.other j e e2]
    rw [e1] at key
    rw [hN, hAT, sd_congr ew]
    exact key
  · have hq : ∀ j, j ≠ i → γ'.lo j = γ.lo j ∨ (γ'.lo j = (γ.lo j).gone ∧ ∃ p, (γ.lo j).md = .quit p ⟨u, 0, none⟩) := fun j hj => by
      rw [hlo j hj]
      by_cases e2 : j ∈ ws.map (·.1)
      · exact .inr ⟨(M.went j e2).1, (M.went j e2).2.1⟩
      · exact .inl (M.other j hj e2)
    refine ⟨fun j _ hj => ?_, fun j hj hs => ?_, fun j c hj hg => ?_⟩
    · rcases hq j hj with e | ⟨e, p, e'⟩
      · exact .inl e
      · exact .inr ⟨(γ.lo j).df, by show (γ.lo j).quit = _; simp [Lo.quit, e'], by show (γ'.lo j).quit = _; rw [e]; rfl⟩
    · obtain ⟨s1, s2, s3, x, B, s4, s5, s6⟩ := hs
      rcases hq j hj with e | ⟨_, p, e'⟩
      · exact .inr ⟨by rw [hN]; exact s1, by rw [e]; exact s2, by rw [e]; exact s3, x, B, by rw [e]; exact s4, s5, s6⟩
      · rw [s2] at e'; cases e'
    · obtain ⟨s1, s2, s3, s4⟩ := hg
      rcases hq j hj with e | ⟨_, p, e'⟩
      · exact ⟨⟨by rw [hN]; exact s1, by rw [e]; exact s2, by rw [hγ']; show (γ1.gate c).isSome = true; rw [M.gate]; exact s3, by rw [e]; exact s4⟩, .inl⟩
      · rw [s2] at e'; cases e'
end
end Go.Proofs.Ytofohjbcgchhoaa
