/-
  The walk of a node's task; the root's task, run by the pool.
-/
import Derived.Test.YtofohjbcgchhoaaJA
namespace Go.Proofs.Ytofohjbcgchhoaa
open Go.Conc
open Go.RowKit
open Go.ConcN (sumTo sumTo_congr le_sumTo)
set_option maxRecDepth 100000
set_option linter.unusedSimpArgs false
set_option linter.unusedVariables false

theorem Grow.trans {l l' l'' : Lo} (h : Grow l l') (g : Grow l' l'') : Grow l l'' :=
  ⟨g.md.trans h.md, g.df.trans h.df, g.pl.trans h.pl, g.gl.trans h.gl, g.pk.trans h.pk, g.cl.trans h.cl, g.wg.trans h.wg, g.wk.trans h.wk, g.ws.trans h.ws, g.gk.trans h.gk, g.ob.trans h.ob, g.sk.trans h.sk, g.tk.trans h.tk, fun a v x => g.ro a v (h.ro a v x), fun a x => by rw [g.cell a (by rw [h.cell a x]; exact x), h.cell a x]⟩

/-- The tasks as far as child k. -/
structure TaskRow (N : Nest) (l1 l : Lo) (d k : Nat) (v9 : Value) (bx : Nat → Nat) : Prop where
  grow : Grow l1 l
  row : (k = 0 ∧ v9 = .slice none 0 0) ∨ (1 ≤ k ∧ ∃ g cap, v9 = .slice (some ⟨g, 0, none⟩) k cap ∧ k ≤ cap ∧ (∀ j, j < k → l.res.cells ⟨g, j, none⟩ = some (kidTask N ((kids N.n N.par d).getD j 0) (bx j)).v) ∧ (∀ j, j < cap → l.res.cells ⟨g, j, none⟩ ≠ none) ∧ (∀ i, l1.res.cells ⟨g, i, none⟩ = none) ∧ ∀ j, j < k → bx j ≠ g)
  box : ∀ j, j < k → l.res.cells ⟨bx j, 0, none⟩ = some (.int .i64 ((kids N.n N.par d).getD j 0 : Nat)) ∧ ∀ i, l1.res.cells ⟨bx j, i, none⟩ = none
  inj : ∀ i j, i < k → j < k → i ≠ j → bx i ≠ bx j

theorem TaskRow.more {N : Nest} {l1 l l' : Lo} {d k : Nat} {v9 : Value} {bx : Nat → Nat} (K : TaskRow N l1 l d k v9 bx) (g : Grow l l') : TaskRow N l1 l' d k v9 bx where
  grow := K.grow.trans g
  row := by
    rcases K.row with h | ⟨h1, b, cap, h2, h3, h4, h5, h6, h7⟩
    · exact .inl h
    · exact .inr ⟨h1, b, cap, h2, h3, fun j hj => by rw [g.cell _ (h5 j (by omega))]; exact h4 j hj, fun j hj => by rw [g.cell _ (h5 j hj)]; exact h5 j hj, h6, h7⟩
  box j hj := by
    obtain ⟨h1, h2⟩ := K.box j hj
    exact ⟨by rw [g.cell _ (by rw [h1]; simp)]; exact h1, h2⟩
  inj := K.inj

theorem grow_none {l1 l : Lo} (g : Grow l1 l) {r : Nat} (hr : Fresh l r) (i : Nat) : l1.res.cells ⟨r, i, none⟩ = none := by
  cases e : l1.res.cells ⟨r, i, none⟩ with
  | none => rfl
  | some v => have h1 := g.cell ⟨r, i, none⟩ (by rw [e]; simp); rw [hr.cell _ rfl, e] at h1; cases h1

/-- A fresh block is none of them. -/
theorem TaskRow.apart {N : Nest} {l1 l : Lo} {d k : Nat} {v9 : Value} {bx : Nat → Nat} (K : TaskRow N l1 l d k v9 bx) {b : Nat} (hb : Fresh l b) : (∀ j, j < k → bx j ≠ b) ∧ (∀ g k' cap, v9 = .slice (some ⟨g, 0, none⟩) k' cap → b ≠ g) ∧ ∀ i, l1.res.cells ⟨b, i, none⟩ = none := by
  refine ⟨fun j hj e => ?_, fun g k' cap hv e => ?_, grow_none K.grow hb⟩
  · have h1 := (K.box j hj).1
    rw [hb.cell _ e] at h1; cases h1
  · rcases K.row with ⟨_, h⟩ | ⟨h1, g', cap', h2, h3, h4, h5, _⟩
    · rw [h] at hv; cases hv
    · rw [h2] at hv
      injection hv with hv
      injection hv with hv
      injection hv with hv
      exact h5 0 (by omega) (hb.cell _ (by rw [hv, e]))

theorem TaskRow.room {N : Nest} {l1 l : Lo} {d k g cap b : Nat} {bx : Nat → Nat} (K : TaskRow N l1 l d k (.slice (some ⟨g, 0, none⟩) k cap) bx) (hlt : k < cap) (hb : l.res.cells ⟨b, 0, none⟩ = some (.int .i64 ((kids N.n N.par d).getD k 0 : Nat))) (h1 : ∀ j, j < k → bx j ≠ b) (h2 : b ≠ g) (h3 : ∀ i, l1.res.cells ⟨b, i, none⟩ = none) :
    TaskRow N l1 (l.setc ⟨g, k, none⟩ (kidTask N ((kids N.n N.par d).getD k 0) b).v) d (k + 1) (.slice (some ⟨g, 0, none⟩) (k + 1) cap) (fun j => if j = k then b else bx j) := by
  rcases K.row with ⟨_, h⟩ | ⟨k1, g', cap', e, k3, k4, k5, k6, k7⟩
  · cases h
  injection e with e1 e2 e3
  injection e1 with e1
  injection e1 with e1
  subst e1 e3
  refine ⟨K.grow.setc (k6 _) _, .inr ⟨by omega, g, cap, rfl, hlt, fun j hj => ?_, fun j hj => ?_, k6, fun j hj => ?_⟩, fun j hj => ?_, fun i j hi hj hne => ?_⟩
  · show (if (⟨g, j, none⟩ : Addr) = ⟨g, k, none⟩ then _ else _) = _
    by_cases e : j = k
    · rw [if_pos (by rw [e]), if_pos e, e]
    · rw [if_neg (by simp [e]), if_neg e]
      exact k4 j (by omega)
  · show (if (⟨g, j, none⟩ : Addr) = ⟨g, k, none⟩ then _ else _) ≠ _
    split
    · simp
    · exact k5 j hj
  · show (if j = k then b else bx j) ≠ g
    split
    · exact h2
    · exact k7 j (by omega)
  · have : ∀ j, (if j = k then b else bx j) ≠ g → (l.setc ⟨g, k, none⟩ (kidTask N ((kids N.n N.par d).getD k 0) b).v).res.cells ⟨if j = k then b else bx j, 0, none⟩ = l.res.cells ⟨if j = k then b else bx j, 0, none⟩ := fun j hne => by
      show (if _ = _ then _ else _) = _
      rw [if_neg (by simp [hne])]
    by_cases e : j = k
    · rw [this j (by rw [if_pos e]; exact h2)]
      simp only [if_pos e]
      rw [e]
      exact ⟨hb, h3⟩
    · rw [this j (by rw [if_neg e]; exact k7 j (by omega))]
      simp only [if_neg e]
      exact K.box j (by omega)
  · show (if i = k then b else bx i) ≠ (if j = k then b else bx j)
    by_cases e : i = k
    · rw [if_pos e, if_neg (by omega)]
      exact fun h => h1 j (by omega) h.symm
    · rw [if_neg e]
      by_cases e' : j = k
      · rw [if_pos e']; exact h1 i (by omega)
      · rw [if_neg e']; exact K.inj i j (by omega) (by omega) hne

theorem TaskRow.fresh {N : Nest} {l1 l : Lo} {d k r cap b : Nat} {v9 : Value} {bx : Nat → Nat} {cc : Array Value} (K : TaskRow N l1 l d k v9 bx) (hr : Fresh l r) (hsz : cc.size = cap ∧ k < cap) (hold : ∀ j, j < k → cc[j]? = some (kidTask N ((kids N.n N.par d).getD j 0) (bx j)).v) (hlast : cc[k]? = some (kidTask N ((kids N.n N.par d).getD k 0) b).v)
    (hb : l.res.cells ⟨b, 0, none⟩ = some (.int .i64 ((kids N.n N.par d).getD k 0 : Nat))) (h1 : ∀ j, j < k → bx j ≠ b) (h3 : ∀ i, l1.res.cells ⟨b, i, none⟩ = none) :
    TaskRow N l1 (l.addc r cc) d (k + 1) (.slice (some ⟨r, 0, none⟩) (k + 1) cap) (fun j => if j = k then b else bx j) := by
  obtain ⟨a1, a2, a3⟩ := K.apart hr
  have hbr : b ≠ r := fun e => by have := hr.cell ⟨b, 0, none⟩ e; rw [hb] at this; cases this
  have hx : ∀ j, j < k + 1 → (if j = k then b else bx j) ≠ r := fun j hj => by
    split
    · exact hbr
    · exact a1 j (by omega)
  refine ⟨K.grow.addc hr _, .inr ⟨by omega, r, cap, rfl, hsz.2, fun j hj => ?_, fun j hj => ?_, a3, hx⟩, fun j hj => ?_, fun i j hi hj hne => ?_⟩
  · rw [addc_new]
    by_cases e : j = k
    · rw [if_pos e, e]; exact hlast
    · rw [if_neg e]; exact hold j (by omega)
  · rw [addc_new, Array.getElem?_eq_getElem (by omega)]
    simp
  · rw [addc_old (hx j hj)]
    by_cases e : j = k
    · simp only [if_pos e]
      rw [e]
      exact ⟨hb, h3⟩
    · simp only [if_neg e]
      exact K.box j (by omega)
  · show (if i = k then b else bx i) ≠ (if j = k then b else bx j)
    by_cases e : i = k
    · rw [if_pos e, if_neg (by omega)]
      exact fun h => h1 j (by omega) h.symm
    · rw [if_neg e]
      by_cases e' : j = k
      · rw [if_pos e']; exact h1 i (by omega)
      · rw [if_neg e']; exact K.inj i j (by omega) (by omega) hne

theorem TaskRow.rowc {N : Nest} {l1 l : Lo} {d k : Nat} {v9 : Value} {bx : Nat → Nat} (K : TaskRow N l1 l d k v9 bx) : ∃ xs : List Value, xs.length = k ∧ RowC l v9 xs ∧ ∀ j, j < k → xs[j]? = some (kidTask N ((kids N.n N.par d).getD j 0) (bx j)).v := by
  refine ⟨(List.range k).map fun j => (kidTask N ((kids N.n N.par d).getD j 0) (bx j)).v, by simp, ?_, fun j hj => by simp [hj]⟩
  rcases K.row with ⟨h1, h2⟩ | ⟨h1, g, cap, h2, h3, h4, h5, _⟩
  · exact .inl ⟨h2, by rw [h1]; rfl⟩
  · refine .inr ⟨g, cap, by simp [h2], by simp [h3], fun j u hj => ?_, h5⟩
    have hjl : j < k := by simpa using (List.getElem?_eq_some_iff.1 hj).1
    simp [hjl] at hj
    rw [← hj]
    exact h4 j hjl

theorem TaskRow.kids {N : Nest} {l1 l : Lo} {d g cap : Nat} {bx : Nat → Nat} (K : TaskRow N l1 l d (kids N.n N.par d).length (.slice (some ⟨g, 0, none⟩) (kids N.n N.par d).length cap) bx) (hR : l1.res.cells ⟨N.R, d, none⟩ ≠ none) (hV : l1.res.cells ⟨N.V, d, none⟩ ≠ none) : KidAt N l d g bx := by
  rcases K.row with ⟨_, h⟩ | ⟨k1, g', cap', e, k3, k4, k5, k6, k7⟩
  · cases h
  injection e with e1 e2 e3
  injection e1 with e1
  injection e1 with e1
  subst e1 e3
  exact ⟨k4, fun j hj => (K.box j hj).1, fun j hj => ⟨fun e => hR (by rw [← e]; exact (K.box j hj).2 d), fun e => hV (by rw [← e]; exact (K.box j hj).2 d), k7 j hj⟩, K.inj, fun e => hR (by rw [← e]; exact k6 d), fun e => hV (by rw [← e]; exact k6 d)⟩

theorem do_row (nt : Nat) : ∃ n, ∀ (N : Nest) (d : Nat) (E : En) (l1 l : Lo) (v9 : Value) (bx : Nat → Nat) (Post : Value → Lo → Prop), d < N.n → (∀ c, c ∈ kids N.n N.par d → Run9 N c nt) → NestRo N l → (∀ c, c ∈ kids N.n N.par d → N.raw c l.res.cells) → Fit l → TaskRow N l1 l d (kids N.n N.par d).length v9 bx → l1.res.cells ⟨N.R, d, none⟩ ≠ none → l1.res.cells ⟨N.V, d, none⟩ ≠ none →
    (∀ ov l', (∀ j, j < (kids N.n N.par d).length → ∃ O, ov = some ⟨O, 0, none⟩ ∧ l'.res.cells ⟨O, j, none⟩ = some (.int .i64 0)) → KidDone N l l' d bx → Post (.slice ov (kids N.n N.par d).length (kids N.n N.par d).length) l') →
    E.N 11 #[.pointer (some ⟨N.p, 0, none⟩), v9] n l Post := by
  obtain ⟨nd, hd⟩ := do_kids nt
  obtain ⟨nn, hn⟩ := do_none
  refine ⟨nd + nn, fun N d E l1 l v9 bx Post hdn h9 hN hraw hfit K hR hV h => ?_⟩
  rcases K.row with ⟨h1, h2⟩ | ⟨h1, g, cap, h2, _⟩
  · subst h2
    rw [h1] at h
    refine (hn E _ l Post hfit.md fun l' G => h none l' (fun j hj => by omega) ⟨fun c hc => ?_, ?_⟩).more (by omega)
    · rw [List.eq_nil_of_length_eq_zero h1] at hc; cases hc
    · exact {
        ext := ⟨G.md.trans hfit.md, G.df.trans hfit.df, G.ro, G.pl, G.gl, fun p => by rw [G.pk]; exact Nat.le_refl _, fun c x => by rw [G.cl]; exact x⟩
        cell := fun a _ hne => G.cell a hne
        tk := fun k => by
          rw [G.tk]
          unfold Nest.gets
          have := sz_eq hN.ok hdn
          rw [List.eq_nil_of_length_eq_zero h1] at this
          simp only [List.map_nil, List.sum_nil, Nat.add_zero] at this
          rw [this]
          split <;> rfl
        wg := G.wg
        wk := G.wk
        ws := G.ws
        gk := G.gk
        ob := G.ob
        sk := fun q _ => by rw [G.sk] }
  · subst h2
    refine ((hd N d E l g cap bx hdn h1 h9 hN hraw hfit (K.kids hR hV)).mono fun v l' hp => ?_).more (by omega)
    obtain ⟨⟨O, rfl, hO⟩, hK⟩ := hp
    exact h _ l' (fun j hj => ⟨O, rfl, hO j hj⟩) hK

theorem node_post {N : Nest} {d : Nat} {l l' l3 : Lo} {bx : Nat → Nat} (hmd : l.md = .act) (hdf : l.df = 0) (hN : NestRo N l) (hRd : l.res.cells ⟨N.R, d, none⟩ ≠ none) (hVd : l.res.cells ⟨N.V, d, none⟩ ≠ none) (G : Grow (l.setc ⟨N.R, d, none⟩ (.int .i64 1)) l') (hbx : ∀ j, j < (kids N.n N.par d).length → ∀ i, (l.setc ⟨N.R, d, none⟩ (.int .i64 1)).res.cells ⟨bx j, i, none⟩ = none) (hK : KidDone N l' l3 d bx) :
    l3.res.cells ⟨N.V, d, none⟩ ≠ none ∧ N.done d (l3.setc ⟨N.V, d, none⟩ (.int .i64 (val N.n N.par N.own d))).res.cells ∧ Kept (N.foot d) (fun _ => 0) (N.gets d) l (l3.setc ⟨N.V, d, none⟩ (.int .i64 (val N.n N.par N.own d))) := by
  have e1 : ∀ a, a ≠ ⟨N.R, d, none⟩ → (l.setc ⟨N.R, d, none⟩ (.int .i64 1)).res.cells a = l.res.cells a := fun a ha => by show (if _ = _ then _ else _) = _; rw [if_neg ha]
  have e0 : (l.setc ⟨N.R, d, none⟩ (.int .i64 1)).res.cells ⟨N.R, d, none⟩ = some (.int .i64 1) := by show (if _ = _ then _ else _) = _; rw [if_pos rfl]
  have nn1 : ∀ a, l.res.cells a ≠ none → (l.setc ⟨N.R, d, none⟩ (.int .i64 1)).res.cells a ≠ none := fun a ha => by
    by_cases e : a = ⟨N.R, d, none⟩
    · rw [e, e0]; simp
    · rw [e1 a e]; exact ha
  -- what lies in no child's part stays as it is behind the first store
  have stay : ∀ a, l.res.cells a ≠ none → (∀ c, c ∈ kids N.n N.par d → ¬ N.foot c a) → l3.res.cells a = (l.setc ⟨N.R, d, none⟩ (.int .i64 1)).res.cells a := fun a ha hf => by
    have h1 := G.cell a (nn1 a ha)
    rw [hK.kept.cell a (fun h => ?_) (by rw [h1]; exact nn1 a ha), h1]
    rcases h with ⟨c, hc, h⟩ | ⟨j, hj, h⟩
    · exact hf c hc h
    · exact nn1 a ha (by rw [h]; exact hbx j hj 0)
  have nofoot : ∀ (B : Nat) c, (B = N.R ∨ B = N.V) → c ∈ kids N.n N.par d → ¬ N.foot c ⟨B, d, none⟩ := fun B c _ hc h => by
    obtain ⟨x, hx, e⟩ := h
    have : d = x := by rcases e with e | e <;> exact congrArg Addr.off e
    rw [← this] at hx
    exact Sub.notUp hN.ok hc hx
  have hR3 : l3.res.cells ⟨N.R, d, none⟩ = some (.int .i64 1) := by rw [stay _ hRd (fun c hc => nofoot _ c (.inl rfl) hc), e0]
  have hV3 : l3.res.cells ⟨N.V, d, none⟩ ≠ none := by rw [stay _ hVd (fun c hc => nofoot _ c (.inr rfl) hc)]; exact nn1 _ hVd
  have s1 : ∀ a, a ≠ ⟨N.V, d, none⟩ → (l3.setc ⟨N.V, d, none⟩ (.int .i64 (val N.n N.par N.own d))).res.cells a = l3.res.cells a := fun a ha => by show (if _ = _ then _ else _) = _; rw [if_neg ha]
  have s0 : (l3.setc ⟨N.V, d, none⟩ (.int .i64 (val N.n N.par N.own d))).res.cells ⟨N.V, d, none⟩ = some (.int .i64 (val N.n N.par N.own d)) := by show (if _ = _ then _ else _) = _; rw [if_pos rfl]
  refine ⟨hV3, fun x hx => ?_, ?_⟩
  · rcases hx.down with rfl | ⟨c, hc, hcx⟩
    · exact ⟨by rw [s1 _ (by simp [hN.RV])]; exact hR3, s0⟩
    · have hne : x ≠ d := fun e => by rw [e] at hcx; exact Sub.notUp hN.ok hc hcx
      obtain ⟨h1, h2⟩ := hK.done c hc x hcx
      exact ⟨by rw [s1 _ (by simp [hne])]; exact h1, by rw [s1 _ (by simp [hne])]; exact h2⟩
  · exact {
      ext := ((show Ext l l' from ⟨G.md.trans hmd, G.df.trans hdf, G.ro, G.pl, G.gl, fun p => by rw [G.pk]; exact Nat.le_refl _, fun c x => by rw [G.cl]; exact x⟩).trans hK.kept.ext).setc _ _
      cell := fun a ha hne => by
        rw [s1 a (fun e => ha (by rw [e]; exact ⟨d, .self, .inr rfl⟩)), stay a hne (fun c hc h => ha (Nest.foot_up hc h)), e1 a (fun e => ha (by rw [e]; exact ⟨d, .self, .inl rfl⟩))]
      tk := fun k => by
        have h1 := hK.kept.tk k
        rw [G.tk] at h1
        exact h1
      wg := hK.kept.wg.trans G.wg
      wk := hK.kept.wk.trans G.wk
      ws := hK.kept.ws.trans G.ws
      gk := hK.kept.gk.trans G.gk
      ob := hK.kept.ob.trans G.ob
      sk := fun q hq => (hK.kept.sk q (by rw [G.pl]; exact hq)).trans (by rw [G.sk]; rfl) }

def Fr9a (v0 : Value) (v1 : Value) (v2 : Value) (v3 : Value) (v4 : Value) (v5 : Value) (v6 : Value) (v9 : Value) (v26 : Value) (v27 : Value) (v28 : Value) (ds : List Deferred) (a : Act) : Prop := ∃ x7 x8 x10 x11 x17 x18 x19 x20 x21 x22 x23 x24 x25 x29 x30 x31 x32 x33 x34 x35 x36 : Value, a = ⟨#[v0, v1, v2, v3, v4, v5, v6, x7, x8, v9, x10, x11, undef, undef, undef, undef, undef, x17, x18, x19, x20, x21, x22, x23, x24, x25, v26, v27, v28, x29, x30, x31, x32, x33, x34, x35, x36, undef, undef, undef, undef, undef, undef, undef, undef, undef, undef, undef, undef, undef, undef, undef, undef, undef, undef, undef, undef, undef, undef, undef, undef, undef, undef, undef, undef, undef, undef, undef, undef, undef, undef, undef, undef, undef, undef, undef, undef], ds⟩

def Fr9b (v0 : Value) (v1 : Value) (v2 : Value) (v3 : Value) (v4 : Value) (v5 : Value) (v6 : Value) (v39 : Value) (v40 : Value) (v41 : Value) (ds : List Deferred) (a : Act) : Prop := ∃ x7 x8 x9 x10 x11 x12 x13 x17 x18 x19 x20 x21 x22 x23 x24 x25 x26 x27 x28 x29 x30 x31 x32 x33 x34 x35 x36 x37 x38 x42 x43 x44 x45 x46 x47 x48 : Value, a = ⟨#[v0, v1, v2, v3, v4, v5, v6, x7, x8, x9, x10, x11, x12, x13, undef, undef, undef, x17, x18, x19, x20, x21, x22, x23, x24, x25, x26, x27, x28, x29, x30, x31, x32, x33, x34, x35, x36, x37, x38, v39, v40, v41, x42, x43, x44, x45, x46, x47, x48, undef, undef, undef, undef, undef, undef, undef, undef, undef, undef, undef, undef, undef, undef, undef, undef, undef, undef, undef, undef, undef, undef, undef, undef, undef, undef, undef, undef], ds⟩

def Fr9c (v0 : Value) (v1 : Value) (v2 : Value) (v3 : Value) (v4 : Value) (v5 : Value) (v6 : Value) (v14 : Value) (v58 : Value) (v59 : Value) (v60 : Value) (ds : List Deferred) (a : Act) : Prop := ∃ x7 x8 x9 x10 x11 x12 x13 x15 x16 x17 x18 x19 x20 x21 x22 x23 x24 x25 x26 x27 x28 x29 x30 x31 x32 x33 x34 x35 x36 x37 x38 x39 x40 x41 x42 x43 x44 x45 x46 x47 x48 x49 x50 x51 x52 x53 x54 x55 x56 x57 x61 x62 x63 x64 x65 x66 x67 x68 x69 x70 x71 x72 : Value, a = ⟨#[v0, v1, v2, v3, v4, v5, v6, x7, x8, x9, x10, x11, x12, x13, v14, x15, x16, x17, x18, x19, x20, x21, x22, x23, x24, x25, x26, x27, x28, x29, x30, x31, x32, x33, x34, x35, x36, x37, x38, x39, x40, x41, x42, x43, x44, x45, x46, x47, x48, x49, x50, x51, x52, x53, x54, x55, x56, x57, v58, v59, v60, x61, x62, x63, x64, x65, x66, x67, x68, x69, x70, x71, x72, undef, undef, undef, undef], ds⟩

def mu9b (m : Nat) (a : Act) : Nat := match (a.tmps[41]? : Option Value) with | some (.int _ x) => m - x.toNat | _ => 0
def mu9c (m : Nat) (a : Act) : Nat := match (a.tmps[60]? : Option Value) with | some (.int _ x) => m - x.toNat | _ => 0
def mu9a (m : Nat) (a : Act) : Nat := match (a.tmps[28]? : Option Value) with | some (.int _ x) => m - x.toNat | _ => 0

set_option maxHeartbeats 16000000 in
theorem node9 (nt : Nat) : ∃ nr, ∀ (N : Nest) (d : Nat), d < N.n → (∀ c, c ∈ kids N.n N.par d → Run9 N c nt) → Run9 N d nr := by
  obtain ⟨nd, hd⟩ := do_row nt
  refine ⟨_, fun N d hdn h9 E l hN hraw hfit => n_of_b (b_of (e := nd + 2) (L := 257) Try.func9 (by rfl) rfl ?_)⟩
  have hact := hfit.md
  obtain ⟨hRd, hVd⟩ := hraw d .self
  obtain ⟨Post, hPost⟩ : ∃ P : Value → Lo → Prop, P = fun v l' => v = .int .i64 0 ∧ N.done d l'.res.cells ∧ Kept (N.foot d) (fun _ => 0) (N.gets d) l l' := ⟨_, rfl⟩
  rw [← hPost]
  have hPostH : Hid (Post = fun v l' => v = .int .i64 0 ∧ N.done d l'.res.cells ∧ Kept (N.foot d) (fun _ => 0) (N.gets d) l l') := hPost
  clear hPost
  unfold bpt
  simp only [act0, Try.ntmps9, List.size_toArray, List.length_cons, List.length_nil, Nat.reduceAdd, Nat.reduceSub, Array.replicate_succ, Array.replicate_zero, List.push_toArray, List.append_toArray, List.nil_append, List.cons_append]
  repeat (first
    | (refine c_seq ?_)
    | (refine c_region ?_
       simp only [List.size_toArray, List.length_cons, List.length_nil, Nat.reduceAdd, Nat.zero_add, List.range, List.range.loop])
    | (refine o_nil ?_
       simp only [Thn, Inb, if_true, if_false, reduceIte, Nat.reduceEqDiff])
    | (refine c_skip ?_
       simp only [Thn, Inb, if_true, if_false, reduceIte, Nat.reduceEqDiff])
    | (refine c_cond true (by rfl) (fun _ => ?_) (fun e => by cases e))
    | (refine c_cond false (by rfl) (fun e => by cases e) (fun _ => ?_))
    | (refine c_block ?_)
    | (refine c_label ?_
       simp only [Thn, Inb, if_true, if_false, reduceIte, Nat.reduceEqDiff])
    | (refine c_scope ?_)
    | (refine o_cons (u_read (by omega) hact rfl (by rfl) fun w hF K' hK' => ?_)
       go_simp
       refine hK' _ ⟨?_, ?_⟩
       focus
         rw [listed_nil]
         · simp
         · (simp [go_sem]; done)
       clear hK' K' hF w
       try walk_nrm)
    | (refine o_cons (u_unwanted (by omega) rfl (by rfl) ?_)
       try walk_nrm))
  refine o_cons (u_load (.slice (some ⟨N.R, 0, none⟩) N.n N.n) (by omega) hact rfl (by rfl) rfl Try.underlying22 rfl rfl (.inr hN.bR) ?_)
  try walk_nrm
  repeat (first
    | (refine c_seq ?_)
    | (refine c_region ?_
       simp only [List.size_toArray, List.length_cons, List.length_nil, Nat.reduceAdd, Nat.zero_add, List.range, List.range.loop])
    | (refine o_nil ?_
       simp only [Thn, Inb, if_true, if_false, reduceIte, Nat.reduceEqDiff])
    | (refine c_skip ?_
       simp only [Thn, Inb, if_true, if_false, reduceIte, Nat.reduceEqDiff])
    | (refine c_cond true (by rfl) (fun _ => ?_) (fun e => by cases e))
    | (refine c_cond false (by rfl) (fun e => by cases e) (fun _ => ?_))
    | (refine c_block ?_)
    | (refine c_label ?_
       simp only [Thn, Inb, if_true, if_false, reduceIte, Nat.reduceEqDiff])
    | (refine c_scope ?_)
    | (refine o_cons (u_read (by omega) hact rfl (by rfl) fun w hF K' hK' => ?_)
       go_simp
       refine hK' _ ⟨?_, ?_⟩
       focus
         rw [listed_nil]
         · simp
         · (simp [go_sem]; done)
       clear hK' K' hF w
       try walk_nrm)
    | (refine o_cons (u_unwanted (by omega) rfl (by rfl) ?_)
       try walk_nrm))
  refine o_cons (u_index (A := ⟨N.R, 0, none⟩) (n := N.n) (c := N.n) (k := .i64) (m := d) (by omega) rfl (by rfl) rfl Try.underlying22 (by rfl) rfl rfl hdn ?_)
  try walk_nrm
  rw [Addr.add_lit, Nat.zero_add]
  refine o_cons (u_load (.int .i64 0) (by omega) hact rfl (by rfl) rfl Try.underlying3 rfl rfl (.inl hRd) ?_)
  try walk_nrm
  repeat (first
    | (refine c_seq ?_)
    | (refine c_region ?_
       simp only [List.size_toArray, List.length_cons, List.length_nil, Nat.reduceAdd, Nat.zero_add, List.range, List.range.loop])
    | (refine o_nil ?_
       simp only [Thn, Inb, if_true, if_false, reduceIte, Nat.reduceEqDiff])
    | (refine c_skip ?_
       simp only [Thn, Inb, if_true, if_false, reduceIte, Nat.reduceEqDiff])
    | (refine c_cond true (by rfl) (fun _ => ?_) (fun e => by cases e))
    | (refine c_cond false (by rfl) (fun e => by cases e) (fun _ => ?_))
    | (refine c_block ?_)
    | (refine c_label ?_
       simp only [Thn, Inb, if_true, if_false, reduceIte, Nat.reduceEqDiff])
    | (refine c_scope ?_)
    | (refine o_cons (u_read (by omega) hact rfl (by rfl) fun w hF K' hK' => ?_)
       go_simp
       refine hK' _ ⟨?_, ?_⟩
       focus
         rw [listed_nil]
         · simp
         · (simp [go_sem]; done)
       clear hK' K' hF w
       try walk_nrm)
    | (refine o_cons (u_unwanted (by omega) rfl (by rfl) ?_)
       try walk_nrm))
  refine o_cons (u_index (A := ⟨N.R, 0, none⟩) (n := N.n) (c := N.n) (k := .i64) (m := d) (by omega) rfl (by rfl) rfl Try.underlying22 (by rfl) rfl rfl hdn ?_)
  try walk_nrm
  rw [Addr.add_lit, Nat.zero_add]
  refine o_cons (u_store1 (ad := ⟨N.R, d, none⟩) (.int .i64 1) (by omega) hact rfl (by rfl) rfl (by rfl) rfl rfl rfl (by rw [hRd]; simp) ?_)
  obtain ⟨l1, hl1⟩ : ∃ l1, l1 = l.setc ⟨N.R, d, none⟩ (.int .i64 1) := ⟨_, rfl⟩
  rw [← hl1]
  have hfit1 : Fit l1 := by rw [hl1]; exact hfit.setc _ _
  have hN1 : NestRo N l1 := by rw [hl1]; exact hN.of (fun _ _ x => x) rfl
  have hact1 := hfit1.md
  try walk_nrm
  repeat (first
    | (refine c_seq ?_)
    | (refine c_region ?_
       simp only [List.size_toArray, List.length_cons, List.length_nil, Nat.reduceAdd, Nat.zero_add, List.range, List.range.loop])
    | (refine o_nil ?_
       simp only [Thn, Inb, if_true, if_false, reduceIte, Nat.reduceEqDiff])
    | (refine c_skip ?_
       simp only [Thn, Inb, if_true, if_false, reduceIte, Nat.reduceEqDiff])
    | (refine c_cond true (by rfl) (fun _ => ?_) (fun e => by cases e))
    | (refine c_cond false (by rfl) (fun e => by cases e) (fun _ => ?_))
    | (refine c_block ?_)
    | (refine c_label ?_
       simp only [Thn, Inb, if_true, if_false, reduceIte, Nat.reduceEqDiff])
    | (refine c_scope ?_)
    | (refine o_cons (u_read (by omega) hact1 rfl (by rfl) fun w hF K' hK' => ?_)
       go_simp
       refine hK' _ ⟨?_, ?_⟩
       focus
         rw [listed_nil]
         · simp
         · (simp [go_sem]; done)
       clear hK' K' hF w
       try walk_nrm)
    | (refine o_cons (u_unwanted (by omega) rfl (by rfl) ?_)
       try walk_nrm))
  obtain ⟨m, hm⟩ : ∃ m, m = (kids N.n N.par d).length := ⟨_, rfl⟩
  have hm256 : m ≤ 256 := by
    rw [hm]
    exact Nat.le_trans (Nat.le_trans (List.length_filter_le _ _) (Nat.le_of_eq List.length_range)) hN.small
  have hmH : Hid (m = (kids N.n N.par d).length) := hm
  have hrow0 := hN1.tree.outer d hdn
  rw [← hm] at hrow0
  clear hm
  obtain ⟨rv, hrv⟩ : ∃ rv : Value, rv = .slice (N.rb d) m (N.rc d) := ⟨_, rfl⟩
  rw [← hrv] at hrow0
  have hrvH : Hid (rv = .slice (N.rb d) m (N.rc d)) := hrv
  clear hrv
  refine o_cons (u_load (.slice (some ⟨N.Ch, 0, none⟩) N.n N.n) (by omega) hact1 rfl (by rfl) rfl Try.underlying26 rfl rfl (.inr hN1.bC) ?_)
  try walk_nrm
  repeat (first
    | (refine c_seq ?_)
    | (refine c_region ?_
       simp only [List.size_toArray, List.length_cons, List.length_nil, Nat.reduceAdd, Nat.zero_add, List.range, List.range.loop])
    | (refine o_nil ?_
       simp only [Thn, Inb, if_true, if_false, reduceIte, Nat.reduceEqDiff])
    | (refine c_skip ?_
       simp only [Thn, Inb, if_true, if_false, reduceIte, Nat.reduceEqDiff])
    | (refine c_cond true (by rfl) (fun _ => ?_) (fun e => by cases e))
    | (refine c_cond false (by rfl) (fun e => by cases e) (fun _ => ?_))
    | (refine c_block ?_)
    | (refine c_label ?_
       simp only [Thn, Inb, if_true, if_false, reduceIte, Nat.reduceEqDiff])
    | (refine c_scope ?_)
    | (refine o_cons (u_read (by omega) hact1 rfl (by rfl) fun w hF K' hK' => ?_)
       go_simp
       refine hK' _ ⟨?_, ?_⟩
       focus
         rw [listed_nil]
         · simp
         · (simp [go_sem]; done)
       clear hK' K' hF w
       try walk_nrm)
    | (refine o_cons (u_unwanted (by omega) rfl (by rfl) ?_)
       try walk_nrm))
  refine o_cons (u_index (A := ⟨N.Ch, 0, none⟩) (n := N.n) (c := N.n) (k := .i64) (m := d) (by omega) rfl (by rfl) rfl Try.underlying26 (by rfl) rfl rfl hdn ?_)
  try walk_nrm
  rw [Addr.add_lit, Nat.zero_add]
  refine o_cons (u_load rv (by omega) hact1 rfl (by rfl) rfl Try.underlying22 rfl rfl (.inr hrow0) ?_)
  rw [hrvH.out]
  try walk_nrm
  repeat (first
    | (refine c_seq ?_)
    | (refine c_region ?_
       simp only [List.size_toArray, List.length_cons, List.length_nil, Nat.reduceAdd, Nat.zero_add, List.range, List.range.loop])
    | (refine o_nil ?_
       simp only [Thn, Inb, if_true, if_false, reduceIte, Nat.reduceEqDiff])
    | (refine c_skip ?_
       simp only [Thn, Inb, if_true, if_false, reduceIte, Nat.reduceEqDiff])
    | (refine c_cond true (by rfl) (fun _ => ?_) (fun e => by cases e))
    | (refine c_cond false (by rfl) (fun e => by cases e) (fun _ => ?_))
    | (refine c_block ?_)
    | (refine c_label ?_
       simp only [Thn, Inb, if_true, if_false, reduceIte, Nat.reduceEqDiff])
    | (refine c_scope ?_)
    | (refine o_cons (u_read (by omega) hact1 rfl (by rfl) fun w hF K' hK' => ?_)
       go_simp
       refine hK' _ ⟨?_, ?_⟩
       focus
         rw [listed_nil]
         · simp
         · (simp [go_sem]; done)
       clear hK' K' hF w
       try walk_nrm)
    | (refine o_cons (u_unwanted (by omega) rfl (by rfl) ?_)
       try walk_nrm))
  rw [← hrvH.out]
  refine c_loop (fun a' l' => ∃ k v9 bx, k ≤ m ∧ TaskRow N l1 l' d k v9 bx ∧ Fr9a (.int .i64 (d : Nat)) (.pointer (some ⟨N.bR, 0, none⟩)) (.pointer (some ⟨N.bC, 0, none⟩)) (.pointer (some ⟨N.bF, 0, none⟩)) (.pointer (some ⟨N.bP, 0, none⟩)) (.pointer (some ⟨N.bT, 0, none⟩)) (.pointer (some ⟨N.bV, 0, none⟩)) v9 rv (.int .i64 (m : Nat)) (.int .i64 (k : Nat)) [] a') (fun a' _ => mu9a m a') ⟨0, .slice none 0 0, fun _ => 0, Nat.zero_le _, ⟨Grow.refl _, .inl ⟨rfl, rfl⟩, fun j hj => by omega, fun i j hi => by omega⟩, ?_⟩ ?_ ?_
  focus
    exact ⟨_, _, _, _, _, _, _, _, _, _, _, _, _, _, _, _, _, _, _, _, _, rfl⟩
  focus
    show m - 0 ≤ _
    omega
  intro a' l' hI
  obtain ⟨k, v9, bx, hkm, K, hfr⟩ := hI
  obtain ⟨x7, x8, x10, x11, x17, x18, x19, x20, x21, x22, x23, x24, x25, x29, x30, x31, x32, x33, x34, x35, x36, rfl⟩ := hfr
  rw [show mu9a m _ = m - k from rfl]
  have hactl : l'.md = .act := K.grow.md.trans hact1
  have hw2 : IntKind.i64.wrap ((k : Int) + 1) = (k : Int) + 1 := by rw [IntKind.wrap_i64]; omega
  by_cases hlt : k < m
  · have hde : decide ((k : Int) < (m : Int)) = true := by simp; omega
    repeat (first
      | (refine c_seq ?_)
      | (refine c_region ?_
         simp only [List.size_toArray, List.length_cons, List.length_nil, Nat.reduceAdd, Nat.zero_add, List.range, List.range.loop])
      | (refine o_nil ?_
         simp only [Thn, Inb, if_true, if_false, reduceIte, Nat.reduceEqDiff])
      | (refine c_skip ?_
         simp only [Thn, Inb, if_true, if_false, reduceIte, Nat.reduceEqDiff])
      | (refine c_cond true (by rfl) (fun _ => ?_) (fun e => by cases e))
      | (refine c_cond false (by rfl) (fun e => by cases e) (fun _ => ?_))
      | (refine c_block ?_)
      | (refine c_label ?_
         simp only [Thn, Inb, if_true, if_false, reduceIte, Nat.reduceEqDiff])
      | (refine c_scope ?_)
      | (refine o_cons (u_read (by omega) hactl rfl (by rfl) fun w hF K' hK' => ?_)
         go_simp
         refine hK' _ ⟨?_, ?_⟩
         focus
           rw [listed_nil]
           · simp
           · (simp [go_sem]; done)
         clear hK' K' hF w
         try walk_nrm)
      | (refine o_cons (u_unwanted (by omega) rfl (by rfl) ?_)
         try walk_nrm))
    have hlk : k < (kids N.n N.par d).length := by rw [← hmH.out]; exact hlt
    obtain ⟨Rw, hRw, hrow⟩ := hN1.tree.row d k hdn hlk
    obtain ⟨kc, hkc⟩ : ∃ kc, kc = (kids N.n N.par d).getD k 0 := ⟨_, rfl⟩
    rw [← hkc] at hrow
    have hkcH : Hid (kc = (kids N.n N.par d).getD k 0) := hkc
    clear hkc
    refine o_cons (u_index (A := Rw) (n := m) (c := N.rc d) (k := .i64) (m := k) (by omega) rfl (by rfl) rfl Try.underlying22 (by rfl) (by show rv = _; rw [hrvH.out, hRw]) rfl hlt ?_)
    try walk_nrm
    refine o_cons (u_load (.int .i64 (kc : Nat)) (by omega) hactl rfl (by rfl) rfl Try.underlying3 rfl rfl (.inr (K.grow.ro _ _ hrow)) ?_)
    try walk_nrm
    refine o_cons (u_new (by omega) hactl rfl (by rfl) (.cells #[.int .i64 0] 3) (fun r => .pointer (some ⟨r, 0, none⟩)) (fun r => l'.addc r #[.int .i64 0]) (fun w => by simp [go_sem]) (fun w => by simp [go_sem]) (new_cells hactl _ _) fun b hb => ?_)
    obtain ⟨l2, hl2⟩ : ∃ l2, l2 = l'.addc b #[.int .i64 0] := ⟨_, rfl⟩
    rw [← hl2]
    have g2 : Grow l' l2 := by rw [hl2]; exact (Grow.refl _).addc hb _
    have hact2 : l2.md = .act := g2.md.trans hactl
    have hb2 : l2.res.cells ⟨b, 0, none⟩ = some (.int .i64 0) := by rw [hl2, addc_new]; rfl
    try walk_nrm
    refine o_cons (u_store1 (ad := ⟨b, 0, none⟩) (.int .i64 (kc : Nat)) (by omega) hact2 rfl (by rfl) rfl (by rfl) rfl rfl rfl (by rw [hb2]; simp) ?_)
    obtain ⟨l3, hl3⟩ : ∃ l3, l3 = l2.setc ⟨b, 0, none⟩ (.int .i64 (kc : Nat)) := ⟨_, rfl⟩
    rw [← hl3]
    have g3 : Grow l' l3 := by rw [hl3]; exact g2.setc (hb.cell _ rfl) _
    have hact3 : l3.md = .act := g3.md.trans hactl
    have hb3 : l3.res.cells ⟨b, 0, none⟩ = some (.int .i64 (kc : Nat)) := by rw [hl3]; show (if _ = _ then _ else _) = _; rw [if_pos rfl]
    try walk_nrm
    repeat (first
      | (refine c_seq ?_)
      | (refine c_region ?_
         simp only [List.size_toArray, List.length_cons, List.length_nil, Nat.reduceAdd, Nat.zero_add, List.range, List.range.loop])
      | (refine o_nil ?_
         simp only [Thn, Inb, if_true, if_false, reduceIte, Nat.reduceEqDiff])
      | (refine c_skip ?_
         simp only [Thn, Inb, if_true, if_false, reduceIte, Nat.reduceEqDiff])
      | (refine c_cond true (by rfl) (fun _ => ?_) (fun e => by cases e))
      | (refine c_cond false (by rfl) (fun e => by cases e) (fun _ => ?_))
      | (refine c_block ?_)
      | (refine c_label ?_
         simp only [Thn, Inb, if_true, if_false, reduceIte, Nat.reduceEqDiff])
      | (refine c_scope ?_)
      | (refine o_cons (u_read (by omega) hact3 rfl (by rfl) fun w hF K' hK' => ?_)
         go_simp
         refine hK' _ ⟨?_, ?_⟩
         focus
           rw [listed_nil]
           · simp
           · (simp [go_sem]; done)
         clear hK' K' hF w
         try walk_nrm)
      | (refine o_cons (u_unwanted (by omega) rfl (by rfl) ?_)
         try walk_nrm))
    refine o_cons (u_new (by omega) hact3 rfl (by rfl) (.cells #[(kidTask N kc b).v] 34) (fun r => .slice (some ⟨r, 0, none⟩) 1 1) (fun r => l3.addc r #[(kidTask N kc b).v]) (fun w => ?_) (fun w => ?_) (new_cells hact3 _ _) fun T hT => ?_)
    · simp [go_sem, kidTask, bpt]
    · simp [go_sem]
    obtain ⟨l4, hl4⟩ : ∃ l4, l4 = l3.addc T #[(kidTask N kc b).v] := ⟨_, rfl⟩
    rw [← hl4]
    have g4 : Grow l' l4 := by rw [hl4]; exact g3.addc hT _
    have hact4 : l4.md = .act := g4.md.trans hactl
    have hT4 : l4.res.cells ⟨T, 0, none⟩ = some (kidTask N kc b).v := by rw [hl4, addc_new]; rfl
    have hTb : b ≠ T := fun e => by have := hT.cell ⟨b, 0, none⟩ e; rw [hb3] at this; cases this
    have hb4 : l4.res.cells ⟨b, 0, none⟩ = some (.int .i64 (kc : Nat)) := by rw [hl4, addc_old hTb]; exact hb3
    have K4 := K.more g4
    obtain ⟨p1, p2, p3⟩ := K.apart hb
    obtain ⟨xs, hxl, hxr, hxj⟩ := K4.rowc
    clear hl2 hl3 hl4 hb2 hb3 hact2 hact3 g2 g3 hT
    rw [hkcH.out] at hb4 hT4
    try walk_nrm
    refine o_cons (u_append (T := T) (c := 1) xs (kidTask N ((kids N.n N.par d).getD k 0) b).v (by omega) hact4 rfl (by rfl) rfl Try.underlying33 Try.type34 rfl rfl (by decide) rfl rfl rfl hT4 rfl hxr (by omega) (fun g cap hv hlc => ?_) (fun r q hr => ?_))
    all_goals try walk_nrm
    · have hv : v9 = .slice (some ⟨g, 0, none⟩) xs.length cap := hv
      rw [hxl] at hv hlc ⊢
      subst hv
      have K5 := K4.room hlc hb4 p1 (p2 _ _ _ rfl) p3
      obtain ⟨l5, hl5⟩ : ∃ l5, l5 = l4.setc ⟨g, k, none⟩ (kidTask N ((kids N.n N.par d).getD k 0) b).v := ⟨_, rfl⟩
      rw [← hl5] at K5 ⊢
      have hact5 : l5.md = .act := K5.grow.md.trans hact1
      clear hl5
      try walk_nrm
      repeat (first
        | (refine c_seq ?_)
        | (refine c_region ?_
           simp only [List.size_toArray, List.length_cons, List.length_nil, Nat.reduceAdd, Nat.zero_add, List.range, List.range.loop])
        | (refine o_nil ?_
           simp only [Thn, Inb, if_true, if_false, reduceIte, Nat.reduceEqDiff])
        | (refine c_skip ?_
           simp only [Thn, Inb, if_true, if_false, reduceIte, Nat.reduceEqDiff])
        | (refine c_cond true (by rfl) (fun _ => ?_) (fun e => by cases e))
        | (refine c_cond false (by rfl) (fun e => by cases e) (fun _ => ?_))
        | (refine c_block ?_)
        | (refine c_label ?_
           simp only [Thn, Inb, if_true, if_false, reduceIte, Nat.reduceEqDiff])
        | (refine c_scope ?_)
        | (refine o_cons (u_read (by omega) hact5 rfl (by rfl) fun w hF K' hK' => ?_)
           go_simp
           refine hK' _ ⟨?_, ?_⟩
           focus
             rw [listed_nil]
             · simp
             · (simp [go_sem]; done)
           clear hK' K' hF w
           try walk_nrm)
        | (refine o_cons (u_unwanted (by omega) rfl (by rfl) ?_)
           try walk_nrm))
      refine ⟨⟨k + 1, _, _, by omega, K5, ?_⟩, ?_⟩
      · exact ⟨_, _, _, _, _, _, _, _, _, _, _, _, _, _, _, _, _, _, _, _, _, rfl⟩
      · show m - (k + 1) < m - k
        omega
    · rw [hxl]
      have K5 := K4.fresh hr (cc := (xs ++ [(kidTask N ((kids N.n N.par d).getD k 0) b).v]).toArray ++ Array.replicate q .nilFunc) (cap := k + 1 + q) ⟨by simp [hxl], by omega⟩ (fun j hj => by
          have := hxj j hj
          rw [Array.getElem?_append_left (by simp; omega)]
          simp only [List.getElem?_toArray]
          rw [List.getElem?_append_left (by omega)]
          exact this) (by
          rw [Array.getElem?_append_left (by simp; omega)]
          simp only [List.getElem?_toArray]
          rw [List.getElem?_append_right (by omega)]
          simp [hxl]) hb4 p1 p3
      obtain ⟨l5, hl5⟩ : ∃ l5, l5 = l4.addc r ((xs ++ [(kidTask N ((kids N.n N.par d).getD k 0) b).v]).toArray ++ Array.replicate q .nilFunc) := ⟨_, rfl⟩
      rw [← hl5] at K5 ⊢
      have hact5 : l5.md = .act := K5.grow.md.trans hact1
      clear hl5
      try walk_nrm
      repeat (first
        | (refine c_seq ?_)
        | (refine c_region ?_
           simp only [List.size_toArray, List.length_cons, List.length_nil, Nat.reduceAdd, Nat.zero_add, List.range, List.range.loop])
        | (refine o_nil ?_
           simp only [Thn, Inb, if_true, if_false, reduceIte, Nat.reduceEqDiff])
        | (refine c_skip ?_
           simp only [Thn, Inb, if_true, if_false, reduceIte, Nat.reduceEqDiff])
        | (refine c_cond true (by rfl) (fun _ => ?_) (fun e => by cases e))
        | (refine c_cond false (by rfl) (fun e => by cases e) (fun _ => ?_))
        | (refine c_block ?_)
        | (refine c_label ?_
           simp only [Thn, Inb, if_true, if_false, reduceIte, Nat.reduceEqDiff])
        | (refine c_scope ?_)
        | (refine o_cons (u_read (by omega) hact5 rfl (by rfl) fun w hF K' hK' => ?_)
           go_simp
           refine hK' _ ⟨?_, ?_⟩
           focus
             rw [listed_nil]
             · simp
             · (simp [go_sem]; done)
           clear hK' K' hF w
           try walk_nrm)
        | (refine o_cons (u_unwanted (by omega) rfl (by rfl) ?_)
           try walk_nrm))
      refine ⟨⟨k + 1, _, _, by omega, K5, ?_⟩, ?_⟩
      · exact ⟨_, _, _, _, _, _, _, _, _, _, _, _, _, _, _, _, _, _, _, _, _, rfl⟩
      · show m - (k + 1) < m - k
        omega
  have hde : decide ((k : Int) < (m : Int)) = false := by simp; omega
  have hkm' : k = m := by omega
  rw [hkm'] at K
  clear hkm hw2 hlt
  repeat (first
    | (refine c_seq ?_)
    | (refine c_region ?_
       simp only [List.size_toArray, List.length_cons, List.length_nil, Nat.reduceAdd, Nat.zero_add, List.range, List.range.loop])
    | (refine o_nil ?_
       simp only [Thn, Inb, if_true, if_false, reduceIte, Nat.reduceEqDiff])
    | (refine c_skip ?_
       simp only [Thn, Inb, if_true, if_false, reduceIte, Nat.reduceEqDiff])
    | (refine c_cond true (by rfl) (fun _ => ?_) (fun e => by cases e))
    | (refine c_cond false (by rfl) (fun e => by cases e) (fun _ => ?_))
    | (refine c_block ?_)
    | (refine c_label ?_
       simp only [Thn, Inb, if_true, if_false, reduceIte, Nat.reduceEqDiff])
    | (refine c_scope ?_)
    | (refine o_cons (u_read (by omega) hactl rfl (by rfl) fun w hF K' hK' => ?_)
       go_simp
       refine hK' _ ⟨?_, ?_⟩
       focus
         rw [listed_nil]
         · simp
         · (simp [go_sem]; done)
       clear hK' K' hF w
       try walk_nrm)
    | (refine o_cons (u_unwanted (by omega) rfl (by rfl) ?_)
       try walk_nrm))
  refine c_exit ?_
  simp only [Thn, Inb, if_true, reduceIte]
  repeat (first
    | (refine c_seq ?_)
    | (refine c_region ?_
       simp only [List.size_toArray, List.length_cons, List.length_nil, Nat.reduceAdd, Nat.zero_add, List.range, List.range.loop])
    | (refine o_nil ?_
       simp only [Thn, Inb, if_true, if_false, reduceIte, Nat.reduceEqDiff])
    | (refine c_skip ?_
       simp only [Thn, Inb, if_true, if_false, reduceIte, Nat.reduceEqDiff])
    | (refine c_cond true (by rfl) (fun _ => ?_) (fun e => by cases e))
    | (refine c_cond false (by rfl) (fun e => by cases e) (fun _ => ?_))
    | (refine c_block ?_)
    | (refine c_label ?_
       simp only [Thn, Inb, if_true, if_false, reduceIte, Nat.reduceEqDiff])
    | (refine c_scope ?_)
    | (refine o_cons (u_read (by omega) hactl rfl (by rfl) fun w hF K' hK' => ?_)
       go_simp
       refine hK' _ ⟨?_, ?_⟩
       focus
         rw [listed_nil]
         · simp
         · (simp [go_sem]; done)
       clear hK' K' hF w
       try walk_nrm)
    | (refine o_cons (u_unwanted (by omega) rfl (by rfl) ?_)
       try walk_nrm))
  refine o_cons (u_load (.pointer (some ⟨N.p, 0, none⟩)) (by omega) hactl rfl (by rfl) rfl Try.underlying29 rfl rfl (.inr (K.grow.ro _ _ hN1.bP)) ?_)
  try walk_nrm
  repeat (first
    | (refine c_seq ?_)
    | (refine c_region ?_
       simp only [List.size_toArray, List.length_cons, List.length_nil, Nat.reduceAdd, Nat.zero_add, List.range, List.range.loop])
    | (refine o_nil ?_
       simp only [Thn, Inb, if_true, if_false, reduceIte, Nat.reduceEqDiff])
    | (refine c_skip ?_
       simp only [Thn, Inb, if_true, if_false, reduceIte, Nat.reduceEqDiff])
    | (refine c_cond true (by rfl) (fun _ => ?_) (fun e => by cases e))
    | (refine c_cond false (by rfl) (fun e => by cases e) (fun _ => ?_))
    | (refine c_block ?_)
    | (refine c_label ?_
       simp only [Thn, Inb, if_true, if_false, reduceIte, Nat.reduceEqDiff])
    | (refine c_scope ?_)
    | (refine o_cons (u_read (by omega) hactl rfl (by rfl) fun w hF K' hK' => ?_)
       go_simp
       refine hK' _ ⟨?_, ?_⟩
       focus
         rw [listed_nil]
         · simp
         · (simp [go_sem]; done)
       clear hK' K' hF w
       try walk_nrm)
    | (refine o_cons (u_unwanted (by omega) rfl (by rfl) ?_)
       try walk_nrm))
  refine o_cons (u_callx (n := nd) #[.pointer (some ⟨N.p, 0, none⟩), v9] (by omega) rfl (by rfl) rfl (by walk_nrm) ?_)
  have c1 : ∀ a, a ≠ ⟨N.R, d, none⟩ → l1.res.cells a = l.res.cells a := fun a ha => by rw [hl1]; show (if _ = _ then _ else _) = _; rw [if_neg ha]
  have hR1 : l1.res.cells ⟨N.R, d, none⟩ = some (.int .i64 1) := by rw [hl1]; show (if _ = _ then _ else _) = _; rw [if_pos rfl]
  have hV1 : l1.res.cells ⟨N.V, d, none⟩ = some (.int .i64 0) := by rw [c1 _ (by simp [Ne.symm hN.RV])]; exact hVd
  have hraw1 : ∀ c, c ∈ kids N.n N.par d → N.raw c l'.res.cells := fun c hc => by
    have hr : N.raw c l.res.cells := fun x hx => hraw x (Sub.up hc hx)
    refine hr.of fun a ha => ?_
    have h1 : l1.res.cells a = l.res.cells a := c1 a fun e => by
      rw [e] at ha
      obtain ⟨x, hx, e | e⟩ := ha
      · have : d = x := congrArg Addr.off e
        rw [← this] at hx
        exact Sub.notUp hN.ok hc hx
      · exact hN.RV (congrArg Addr.block e)
    rw [K.grow.cell a (by rw [h1]; exact hr.own a ha), h1]
  refine hd N d E l1 l' v9 bx _ hdn h9 (hN1.of K.grow.ro K.grow.pl) hraw1 (hfit1.grow K.grow) (by rw [← hmH.out]; exact K) (by rw [hR1]; simp) (by rw [hV1]; simp) fun ov l3 hov hK3 => ?_
  rw [← hmH.out] at hov ⊢
  have hact3 := hK3.kept.ext.md
  try walk_nrm
  repeat (first
    | (refine c_seq ?_)
    | (refine c_region ?_
       simp only [List.size_toArray, List.length_cons, List.length_nil, Nat.reduceAdd, Nat.zero_add, List.range, List.range.loop])
    | (refine o_nil ?_
       simp only [Thn, Inb, if_true, if_false, reduceIte, Nat.reduceEqDiff])
    | (refine c_skip ?_
       simp only [Thn, Inb, if_true, if_false, reduceIte, Nat.reduceEqDiff])
    | (refine c_cond true (by rfl) (fun _ => ?_) (fun e => by cases e))
    | (refine c_cond false (by rfl) (fun e => by cases e) (fun _ => ?_))
    | (refine c_block ?_)
    | (refine c_label ?_
       simp only [Thn, Inb, if_true, if_false, reduceIte, Nat.reduceEqDiff])
    | (refine c_scope ?_)
    | (refine o_cons (u_read (by omega) hact3 rfl (by rfl) fun w hF K' hK' => ?_)
       go_simp
       refine hK' _ ⟨?_, ?_⟩
       focus
         rw [listed_nil]
         · simp
         · (simp [go_sem]; done)
       clear hK' K' hF w
       try walk_nrm)
    | (refine o_cons (u_unwanted (by omega) rfl (by rfl) ?_)
       try walk_nrm))
  refine c_loop (fun a' l' => l' = l3 ∧ ∃ k, k ≤ m ∧ Fr9b (.int .i64 (d : Nat)) (.pointer (some ⟨N.bR, 0, none⟩)) (.pointer (some ⟨N.bC, 0, none⟩)) (.pointer (some ⟨N.bF, 0, none⟩)) (.pointer (some ⟨N.bP, 0, none⟩)) (.pointer (some ⟨N.bT, 0, none⟩)) (.pointer (some ⟨N.bV, 0, none⟩)) (.slice ov m m) (.int .i64 (m : Nat)) (.int .i64 (k : Nat)) [] a') (fun a' _ => mu9b m a') ⟨rfl, 0, Nat.zero_le _, ?_⟩ ?_ ?_
  focus
    exact ⟨_, _, _, _, _, _, _, _, _, _, _, _, _, _, _, _, _, _, _, _, _, _, _, _, _, _, _, _, _, _, _, _, _, _, _, _, rfl⟩
  focus
    show m - 0 ≤ _
    omega
  clear hde hkm'
  intro a' l'' hI
  obtain ⟨rfl, k, hkm, hfr⟩ := hI
  obtain ⟨x7, x8, x9, x10, x11, x12, x13, x17, x18, x19, x20, x21, x22, x23, x24, x25, x26, x27, x28, x29, x30, x31, x32, x33, x34, x35, x36, x37, x38, x42, x43, x44, x45, x46, x47, x48, rfl⟩ := hfr
  rw [show mu9b m _ = m - k from rfl]
  have hw2 : IntKind.i64.wrap ((k : Int) + 1) = (k : Int) + 1 := by rw [IntKind.wrap_i64]; omega
  by_cases hlt : k < m
  · have hde : decide ((k : Int) < (m : Int)) = true := by simp; omega
    obtain ⟨O, hO, hOk⟩ := hov k hlt
    have hOH : Hid (ov = some ⟨O, 0, none⟩) := hO
    clear hO
    repeat (first
      | (refine c_seq ?_)
      | (refine c_region ?_
         simp only [List.size_toArray, List.length_cons, List.length_nil, Nat.reduceAdd, Nat.zero_add, List.range, List.range.loop])
      | (refine o_nil ?_
         simp only [Thn, Inb, if_true, if_false, reduceIte, Nat.reduceEqDiff])
      | (refine c_skip ?_
         simp only [Thn, Inb, if_true, if_false, reduceIte, Nat.reduceEqDiff])
      | (refine c_cond true (by rfl) (fun _ => ?_) (fun e => by cases e))
      | (refine c_cond false (by rfl) (fun e => by cases e) (fun _ => ?_))
      | (refine c_block ?_)
      | (refine c_label ?_
         simp only [Thn, Inb, if_true, if_false, reduceIte, Nat.reduceEqDiff])
      | (refine c_scope ?_)
      | (refine o_cons (u_read (by omega) hact3 rfl (by rfl) fun w hF K' hK' => ?_)
         go_simp
         refine hK' _ ⟨?_, ?_⟩
         focus
           rw [listed_nil]
           · simp
           · (simp [go_sem]; done)
         clear hK' K' hF w
         try walk_nrm)
      | (refine o_cons (u_unwanted (by omega) rfl (by rfl) ?_)
         try walk_nrm))
    refine o_cons (u_index (A := ⟨O, 0, none⟩) (n := m) (c := m) (k := .i64) (m := k) (by omega) rfl (by rfl) rfl Try.underlying35 (by rfl) (by show Value.slice ov m m = _; rw [hOH.out]) rfl hlt ?_)
    try walk_nrm
    rw [Addr.add_lit, Nat.zero_add]
    refine o_cons (u_load (.int .i64 0) (by omega) hact3 rfl (by rfl) rfl Try.underlying32 rfl rfl (.inl hOk) ?_)
    try walk_nrm
    repeat (first
      | (refine c_seq ?_)
      | (refine c_region ?_
         simp only [List.size_toArray, List.length_cons, List.length_nil, Nat.reduceAdd, Nat.zero_add, List.range, List.range.loop])
      | (refine o_nil ?_
         simp only [Thn, Inb, if_true, if_false, reduceIte, Nat.reduceEqDiff])
      | (refine c_skip ?_
         simp only [Thn, Inb, if_true, if_false, reduceIte, Nat.reduceEqDiff])
      | (refine c_cond true (by rfl) (fun _ => ?_) (fun e => by cases e))
      | (refine c_cond false (by rfl) (fun e => by cases e) (fun _ => ?_))
      | (refine c_block ?_)
      | (refine c_label ?_
         simp only [Thn, Inb, if_true, if_false, reduceIte, Nat.reduceEqDiff])
      | (refine c_scope ?_)
      | (refine o_cons (u_read (by omega) hact3 rfl (by rfl) fun w hF K' hK' => ?_)
         go_simp
         refine hK' _ ⟨?_, ?_⟩
         focus
           rw [listed_nil]
           · simp
           · (simp [go_sem]; done)
         clear hK' K' hF w
         try walk_nrm)
      | (refine o_cons (u_unwanted (by omega) rfl (by rfl) ?_)
         try walk_nrm))
    refine ⟨⟨(by first | rfl | trivial), k + 1, by omega, ?_⟩, ?_⟩
    · exact ⟨_, _, _, _, _, _, _, _, _, _, _, _, _, _, _, _, _, _, _, _, _, _, _, _, _, _, _, _, _, _, _, _, _, _, _, _, rfl⟩
    · show m - (k + 1) < m - k
      omega
  have hde : decide ((k : Int) < (m : Int)) = false := by simp; omega
  have hkm' : k = m := by omega
  clear hkm hw2 hlt hov
  repeat (first
    | (refine c_seq ?_)
    | (refine c_region ?_
       simp only [List.size_toArray, List.length_cons, List.length_nil, Nat.reduceAdd, Nat.zero_add, List.range, List.range.loop])
    | (refine o_nil ?_
       simp only [Thn, Inb, if_true, if_false, reduceIte, Nat.reduceEqDiff])
    | (refine c_skip ?_
       simp only [Thn, Inb, if_true, if_false, reduceIte, Nat.reduceEqDiff])
    | (refine c_cond true (by rfl) (fun _ => ?_) (fun e => by cases e))
    | (refine c_cond false (by rfl) (fun e => by cases e) (fun _ => ?_))
    | (refine c_block ?_)
    | (refine c_label ?_
       simp only [Thn, Inb, if_true, if_false, reduceIte, Nat.reduceEqDiff])
    | (refine c_scope ?_)
    | (refine o_cons (u_read (by omega) hact3 rfl (by rfl) fun w hF K' hK' => ?_)
       go_simp
       refine hK' _ ⟨?_, ?_⟩
       focus
         rw [listed_nil]
         · simp
         · (simp [go_sem]; done)
       clear hK' K' hF w
       try walk_nrm)
    | (refine o_cons (u_unwanted (by omega) rfl (by rfl) ?_)
       try walk_nrm))
  refine c_exit ?_
  simp only [Thn, Inb, if_true, reduceIte]
  repeat (first
    | (refine c_seq ?_)
    | (refine c_region ?_
       simp only [List.size_toArray, List.length_cons, List.length_nil, Nat.reduceAdd, Nat.zero_add, List.range, List.range.loop])
    | (refine o_nil ?_
       simp only [Thn, Inb, if_true, if_false, reduceIte, Nat.reduceEqDiff])
    | (refine c_skip ?_
       simp only [Thn, Inb, if_true, if_false, reduceIte, Nat.reduceEqDiff])
    | (refine c_cond true (by rfl) (fun _ => ?_) (fun e => by cases e))
    | (refine c_cond false (by rfl) (fun e => by cases e) (fun _ => ?_))
    | (refine c_block ?_)
    | (refine c_label ?_
       simp only [Thn, Inb, if_true, if_false, reduceIte, Nat.reduceEqDiff])
    | (refine c_scope ?_)
    | (refine o_cons (u_read (by omega) hact3 rfl (by rfl) fun w hF K' hK' => ?_)
       go_simp
       refine hK' _ ⟨?_, ?_⟩
       focus
         rw [listed_nil]
         · simp
         · (simp [go_sem]; done)
       clear hK' K' hF w
       try walk_nrm)
    | (refine o_cons (u_unwanted (by omega) rfl (by rfl) ?_)
       try walk_nrm))
  have hN3 : NestRo N l'' := (hN1.of K.grow.ro K.grow.pl).ext hK3.kept.ext
  refine o_cons (u_load (.slice (some N.A) N.n N.co) (by omega) hact3 rfl (by rfl) rfl Try.underlying22 rfl rfl (.inr hN3.bT) ?_)
  try walk_nrm
  repeat (first
    | (refine c_seq ?_)
    | (refine c_region ?_
       simp only [List.size_toArray, List.length_cons, List.length_nil, Nat.reduceAdd, Nat.zero_add, List.range, List.range.loop])
    | (refine o_nil ?_
       simp only [Thn, Inb, if_true, if_false, reduceIte, Nat.reduceEqDiff])
    | (refine c_skip ?_
       simp only [Thn, Inb, if_true, if_false, reduceIte, Nat.reduceEqDiff])
    | (refine c_cond true (by rfl) (fun _ => ?_) (fun e => by cases e))
    | (refine c_cond false (by rfl) (fun e => by cases e) (fun _ => ?_))
    | (refine c_block ?_)
    | (refine c_label ?_
       simp only [Thn, Inb, if_true, if_false, reduceIte, Nat.reduceEqDiff])
    | (refine c_scope ?_)
    | (refine o_cons (u_read (by omega) hact3 rfl (by rfl) fun w hF K' hK' => ?_)
       go_simp
       refine hK' _ ⟨?_, ?_⟩
       focus
         rw [listed_nil]
         · simp
         · (simp [go_sem]; done)
       clear hK' K' hF w
       try walk_nrm)
    | (refine o_cons (u_unwanted (by omega) rfl (by rfl) ?_)
       try walk_nrm))
  refine o_cons (u_index (A := N.A) (n := N.n) (c := N.co) (k := .i64) (m := d) (by omega) rfl (by rfl) rfl Try.underlying22 (by rfl) rfl rfl hdn ?_)
  try walk_nrm
  refine o_cons (u_load (.int .i64 (N.own d)) (by omega) hact3 rfl (by rfl) rfl Try.underlying3 rfl rfl (.inr (hN3.tree.own d hdn)) ?_)
  try walk_nrm
  repeat (first
    | (refine c_seq ?_)
    | (refine c_region ?_
       simp only [List.size_toArray, List.length_cons, List.length_nil, Nat.reduceAdd, Nat.zero_add, List.range, List.range.loop])
    | (refine o_nil ?_
       simp only [Thn, Inb, if_true, if_false, reduceIte, Nat.reduceEqDiff])
    | (refine c_skip ?_
       simp only [Thn, Inb, if_true, if_false, reduceIte, Nat.reduceEqDiff])
    | (refine c_cond true (by rfl) (fun _ => ?_) (fun e => by cases e))
    | (refine c_cond false (by rfl) (fun e => by cases e) (fun _ => ?_))
    | (refine c_block ?_)
    | (refine c_label ?_
       simp only [Thn, Inb, if_true, if_false, reduceIte, Nat.reduceEqDiff])
    | (refine c_scope ?_)
    | (refine o_cons (u_read (by omega) hact3 rfl (by rfl) fun w hF K' hK' => ?_)
       go_simp
       refine hK' _ ⟨?_, ?_⟩
       focus
         rw [listed_nil]
         · simp
         · (simp [go_sem]; done)
       clear hK' K' hF w
       try walk_nrm)
    | (refine o_cons (u_unwanted (by omega) rfl (by rfl) ?_)
       try walk_nrm))
  refine o_cons (u_load (.slice (some ⟨N.Ch, 0, none⟩) N.n N.n) (by omega) hact3 rfl (by rfl) rfl Try.underlying26 rfl rfl (.inr hN3.bC) ?_)
  try walk_nrm
  repeat (first
    | (refine c_seq ?_)
    | (refine c_region ?_
       simp only [List.size_toArray, List.length_cons, List.length_nil, Nat.reduceAdd, Nat.zero_add, List.range, List.range.loop])
    | (refine o_nil ?_
       simp only [Thn, Inb, if_true, if_false, reduceIte, Nat.reduceEqDiff])
    | (refine c_skip ?_
       simp only [Thn, Inb, if_true, if_false, reduceIte, Nat.reduceEqDiff])
    | (refine c_cond true (by rfl) (fun _ => ?_) (fun e => by cases e))
    | (refine c_cond false (by rfl) (fun e => by cases e) (fun _ => ?_))
    | (refine c_block ?_)
    | (refine c_label ?_
       simp only [Thn, Inb, if_true, if_false, reduceIte, Nat.reduceEqDiff])
    | (refine c_scope ?_)
    | (refine o_cons (u_read (by omega) hact3 rfl (by rfl) fun w hF K' hK' => ?_)
       go_simp
       refine hK' _ ⟨?_, ?_⟩
       focus
         rw [listed_nil]
         · simp
         · (simp [go_sem]; done)
       clear hK' K' hF w
       try walk_nrm)
    | (refine o_cons (u_unwanted (by omega) rfl (by rfl) ?_)
       try walk_nrm))
  refine o_cons (u_index (A := ⟨N.Ch, 0, none⟩) (n := N.n) (c := N.n) (k := .i64) (m := d) (by omega) rfl (by rfl) rfl Try.underlying26 (by rfl) rfl rfl hdn ?_)
  try walk_nrm
  rw [Addr.add_lit, Nat.zero_add]
  have hrow3 : l''.ro ⟨N.Ch, d, none⟩ rv := hK3.kept.ext.ro _ _ (K.grow.ro _ _ hrow0)
  refine o_cons (u_load rv (by omega) hact3 rfl (by rfl) rfl Try.underlying22 rfl rfl (.inr hrow3) ?_)
  rw [hrvH.out]
  try walk_nrm
  repeat (first
    | (refine c_seq ?_)
    | (refine c_region ?_
       simp only [List.size_toArray, List.length_cons, List.length_nil, Nat.reduceAdd, Nat.zero_add, List.range, List.range.loop])
    | (refine o_nil ?_
       simp only [Thn, Inb, if_true, if_false, reduceIte, Nat.reduceEqDiff])
    | (refine c_skip ?_
       simp only [Thn, Inb, if_true, if_false, reduceIte, Nat.reduceEqDiff])
    | (refine c_cond true (by rfl) (fun _ => ?_) (fun e => by cases e))
    | (refine c_cond false (by rfl) (fun e => by cases e) (fun _ => ?_))
    | (refine c_block ?_)
    | (refine c_label ?_
       simp only [Thn, Inb, if_true, if_false, reduceIte, Nat.reduceEqDiff])
    | (refine c_scope ?_)
    | (refine o_cons (u_read (by omega) hact3 rfl (by rfl) fun w hF K' hK' => ?_)
       go_simp
       refine hK' _ ⟨?_, ?_⟩
       focus
         rw [listed_nil]
         · simp
         · (simp [go_sem]; done)
       clear hK' K' hF w
       try walk_nrm)
    | (refine o_cons (u_unwanted (by omega) rfl (by rfl) ?_)
       try walk_nrm))
  rw [← hrvH.out]
  refine c_loop (fun a' l' => l' = l'' ∧ ∃ k, k ≤ m ∧ Fr9c (.int .i64 (d : Nat)) (.pointer (some ⟨N.bR, 0, none⟩)) (.pointer (some ⟨N.bC, 0, none⟩)) (.pointer (some ⟨N.bF, 0, none⟩)) (.pointer (some ⟨N.bP, 0, none⟩)) (.pointer (some ⟨N.bT, 0, none⟩)) (.pointer (some ⟨N.bV, 0, none⟩)) (.int .i64 (upto N.n N.par N.own d k)) rv (.int .i64 (m : Nat)) (.int .i64 (k : Nat)) [] a') (fun a' _ => mu9c m a') ⟨rfl, 0, Nat.zero_le _, ?_⟩ ?_ ?_
  focus
    exact ⟨_, _, _, _, _, _, _, _, _, _, _, _, _, _, _, _, _, _, _, _, _, _, _, _, _, _, _, _, _, _, _, _, _, _, _, _, _, _, _, _, _, _, _, _, _, _, _, _, _, _, _, _, _, _, _, _, _, _, _, _, _, _, rfl⟩
  focus
    show m - 0 ≤ _
    omega
  clear hde hkm' k
  intro a' l3 hI
  obtain ⟨rfl, k, hkm, hfr⟩ := hI
  obtain ⟨x7, x8, x9, x10, x11, x12, x13, x15, x16, x17, x18, x19, x20, x21, x22, x23, x24, x25, x26, x27, x28, x29, x30, x31, x32, x33, x34, x35, x36, x37, x38, x39, x40, x41, x42, x43, x44, x45, x46, x47, x48, x49, x50, x51, x52, x53, x54, x55, x56, x57, x61, x62, x63, x64, x65, x66, x67, x68, x69, x70, x71, x72, rfl⟩ := hfr
  rw [show mu9c m _ = m - k from rfl]
  have hw2 : IntKind.i64.wrap ((k : Int) + 1) = (k : Int) + 1 := by rw [IntKind.wrap_i64]; omega
  by_cases hlt : k < m
  · have hde : decide ((k : Int) < (m : Int)) = true := by simp; omega
    repeat (first
      | (refine c_seq ?_)
      | (refine c_region ?_
         simp only [List.size_toArray, List.length_cons, List.length_nil, Nat.reduceAdd, Nat.zero_add, List.range, List.range.loop])
      | (refine o_nil ?_
         simp only [Thn, Inb, if_true, if_false, reduceIte, Nat.reduceEqDiff])
      | (refine c_skip ?_
         simp only [Thn, Inb, if_true, if_false, reduceIte, Nat.reduceEqDiff])
      | (refine c_cond true (by rfl) (fun _ => ?_) (fun e => by cases e))
      | (refine c_cond false (by rfl) (fun e => by cases e) (fun _ => ?_))
      | (refine c_block ?_)
      | (refine c_label ?_
         simp only [Thn, Inb, if_true, if_false, reduceIte, Nat.reduceEqDiff])
      | (refine c_scope ?_)
      | (refine o_cons (u_read (by omega) hact3 rfl (by rfl) fun w hF K' hK' => ?_)
         go_simp
         refine hK' _ ⟨?_, ?_⟩
         focus
           rw [listed_nil]
           · simp
           · (simp [go_sem]; done)
         clear hK' K' hF w
         try walk_nrm)
      | (refine o_cons (u_unwanted (by omega) rfl (by rfl) ?_)
         try walk_nrm))
    have hlk : k < (kids N.n N.par d).length := by rw [← hmH.out]; exact hlt
    obtain ⟨Rw, hRw, hrow⟩ := hN3.tree.row d k hdn hlk
    obtain ⟨kc, hkc⟩ : ∃ kc, kc = (kids N.n N.par d).getD k 0 := ⟨_, rfl⟩
    rw [← hkc] at hrow
    have hmem : kc ∈ kids N.n N.par d := by rw [hkc]; exact getD_mem hlk
    obtain ⟨q1, q2, q3⟩ := (mem_kids N.n N.par).1 hmem
    have hsucc := upto_succ (own := N.own) d k hlk
    rw [← hkc] at hsucc
    have hus := upto_small (n := N.n) (par := N.par) (own := N.own) d k
    have hvs := val_small (own := N.own) hN.ok q2
    have hcell := (hK3.done kc hmem kc .self).2
    obtain ⟨u, hu⟩ : ∃ u, u = upto N.n N.par N.own d k := ⟨_, rfl⟩
    obtain ⟨vc, hvc⟩ : ∃ vc, vc = val N.n N.par N.own kc := ⟨_, rfl⟩
    rw [← hu] at hus hsucc
    rw [← hvc] at hvs hsucc hcell
    rw [← hu]
    have hsuccH : Hid (upto N.n N.par N.own d (k + 1) = (u * 31 + vc).tmod 1000003) := hsucc
    have hRwH : Hid (N.rb d = some Rw) := hRw
    clear hu hvc hkc hsucc hRw
    have hw3 : IntKind.i64.wrap (u * 31) = u * 31 := by rw [IntKind.wrap_i64]; omega
    have hw4 : IntKind.i64.wrap (u * 31 + vc) = u * 31 + vc := by rw [IntKind.wrap_i64]; omega
    refine o_cons (u_index (A := Rw) (n := m) (c := N.rc d) (k := .i64) (m := k) (by omega) rfl (by rfl) rfl Try.underlying22 (by rfl) (by show rv = _; rw [hrvH.out, hRwH.out]) rfl hlt ?_)
    try walk_nrm
    refine o_cons (u_load (.int .i64 (kc : Nat)) (by omega) hact3 rfl (by rfl) rfl Try.underlying3 rfl rfl (.inr hrow) ?_)
    try walk_nrm
    repeat (first
      | (refine c_seq ?_)
      | (refine c_region ?_
         simp only [List.size_toArray, List.length_cons, List.length_nil, Nat.reduceAdd, Nat.zero_add, List.range, List.range.loop])
      | (refine o_nil ?_
         simp only [Thn, Inb, if_true, if_false, reduceIte, Nat.reduceEqDiff])
      | (refine c_skip ?_
         simp only [Thn, Inb, if_true, if_false, reduceIte, Nat.reduceEqDiff])
      | (refine c_cond true (by rfl) (fun _ => ?_) (fun e => by cases e))
      | (refine c_cond false (by rfl) (fun e => by cases e) (fun _ => ?_))
      | (refine c_block ?_)
      | (refine c_label ?_
         simp only [Thn, Inb, if_true, if_false, reduceIte, Nat.reduceEqDiff])
      | (refine c_scope ?_)
      | (refine o_cons (u_read (by omega) hact3 rfl (by rfl) fun w hF K' hK' => ?_)
         go_simp
         refine hK' _ ⟨?_, ?_⟩
         focus
           rw [listed_nil]
           · simp
           · (simp [go_sem]; done)
         clear hK' K' hF w
         try walk_nrm)
      | (refine o_cons (u_unwanted (by omega) rfl (by rfl) ?_)
         try walk_nrm))
    refine o_cons (u_load (.slice (some ⟨N.V, 0, none⟩) N.n N.n) (by omega) hact3 rfl (by rfl) rfl Try.underlying22 rfl rfl (.inr hN3.bV) ?_)
    try walk_nrm
    repeat (first
      | (refine c_seq ?_)
      | (refine c_region ?_
         simp only [List.size_toArray, List.length_cons, List.length_nil, Nat.reduceAdd, Nat.zero_add, List.range, List.range.loop])
      | (refine o_nil ?_
         simp only [Thn, Inb, if_true, if_false, reduceIte, Nat.reduceEqDiff])
      | (refine c_skip ?_
         simp only [Thn, Inb, if_true, if_false, reduceIte, Nat.reduceEqDiff])
      | (refine c_cond true (by rfl) (fun _ => ?_) (fun e => by cases e))
      | (refine c_cond false (by rfl) (fun e => by cases e) (fun _ => ?_))
      | (refine c_block ?_)
      | (refine c_label ?_
         simp only [Thn, Inb, if_true, if_false, reduceIte, Nat.reduceEqDiff])
      | (refine c_scope ?_)
      | (refine o_cons (u_read (by omega) hact3 rfl (by rfl) fun w hF K' hK' => ?_)
         go_simp
         refine hK' _ ⟨?_, ?_⟩
         focus
           rw [listed_nil]
           · simp
           · (simp [go_sem]; done)
         clear hK' K' hF w
         try walk_nrm)
      | (refine o_cons (u_unwanted (by omega) rfl (by rfl) ?_)
         try walk_nrm))
    refine o_cons (u_index (A := ⟨N.V, 0, none⟩) (n := N.n) (c := N.n) (k := .i64) (m := kc) (by omega) rfl (by rfl) rfl Try.underlying22 (by rfl) rfl rfl q2 ?_)
    try walk_nrm
    rw [Addr.add_lit, Nat.zero_add]
    refine o_cons (u_load (.int .i64 vc) (by omega) hact3 rfl (by rfl) rfl Try.underlying3 rfl rfl (.inl hcell) ?_)
    try walk_nrm
    repeat (first
      | (refine c_seq ?_)
      | (refine c_region ?_
         simp only [List.size_toArray, List.length_cons, List.length_nil, Nat.reduceAdd, Nat.zero_add, List.range, List.range.loop])
      | (refine o_nil ?_
         simp only [Thn, Inb, if_true, if_false, reduceIte, Nat.reduceEqDiff])
      | (refine c_skip ?_
         simp only [Thn, Inb, if_true, if_false, reduceIte, Nat.reduceEqDiff])
      | (refine c_cond true (by rfl) (fun _ => ?_) (fun e => by cases e))
      | (refine c_cond false (by rfl) (fun e => by cases e) (fun _ => ?_))
      | (refine c_block ?_)
      | (refine c_label ?_
         simp only [Thn, Inb, if_true, if_false, reduceIte, Nat.reduceEqDiff])
      | (refine c_scope ?_)
      | (refine o_cons (u_read (by omega) hact3 rfl (by rfl) fun w hF K' hK' => ?_)
         go_simp
         refine hK' _ ⟨?_, ?_⟩
         focus
           rw [listed_nil]
           · simp
           · (simp [go_sem]; done)
         clear hK' K' hF w
         try walk_nrm)
      | (refine o_cons (u_unwanted (by omega) rfl (by rfl) ?_)
         try walk_nrm))
    rw [← hsuccH.out]
    refine ⟨⟨(by first | rfl | trivial), k + 1, by omega, ?_⟩, ?_⟩
    · exact ⟨_, _, _, _, _, _, _, _, _, _, _, _, _, _, _, _, _, _, _, _, _, _, _, _, _, _, _, _, _, _, _, _, _, _, _, _, _, _, _, _, _, _, _, _, _, _, _, _, _, _, _, _, _, _, _, _, _, _, _, _, _, _, rfl⟩
    · show m - (k + 1) < m - k
      omega
  have hde : decide ((k : Int) < (m : Int)) = false := by simp; omega
  have hkm' : k = m := by omega
  have hval : upto N.n N.par N.own d k = val N.n N.par N.own d := by
    rw [hkm', hmH.out]
    unfold upto
    rw [List.take_length, val_eq hN.ok hdn]
  rw [hval]
  clear hkm hw2 hlt hval
  repeat (first
    | (refine c_seq ?_)
    | (refine c_region ?_
       simp only [List.size_toArray, List.length_cons, List.length_nil, Nat.reduceAdd, Nat.zero_add, List.range, List.range.loop])
    | (refine o_nil ?_
       simp only [Thn, Inb, if_true, if_false, reduceIte, Nat.reduceEqDiff])
    | (refine c_skip ?_
       simp only [Thn, Inb, if_true, if_false, reduceIte, Nat.reduceEqDiff])
    | (refine c_cond true (by rfl) (fun _ => ?_) (fun e => by cases e))
    | (refine c_cond false (by rfl) (fun e => by cases e) (fun _ => ?_))
    | (refine c_block ?_)
    | (refine c_label ?_
       simp only [Thn, Inb, if_true, if_false, reduceIte, Nat.reduceEqDiff])
    | (refine c_scope ?_)
    | (refine o_cons (u_read (by omega) hact3 rfl (by rfl) fun w hF K' hK' => ?_)
       go_simp
       refine hK' _ ⟨?_, ?_⟩
       focus
         rw [listed_nil]
         · simp
         · (simp [go_sem]; done)
       clear hK' K' hF w
       try walk_nrm)
    | (refine o_cons (u_unwanted (by omega) rfl (by rfl) ?_)
       try walk_nrm))
  refine c_exit ?_
  simp only [Thn, Inb, if_true, reduceIte]
  repeat (first
    | (refine c_seq ?_)
    | (refine c_region ?_
       simp only [List.size_toArray, List.length_cons, List.length_nil, Nat.reduceAdd, Nat.zero_add, List.range, List.range.loop])
    | (refine o_nil ?_
       simp only [Thn, Inb, if_true, if_false, reduceIte, Nat.reduceEqDiff])
    | (refine c_skip ?_
       simp only [Thn, Inb, if_true, if_false, reduceIte, Nat.reduceEqDiff])
    | (refine c_cond true (by rfl) (fun _ => ?_) (fun e => by cases e))
    | (refine c_cond false (by rfl) (fun e => by cases e) (fun _ => ?_))
    | (refine c_block ?_)
    | (refine c_label ?_
       simp only [Thn, Inb, if_true, if_false, reduceIte, Nat.reduceEqDiff])
    | (refine c_scope ?_)
    | (refine o_cons (u_read (by omega) hact3 rfl (by rfl) fun w hF K' hK' => ?_)
       go_simp
       refine hK' _ ⟨?_, ?_⟩
       focus
         rw [listed_nil]
         · simp
         · (simp [go_sem]; done)
       clear hK' K' hF w
       try walk_nrm)
    | (refine o_cons (u_unwanted (by omega) rfl (by rfl) ?_)
       try walk_nrm))
  obtain ⟨hV3, hfin⟩ := node_post (bx := bx) hfit.md hfit.df hN (by rw [hRd]; simp) (by rw [hVd]; simp) (by rw [← hl1]; exact K.grow) (fun j hj => by rw [← hl1]; exact (K.box j (by rw [hmH.out]; exact hj)).2) hK3
  refine o_cons (u_load (.slice (some ⟨N.V, 0, none⟩) N.n N.n) (by omega) hact3 rfl (by rfl) rfl Try.underlying22 rfl rfl (.inr hN3.bV) ?_)
  try walk_nrm
  repeat (first
    | (refine c_seq ?_)
    | (refine c_region ?_
       simp only [List.size_toArray, List.length_cons, List.length_nil, Nat.reduceAdd, Nat.zero_add, List.range, List.range.loop])
    | (refine o_nil ?_
       simp only [Thn, Inb, if_true, if_false, reduceIte, Nat.reduceEqDiff])
    | (refine c_skip ?_
       simp only [Thn, Inb, if_true, if_false, reduceIte, Nat.reduceEqDiff])
    | (refine c_cond true (by rfl) (fun _ => ?_) (fun e => by cases e))
    | (refine c_cond false (by rfl) (fun e => by cases e) (fun _ => ?_))
    | (refine c_block ?_)
    | (refine c_label ?_
       simp only [Thn, Inb, if_true, if_false, reduceIte, Nat.reduceEqDiff])
    | (refine c_scope ?_)
    | (refine o_cons (u_read (by omega) hact3 rfl (by rfl) fun w hF K' hK' => ?_)
       go_simp
       refine hK' _ ⟨?_, ?_⟩
       focus
         rw [listed_nil]
         · simp
         · (simp [go_sem]; done)
       clear hK' K' hF w
       try walk_nrm)
    | (refine o_cons (u_unwanted (by omega) rfl (by rfl) ?_)
       try walk_nrm))
  refine o_cons (u_index (A := ⟨N.V, 0, none⟩) (n := N.n) (c := N.n) (k := .i64) (m := d) (by omega) rfl (by rfl) rfl Try.underlying22 (by rfl) rfl rfl hdn ?_)
  try walk_nrm
  rw [Addr.add_lit, Nat.zero_add]
  refine o_cons (u_store1 (ad := ⟨N.V, d, none⟩) (.int .i64 (val N.n N.par N.own d)) (by omega) hact3 rfl (by rfl) rfl (by rfl) rfl rfl rfl hV3 ?_)
  obtain ⟨l4, hl4⟩ : ∃ l4, l4 = l3.setc ⟨N.V, d, none⟩ (.int .i64 (val N.n N.par N.own d)) := ⟨_, rfl⟩
  rw [← hl4]
  have hact4 : l4.md = .act := by rw [hl4]; exact hact3
  try walk_nrm
  repeat (first
    | (refine c_seq ?_)
    | (refine c_region ?_
       simp only [List.size_toArray, List.length_cons, List.length_nil, Nat.reduceAdd, Nat.zero_add, List.range, List.range.loop])
    | (refine o_nil ?_
       simp only [Thn, Inb, if_true, if_false, reduceIte, Nat.reduceEqDiff])
    | (refine c_skip ?_
       simp only [Thn, Inb, if_true, if_false, reduceIte, Nat.reduceEqDiff])
    | (refine c_cond true (by rfl) (fun _ => ?_) (fun e => by cases e))
    | (refine c_cond false (by rfl) (fun e => by cases e) (fun _ => ?_))
    | (refine c_block ?_)
    | (refine c_label ?_
       simp only [Thn, Inb, if_true, if_false, reduceIte, Nat.reduceEqDiff])
    | (refine c_scope ?_)
    | (refine o_cons (u_read (by omega) hact4 rfl (by rfl) fun w hF K' hK' => ?_)
       go_simp
       refine hK' _ ⟨?_, ?_⟩
       focus
         rw [listed_nil]
         · simp
         · (simp [go_sem]; done)
       clear hK' K' hF w
       try walk_nrm)
    | (refine o_cons (u_unwanted (by omega) rfl (by rfl) ?_)
       try walk_nrm))
  refine c_ret ?_
  refine ⟨rfl, _, resultsC_tmp (by rfl) _, ?_⟩
  rw [hPostH.out]
  rw [hl4]
  exact ⟨rfl, hfin⟩

/-- Every node's task, whatever its height. -/
theorem nodes9 : ∀ f : Nat, ∃ nt, ∀ (N : Nest) (d : Nat), (∀ x, 1 ≤ x → x < N.n → N.par x < x) → d < N.n → N.n - d ≤ f → Run9 N d nt := by
  intro f
  induction f with
  | zero => exact ⟨0, fun N d _ hd hf => by omega⟩
  | succ f ih =>
    obtain ⟨nt, h⟩ := ih
    obtain ⟨nr, h9⟩ := node9 nt
    refine ⟨nr, fun N d H hd hf => h9 N d hd fun c hc => ?_⟩
    obtain ⟨q1, q2, q3⟩ := (mem_kids N.n N.par).1 hc
    have := H c q1 q2
    exact h N c H q2 (by omega)
end Go.Proofs.Ytofohjbcgchhoaa
namespace Go.Proofs.Ytofohjbcgchhoaa
open Go.Conc
open Go.RowKit
open Go.ConcN (sumTo sumTo_congr le_sumTo)
set_option maxRecDepth 100000
set_option linter.unusedSimpArgs false
set_option linter.unusedVariables false

/-- The root's task. -/
noncomputable def rootTask (N : Nest) : Task where
  v := .func (.func 12) #[] #[bpt N.bF]
  foot := N.foot 0
  T := fun _ => 0
  T' := fun k => N.gets 0 k + bg1 N.p k
  post := fun y C => y = 0 ∧ N.done 0 C

theorem root12 (nt : Nat) : ∃ n, ∀ (N : Nest) (E : En) (l : Lo), Run9 N 0 nt → NestRo N l → N.raw 0 l.res.cells → Fit l →
    E.N 12 #[bpt N.bF] n l fun v l' => ∃ x, v = .int .i64 x ∧ (x = 0 ∧ N.done 0 l'.res.cells) ∧ Kept (N.foot 0) (fun _ => 0) (N.gets 0) l l' := by
  refine ⟨_, fun N E l h9 hN hraw hfit => n_of_b (b_of (e := nt + 2) (L := 0) Try.func12 (by rfl) rfl ?_)⟩
  have hact := hfit.md
  simp only [act0, Try.ntmps12, List.size_toArray, List.length_cons, List.length_nil, Nat.reduceAdd, Nat.reduceSub, Array.replicate_succ, Array.replicate_zero, List.push_toArray, List.append_toArray, List.nil_append, List.cons_append]
  repeat (first
    | (refine c_seq ?_)
    | (refine c_region ?_
       simp only [List.size_toArray, List.length_cons, List.length_nil, Nat.reduceAdd, Nat.zero_add, List.range, List.range.loop])
    | (refine o_nil ?_
       simp only [Thn, Inb, if_true, if_false, reduceIte, Nat.reduceEqDiff])
    | (refine c_skip ?_
       simp only [Thn, Inb, if_true, if_false, reduceIte, Nat.reduceEqDiff])
    | (refine c_cond true (by rfl) (fun _ => ?_) (fun e => by cases e))
    | (refine c_cond false (by rfl) (fun e => by cases e) (fun _ => ?_))
    | (refine c_block ?_)
    | (refine c_label ?_
       simp only [Thn, Inb, if_true, if_false, reduceIte, Nat.reduceEqDiff])
    | (refine c_scope ?_)
    | (refine o_cons (u_read (by omega) hact rfl (by rfl) fun w hF K' hK' => ?_)
       go_simp
       refine hK' _ ⟨?_, ?_⟩
       focus
         rw [listed_nil]
         · simp
         · (simp [go_sem]; done)
       clear hK' K' hF w
       try walk_nrm)
    | (refine o_cons (u_unwanted (by omega) rfl (by rfl) ?_)
       try walk_nrm))
  refine o_cons (u_load N.fv (by omega) hact rfl (by rfl) rfl Try.underlying31 rfl rfl (.inr hN.bF) ?_)
  try walk_nrm
  refine o_cons (u_callvx (n := nt) #[.int .i64 0, bpt N.bR, bpt N.bC, bpt N.bF, bpt N.bP, bpt N.bT, bpt N.bV] (by omega) rfl (by rfl) rfl rfl (by walk_nrm) ?_)
  have h9' := h9 E l hN hraw hfit
  rw [show ((0 : Nat) : Int) = 0 from rfl] at h9'
  refine h9'.mono fun v l1 hp => ?_
  obtain ⟨rfl, hdone, hk⟩ := hp
  have hact1 := hk.ext.md
  try walk_nrm
  repeat (first
    | (refine c_seq ?_)
    | (refine c_region ?_
       simp only [List.size_toArray, List.length_cons, List.length_nil, Nat.reduceAdd, Nat.zero_add, List.range, List.range.loop])
    | (refine o_nil ?_
       simp only [Thn, Inb, if_true, if_false, reduceIte, Nat.reduceEqDiff])
    | (refine c_skip ?_
       simp only [Thn, Inb, if_true, if_false, reduceIte, Nat.reduceEqDiff])
    | (refine c_cond true (by rfl) (fun _ => ?_) (fun e => by cases e))
    | (refine c_cond false (by rfl) (fun e => by cases e) (fun _ => ?_))
    | (refine c_block ?_)
    | (refine c_label ?_
       simp only [Thn, Inb, if_true, if_false, reduceIte, Nat.reduceEqDiff])
    | (refine c_scope ?_)
    | (refine o_cons (u_read (by omega) hact1 rfl (by rfl) fun w hF K' hK' => ?_)
       go_simp
       refine hK' _ ⟨?_, ?_⟩
       focus
         rw [listed_nil]
         · simp
         · (simp [go_sem]; done)
       clear hK' K' hF w
       try walk_nrm)
    | (refine o_cons (u_unwanted (by omega) rfl (by rfl) ?_)
       try walk_nrm))
  refine c_ret ?_
  refine ⟨rfl, _, resultsC_tmp (by rfl) _, ?_⟩
  exact ⟨0, rfl, ⟨rfl, hdone⟩, hk⟩

theorem root_runs (nt : Nat) : ∃ nr, ∀ (N : Nest) (l0 : Lo), Run9 N 0 nt → NestRo N l0 → N.raw 0 l0.res.cells → RunOk l0 (.pointer (some ⟨N.p, 0, none⟩)) nr none (rootTask N) := by
  obtain ⟨n12, h12⟩ := root12 nt
  obtain ⟨nr, h⟩ := runOk_pool n12
  refine ⟨nr, fun N l0 h9 hN hraw => ?_⟩
  refine h l0 N.p N.ch N.cap false none 12 #[] #[bpt N.bF] (N.foot 0) (fun _ => 0) (N.gets 0) (fun y C => y = 0 ∧ N.done 0 C) hN.pl (fun a ha => hraw.own a ha) (fun x C C' e h => ⟨h.1, h.2.of fun a ha => (e a ha).symm⟩) ?_
  intro E l e1 e2 e3 e4 e5 e6 e7
  have hfit : Fit l := ⟨e1.md, e1.df, e4, e6, fun c => by rcases e7 c with h | h | h <;> first | cases h | exact .inl h | exact .inr h⟩
  refine (h12 N E l h9 (hN.ext e1) (hraw.of fun a ha => e2 a ha) hfit).mono fun v l' hp => ?_
  obtain ⟨x, rfl, hp, hk⟩ := hp
  exact ⟨x, rfl, hp, hk, fun c hc => by cases hc⟩

theorem rootTask_ok (N : Nest) : (rootTask N).Ok where
  loc x C C' e h := ⟨h.1, h.2.of fun a ha => (e a ha).symm⟩
  own x C h a ha := h.2.own a ha
  slot p := ⟨rfl, by simp [rootTask, Nest.gets, bg1]⟩
  alive p := ⟨rfl, by simp [rootTask, Nest.gets, bg1]⟩
  gm c := ⟨rfl, by simp [rootTask, Nest.gets, bg1]⟩
  tr c := by simp [rootTask, Nest.gets, bg1]

/-- The whole tree, by goroutine 0. -/
theorem do_root : ∃ nd, ∀ (N : Nest) (E : En) (l : Lo) (g c9 : Nat), E.i = 0 → 1 ≤ N.n → Calm l → NestRo N l → N.raw 0 l.res.cells → l.res.cells ⟨g, 0, none⟩ = some (rootTask N).v → g ≠ N.R → g ≠ N.V →
    E.N 11 #[.pointer (some ⟨N.p, 0, none⟩), .slice (some ⟨g, 0, none⟩) 1 c9] nd l fun v l' => ∃ O, v = .slice (some ⟨O, 0, none⟩) 1 1 ∧ l'.res.cells ⟨O, 0, none⟩ = some (.int .i64 0) ∧ N.done 0 l'.res.cells ∧ Calm l' ∧ (∀ a v, l.ro a v → l'.ro a v) ∧ l'.pl = l.pl ∧
      l'.res.tk (.begun N.p) = l.res.tk (.begun N.p) + N.n ∧ 1 ≤ l'.pk N.p := by
  obtain ⟨nt, h9⟩ := nodes9 256
  obtain ⟨nr, hr⟩ := root_runs nt
  obtain ⟨nd, hd⟩ := do11 1 nr
  refine ⟨nd, fun N E l g c9 h0 hn hC hN hraw hg hgR hgV => ?_⟩
  have hrun9 : Run9 N 0 nt := h9 N 0 hN.ok hn (by have := hN.small; omega)
  obtain ⟨D, hD⟩ : ∃ D : DoPar, D = { n := 1, ts := fun _ => rootTask N, A := ⟨g, 0, none⟩, l0 := l, pool := true, p := N.p, ch := N.ch, cap := N.cap, so := false, gc := none, O := 0, u := 0, bp := 0, bo := 0 } := ⟨_, rfl⟩
  have hz : ∀ (k : Tk) (m : Nat), sumTo m (fun _ => (rootTask N).T k) = 0 := fun k m => sumTo_zero fun _ _ => rfl
  have P : DoPre D (E.i = 0) := by
    rw [hD]
    exact {
      pos := Nat.le_refl _
      act := hC.md
      df := hC.df
      cellA := fun j hj => by
        have hj : j < 1 := hj
        obtain rfl : j = 0 := by omega
        refine ⟨by rw [Addr.add_lit]; exact hg, fun i hi hf => ?_⟩
        rw [Addr.add_lit] at hf
        rcases Nest.foot_blk hf with e | e
        · exact hgR e
        · exact hgV e
      ok := fun j _ => rootTask_ok N
      nil := fun j _ hv => by cases hv
      own := fun j hj a ha => hraw.own a ha
      disj := fun i j hi hj hne => by
        have hi : i < 1 := hi
        have hj : j < 1 := hj
        omega
      slots := hC.slots
      gm := hC.gm
      tr := fun c => (hC.tr c).trans (hz (.tr c) 1).symm
      T := fun k => Nat.le_trans (Nat.le_of_eq (hz k 1)) (Nat.zero_le _)
      nop := fun _ => rfl
      isp := fun _ => ⟨hN.pl, hN.pch, hN.cap1⟩
      free := fun _ => ⟨rfl, fun _ _ _ => rfl⟩
      gate := fun c hc => by cases hc }
  have hrun : ∀ j, j < 1 → (D.ts j).v = .nilFunc ∨ ((∃ f first capv, (D.ts j).v = .func f first capv) ∧ RunOk D.l0 D.pv nr D.gc (D.ts j)) := by
    rw [hD]
    exact fun j hj => .inr ⟨⟨_, _, _, rfl⟩, hr N l hrun9 hN hraw⟩
  have key := hd E D c9 (by rw [hD]) (by omega) P hrun
  have hl0 : D.l0 = l := by rw [hD]
  have hCD : Calm D.l0 := by rw [hl0]; exact hC
  have hgc : D.gc = none := by rw [hD]
  have hpv : D.pv = .pointer (some ⟨N.p, 0, none⟩) := by rw [hD]; rfl
  have hA : D.A = ⟨g, 0, none⟩ := by rw [hD]
  rw [← hpv, ← hA]
  have hN' := hN
  subst hl0
  refine key.mono fun v l' hp => ?_
  obtain ⟨O, u, bp, bo, xs, rfl, hO, Q⟩ := hp
  have hC' := Calm.did (P.put O u bp bo) hCD Q hgc
  have hts : D.ts = fun _ => rootTask N := by rw [hD]
  have hn1 : D.n = 1 := by rw [hD]
  have hp1 : D.p = N.p := by rw [hD]
  have hpool : D.pool = true := by rw [hD]
  have q1 := Q.out 0 (by show 0 < D.n; omega)
  have q2 := Q.tk (.begun N.p) (by simp)
  have q3 := Q.pk1 hpool h0 hC.solo (hC.slot0 _).1 ⟨0, by show 0 < D.n; omega, by show (D.ts 0).v ≠ _; rw [hts]; simp [rootTask]⟩
  simp only [hts, hn1, hp1] at q1 q2 q3
  have hpost : xs 0 = 0 ∧ N.done 0 l'.res.cells := q1.2.2 (by simp [rootTask])
  refine ⟨O, rfl, ?_, hpost.2, hC', Q.ext.ro, Q.ext.pl, ?_, q3⟩
  · have := q1.1
    rw [hpost.1] at this
    exact this
  · have h1 : l'.res.tk (.begun N.p) + sumTo 1 (fun _ => 0) = D.l0.res.tk (.begun N.p) + sumTo 1 (fun _ => N.gets 0 (.begun N.p) + bg1 N.p (.begun N.p)) := q2
    have h2 : sumTo 1 (fun _ => N.gets 0 (.begun N.p) + bg1 N.p (.begun N.p)) = N.n := by
      show 0 + (N.gets 0 (.begun N.p) + bg1 N.p (.begun N.p)) = _
      unfold Nest.gets bg1
      rw [if_pos rfl, if_pos rfl, sz_root hN'.ok]
      omega
    have h3 : sumTo 1 (fun _ : Nat => 0) = 0 := rfl
    omega
end Go.Proofs.Ytofohjbcgchhoaa
