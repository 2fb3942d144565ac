/-
  THE GHOST, on: what does not hang on what; a draw; a goroutine that only leaves.
-/
import Derived.Test.YtofohjbcgchhoaaC
namespace Go.Proofs.Ytofohjbcgchhoaa
open Go.Conc
open Go.RowKit
open Go.ConcN (sumTo upd sumTo_upd upd_ne upd_same sumTo_congr le_sumTo)

def Gh.set (γ : Gh) (i : Nat) (l : Lo) : Gh := { γ with lo := fun j => if j = i then l else γ.lo j }
theorem set_same (γ : Gh) (i : Nat) (l : Lo) : (γ.set i l).lo i = l := by simp [Gh.set]
theorem set_ne (γ : Gh) {i j : Nat} (l : Lo) (h : j ≠ i) : (γ.set i l).lo j = γ.lo j := by simp [Gh.set, h]
/-- A field that the new part leaves as it was. -/
theorem set_field {α : Sort _} (f : Lo → α) (γ : Gh) (i : Nat) (l : Lo) (h : f l = f (γ.lo i)) (j : Nat) : f ((γ.set i l).lo j) = f (γ.lo j) := by
  by_cases e : j = i
  · subst e; rw [set_same, h]
  · rw [set_ne γ l e]

theorem sum_congr {γ γ' : Gh} (hN : γ'.N = γ.N) (hr : ∀ j, j < γ.N → (γ'.lo j).res = (γ.lo j).res) (k : Tk) : γ'.sum k = γ.sum k := by
  unfold Gh.sum
  rw [hN]
  exact sumTo_congr fun j hj => by rw [hr j hj]
theorem cnt_congr {γ γ' : Gh} (hN : γ'.N = γ.N) (hr : ∀ j, j < γ.N → (γ'.lo j).wk = (γ.lo j).wk) (u : Nat) : γ'.cnt u = γ.cnt u := by
  unfold Gh.cnt
  rw [hN]
  exact sumTo_congr fun j hj => by rw [hr j hj]
theorem at_congr {γ γ' : Gh} (hp : γ'.pool = γ.pool) (hw : γ'.wg = γ.wg) (hg : γ'.gate = γ.gate) : AT γ' = AT γ := by funext a; unfold AT; rw [hp, hw, hg]
theorem sd_congr {γ γ' : Gh} (hw : γ'.wg = γ.wg) : sd γ' = sd γ := by funext a; unfold sd; rw [hw]

theorem Mem.of {B0 : Nat} {w0 : World} {γ γ' : Gh} {w : World} (h : Mem B0 w0 γ w) (hN : γ'.N = γ.N) (hp : γ'.pool = γ.pool) (hw : γ'.wg = γ.wg) (hg : γ'.gate = γ.gate) (hr : ∀ j, j < γ.N → (γ'.lo j).res = (γ.lo j).res)
    (hro : ∀ j, j < γ.N → ∀ a v, (γ'.lo j).ro a v → (γ.lo j).ro a v) (hwk : ∀ j, j < γ.N → (γ'.lo j).wk = (γ.lo j).wk) (hoc : ∀ j, j < γ.N → (γ'.lo j).oc = (γ.lo j).oc) : Mem B0 w0 γ' w where
  bel := h.bel
  big := h.big
  cell i hi a v hc := by rw [hN] at hi; rw [hr i hi] at hc; exact h.cell i hi a v hc
  ro i hi a v hc := by rw [hN] at hi; exact h.ro i hi a v (hro i hi a v hc)
  pool p G hG := by
    rw [hp] at hG
    rw [sum_congr hN hr, sum_congr hN hr, sum_congr hN hr]
    exact h.pool p G hG
  oc i hi c cap e := by rw [hN] at hi; rw [hoc i hi] at e; exact h.oc i hi c cap e
  wg u G hG := by
    rw [hw] at hG
    rw [cnt_congr hN hwk]
    exact h.wg u G hG
  gate c G hG := by
    rw [hg] at hG
    rw [sum_congr hN hr]
    exact h.gate c G hG
theorem Own.of {γ γ' : Gh} (h : Own γ) (hN : γ'.N = γ.N) (hp : γ'.pool = γ.pool) (hw : γ'.wg = γ.wg) (hg : γ'.gate = γ.gate) (hr : ∀ j, j < γ.N → (γ'.lo j).res.cells = (γ.lo j).res.cells) (hro : ∀ j, j < γ.N → ∀ a v, (γ'.lo j).ro a v → (γ.lo j).ro a v) : Own γ' where
  ex i j hi hj hne a he := by rw [hN] at hi hj; rw [hr i hi] at he; rw [hr j hj]; exact h.ex i j hi hj hne a he
  exro i j hi hj a v he hv := by rw [hN] at hi hj; rw [hr i hi] at he; exact h.exro i j hi hj a v he (hro j hj a v hv)
  exAT i hi a he := by rw [hN] at hi; rw [hr i hi] at he; rw [at_congr hp hw hg]; exact h.exAT i hi a he
  roAT i hi a v hv := by rw [hN] at hi; rw [at_congr hp hw hg]; exact h.roAT i hi a v (hro i hi a v hv)
theorem Nums.of {γ γ' : Gh} (h : Nums γ) (hN : γ'.N = γ.N) (hp : γ'.pool = γ.pool) (hg : γ'.gate = γ.gate) (hr : ∀ j, j < γ.N → (γ'.lo j).res.tk = (γ.lo j).res.tk) (hpk : ∀ j, j < γ.N → (γ'.lo j).pk = (γ.lo j).pk)
    (hpl : ∀ j, j < γ.N → (γ'.lo j).pl = (γ.lo j).pl) (hgl : ∀ j, j < γ.N → (γ'.lo j).gl = (γ.lo j).gl) (hcl : ∀ j, j < γ.N → (γ'.lo j).cl = (γ.lo j).cl) (hgk : ∀ j, j < γ.N → (γ'.lo j).gk = (γ.lo j).gk) (hoc : ∀ j, j < γ.N → (γ'.lo j).oc = (γ.lo j).oc) (hsk : (γ'.lo 0).sk = (γ.lo 0).sk) (hal : ∀ j, j < γ.N → (γ'.lo j).al = (γ.lo j).al)
    (hmd : ∀ j, j < γ.N → (γ'.lo j).md ≠ .act → (γ.lo j).md ≠ .act ∨ ∀ c, (γ.lo j).res.tk (.tr c) = 0) : Nums γ' := by
  have hs : ∀ k, γ'.sum k = γ.sum k := fun k => by
    unfold Gh.sum
    rw [hN]
    exact sumTo_congr fun j hj => by rw [hr j hj]
  exact {
    slot := fun i hi p => by rw [hN] at hi; rw [hr i hi]; exact h.slot i hi p
    pool := fun p G hG => by rw [hp] at hG; rw [hs]; exact h.pool p G hG
    pk := fun i hi p G hG => by rw [hN] at hi; rw [hp] at hG; rw [hpk i hi]; exact h.pk i hi p G hG
    pl := fun i hi p ch cap so e => by rw [hN] at hi; rw [hpl i hi] at e; rw [hp]; exact h.pl i hi p ch cap so e
    gl := fun i hi c bg n p e => by rw [hN] at hi; rw [hgl i hi] at e; rw [hg]; exact h.gl i hi c bg n p e
    cl := fun i hi c e => by rw [hN] at hi; rw [hcl i hi] at e; rw [hg]; exact h.cl i hi c e
    gate := fun c G hG => by
      rw [hg] at hG
      rw [hs, hs]
      obtain ⟨h1, h2⟩ := h.gate c G hG
      refine ⟨h1, ?_⟩
      rcases h2 with h2 | ⟨h2, h3, h4, h5⟩ | h2
      · exact .inl h2
      · exact .inr (.inl ⟨h2, h3, h4, fun i hi => by rw [hN] at hi; rw [hr i hi]; exact h5 i hi⟩)
      · exact .inr (.inr h2)
    al := fun i hi c e => by rw [hN] at hi; rw [hal i hi] at e; rw [hg, hs]; exact h.al i hi c e
    gm := fun c G hG hc i hi => by rw [hN] at hi; rw [hg] at hG; rw [hr i hi]; exact h.gm c G hG hc i hi
    gku := fun i hi c e => by
      rw [hN] at hi
      rw [hgk i hi] at e
      obtain ⟨k1, k2⟩ := h.gku i hi c e
      exact ⟨by rw [hg]; exact k1, fun j hj hne => by rw [hN] at hj; rw [hgk j hj]; exact k2 j hj hne⟩
    nopk := fun p hG i hi => by rw [hN] at hi; rw [hp] at hG; rw [hpk i hi]; exact h.nopk p hG i hi
    gk := fun i hi c k e => by rw [hN] at hi; rw [hgk i hi] at e; rw [hs]; exact h.gk i hi c k e
    idle := fun i hi e c => by
      rw [hN] at hi
      rw [hr i hi]
      rcases hmd i hi e with e' | e'
      · exact h.idle i hi e' c
      · exact e' c
    chp := fun p G c hG => by rw [hp] at hG; rw [hg]; exact h.chp p G c hG
    chpp := fun p G p' G' hG hG' e => by rw [hp] at hG hG'; exact h.chpp p G p' G' hG hG' e
    solo := fun p G hG hs' => by rw [hp] at hG; rw [hs, hsk]; exact h.solo p G hG hs'
    oc := fun i hi c e => by
      rw [hN] at hi
      rw [hoc i hi] at e
      obtain ⟨h1, h2, h3⟩ := h.oc i hi c e
      exact ⟨by rw [hg]; exact h1, fun p G hG => by rw [hp] at hG; exact h2 p G hG, fun j hj hne => by rw [hN] at hj; rw [hoc j hj]; exact h3 j hj hne⟩
    bgi := fun c G c' G' hG hG' e => by rw [hg] at hG hG'; exact h.bgi c G c' G' hG hG' e
    nop := fun p hG i hi => by rw [hN] at hi; rw [hp] at hG; rw [hr i hi]; exact h.nop p hG i hi
    nog := fun c hG i hi => by rw [hN] at hi; rw [hg] at hG; rw [hr i hi]; exact h.nog c hG i hi }
theorem Works.of {l l' : Lo} {u : Nat} {J : Res → Prop} (h : Works l u J) (hw : l'.wg = l.wg) (hob : l'.ob = l.ob) (hm : l'.md = l.md) (hk : l'.wk = l.wk) (hr : l.md = .act ∨ l'.res = l.res) : Works l' u J := by
  unfold Works at h ⊢
  rw [hw, hm, hk, hob]
  refine ⟨h.1, ?_⟩
  have h2 := h.2
  cases e : l.md with
  | act => rw [e] at h2; exact h2
  | rel p a ph =>
    rw [e] at h2 hr
    rw [hr.resolve_left (by simp)]
    exact h2
  | quit p a =>
    rw [e] at h2 hr
    rw [hr.resolve_left (by simp)]
    exact h2
  | gone => rw [e] at h2; exact h2
theorem Team.of {γ γ' : Gh} (h : Team γ) (hN : γ'.N = γ.N) (hw : γ'.wg = γ.wg) (hmd : ∀ j, j < γ.N → (γ'.lo j).md = (γ.lo j).md) (hwg : ∀ j, j < γ.N → (γ'.lo j).wg = (γ.lo j).wg) (hwk : ∀ j, j < γ.N → (γ'.lo j).wk = (γ.lo j).wk)
    (hws : ∀ j, j < γ.N → (γ'.lo j).ws = (γ.lo j).ws) (hjn : ∀ j, j < γ.N → (γ'.lo j).jn = (γ.lo j).jn) (hob : ∀ j, j < γ.N → (γ'.lo j).ob = (γ.lo j).ob) (hr : ∀ j, j < γ.N → (γ.lo j).md = .act ∨ (γ'.lo j).res = (γ.lo j).res) (hro : ∀ j, j < γ.N → (γ.lo j).md = .act ∨ (γ'.lo j).ro = (γ.lo j).ro) : Team γ' := by
  have hc : ∀ u, γ'.cnt u = γ.cnt u := fun u => cnt_congr hN hwk u
  exact {
    pos := by rw [hN]; exact h.pos
    main := by rw [hmd 0 h.pos, hwg 0 h.pos]; exact h.main
    boss := fun b hb u B hB => by
      rw [hN] at hb
      rw [hws b hb] at hB
      obtain ⟨h1, h2, h3, h4, G, h5, h6, h7, h8⟩ := h.boss b hb u B hB
      refine ⟨by rw [hmd b hb]; exact h1, h2, fun c J hcJ => ?_, by rw [hc]; exact h4, G, by rw [hw]; exact h5, h6, h7, fun e => ⟨(h8 e).1, by rw [hwk b hb]; exact (h8 e).2⟩⟩
      obtain ⟨k1, k2, k3⟩ := h3 c J hcJ
      exact ⟨by rw [hN]; exact k1, k2, k3.of (hwg c k1) (hob c k1) (hmd c k1) (hwk c k1) (hr c k1)⟩
    led := fun c hcN hc0 hg => by
      rw [hN] at hcN
      rw [hmd c hcN] at hg
      obtain ⟨b, u, B, J, k1, k2, k3⟩ := h.led c hcN hc0 hg
      exact ⟨b, u, B, J, by rw [hN]; exact k1, by rw [hws b k1]; exact k2, k3⟩
    wk := fun i hi u e => by
      rw [hN] at hi
      rw [hwk i hi] at e
      rw [hwg i hi, hws i hi]
      exact h.wk i hi u e
    small := fun u => by rw [hc]; exact h.small u
    wph := fun u G hG => by
      rw [hw] at hG
      obtain ⟨k1, k2, k3, k4⟩ := h.wph u G hG
      rw [hc]
      refine ⟨k1, k2, k3, fun e => ?_⟩
      obtain ⟨k5, k6, k7⟩ := k4 e
      rw [hN]
      exact ⟨k5, by rw [hwg _ k5]; exact k6, by rw [hmd _ k5]; exact k7⟩
    duty := fun i hi p a ph u e hph hu => by
      rw [hN] at hi
      rw [hmd i hi] at e
      rw [hwg i hi] at hu
      rw [hw]
      exact h.duty i hi p a ph u e hph hu
    gone := fun i hi e => by
      rw [hN] at hi
      rw [hmd i hi] at e
      rw [(hr i hi).resolve_left (by rw [e]; simp), (hro i hi).resolve_left (by rw [e]; simp), hwk i hi, hjn i hi]
      exact h.gone i hi e
    jn := fun i hi e => by
      rw [hN] at hi
      rw [hmd i hi] at e
      rw [hjn i hi]
      refine ⟨(h.jn i hi e).1, fun j hj hx => ?_⟩
      rw [hN] at hj
      rw [hjn j hj] at hx
      exact (h.jn i hi e).2 j hj hx
    jng := fun c hcN e => by
      rw [hN] at hcN
      rw [hmd c hcN] at e
      obtain ⟨i, k1, k2, k3⟩ := h.jng c hcN e
      exact ⟨i, by rw [hN]; exact k1, by rw [hmd i k1]; exact k2, by rw [hjn i k1]; exact k3⟩
    jlt := fun i hi c e => by rw [hN] at hi ⊢; rw [hjn i hi] at e; exact h.jlt i hi c e
    nown := fun u e i hi => by
      rw [hN] at hi
      rw [hw] at e
      rw [hwk i hi, hws i hi, hwg i hi]
      exact h.nown u e i hi }

theorem Mem.at {B0 : Nat} {w0 : World} {γ : Gh} {w : World} (h : Mem B0 w0 γ w) (d : Nat) : Mem B0 w0 γ (w.at d) :=
  ⟨⟨h.bel.os, h.bel.tape, h.bel.output, h.bel.size, h.bel.block⟩, h.big, h.cell, h.ro, h.pool, h.oc, h.wg, h.gate⟩
theorem Whole.at {B0 : Nat} {w0 : World} {γ : Gh} {w : World} {t : Trace} (h : Whole B0 w0 γ w t) (d : Nat) : Whole B0 w0 γ (w.at d) t :=
  ⟨h.mem.at d, h.own, h.nums, h.team, h.tr⟩

theorem mute_ok {g : Tg} {AT : Addr → Prop} {sd : Addr → Nat} {i B : Nat} {e : Event} (h : e.mute = true) : OkAct g AT sd i B (.ofEvent e) ∧ (MemAct.ofEvent e).touch? = none :=
  ⟨⟨low_mute h B, fun a => by
    obtain ⟨loc, wr, sy⟩ := e
    cases loc <;> simp_all [Event.mute]
    rename_i m
    cases m <;> simp_all [MemAct.ofEvent], fun y hy => by rw [touch_mute h] at hy; cases hy⟩, touch_mute h⟩

/-- A goroutine that only leaves says 'enable', 'disable', no more. -/
theorem Whole.mute {B0 : Nat} {w0 : World} {γ : Gh} {w : World} {t : Trace} (h : Whole B0 w0 γ w t) {i d : Nat} (hi : i < γ.N) (hq : (γ.lo i).quit = some d) (fn : FuncId) (pos : String) {es : Array Event} (hm : ∀ e ∈ es, Event.mute e = true) :
    Whole B0 w0 (γ.set i { γ.lo i with df := deafBehind d es }) w (t ++ MemOp.ofEvents i fn pos es) := by
  have hdf : (γ.lo i).df = d := by
    unfold Lo.quit at hq
    split at hq <;> first | exact Option.some.inj hq | cases hq
  obtain ⟨l', hl'⟩ : ∃ l', l' = { γ.lo i with df := deafBehind d es } := ⟨_, rfl⟩
  have F : ∀ {α : Type} (f : Lo → α), f l' = f (γ.lo i) → ∀ j, f ((γ.set i l').lo j) = f (γ.lo j) := fun f h j => set_field f γ i l' h j
  rw [← hl']
  refine ⟨h.mem.of rfl rfl rfl rfl (fun j _ => F Lo.res (by rw [hl']) j) (fun j _ a v => by rw [F Lo.ro (by rw [hl']) j]; exact id) (fun j _ => F Lo.wk (by rw [hl']) j) (fun j _ => F Lo.oc (by rw [hl']) j),
    h.own.of rfl rfl rfl rfl (fun j _ => F (fun l => l.res.cells) (by rw [hl']) j) (fun j _ a v => by rw [F Lo.ro (by rw [hl']) j]; exact id),
    h.nums.of rfl rfl rfl (fun j _ => F (fun l => l.res.tk) (by rw [hl']) j) (fun j _ => F Lo.pk (by rw [hl']) j) (fun j _ => F Lo.pl (by rw [hl']) j) (fun j _ => F Lo.gl (by rw [hl']) j) (fun j _ => F Lo.cl (by rw [hl']) j) (fun j _ => F Lo.gk (by rw [hl']) j) (fun j _ => F Lo.oc (by rw [hl']) j) (F Lo.sk (by rw [hl']) 0) (fun j _ => F Lo.al (by rw [hl']) j) (fun j _ e => by rw [F Lo.md (by rw [hl']) j] at e; exact .inl e),
    h.team.of rfl rfl (fun j _ => F Lo.md (by rw [hl']) j) (fun j _ => F Lo.wg (by rw [hl']) j) (fun j _ => F Lo.wk (by rw [hl']) j) (fun j _ => F Lo.ws (by rw [hl']) j) (fun j _ => F Lo.jn (by rw [hl']) j) (fun j _ => F Lo.ob (by rw [hl']) j) (fun j _ => .inr (F Lo.res (by rw [hl']) j)) (fun j _ => .inr (F Lo.ro (by rw [hl']) j)), ?_⟩
  have hD := h.own.disj h.team
  have hops : ∀ op ∈ MemOp.ofEvents i fn pos es, op.g = i ∧ ∃ e ∈ es, op.act = .ofEvent e := fun op hop => by
    rw [ofEvents_eq] at hop
    obtain ⟨e, he, rfl⟩ := Array.mem_map.1 hop
    exact ⟨rfl, e, he, rfl⟩
  have htr := h.tr.own hD hi (u := MemOp.ofEvents i fn pos es) (fun op hop => (hops op hop).1) (fun op hop => by
      obtain ⟨_, e, he, hx⟩ := hops op hop
      rw [hx]; exact (mute_ok (hm e he)).1) (.inr fun k hk hc => by
      obtain ⟨x, hx, _⟩ := hc
      obtain ⟨op, hop, hox⟩ := touch_of hx
      rcases getElem?_append_cases hop with ⟨h1, _⟩ | ⟨_, h1⟩
      · omega
      · obtain ⟨_, e, he, hx'⟩ := hops op h1
        rw [hx', (mute_ok (g := (γ.lo i).tg) (AT := AT γ) (sd := sd γ) (i := i) (B := 0) (hm e he)).2] at hox
        cases hox) (d := deafBehind d es) (by rw [Deaf_own, h.tr.df i hi]; show deafBehind (γ.lo i).df es = _; rw [hdf]) (.inr fun op hop x hx => by
      obtain ⟨_, e, he, hx'⟩ := hops op hop
      rw [hx', (mute_ok (g := (γ.lo i).tg) (AT := AT γ) (sd := sd γ) (i := i) (B := 0) (hm e he)).2] at hx
      cases hx)
  have e : (fun j => if j = i then { (γ.lo i).tg with df := deafBehind d es } else (γ.lo j).tg) = fun j => ((γ.set i l').lo j).tg := by
    funext j
    by_cases hj : j = i
    · subst hj; rw [set_same, hl']; simp [Lo.tg]
    · rw [set_ne γ _ hj, if_neg hj]
  rw [← e]
  exact htr

theorem fits (B0 : Nat) (w0 : World) (Post : Value → World → Prop) : Fits (SY B0 w0 Post) where
  draw γ w t d h := Whole.at h d
  drawS γ i w d h := h
  mute := fun (γ : Gh) w t i d fn pos es (h : Whole B0 w0 γ w t) (hi : i < γ.N) (hq : (γ.lo i).quit = some d) hm => by
    refine ⟨γ.set i { γ.lo i with df := deafBehind d es }, Whole.mute h hi hq fn pos hm, rfl, ?_, fun j hj => set_ne γ _ hj, fun j hs => ?_, fun j c hs => ?_⟩
    · show ((γ.set i _).lo i).quit = _
      rw [set_same]
      unfold Lo.quit at hq ⊢
      simp only
      split at hq <;> first | rfl | cases hq
    · obtain ⟨h1, h2, h3, u, B, h4, h5, h6⟩ := hs
      have hji : j ≠ i := by
        rintro rfl
        simp [Lo.quit, h2] at hq
      exact ⟨h1, by rw [set_ne γ _ hji]; exact h2, by rw [set_ne γ _ hji]; exact h3, u, B, by rw [set_ne γ _ hji]; exact h4, h5, h6⟩
    · obtain ⟨h1, h2, h3, h4⟩ := hs
      have hji : j ≠ i := by
        rintro rfl
        simp [Lo.quit, h2] at hq
      exact ⟨h1, by rw [set_ne γ _ hji]; exact h2, h3, by rw [set_ne γ _ hji]; exact h4⟩
  alive := fun (γ : Gh) w t (h : Whole B0 w0 γ w t) _ hall => alive_all h hall
end Go.Proofs.Ytofohjbcgchhoaa
