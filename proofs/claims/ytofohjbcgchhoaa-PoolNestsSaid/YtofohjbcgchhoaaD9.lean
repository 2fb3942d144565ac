/-
  STEPS, on: a group's worker.
-/
import Derived.Test.YtofohjbcgchhoaaD8
namespace Go.Proofs.Ytofohjbcgchhoaa
open Go.Conc
open Go.RowKit
open Go.ConcN (sumTo sumTo_congr le_sumTo)

section
variable {B0 : Nat} {w0 : World} {PP : Value → World → Prop} {γ : Gh} {w : World} {t : Trace} {i : Nat}

/-- What a worker knows. -/
theorem Whole.worker (h : Whole B0 w0 γ w t) (hi : i < γ.N) {u : Nat} (hwg : (γ.lo i).wg = some u) (hng : (γ.lo i).md ≠ .gone) : i ≠ 0 ∧ ∃ b B J G, b < i ∧ b < γ.N ∧ (γ.lo b).ws u = some B ∧ (i, J) ∈ B.ws ∧ Works (γ.lo i) u J ∧ γ.wg u = some G ∧ G.boss = b := by
  have h0 : i ≠ 0 := fun e => by rw [e, h.team.main.2] at hwg; cases hwg
  obtain ⟨b, y, B, J, c1, c2, c3⟩ := h.team.led i hi h0 hng
  obtain ⟨_, hbi, hW⟩ := (h.team.boss b c1 y B c2).2.2.1 i J c3
  have : y = u := by
    have := hW.1
    rw [hwg] at this
    exact (Option.some.inj this).symm
  subst this
  obtain ⟨G, g1, g2, _⟩ := h.lead c1 c2
  exact ⟨h0, b, B, J, G, hbi, c1, c2, c3, hW, g1, g2⟩
theorem Whole.no_lead (h : Whole B0 w0 γ w t) (hi : i < γ.N) (hm : (γ.lo i).md ≠ .act) (x : Nat) : (γ.lo i).ws x = none := by
  cases e : (γ.lo i).ws x with
  | none => rfl
  | some B => exact absurd (h.team.boss i hi x B e).1 hm

/-- The worker lets its leader have what it has. -/
theorem Whole.release (h : Whole B0 w0 γ w t) (hi : i < γ.N) {u : Nat} (hact : (γ.lo i).md = .act) (hdf : (γ.lo i).df = 0) (hwg : (γ.lo i).wg = some u) (hob : (γ.lo i).ob (γ.lo i).res) (hws : ∀ x, (γ.lo i).ws x = none) (htr : ∀ c, (γ.lo i).res.tk (.tr c) = 0) (fn : FuncId) (pos : String) :
    Whole B0 w0 (γ.set i ((γ.lo i).mdd (.rel t.size ⟨u, 0, none⟩ 0))) w (t ++ MemOp.ofEvents i fn pos #[⟨.mark (.releaseMerge ⟨u, 0, none⟩), false, true⟩]) ∧ ∀ wake, Keeps (SY B0 w0 PP) i γ w (γ.set i ((γ.lo i).mdd (.rel t.size ⟨u, 0, none⟩ 0))) w wake := by
  obtain ⟨h0, b, B, J, G, hbi, hb, hB, hJ, hW, hG, hGb⟩ := h.worker hi hwg (by rw [hact]; simp)
  obtain ⟨l', hl'⟩ : ∃ l', l' = (γ.lo i).mdd (.rel t.size ⟨u, 0, none⟩ 0) := ⟨_, rfl⟩
  have F : ∀ {α : Type} (f : Lo → α), f l' = f (γ.lo i) → ∀ j, f ((γ.set i l').lo j) = f (γ.lo j) := fun f h j => set_field f γ i l' h j
  rw [← hl']
  have hmd' : l'.md = .rel t.size ⟨u, 0, none⟩ 0 := by rw [hl']; rfl
  have hres' : l'.res = (γ.lo i).res := by rw [hl']; rfl
  have hwk' : l'.wk = (γ.lo i).wk := by rw [hl']; rfl
  have hwg' : l'.wg = some u := by rw [hl']; exact hwg
  refine ⟨⟨?_, ?_, ?_, ?_, ?_⟩, fun wake => ?_⟩
  · exact h.mem.of rfl rfl rfl rfl (fun j _ => F Lo.res hres' j) (fun j _ a v => by rw [F Lo.ro (by rw [hl']; rfl) j]; exact id) (fun j _ => F Lo.wk hwk' j) (fun j _ => F Lo.oc (by rw [hl']; rfl) j)
  · exact h.own.of rfl rfl rfl rfl (fun j _ => F (fun l => l.res.cells) (by rw [hl']; rfl) j) (fun j _ a v => by rw [F Lo.ro (by rw [hl']; rfl) j]; exact id)
  · exact h.nums.of rfl rfl rfl (fun j _ => F (fun l => l.res.tk) (by rw [hl']; rfl) j) (fun j _ => F Lo.pk (by rw [hl']; rfl) j) (fun j _ => F Lo.pl (by rw [hl']; rfl) j) (fun j _ => F Lo.gl (by rw [hl']; rfl) j) (fun j _ => F Lo.cl (by rw [hl']; rfl) j) (fun j _ => F Lo.gk (by rw [hl']; rfl) j) (fun j _ => F Lo.oc (by rw [hl']; rfl) j) (F Lo.sk (by rw [hl']; rfl) 0) (fun j _ => F Lo.al (by rw [hl']; rfl) j) (fun j _ e => by
      by_cases ej : j = i
      · rw [ej]; exact .inr htr
      · rw [set_ne γ _ ej] at e; exact .inl e)
  · have hγ : γ.set i l' = { γ.set i l' with wg := fun x => if x = u then some G else γ.wg x } := by
      have : (fun x => if x = u then some G else γ.wg x) = γ.wg := by
        funext x
        by_cases e : x = u
        · rw [if_pos e, e, hG]
        · rw [if_neg e]
      rw [this]
      rfl
    have hc : (γ.set i l').cnt u = γ.cnt u := cnt_congr (γ := γ) (γ' := γ.set i l') rfl (fun j _ => F Lo.wk hwk' j) u
    refine h.team.one hi (u := u) (G := G) (G1 := G) (l' := l') hγ hG rfl (by rw [hl']; rfl) (by rw [hl']; rfl) (fun x _ => by rw [hwk']) (fun x _ => by rw [hl']; rfl) (by rw [hact]; simp) (by rw [hmd']; simp) (fun x B' e => ?_) (fun e => absurd e h0) (.inr hwg) (fun B' e => ?_) (fun B' e => ?_) (fun b' B' hb' hne e => ?_) (fun b' B' J' x hb' e hm => ?_) (fun _ => .inl hwg') ?_ ?_ (fun e => ?_) (fun p a ph x e hp => ?_) (fun j hj e hd => ⟨rfl, rfl⟩)
    · rw [hl'] at e; have := hws x; exact absurd (this.symm.trans e) (by simp)
    · rw [hl'] at e; have := hws u; exact absurd (this.symm.trans e) (by simp)
    · have := hws u; exact absurd (this.symm.trans e) (by simp)
    · rw [hc]
      obtain ⟨G', g1, g2, g3, g4, g5⟩ := h.lead hb' e
      rw [hG] at g1
      cases g1
      exact ⟨g5, g3, fun x => (g4 x).1⟩
    · obtain ⟨_, _, hW'⟩ := (h.team.boss b' hb' x B' e).2.2.1 i J' hm
      obtain ⟨w1, w2⟩ := hW'
      have hx : x = u := by rw [hwg] at w1; exact (Option.some.inj w1).symm
      subst hx
      rw [hact] at w2
      refine ⟨hwg', ?_⟩
      rw [hmd']
      exact ⟨rfl, by rw [hres', ← w2.2]; exact hob, by rw [hwk']; exact w2.1⟩
    · obtain ⟨k1, k2, k3, _⟩ := h.team.wph u G hG
      rw [hc]
      exact ⟨k1, k2, k3⟩
    · rw [hc]; exact h.team.small u
    · obtain ⟨_, _, _, k4⟩ := h.team.wph u G hG
      obtain ⟨m1, m2, p, a, m3⟩ := k4 e
      have hne : G.du ≠ i := fun x => by rw [x, hact] at m3; cases m3
      exact ⟨m1, by rw [set_ne γ _ hne]; exact m2, p, a, by rw [set_ne γ _ hne]; exact m3⟩
    · rw [hmd'] at e
      cases e
      exact absurd rfl hp
  · have hx : MemOp.ofEvents i fn pos #[⟨.mark (.releaseMerge ⟨u, 0, none⟩), false, true⟩] = #[{ g := i, fn := fn, pos := pos, act := .mark (.releaseMerge ⟨u, 0, none⟩) }] := by rw [ofEvents_eq]; simp [MemAct.ofEvent]
    rw [hx]
    have key := h.tr.release hi (x := { g := i, fn := fn, pos := pos, act := .mark (.releaseMerge ⟨u, 0, none⟩) }) (a := ⟨u, 0, none⟩) ⟨rfl, rfl⟩ (by simp [Lo.tg, hact, Md.st]) hdf (h.wg_lt hG)
    have e1 : (fun j => if j = i then { (γ.lo i).tg with st := .rel t.size ⟨u, 0, none⟩ } else (γ.lo j).tg) = fun j => ((γ.set i l').lo j).tg := by
      funext j
      by_cases e : j = i
      · rw [e, set_same, if_pos rfl, hl']; rfl
      · rw [set_ne γ _ e, if_neg e]
    rw [e1] at key
    exact key
  · exact Keeps.atom h (fun j hj => set_ne γ l' hj) rfl (fun c hc => hc) (fun _ _ _ => rfl) (fun _ _ _ ho => ho) wake

/-- A worker that has let go: its step on the group. -/
theorem Whole.works (h : Whole B0 w0 γ w t) (hi : i < γ.N) {u p ph : Nat} {a : Addr} (hwg : (γ.lo i).wg = some u) (hmd : (γ.lo i).md = .rel p a ph) {md' : Md} {ph' : Nat} (hm : (md' = .rel p a ph' ∧ ph' ≠ 1) ∨ (md' = .quit p a ∧ ph' = 1)) {G G1 : WgG} (hG : γ.wg u = some G) (hb : G1.boss = G.boss) {n : Nat} (hn : n = if ph' = 0 then 1 else 0) (hn' : n ≤ (γ.lo i).wk u)
    {es : Array Event} (fn : FuncId) (pos : String) {d' : Nat} (hd : d' = deafBehind (γ.lo i).df es) (hok : ∀ e ∈ es, OkEv (γ.lo i).tg (AT γ) (sd γ) i w.heap.size e) (hs : DeafOk (γ.lo i).df es.toList) {c' : Nat} (hc' : c' + (γ.lo i).wk u = γ.cnt u + n) (hz : (G.ph = 0 → G1.ph = 0) ∧ (G.ph ≠ 0 → G1.ph ≠ 0))
    (hph : G1.ph ≤ 4 ∧ (G1.ph = 1 → 0 < c') ∧ (2 ≤ G1.ph → c' = 0)) (hdu : G1.ph = 2 ∨ G1.ph = 3 → G1.du = i ∧ md' = .rel p a G1.ph) (hdi : ph' ≠ 0 → ph' ≠ 1 → G1.ph = ph' ∧ (ph' = 2 ∨ ph' = 3)) (hdo : G.ph = 2 ∨ G.ph = 3 → G.du = i)
    {w' : World} (o : Nat) (v : Value) (st wake : Bool) (hwk : wake = true ∨ o ≠ 1 ∨ st = false) (hw : w' = if st then w.setCell ⟨u, o, none⟩ v else w)
    (h0 : st = true → o = 0 → v = .int .u64 ((c' * 4294967296 + wtOf G1.ph : Nat) : Int)) (h0' : st = false ∨ o ≠ 0 → c' * 4294967296 + wtOf G1.ph = γ.cnt u * 4294967296 + wtOf G.ph)
    (h1 : st = true → o = 1 → v = .int .u32 (smOf G1.ph : Nat)) (h1' : st = false ∨ o ≠ 1 → smOf G1.ph = smOf G.ph) :
    Whole B0 w0 (γ.setw i ((((γ.lo i).wkd u n).mdd md').dfd d') u G1) w' (t ++ MemOp.ofEvents i fn pos es) ∧ Keeps (SY B0 w0 PP) i γ w (γ.setw i ((((γ.lo i).wkd u n).mdd md').dfd d') u G1) w' wake := by
  obtain ⟨hi0, b, B, J, Gx, hbi, hbN, hB, hJ, hW, hGx, hGb⟩ := h.worker hi hwg (by rw [hmd]; simp)
  obtain ⟨l', hl'⟩ : ∃ l', l' = (((γ.lo i).wkd u n).mdd md').dfd d' := ⟨_, rfl⟩
  rw [← hl']
  have hna : (γ.lo i).md ≠ .act := by rw [hmd]; simp
  have hnolead := h.no_lead hi hna
  have hmd' : l'.md = md' := by rw [hl']; rfl
  have hwkx : ∀ x, x ≠ u → l'.wk x = (γ.lo i).wk x := fun x hx => by rw [hl']; simp [Lo.wkd, Lo.mdd, Lo.dfd, hx]
  have hwku : l'.wk u = n := by rw [hl']; simp [Lo.wkd, Lo.mdd, Lo.dfd]
  have hws' : ∀ x, l'.ws x = none := fun x => by rw [hl']; exact hnolead x
  have hwg' : l'.wg = some u := by rw [hl']; exact hwg
  have hres' : l'.res = (γ.lo i).res := by rw [hl']; rfl
  have hcu : (γ.setw i l' u G1).cnt u = c' := by
    have e : (γ.setw i l' u G1).cnt u = (γ.set i l').cnt u := rfl
    have := cnt_set γ hi l' u
    rw [hwku] at this
    omega
  have hle : c' ≤ γ.cnt u := by omega
  have ht : Team (γ.setw i l' u G1) := by
    refine h.team.one hi (u := u) (G := G) (G1 := G1) (l' := l') rfl hG hb (by rw [hl']; rfl) (by rw [hl']; rfl) hwkx (fun x _ => by rw [hl']; rfl) (by rw [hmd]; simp) (by rw [hmd']; rcases hm with ⟨e, _⟩ | ⟨e, _⟩ <;> rw [e] <;> simp) (fun x B' e => by rw [hws' x] at e; cases e) (fun e => absurd e hi0) (.inr hwg) (fun B' e => by rw [hws' u] at e; cases e) (fun B' e => by rw [hnolead u] at e; cases e) (fun b' B' hb' hne e => ?_) (fun b' B' J' x hb' e hmm => ?_) (fun _ => .inl hwg') ?_ (by rw [hcu]; exact Nat.lt_of_le_of_lt hle (h.team.small u)) (fun e => ?_) (fun p' a' ph'' x e hp hx => ?_) (fun j hj e hdj => absurd ((hdo e).symm.trans hdj).symm hj)
    · rw [hcu]
      obtain ⟨G', g1, g2, g3, g4, g5⟩ := h.lead hb' e
      rw [hG] at g1
      cases g1
      exact ⟨by omega, fun x => hz.1 (g3 x), fun x => hz.2 (g4 x).1⟩
    · obtain ⟨_, _, hW'⟩ := (h.team.boss b' hb' x B' e).2.2.1 i J' hmm
      obtain ⟨w1, w2⟩ := hW'
      have hx : x = u := by rw [hwg] at w1; exact (Option.some.inj w1).symm
      subst hx
      rw [hmd] at w2
      refine ⟨hwg', ?_⟩
      rw [hmd']
      rcases hm with ⟨e1, e2⟩ | ⟨e1, e2⟩
      · rw [e1]
        exact ⟨w2.1, by rw [hres']; exact w2.2.1, by rw [hwku, hn]⟩
      · rw [e1]
        exact ⟨w2.1, by rw [hres']; exact w2.2.1, by rw [hwku, hn, e2]; rfl⟩
    · rw [hcu]; exact hph
    · obtain ⟨e1, e2⟩ := hdu e
      rw [e1]
      exact ⟨hi, by rw [setw_same]; exact hwg', p, a, by rw [setw_same, hmd']; exact e2⟩
    · rw [hmd'] at e
      rcases hm with ⟨e1, e2⟩ | ⟨e1, e2⟩
      · rw [e1] at e
        cases e
        have hxu : x = u := by rw [hwg'] at hx; exact (Option.some.inj hx).symm
        obtain ⟨d1, d2⟩ := hdi hp e2
        refine ⟨d2, G1, by rw [hxu]; show (if u = u then some G1 else γ.wg u) = _; rw [if_pos rfl], d1, (hdu (by rw [d1]; exact d2)).1⟩
      · rw [e1] at e; cases e
  refine ⟨h.setWg hi hG hb fn pos hres' (by rw [hl']; rfl) (by rw [hl']; rfl) (by rw [hl']; rfl) (by rw [hl']; rfl) (by rw [hl']; rfl) (by rw [hl']; rfl) (by rw [hl']; rfl) (by rw [hl']; rfl) (by rw [hl']; rfl) (by rw [hl']; rfl) (by rw [hmd', hmd]; rcases hm with ⟨e, _⟩ | ⟨e, _⟩ <;> rw [e] <;> rfl) (fun _ => hna) hwkx (by rw [hl', ← hd]; rfl) hok (.inr hs) ht o v st hw (by rw [hcu]; exact h0) (by rw [hcu]; exact h0') h1 h1', ?_⟩
  refine Keeps.wg h (o := o) (v := v) (by
    rw [hw]
    cases st with
    | false => exact .inr rfl
    | true => exact .inl ⟨rfl, by rcases hwk with e | e | e; exact .inr (.inl e); exact .inl e; cases e⟩) hG

theorem deafOk_rw2 {d : Nat} (hd : d ≠ 0) (a : Addr) : DeafOk d (rw2 a).toList := ⟨.inr ⟨hd, a, false, rfl⟩, .inr ⟨hd, a, true, rfl⟩, trivial⟩
theorem deafOk_r1 {d : Nat} (hd : d ≠ 0) (a : Addr) : DeafOk d (#[⟨.cell a, false, true⟩] : Array Event).toList := ⟨.inr ⟨hd, a, false, rfl⟩, trivial⟩
theorem deafOk_sem (d : Nat) (a : Addr) : DeafOk d (semEvents a).toList :=
  ⟨.inl rfl, .inr ⟨Nat.succ_ne_zero d, a, false, rfl⟩, .inr ⟨Nat.succ_ne_zero d, a, true, rfl⟩, .inl rfl, trivial⟩
theorem deaf_sem (d : Nat) (a : Addr) : deafBehind d (semEvents a) = d := rfl

/-- The worker counts down. -/
theorem Whole.add_down (h : Whole B0 w0 γ w t) (hi : i < γ.N) {u p : Nat} {a : Addr} (hwg : (γ.lo i).wg = some u) (hmd : (γ.lo i).md = .rel p a 0) (hwk : (γ.lo i).wk u = 1) (hdf : (γ.lo i).df ≠ 0) (fn : FuncId) (pos : String) :
    ∃ n wt : Nat, wt ≤ 1 ∧ n < 2147483647 ∧ w.cell? ⟨u, 0, none⟩ = some (.int .u64 (((n + 1) * 4294967296 + wt : Nat) : Int)) ∧ w.frozen? ⟨u, 0, none⟩ = false ∧
      ∃ γ' md', (md' = (if n = 0 ∧ wt = 1 then Md.rel p a 2 else Md.quit p a)) ∧ Whole B0 w0 γ' (w.setCell ⟨u, 0, none⟩ (.int .u64 ((n * 4294967296 + wt : Nat) : Int))) (t ++ MemOp.ofEvents i fn pos (rw2 ⟨u, 0, none⟩)) ∧ γ'.N = γ.N ∧
      (∀ wake, Keeps (SY B0 w0 PP) i γ w γ' (w.setCell ⟨u, 0, none⟩ (.int .u64 ((n * 4294967296 + wt : Nat) : Int))) wake) ∧ γ'.lo i = ((γ.lo i).wkd u 0).mdd md' := by
  obtain ⟨hi0, b, B, J, G, hbi, hbN, hB, hJ, hW, hG, hGb⟩ := h.worker hi hwg (by rw [hmd]; simp)
  obtain ⟨q1, q2, q3, q4⟩ := h.team.wph u G hG
  obtain ⟨_, k2, k3, k4⟩ := h.mem.wg u G hG
  have hpos : 1 ≤ γ.cnt u := by
    have : (γ.lo i).wk u ≤ γ.cnt u := le_sumTo (f := fun j => (γ.lo j).wk u) hi
    omega
  have hph : G.ph = 0 ∨ G.ph = 1 := by
    by_cases e : 2 ≤ G.ph
    · have := q3 e; omega
    · omega
  obtain ⟨n, hn⟩ : ∃ n, γ.cnt u = n + 1 := ⟨γ.cnt u - 1, by omega⟩
  rw [hn] at k2
  have ed : ∀ md', ((((γ.lo i).wkd u 0).mdd md').dfd (γ.lo i).df) = ((γ.lo i).wkd u 0).mdd md' := fun md' => rfl
  refine ⟨n, wtOf G.ph, by rcases hph with e | e <;> rw [e] <;> decide, by have := h.team.small u; omega, k2, k4 0, ?_⟩
  by_cases hc : n = 0 ∧ wtOf G.ph = 1
  · have e1 : G.ph = 1 := by
      rcases hph with e | e
      · rw [e] at hc; exact absurd hc.2 (by decide)
      · exact e
    have key : ∀ wake, _ := fun wake => h.works (PP := PP) hi hwg hmd (md' := .rel p a 2) (ph' := 2) (.inl ⟨rfl, by decide⟩) hG (G1 := { G with ph := 2, du := i }) rfl (n := 0) rfl (Nat.zero_le _) (es := rw2 ⟨u, 0, none⟩) fn pos (d' := (γ.lo i).df) rfl (h.rw2_ok hG 0) (deafOk_rw2 hdf _) (c' := n) (by omega) ⟨fun e => by omega, fun _ => by simp⟩ ⟨by simp, fun e => by simp at e, fun _ => hc.1⟩ (fun _ => ⟨rfl, rfl⟩) (fun _ _ => ⟨rfl, .inl rfl⟩) (fun e => by omega)
      0 (.int .u64 ((n * 4294967296 + wtOf G.ph : Nat) : Int)) true wake (.inr (.inl (by decide))) rfl (fun _ _ => by rw [e1]; rfl) (fun e => by simp at e) (fun _ e => by cases e) (fun _ => by rw [e1]; rfl)
    refine ⟨_, _, (if_pos hc).symm, (key false).1, rfl, fun wake => (key wake).2, ?_⟩
    rw [setw_same]
    exact ed _
  · have key : ∀ wake, _ := fun wake => h.works (PP := PP) hi hwg hmd (md' := .quit p a) (ph' := 1) (.inr ⟨rfl, rfl⟩) hG (G1 := G) rfl (n := 0) rfl (Nat.zero_le _) (es := rw2 ⟨u, 0, none⟩) fn pos (d' := (γ.lo i).df) rfl (h.rw2_ok hG 0) (deafOk_rw2 hdf _) (c' := n) (by omega) ⟨id, id⟩ ⟨q1, fun e => by
        rw [e] at hc
        have : ¬ n = 0 := fun x => hc ⟨x, rfl⟩
        omega, fun e => by omega⟩ (fun e => by omega) (fun _ e => absurd rfl e) (fun e => by omega)
      0 (.int .u64 ((n * 4294967296 + wtOf G.ph : Nat) : Int)) true wake (.inr (.inl (by decide))) rfl (fun _ _ => rfl) (fun e => by simp at e) (fun _ e => by cases e) (fun _ => rfl)
    refine ⟨_, _, (if_neg hc).symm, (key false).1, rfl, fun wake => (key wake).2, ?_⟩
    rw [setw_same]
    exact ed _

/-- The last worker's duties: to look .. -/
theorem Whole.duty_load (h : Whole B0 w0 γ w t) (hi : i < γ.N) {u p : Nat} {a : Addr} (hwg : (γ.lo i).wg = some u) (hmd : (γ.lo i).md = .rel p a 2) (hdf : (γ.lo i).df ≠ 0) (fn : FuncId) (pos : String) :
    w.cell? ⟨u, 0, none⟩ = some (.int .u64 1) ∧ ∃ γ', Whole B0 w0 γ' w (t ++ MemOp.ofEvents i fn pos #[⟨.cell ⟨u, 0, none⟩, false, true⟩]) ∧ γ'.N = γ.N ∧ (∀ wake, Keeps (SY B0 w0 PP) i γ w γ' w wake) ∧ γ'.lo i = γ.lo i := by
  obtain ⟨hi0, b, B, J, G, hbi, hbN, hB, hJ, hW, hG, hGb⟩ := h.worker hi hwg (by rw [hmd]; simp)
  obtain ⟨_, G', hG', hp, hd⟩ := h.team.duty i hi p a 2 u hmd (by decide) hwg
  rw [hG] at hG'
  cases hG'
  obtain ⟨_, k2, k3, k4⟩ := h.mem.wg u G hG
  have c0 := (h.team.wph u G hG).2.2.1 (by omega)
  have key := h.marks (PP := PP) hi fn pos (es := #[⟨.cell ⟨u, 0, none⟩, false, true⟩]) (h.r1_ok hG 0) (.inr (deafOk_r1 hdf _))
  refine ⟨by rw [k2, c0, hp]; rfl, _, key.1, rfl, key.2, ?_⟩
  rw [set_same]; rfl

/-- .. to store nought .. -/
theorem Whole.duty_store (h : Whole B0 w0 γ w t) (hi : i < γ.N) {u p : Nat} {a : Addr} (hwg : (γ.lo i).wg = some u) (hmd : (γ.lo i).md = .rel p a 2) (hwk : (γ.lo i).wk u = 0) (hdf : (γ.lo i).df ≠ 0) (fn : FuncId) (pos : String) :
    (∃ x, w.cell? ⟨u, 0, none⟩ = some x) ∧ w.frozen? ⟨u, 0, none⟩ = false ∧ ∃ γ', Whole B0 w0 γ' (w.setCell ⟨u, 0, none⟩ (.int .u64 0)) (t ++ MemOp.ofEvents i fn pos #[⟨.cell ⟨u, 0, none⟩, true, true⟩]) ∧ γ'.N = γ.N ∧ (∀ wake, Keeps (SY B0 w0 PP) i γ w γ' (w.setCell ⟨u, 0, none⟩ (.int .u64 0)) wake) ∧ γ'.lo i = (γ.lo i).mdd (.rel p a 3) := by
  obtain ⟨hi0, b, B, J, G, hbi, hbN, hB, hJ, hW, hG, hGb⟩ := h.worker hi hwg (by rw [hmd]; simp)
  obtain ⟨_, G', hG', hp, hd⟩ := h.team.duty i hi p a 2 u hmd (by decide) hwg
  rw [hG] at hG'
  cases hG'
  obtain ⟨_, k2, k3, k4⟩ := h.mem.wg u G hG
  have c0 := (h.team.wph u G hG).2.2.1 (by omega)
  have key : ∀ wake, _ := fun wake => h.works (PP := PP) hi hwg hmd (md' := .rel p a 3) (ph' := 3) (.inl ⟨rfl, by decide⟩) hG (G1 := { G with ph := 3 }) rfl (n := 0) rfl (Nat.zero_le _) (es := #[⟨.cell ⟨u, 0, none⟩, true, true⟩]) fn pos (d' := (γ.lo i).df) rfl (fun e he => by
      obtain rfl : e = ⟨.cell ⟨u, 0, none⟩, true, true⟩ := by simpa using he
      exact ⟨h.wg_lt hG, wg_at hG 0⟩) ⟨.inr ⟨hdf, _, _, rfl⟩, trivial⟩ (c' := 0) (by omega) ⟨fun e => by omega, fun _ => by simp⟩ ⟨by simp, fun e => by simp at e, fun _ => rfl⟩ (fun _ => ⟨hd, rfl⟩) (fun _ _ => ⟨rfl, .inr rfl⟩) (fun _ => hd)
    0 (.int .u64 0) true wake (.inr (.inl (by decide))) rfl (fun _ _ => rfl) (fun e => by simp at e) (fun _ e => by cases e) (fun _ => by rw [hp]; rfl)
  refine ⟨⟨_, k2⟩, k4 0, _, (key false).1, rfl, fun wake => (key wake).2, ?_⟩
  rw [setw_same]
  have : (fun x => if x = u then 0 else (γ.lo i).wk x) = (γ.lo i).wk := by
    funext x
    by_cases e : x = u
    · rw [if_pos e, e, hwk]
    · rw [if_neg e]
  unfold Lo.wkd Lo.mdd Lo.dfd
  rw [this]

/-- .. to wake the leader. -/
theorem Whole.duty_wake (h : Whole B0 w0 γ w t) (hi : i < γ.N) {u p : Nat} {a : Addr} (hwg : (γ.lo i).wg = some u) (hmd : (γ.lo i).md = .rel p a 3) (hwk : (γ.lo i).wk u = 0) (fn : FuncId) (pos : String) :
    w.cell? ⟨u, 1, none⟩ = some (.int .u32 0) ∧ w.frozen? ⟨u, 1, none⟩ = false ∧ ∃ γ', Whole B0 w0 γ' (w.setCell ⟨u, 1, none⟩ (.int .u32 1)) (t ++ MemOp.ofEvents i fn pos (semEvents ⟨u, 1, none⟩)) ∧ γ'.N = γ.N ∧ Keeps (SY B0 w0 PP) i γ w γ' (w.setCell ⟨u, 1, none⟩ (.int .u32 1)) true ∧ γ'.lo i = (γ.lo i).mdd (.quit p a) := by
  obtain ⟨hi0, b, B, J, G, hbi, hbN, hB, hJ, hW, hG, hGb⟩ := h.worker hi hwg (by rw [hmd]; simp)
  obtain ⟨_, G', hG', hp, hd⟩ := h.team.duty i hi p a 3 u hmd (by decide) hwg
  rw [hG] at hG'
  cases hG'
  obtain ⟨_, k2, k3, k4⟩ := h.mem.wg u G hG
  have c0 := (h.team.wph u G hG).2.2.1 (by omega)
  have key := h.works (PP := PP) hi hwg hmd (md' := .quit p a) (ph' := 1) (.inr ⟨rfl, rfl⟩) hG (G1 := { G with ph := 4 }) rfl (n := 0) rfl (Nat.zero_le _) (es := semEvents ⟨u, 1, none⟩) fn pos (d' := (γ.lo i).df) rfl (fun e he => by
      simp only [semEvents, List.mem_toArray, List.mem_cons, List.not_mem_nil, or_false] at he
      rcases he with rfl | rfl | rfl | rfl
      · trivial
      · exact ⟨h.wg_lt hG, wg_at hG 1⟩
      · exact ⟨h.wg_lt hG, wg_at hG 1⟩
      · trivial) (deafOk_sem _ _) (c' := 0) (by omega) ⟨fun e => by omega, fun _ => by simp⟩ ⟨by simp, fun e => by simp at e, fun _ => rfl⟩ (fun e => by simp at e) (fun _ e => absurd rfl e) (fun _ => hd)
    1 (.int .u32 1) true true (.inl rfl) rfl (fun _ e => by cases e) (fun _ => by rw [c0, hp]; rfl) (fun _ _ => rfl) (fun e => by simp at e)
  refine ⟨by rw [k3, hp]; rfl, k4 1, _, key.1, rfl, key.2, ?_⟩
  rw [setw_same]
  have : (fun x => if x = u then 0 else (γ.lo i).wk x) = (γ.lo i).wk := by
    funext x
    by_cases e : x = u
    · rw [if_pos e, e, hwk]
    · rw [if_neg e]
  unfold Lo.wkd Lo.mdd Lo.dfd
  rw [this]
end
end Go.Proofs.Ytofohjbcgchhoaa
