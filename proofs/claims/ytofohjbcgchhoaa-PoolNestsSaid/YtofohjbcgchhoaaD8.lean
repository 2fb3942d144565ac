/-
  STEPS, on: marks; a group's leader.
-/
import Derived.Test.YtofohjbcgchhoaaD7
import Derived.Conc.MarkLaws
namespace Go.Proofs.Ytofohjbcgchhoaa
open Go.Conc
open Go.RowKit
open Go.ConcN (sumTo sumTo_congr le_sumTo)

theorem deafOk_mute : ∀ (es : List Event), (∀ e ∈ es, e.mute = true) → ∀ d, DeafOk d es
  | [], _, _ => trivial
  | e :: es, h, _ => ⟨.inl (h e (by simp)), deafOk_mute es (fun x hx => h x (by simp [hx])) _⟩

def Lo.dfd (l : Lo) (d : Nat) : Lo := { l with df := d }
def Lo.wkd (l : Lo) (u n : Nat) : Lo := { l with wk := fun x => if x = u then n else l.wk x }
def Lo.wsd (l : Lo) (u : Nat) (B : Option Boss) : Lo := { l with ws := fun x => if x = u then B else l.ws x }
def Lo.mdd (l : Lo) (m : Md) : Lo := { l with md := m }

section
variable {B0 : Nat} {w0 : World} {PP : Value → World → Prop} {γ : Gh} {w : World} {t : Trace} {i : Nat}

theorem Works.dfd {l : Lo} {u : Nat} {J : Res → Prop} (h : Works l u J) (d : Nat) : Works (l.dfd d) u J := h

/-- 'disable', 'enable', marks. -/
theorem Whole.marks (h : Whole B0 w0 γ w t) (hi : i < γ.N) (fn : FuncId) (pos : String) {es : Array Event} (hok : ∀ e ∈ es, OkEv (γ.lo i).tg (AT γ) (sd γ) i w.heap.size e) (hs : (γ.lo i).md = .act ∨ DeafOk (γ.lo i).df es.toList) :
    Whole B0 w0 (γ.set i ((γ.lo i).dfd (deafBehind (γ.lo i).df es))) w (t ++ MemOp.ofEvents i fn pos es) ∧ ∀ wake, Keeps (SY B0 w0 PP) i γ w (γ.set i ((γ.lo i).dfd (deafBehind (γ.lo i).df es))) w wake := by
  obtain ⟨l', hl'⟩ : ∃ l', l' = (γ.lo i).dfd (deafBehind (γ.lo i).df es) := ⟨_, rfl⟩
  have F : ∀ {α : Type} (f : Lo → α), f l' = f (γ.lo i) → ∀ j, f ((γ.set i l').lo j) = f (γ.lo j) := fun f h j => set_field f γ i l' h j
  rw [← hl']
  refine ⟨h.atom hi fn pos rfl (fun j hj => set_ne γ l' hj) (by rw [set_same, hl']; rfl) (by rw [set_same, hl']; rfl) (by rw [set_same, hl']; rfl) (by rw [set_same, hl']; rfl) (at_congr rfl rfl rfl) (sd_congr rfl) ?_ ?_ ?_ rfl (by rw [set_same, hl']; rfl) hok hs, fun wake => ?_⟩
  · exact h.mem.of rfl rfl rfl rfl (fun j _ => F Lo.res (by rw [hl']; rfl) j) (fun j _ a v => by rw [F Lo.ro (by rw [hl']; rfl) j]; exact id) (fun j _ => F Lo.wk (by rw [hl']; rfl) j) (fun j _ => F Lo.oc (by rw [hl']; rfl) j)
  · exact h.nums.of rfl rfl rfl (fun j _ => F (fun l => l.res.tk) (by rw [hl']; rfl) j) (fun j _ => F Lo.pk (by rw [hl']; rfl) j) (fun j _ => F Lo.pl (by rw [hl']; rfl) j) (fun j _ => F Lo.gl (by rw [hl']; rfl) j) (fun j _ => F Lo.cl (by rw [hl']; rfl) j) (fun j _ => F Lo.gk (by rw [hl']; rfl) j) (fun j _ => F Lo.oc (by rw [hl']; rfl) j) (F Lo.sk (by rw [hl']; rfl) 0) (fun j _ => F Lo.al (by rw [hl']; rfl) j) (fun j _ e => by rw [F Lo.md (by rw [hl']; rfl) j] at e; exact .inl e)
  · exact h.team.of rfl rfl (fun j _ => F Lo.md (by rw [hl']; rfl) j) (fun j _ => F Lo.wg (by rw [hl']; rfl) j) (fun j _ => F Lo.wk (by rw [hl']; rfl) j) (fun j _ => F Lo.ws (by rw [hl']; rfl) j) (fun j _ => F Lo.jn (by rw [hl']; rfl) j) (fun j _ => F Lo.ob (by rw [hl']; rfl) j) (fun j _ => .inr (F Lo.res (by rw [hl']; rfl) j)) (fun j _ => .inr (F Lo.ro (by rw [hl']; rfl) j))
  · exact Keeps.atom h (fun j hj => set_ne γ l' hj) rfl (fun c hc => hc) (fun _ _ _ => rfl) (fun _ _ _ ho => ho) wake
theorem Whole.mutes (h : Whole B0 w0 γ w t) (hi : i < γ.N) (fn : FuncId) (pos : String) {es : Array Event} (hm : ∀ e ∈ es, e.mute = true) :
    Whole B0 w0 (γ.set i ((γ.lo i).dfd (deafBehind (γ.lo i).df es))) w (t ++ MemOp.ofEvents i fn pos es) ∧ ∀ wake, Keeps (SY B0 w0 PP) i γ w (γ.set i ((γ.lo i).dfd (deafBehind (γ.lo i).df es))) w wake :=
  h.marks hi fn pos (fun e he => by
    have := hm e he
    obtain ⟨loc, wr, sy⟩ := e
    cases loc with
    | mark m => cases m <;> first | trivial | (simp [Event.mute] at this)
    | _ => simp [Event.mute] at this) (.inr (deafOk_mute _ (fun e he => hm e (by simpa using he)) _))

/-- What a leader knows of its group. -/
theorem Whole.lead (h : Whole B0 w0 γ w t) (hi : i < γ.N) {u : Nat} {B : Boss} (hB : (γ.lo i).ws u = some B) : ∃ G, γ.wg u = some G ∧ G.boss = i ∧ (B.ph = 0 → G.ph = 0) ∧ (B.ph ≠ 0 → G.ph ≠ 0 ∧ (γ.lo i).wk u = 0) ∧ γ.cnt u ≤ B.hi := by
  obtain ⟨_, _, _, h4, G, h5, h6, h7, h8⟩ := h.team.boss i hi u B hB
  exact ⟨G, h5, h6, h7, h8, h4⟩
/-- The leader is no worker of its own group. -/
theorem Whole.lead_wg (h : Whole B0 w0 γ w t) (hi : i < γ.N) {u : Nat} {B : Boss} (hB : (γ.lo i).ws u = some B) : (γ.lo i).wg ≠ some u := by
  intro e
  have hmd := (h.team.boss i hi u B hB).1
  have h0 : i ≠ 0 := fun e0 => by rw [e0, h.team.main.2] at e; cases e
  obtain ⟨b, y, B', J, c1, c2, c3⟩ := h.team.led i hi h0 (by rw [hmd]; simp)
  obtain ⟨_, hbi, hW⟩ := (h.team.boss b c1 y B' c2).2.2.1 i J c3
  have : y = u := by
    have := hW.1
    rw [e] at this
    exact (Option.some.inj this).symm
  subst this
  obtain ⟨G, g1, g2, _⟩ := h.lead hi hB
  obtain ⟨G', g1', g2', _⟩ := h.lead c1 c2
  rw [g1] at g1'
  cases g1'
  omega

/-- A leader's step on its own group. -/
theorem Whole.leads (h : Whole B0 w0 γ w t) (hi : i < γ.N) {u : Nat} {B B1 : Boss} (hB : (γ.lo i).ws u = some B) (hBw : B1.ws = B.ws) {G G1 : WgG} (hG : γ.wg u = some G) (hb : G1.boss = G.boss) {n : Nat} {es : Array Event} (fn : FuncId) (pos : String)
    (hd : deafBehind (γ.lo i).df es = (γ.lo i).df) (hok : ∀ e ∈ es, OkEv (γ.lo i).tg (AT γ) (sd γ) i w.heap.size e) {c' : Nat} (hc' : c' + (γ.lo i).wk u = γ.cnt u + n) (hhi : c' ≤ B1.hi) (hph0 : B1.ph = 0 → G1.ph = 0) (hph1 : B1.ph ≠ 0 → G1.ph ≠ 0 ∧ n = 0)
    (hsm : c' < 2147483648) (hph : G1.ph ≤ 1 ∧ (G1.ph = 1 → 0 < c')) (hG3 : G1.ph = G.ph ∨ (G.ph ≠ 2 ∧ G.ph ≠ 3)) {w' : World} (o : Nat) (v : Value) (st : Bool) (hw : w' = if st then w.setCell ⟨u, o, none⟩ v else w)
    (h0 : st = true → o = 0 → v = .int .u64 ((c' * 4294967296 + wtOf G1.ph : Nat) : Int)) (h0' : st = false ∨ o ≠ 0 → c' * 4294967296 + wtOf G1.ph = γ.cnt u * 4294967296 + wtOf G.ph)
    (h1 : st = true → o = 1 → v = .int .u32 (smOf G1.ph : Nat)) (h1' : st = false ∨ o ≠ 1 → smOf G1.ph = smOf G.ph) :
    Whole B0 w0 (γ.setw i (((γ.lo i).wkd u n).wsd u (some B1)) u G1) w' (t ++ MemOp.ofEvents i fn pos es) ∧ ∀ wake, Keeps (SY B0 w0 PP) i γ w (γ.setw i (((γ.lo i).wkd u n).wsd u (some B1)) u G1) w' wake := by
  obtain ⟨l', hl'⟩ : ∃ l', l' = ((γ.lo i).wkd u n).wsd u (some B1) := ⟨_, rfl⟩
  rw [← hl']
  obtain ⟨hmd, hnd, hwk, hle, G', hG', hboss, hp0, hp1⟩ := h.team.boss i hi u B hB
  rw [hG] at hG'
  cases hG'
  have hwkx : ∀ x, x ≠ u → l'.wk x = (γ.lo i).wk x := fun x hx => by rw [hl']; simp [Lo.wkd, Lo.wsd, hx]
  have hwku : l'.wk u = n := by rw [hl']; simp [Lo.wkd, Lo.wsd]
  have hwsx : ∀ x, x ≠ u → l'.ws x = (γ.lo i).ws x := fun x hx => by rw [hl']; simp [Lo.wkd, Lo.wsd, hx]
  have hwsu : l'.ws u = some B1 := by rw [hl']; simp [Lo.wkd, Lo.wsd]
  have hcu : (γ.setw i l' u G1).cnt u = c' := by
    have e : (γ.setw i l' u G1).cnt u = (γ.set i l').cnt u := rfl
    have := cnt_set γ hi l' u
    rw [hwku] at this
    omega
  have hnotwg := h.lead_wg hi hB
  have ht : Team (γ.setw i l' u G1) := by
    refine h.team.one hi (u := u) (G := G) (G1 := G1) (l' := l') rfl hG hb (by rw [hl']; rfl) (by rw [hl']; rfl) hwkx hwsx (by rw [hmd]; simp) (by rw [hl']; show (γ.lo i).md ≠ _; rw [hmd]; simp) (fun _ _ _ => by rw [hl']; exact hmd) (fun _ => by rw [hl']; exact hmd) (.inl (by rw [hl']; rfl)) (fun B' e => ?_) (fun B' e => ?_) (fun b B' hbN hne e => ?_) (fun b B' J x hbN e hm => ?_) (fun _ => .inr ⟨B1, hwsu⟩) ?_ (by rw [hcu]; exact hsm) (fun e => ?_) (fun p a ph x e => ?_) (fun j hj e hdj => ?_)
    · rw [hwsu] at e
      cases e
      exact ⟨B, hB, hBw, by rw [hcu]; exact hhi, hph0, fun e => ⟨(hph1 e).1, by rw [hwku]; exact (hph1 e).2⟩⟩
    · rw [hB] at e
      cases e
      exact ⟨B1, hwsu, hBw⟩
    · obtain ⟨G', g1, g2, _⟩ := h.lead hbN e
      rw [hG] at g1
      cases g1
      exact absurd (g2.symm.trans hboss) hne
    · have hW := ((h.team.boss b hbN x B' e).2.2.1 i J hm).2.2
      have hxu : x ≠ u := fun e' => hnotwg (by rw [← e']; exact hW.1)
      refine ⟨by rw [hl']; exact hW.1, ?_⟩
      have h2 := hW.2
      rw [hmd] at h2
      rw [show l'.md = .act by rw [hl']; exact hmd]
      exact ⟨by rw [hwkx x hxu]; exact h2.1, by rw [hl']; exact h2.2⟩
    · rw [hcu]; exact ⟨by omega, hph.2, fun e => by omega⟩
    · omega
    · rw [show l'.md = .act by rw [hl']; exact hmd] at e; cases e
    · rcases hG3 with hG3 | hG3
      · have := hph.1; rw [hG3] at this; omega
      · omega
  refine ⟨h.setWg hi hG hb fn pos (by rw [hl']; rfl) (by rw [hl']; rfl) (by rw [hl']; rfl) (by rw [hl']; rfl) (by rw [hl']; rfl) (by rw [hl']; rfl) (by rw [hl']; rfl) (by rw [hl']; rfl) (by rw [hl']; rfl) (by rw [hl']; rfl) (by rw [hl']; rfl) (by rw [hl']; rfl) (fun e => by rw [hl'] at e; exact e) hwkx (by rw [hl', hd]; rfl) hok (.inl hmd) ht o v st hw (by rw [hcu]; exact h0) (by rw [hcu]; exact h0') h1 h1', fun wake => ?_⟩
  exact Keeps.wg h (o := o) (v := v) (by rw [hw]; cases st; exact .inr rfl; exact .inl ⟨rfl, .inr (.inr hboss)⟩) hG

theorem wg_at {u : Nat} {G : WgG} (hG : γ.wg u = some G) (o : Nat) : AT γ ⟨u, o, none⟩ := ⟨rfl, .inr (.inl (by rw [show γ.wg u = some G from hG]; rfl))⟩
theorem Whole.wg_lt (h : Whole B0 w0 γ w t) {u : Nat} {G : WgG} (hG : γ.wg u = some G) : u < w.heap.size := lt_of_cell2 (h.mem.wg u G hG).2.1
theorem Whole.rw2_ok (h : Whole B0 w0 γ w t) {u : Nat} {G : WgG} (hG : γ.wg u = some G) (o : Nat) : ∀ e ∈ rw2 ⟨u, o, none⟩, OkEv (γ.lo i).tg (AT γ) (sd γ) i w.heap.size e := by
  intro e he
  simp only [rw2, List.mem_toArray, List.mem_cons, List.not_mem_nil, or_false] at he
  rcases he with rfl | rfl <;> exact ⟨h.wg_lt hG, wg_at hG o⟩
theorem Whole.r1_ok (h : Whole B0 w0 γ w t) {u : Nat} {G : WgG} (hG : γ.wg u = some G) (o : Nat) : ∀ e ∈ (#[⟨.cell ⟨u, o, none⟩, false, true⟩] : Array Event), OkEv (γ.lo i).tg (AT γ) (sd γ) i w.heap.size e := by
  intro e he
  obtain rfl : e = ⟨.cell ⟨u, o, none⟩, false, true⟩ := by simpa using he
  exact ⟨h.wg_lt hG, wg_at hG o⟩

/-- The leader counts one more. -/
theorem Whole.add_up (h : Whole B0 w0 γ w t) (hi : i < γ.N) {u hi' : Nat} {ws : List (Nat × (Res → Prop))} (hB : (γ.lo i).ws u = some ⟨ws, hi', 0⟩) (hh : hi' < 2147483647) (fn : FuncId) (pos : String) :
    ∃ n : Nat, n ≤ hi' ∧ w.cell? ⟨u, 0, none⟩ = some (.int .u64 ((n * 4294967296 : Nat) : Int)) ∧ w.frozen? ⟨u, 0, none⟩ = false ∧ ∃ γ', Whole B0 w0 γ' (w.setCell ⟨u, 0, none⟩ (.int .u64 (((n + 1) * 4294967296 : Nat) : Int))) (t ++ MemOp.ofEvents i fn pos (rw2 ⟨u, 0, none⟩)) ∧ γ'.N = γ.N ∧
      (∀ wake, Keeps (SY B0 w0 PP) i γ w γ' (w.setCell ⟨u, 0, none⟩ (.int .u64 (((n + 1) * 4294967296 : Nat) : Int))) wake) ∧ γ'.lo i = ((γ.lo i).wkd u ((γ.lo i).wk u + 1)).wsd u (some ⟨ws, hi' + 1, 0⟩) := by
  obtain ⟨G, hG, hb, hp0, _, hle⟩ := h.lead hi hB
  have hp := hp0 rfl
  obtain ⟨_, k2, _, k4⟩ := h.mem.wg u G hG
  have e0 : wtOf G.ph = 0 := by rw [hp]; rfl
  rw [e0, Nat.add_zero] at k2
  have key := h.leads (PP := PP) hi hB (B1 := ⟨ws, hi' + 1, 0⟩) rfl hG (G1 := G) rfl (n := (γ.lo i).wk u + 1) (es := rw2 ⟨u, 0, none⟩) fn pos rfl (h.rw2_ok hG 0) (c' := γ.cnt u + 1) (by omega) (by simp only at *; omega) (fun _ => hp) (fun e => absurd rfl e) (by simp only at *; omega) ⟨by omega, fun e => by omega⟩ (.inl rfl) 0 (.int .u64 (((γ.cnt u + 1) * 4294967296 : Nat) : Int)) true rfl (fun _ _ => by simp only [e0, Nat.add_zero]) (fun e => by simp at e) (fun _ e => by cases e) (fun _ => rfl)
  exact ⟨γ.cnt u, hle, k2, k4 0, _, key.1, rfl, key.2, setw_same _ _ _ _ _⟩

/-- The leader reads the counter. -/
theorem Whole.lead_load (h : Whole B0 w0 γ w t) (hi : i < γ.N) {u hi' : Nat} {ws : List (Nat × (Res → Prop))} (hB : (γ.lo i).ws u = some ⟨ws, hi', 0⟩) (fn : FuncId) (pos : String) :
    ∃ n : Nat, n ≤ hi' ∧ (γ.lo i).wk u ≤ n ∧ w.cell? ⟨u, 0, none⟩ = some (.int .u64 ((n * 4294967296 : Nat) : Int)) ∧ ∃ γ', Whole B0 w0 γ' w (t ++ MemOp.ofEvents i fn pos #[⟨.cell ⟨u, 0, none⟩, false, true⟩]) ∧ γ'.N = γ.N ∧
      (∀ wake, Keeps (SY B0 w0 PP) i γ w γ' w wake) ∧ γ'.lo i = (γ.lo i).wsd u (some ⟨ws, n, 0⟩) := by
  obtain ⟨G, hG, hb, hp0, _, hle⟩ := h.lead hi hB
  have hp := hp0 rfl
  obtain ⟨_, k2, _, k4⟩ := h.mem.wg u G hG
  have e0 : wtOf G.ph = 0 := by rw [hp]; rfl
  rw [e0, Nat.add_zero] at k2
  have key := h.leads (PP := PP) hi hB (B1 := ⟨ws, γ.cnt u, 0⟩) rfl hG (G1 := G) rfl (n := (γ.lo i).wk u) (es := #[⟨.cell ⟨u, 0, none⟩, false, true⟩]) fn pos rfl (h.r1_ok hG 0) (c' := γ.cnt u) (by omega) (Nat.le_refl _) (fun _ => hp) (fun e => absurd rfl e) (h.team.small u) ⟨by omega, fun e => by omega⟩ (.inl rfl) 0 undef false rfl (fun e => by cases e) (fun e => rfl) (fun e => by cases e) (fun _ => rfl)
  have e1 : ((γ.lo i).wkd u ((γ.lo i).wk u)).wsd u (some ⟨ws, γ.cnt u, 0⟩) = (γ.lo i).wsd u (some ⟨ws, γ.cnt u, 0⟩) := by
    have : (fun x => if x = u then (γ.lo i).wk u else (γ.lo i).wk x) = (γ.lo i).wk := by funext x; by_cases e : x = u <;> simp [e]
    unfold Lo.wsd Lo.wkd
    rw [this]
  rw [e1] at key
  exact ⟨γ.cnt u, hle, le_sumTo (f := fun j => (γ.lo j).wk u) hi, k2, _, key.1, rfl, key.2, setw_same _ _ _ _ _⟩

/-- The leader says that it waits: where the counter stands as it was read. -/
theorem Whole.lead_cas (h : Whole B0 w0 γ w t) (hi : i < γ.N) {u v : Nat} {ws : List (Nat × (Res → Prop))} (hB : (γ.lo i).ws u = some ⟨ws, v, 0⟩) (hv : 0 < v) (hwk : (γ.lo i).wk u = 0) (fn : FuncId) (pos : String) :
    ∃ n : Nat, w.cell? ⟨u, 0, none⟩ = some (.int .u64 ((n * 4294967296 : Nat) : Int)) ∧ w.frozen? ⟨u, 0, none⟩ = false ∧
      (n = v → ∃ γ', Whole B0 w0 γ' (w.setCell ⟨u, 0, none⟩ (.int .u64 ((v * 4294967296 + 1 : Nat) : Int))) (t ++ MemOp.ofEvents i fn pos (rw2 ⟨u, 0, none⟩)) ∧ γ'.N = γ.N ∧ (∀ wake, Keeps (SY B0 w0 PP) i γ w γ' (w.setCell ⟨u, 0, none⟩ (.int .u64 ((v * 4294967296 + 1 : Nat) : Int))) wake) ∧ γ'.lo i = (γ.lo i).wsd u (some ⟨ws, v, 1⟩)) ∧
      (n ≠ v → ∃ γ', Whole B0 w0 γ' w (t ++ MemOp.ofEvents i fn pos #[⟨.cell ⟨u, 0, none⟩, false, true⟩]) ∧ γ'.N = γ.N ∧ (∀ wake, Keeps (SY B0 w0 PP) i γ w γ' w wake) ∧ γ'.lo i = (γ.lo i).wsd u (some ⟨ws, v - 1, 0⟩)) := by
  obtain ⟨G, hG, hb, hp0, _, hle⟩ := h.lead hi hB
  have hp := hp0 rfl
  simp only at hle
  obtain ⟨_, k2, _, k4⟩ := h.mem.wg u G hG
  have e0 : wtOf G.ph = 0 := by rw [hp]; rfl
  have s0 : smOf G.ph = 0 := by rw [hp]; rfl
  rw [e0, Nat.add_zero] at k2
  have e1 : ∀ B1, ((γ.lo i).wkd u 0).wsd u (some B1) = (γ.lo i).wsd u (some B1) := fun B1 => by
    have : (fun x => if x = u then 0 else (γ.lo i).wk x) = (γ.lo i).wk := by
      funext x
      by_cases e : x = u
      · rw [if_pos e, e, hwk]
      · rw [if_neg e]
    unfold Lo.wsd Lo.wkd
    rw [this]
  refine ⟨γ.cnt u, k2, k4 0, fun e => ?_, fun e => ?_⟩
  · have key := h.leads (PP := PP) hi hB (B1 := ⟨ws, v, 1⟩) rfl hG (G1 := { G with ph := 1 }) rfl (n := 0) (es := rw2 ⟨u, 0, none⟩) fn pos rfl (h.rw2_ok hG 0) (c' := γ.cnt u) (by omega) (by simp only; omega) (fun e => by cases e) (fun _ => ⟨by simp, rfl⟩) (h.team.small u) ⟨Nat.le_refl _, fun _ => by omega⟩ (.inr ⟨by omega, by omega⟩) 0 (.int .u64 ((v * 4294967296 + 1 : Nat) : Int)) true rfl (fun _ _ => by rw [e]; rfl) (fun e => by simp at e) (fun _ e => by cases e) (fun _ => by rw [s0]; rfl)
    rw [e1] at key
    exact ⟨_, key.1, rfl, key.2, setw_same _ _ _ _ _⟩
  · have key := h.leads (PP := PP) hi hB (B1 := ⟨ws, v - 1, 0⟩) rfl hG (G1 := G) rfl (n := 0) (es := #[⟨.cell ⟨u, 0, none⟩, false, true⟩]) fn pos rfl (h.r1_ok hG 0) (c' := γ.cnt u) (by omega) (by simp only; omega) (fun _ => hp) (fun e => absurd rfl e) (h.team.small u) ⟨by omega, fun e => by omega⟩ (.inl rfl) 0 undef false rfl (fun e => by cases e) (fun e => rfl) (fun e => by cases e) (fun _ => rfl)
    rw [e1] at key
    exact ⟨_, key.1, rfl, key.2, setw_same _ _ _ _ _⟩

/-- The leader's semaphore: it sleeps; or it goes on, and nobody is at work. -/
theorem Whole.lead_sem (h : Whole B0 w0 γ w t) (hi : i < γ.N) {u v : Nat} {ws : List (Nat × (Res → Prop))} (hB : (γ.lo i).ws u = some ⟨ws, v, 1⟩) (fn : FuncId) (pos : String) :
    w.cell? ⟨u, 1, none⟩ = some (.int .u32 0) ∨ (w.cell? ⟨u, 1, none⟩ = some (.int .u32 1) ∧ w.frozen? ⟨u, 1, none⟩ = false ∧
      ∃ γ', Whole B0 w0 γ' (w.setCell ⟨u, 1, none⟩ (.int .u32 0)) (t ++ MemOp.ofEvents i fn pos (semEvents ⟨u, 1, none⟩)) ∧ γ'.N = γ.N ∧ (∀ wake, Keeps (SY B0 w0 PP) i γ w γ' (w.setCell ⟨u, 1, none⟩ (.int .u32 0)) wake) ∧ γ'.lo i = (γ.lo i).wsd u (some ⟨ws, 0, 0⟩)) := by
  obtain ⟨G, hG, hb, _, hp1, hle⟩ := h.lead hi hB
  obtain ⟨hp, hwk⟩ := hp1 (by simp)
  obtain ⟨_, k2, k3, k4⟩ := h.mem.wg u G hG
  obtain ⟨q1, q2, q3, q4⟩ := h.team.wph u G hG
  by_cases e4 : G.ph = 4
  · right
    have c0 := q3 (by omega)
    have s1 : smOf G.ph = 1 := by rw [e4]; rfl
    have w1 : wtOf G.ph = 0 := by rw [e4]; rfl
    rw [s1] at k3
    refine ⟨k3, k4 1, ?_⟩
    have key := h.leads (PP := PP) hi hB (B1 := ⟨ws, 0, 0⟩) rfl hG (G1 := { G with ph := 0 }) rfl (n := 0) (es := semEvents ⟨u, 1, none⟩) fn pos rfl (fun e he => by
      simp only [semEvents, List.mem_toArray, List.mem_cons, List.not_mem_nil, or_false] at he
      rcases he with rfl | rfl | rfl | rfl
      · trivial
      · exact ⟨h.wg_lt hG, wg_at hG 1⟩
      · exact ⟨h.wg_lt hG, wg_at hG 1⟩
      · trivial) (c' := 0) (by omega) (Nat.le_refl _) (fun _ => rfl) (fun e => absurd rfl e) (by decide) ⟨by simp, fun e => by simp at e⟩ (.inr ⟨by omega, by omega⟩) 1 (.int .u32 0) true rfl (fun _ e => by cases e) (fun _ => by rw [c0, w1]; rfl) (fun _ _ => rfl) (fun e => by simp at e)
    have e1 : ((γ.lo i).wkd u 0).wsd u (some ⟨ws, 0, 0⟩) = (γ.lo i).wsd u (some ⟨ws, 0, 0⟩) := by
      have : (fun x => if x = u then 0 else (γ.lo i).wk x) = (γ.lo i).wk := by
        funext x
        by_cases e : x = u
        · rw [if_pos e, e, hwk]
        · rw [if_neg e]
      unfold Lo.wsd Lo.wkd
      rw [this]
    rw [e1] at key
    exact ⟨_, key.1, rfl, key.2, setw_same _ _ _ _ _⟩
  · left
    have s0 : smOf G.ph = 0 := by simp [smOf, e4]
    rw [s0] at k3
    exact k3
end
end Go.Proofs.Ytofohjbcgchhoaa
