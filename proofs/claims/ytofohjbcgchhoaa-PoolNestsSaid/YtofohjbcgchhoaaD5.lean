/-
  STEPS, on: a pool's slots.
-/
import Derived.Test.YtofohjbcgchhoaaD4
namespace Go.Proofs.Ytofohjbcgchhoaa
open Go.Conc
open Go.RowKit
open Go.ConcN (sumTo sumTo_congr le_sumTo)

section
variable {N B : Nat} {f : Nat → Tg} {AT : Addr → Prop} {sd : Addr → Nat} {t : Trace}
theorem TInv.idle (h : TInv N B f AT sd t) {x : MemOp} (hxi : x.g < N) (hs : Still x.act) (hlow : x.act.low B) : TInv N B f AT sd (t ++ #[x]) :=
  h.still hxi hs hlow (fun _ _ => rfl) (fun _ _ _ _ e => .inl e) fun j hj k _ => ⟨fun ⟨a, ha, z, hz, hl⟩ => (h.ex j hj a ha k z hz hl).app _, fun ⟨a, ha, z, hz, hl, hw⟩ => (h.rd j hj a ha k z hz hl hw).app _, fun ⟨c, hc, hg, hcn⟩ => (h.jn j hj c hc k hg hcn).app _⟩
end

section
variable {B0 : Nat} {w0 : World} {PP : Value → World → Prop} {γ γ' : Gh} {w w' : World} {t : Trace} {i : Nat}

theorem setChan_heap (w : World) (c cap : Nat) (buf : Array Value) (cl : Bool) (s r : Nat) (tm : Bool) (k : Nat) (h : k ≠ c) : (w.setChan c cap buf cl s r tm).heap[k]? = w.heap[k]? := by
  simp only [World.setChan]
  rw [Array.getElem?_setIfInBounds_ne (fun e => h e.symm)]
theorem setChan_at {w : World} {c cap0 : Nat} {buf0 : Array Value} {cl0 : Bool} {s0 r0 : Nat} {tm0 : Bool} (h : w.heap[c]? = some (.chan cap0 buf0 cl0 s0 r0 tm0)) (cap : Nat) (buf : Array Value) (cl : Bool) (s r : Nat) (tm : Bool) : (w.setChan c cap buf cl s r tm).heap[c]? = some (.chan cap buf cl s r tm) := by
  simp only [World.setChan]
  rw [Array.getElem?_setIfInBounds_self_of_lt (lt_of_heap h)]
theorem setChan_cell {w : World} {c cap0 : Nat} {buf0 : Array Value} {cl0 : Bool} {s0 r0 : Nat} {tm0 : Bool} (h : w.heap[c]? = some (.chan cap0 buf0 cl0 s0 r0 tm0)) (cap : Nat) (buf : Array Value) (cl : Bool) (s r : Nat) (tm : Bool) (a : Addr) :
    (w.setChan c cap buf cl s r tm).cell? a = w.cell? a ∧ (w.setChan c cap buf cl s r tm).frozen? a = w.frozen? a := by
  by_cases e : a.block = c
  · unfold World.cell? World.frozen?
    rw [e, setChan_at h, h]
    exact ⟨rfl, rfl⟩
  · exact ⟨World.cell?_of_block (w := w) (setChan_heap w c cap buf cl s r tm _ e), World.frozen?_of_block (w := w) (setChan_heap w c cap buf cl s r tm _ e)⟩

/-- Operations that touch nothing: the trace. -/
theorem Whole.stills (h : Whole B0 w0 γ w t) (hi : i < γ.N) {l' : Lo} {u : List MemOp} (hu : ∀ x ∈ u, x.g = i ∧ Still x.act ∧ x.act.low w.heap.size) (htg : l'.tg = (γ.lo i).tg) {pool : Nat → Option PoolG} {gate : Nat → Option GateG} (hAT : AT { γ.set i l' with pool := pool, gate := gate } = AT γ) (hsz : w'.heap.size = w.heap.size) :
    TInv γ.N w'.heap.size (fun j => (({ γ.set i l' with pool := pool, gate := gate } : Gh).lo j).tg) (AT { γ.set i l' with pool := pool, gate := gate }) (sd { γ.set i l' with pool := pool, gate := gate }) (t ++ u.toArray) := by
  have e1 : (fun j => (({ γ.set i l' with pool := pool, gate := gate } : Gh).lo j).tg) = fun j => (γ.lo j).tg := by
    funext j
    show ((γ.set i l').lo j).tg = _
    by_cases e : j = i
    · subst e; rw [set_same, htg]
    · rw [set_ne γ _ e]
  have e2 : sd { γ.set i l' with pool := pool, gate := gate } = sd γ := sd_congr rfl
  rw [e1, hAT, e2, hsz]
  have key : ∀ (u : List MemOp) (t : Trace), TInv γ.N w.heap.size (fun j => (γ.lo j).tg) (AT γ) (sd γ) t → (∀ x ∈ u, x.g = i ∧ Still x.act ∧ x.act.low w.heap.size) → TInv γ.N w.heap.size (fun j => (γ.lo j).tg) (AT γ) (sd γ) (t ++ u.toArray) := by
    intro u
    induction u with
    | nil => intro t ht _; simpa using ht
    | cons x xs ih =>
      intro t ht hx
      obtain ⟨h1, h2, h3⟩ := hx x (by simp)
      have := ih _ (ht.idle (by rw [h1]; exact hi) h2 h3) fun y hy => hx y (by simp [hy])
      have e : t ++ (x :: xs).toArray = t ++ #[x] ++ xs.toArray := by rw [show (x :: xs).toArray = #[x] ++ xs.toArray by simp, Array.append_assoc]
      rw [e]; exact this
  exact key u t h.tr hu

def Lo.skd (l : Lo) (p x : Nat) : Lo := { l with sk := fun q => if q = p then x else l.sk q }

/-- A slot more, or one less. -/
theorem Whole.slots (h : Whole B0 w0 γ w t) (hi : i < γ.N) (hact : (γ.lo i).md = .act) {p ch cap k : Nat} {so : Bool} (hG : γ.pool p = some ⟨ch, cap, k, so⟩) {n y : Nat} {buf0 buf : Array Value} {s0 r0 s r : Nat} (hc : w.heap[ch]? = some (.chan cap buf0 false s0 r0 false)) (hb : buf0.size = γ.sum (.slot p))
    (hbuf : buf.size + (γ.lo i).res.tk (.slot p) = buf0.size + n) (hcap : buf.size ≤ cap) (hal : (γ.lo i).res.tk (.alive p) ≤ n) (hso : so = true → (i = 0 ∧ buf.size ≤ y) ∨ (n ≤ (γ.lo i).res.tk (.slot p) ∧ y = (γ.lo i).sk p)) {u : List MemOp} (hu : ∀ x ∈ u, x.g = i ∧ Still x.act ∧ x.act.low w.heap.size) :
    Whole B0 w0 (γ.set i (((γ.lo i).tok (.slot p) n).skd p y)) (w.setChan ch cap buf false s r false) (t ++ u.toArray) ∧ ∀ wake, Keeps (SY B0 w0 PP) i γ w (γ.set i (((γ.lo i).tok (.slot p) n).skd p y)) (w.setChan ch cap buf false s r false) wake := by
  obtain ⟨l', hl'⟩ : ∃ l', l' = ((γ.lo i).tok (.slot p) n).skd p y := ⟨_, rfl⟩
  rw [← hl']
  have F : ∀ {α : Type} (f : Lo → α), f l' = f (γ.lo i) → ∀ j, f ((γ.set i l').lo j) = f (γ.lo j) := fun f h j => set_field f γ i l' h j
  have htk : ∀ x, x ≠ .slot p → l'.res.tk x = (γ.lo i).res.tk x := fun x hx => by rw [hl']; exact tok_ne _ _ hx
  have htk' : ∀ x, x ≠ .slot p → ∀ j, ((γ.set i l').lo j).res.tk x = (γ.lo j).res.tk x := fun x hx => F (fun l => l.res.tk x) (htk x hx)
  have htp : l'.res.tk (.slot p) = n := by rw [hl']; exact tok_same _ _ _
  have hs : ∀ x, x ≠ .slot p → (γ.set i l').sum x = γ.sum x := fun x hx => sumTo_congr fun j _ => htk' x hx j
  have hsp : (γ.set i l').sum (.slot p) = buf.size := by
    have := sum_set γ hi l' (.slot p)
    rw [htp] at this
    omega
  have hpb : ∀ q G', γ.pool q = some G' → q ≠ p → G'.ch ≠ ch := fun q G' hq hne e => hne (h.nums.chpp q G' p _ hq hG e)
  have hgb : ∀ c G', γ.gate c = some G' → c ≠ ch := fun c G' hc' e => by
    rcases h.nums.chp p _ c hG with e' | e'
    · rw [e'] at hc'; cases hc'
    · exact e' e
  have hcell : ∀ a, (w.setChan ch cap buf false s r false).cell? a = w.cell? a := fun a => (setChan_cell hc _ _ _ _ _ _ a).1
  have hfroz : ∀ a, (w.setChan ch cap buf false s r false).frozen? a = w.frozen? a := fun a => (setChan_cell hc _ _ _ _ _ _ a).2
  have hsz : (w.setChan ch cap buf false s r false).heap.size = w.heap.size := by simp [World.setChan]
  have hB := (h.mem.pool p _ hG).2.2.2.2.2.1
  simp only at hB
  refine ⟨⟨?_, ?_, ?_, ?_, ?_⟩, fun wake => ?_⟩
  · exact {
      bel := h.mem.bel.trans ⟨rfl, rfl, rfl, by rw [hsz]; exact Nat.le_refl _, fun k hk => setChan_heap _ _ _ _ _ _ _ _ _ (by omega)⟩
      big := by rw [hsz]; exact h.mem.big
      cell := fun j hj a v hv => by
        rw [F (fun l => l.res.cells) (by rw [hl']; rfl) j] at hv
        rw [hcell, hfroz]; exact h.mem.cell j hj a v hv
      ro := fun j hj a v hv => by rw [F Lo.ro (by rw [hl']; rfl) j] at hv; rw [hcell]; exact h.mem.ro j hj a v hv
      pool := fun q G' hq => by
        obtain ⟨h1, h2, h3, h4, h5, h6, buf1, s1, r1, h7, h8⟩ := h.mem.pool q G' hq
        rw [hs _ (by simp), hs _ (by simp), hcell, hcell, hcell]
        refine ⟨h1, h2, h3, h4, fun j => by rw [hfroz]; exact h5 j, h6, ?_⟩
        by_cases e : q = p
        · subst e
          have e' : G' = ⟨ch, cap, k, so⟩ := Option.some.inj (hq.symm.trans hG)
          subst e'
          exact ⟨buf, s, r, setChan_at hc _ _ _ _ _ _, hsp.symm⟩
        · exact ⟨buf1, s1, r1, by rw [setChan_heap _ _ _ _ _ _ _ _ _ (hpb q G' hq e)]; exact h7, by rw [hs _ (by simp [e])]; exact h8⟩
      oc := fun j hj c cap' e => by
        rw [F Lo.oc (by rw [hl']; rfl) j] at e
        obtain ⟨h1, h2⟩ := h.mem.oc j hj c cap' e
        have hne : c ≠ ch := fun e' => (h.nums.oc j hj c (by rw [e]; simp)).2.1 p _ hG e'.symm
        exact ⟨h1, by rw [setChan_heap _ _ _ _ _ _ _ _ _ hne]; exact h2⟩
      wg := fun u G' hu' => by
        rw [cnt_congr (γ := γ) (γ' := γ.set i l') rfl (fun j _ => F Lo.wk (by rw [hl']; rfl) j), hcell, hcell]
        obtain ⟨h1, h2, h3, h4⟩ := h.mem.wg u G' hu'
        exact ⟨h1, h2, h3, fun j => by rw [hfroz]; exact h4 j⟩
      gate := fun c G' hg => by
        rw [hs _ (by simp), hcell]
        obtain ⟨h1, h2, h3, h4, h5⟩ := h.mem.gate c G' hg
        exact ⟨h1, h2, by rw [setChan_heap _ _ _ _ _ _ _ _ _ (hgb c G' hg)]; exact h3, h4, fun j => by rw [hfroz]; exact h5 j⟩ }
  · exact h.own.of rfl rfl rfl rfl (fun j _ => F (fun l => l.res.cells) (by rw [hl']; rfl) j) (fun j _ a v => by rw [F Lo.ro (by rw [hl']; rfl) j]; exact id)
  · have hh := h.nums
    exact {
      slot := fun j hj q => by
        rw [htk' _ (by simp) j]
        by_cases e : j = i
        · subst e
          rw [set_same]
          by_cases e2 : q = p
          · subst e2; rw [htp]; exact hal
          · rw [htk _ (by simp [e2])]; exact hh.slot j hj q
        · rw [set_ne γ _ e]; exact hh.slot j hj q
      pool := fun q G' hq => by
        obtain ⟨h1, h2, h3, h4⟩ := hh.pool q G' hq
        refine ⟨h1, h2, h3, ?_⟩
        by_cases e : q = p
        · subst e
          have e' : G' = ⟨ch, cap, k, so⟩ := Option.some.inj (hq.symm.trans hG)
          subst e'
          rw [hsp]; exact hcap
        · rw [hs _ (by simp [e])]; exact h4
      pk := fun j hj q G' hq => by rw [F Lo.pk (by rw [hl']; rfl) j]; exact hh.pk j hj q G' hq
      pl := fun j hj q a b c e => by rw [F Lo.pl (by rw [hl']; rfl) j] at e; exact hh.pl j hj q a b c e
      gl := fun j hj c bg n' q e => by rw [F Lo.gl (by rw [hl']; rfl) j] at e; exact hh.gl j hj c bg n' q e
      cl := fun j hj c e => by rw [F Lo.cl (by rw [hl']; rfl) j] at e; exact hh.cl j hj c e
      gate := fun c G' hg => by
        rw [hs _ (by simp), hs _ (by simp)]
        obtain ⟨h1, h2⟩ := hh.gate c G' hg
        refine ⟨h1, ?_⟩
        rcases h2 with h2 | ⟨h2, h3, h4, h5⟩ | h2
        · exact .inl h2
        · exact .inr (.inl ⟨h2, h3, h4, fun j hj => by rw [htk' _ (by simp) j, htk' _ (by simp) j]; exact h5 j hj⟩)
        · exact .inr (.inr h2)
      al := fun j hj c e => by rw [F Lo.al (by rw [hl']; rfl) j] at e; rw [hs _ (by simp)]; exact hh.al j hj c e
      gm := fun c G' hg hcl j hj => by rw [htk' _ (by simp) j, htk' _ (by simp) j]; exact hh.gm c G' hg hcl j hj
      gku := fun j hj c e => by
        rw [F Lo.gk (by rw [hl']; rfl) j] at e
        obtain ⟨k1, k2⟩ := hh.gku j hj c e
        exact ⟨k1, fun k hk hne => by rw [F Lo.gk (by rw [hl']; rfl) k]; exact k2 k hk hne⟩
      nopk := fun q hq j hj => by rw [F Lo.pk (by rw [hl']; rfl) j]; exact hh.nopk q hq j hj
      gk := fun j hj c x e => by rw [F Lo.gk (by rw [hl']; rfl) j] at e; rw [hs _ (by simp)]; exact hh.gk j hj c x e
      idle := fun j hj e c => by rw [F Lo.md (by rw [hl']; rfl) j] at e; rw [htk' _ (by simp) j]; exact hh.idle j hj e c
      chp := hh.chp
      chpp := hh.chpp
      solo := fun q G' hq hsq => by
        by_cases e : q = p
        · subst e
          have e' : G' = ⟨ch, cap, k, so⟩ := Option.some.inj (hq.symm.trans hG)
          subst e'
          rw [hsp]
          have hold := hh.solo q _ hq hsq
          rcases hso hsq with ⟨rfl, h2⟩ | ⟨h1, h2⟩
          · rw [set_same, hl']
            simp only [Lo.skd, if_true]
            exact h2
          · by_cases e0 : (0 : Nat) = i
            · subst e0
              rw [set_same, hl']
              simp only [Lo.skd, if_true]
              omega
            · rw [set_ne γ _ e0]; omega
        · rw [hs _ (by simp [e])]
          have hold := hh.solo q G' hq hsq
          by_cases e0 : (0 : Nat) = i
          · subst e0
            rw [set_same, hl']
            simp only [Lo.skd, if_neg e]
            exact hold
          · rw [set_ne γ _ e0]; exact hold
      oc := fun j hj c e => by
        rw [F Lo.oc (by rw [hl']; rfl) j] at e
        obtain ⟨k1, k2, k3⟩ := hh.oc j hj c e
        exact ⟨k1, k2, fun k hk hne => by rw [F Lo.oc (by rw [hl']; rfl) k]; exact k3 k hk hne⟩
      bgi := hh.bgi
      nop := fun q hq j hj => by
        have hqp : q ≠ p := fun e => by rw [e] at hq; rw [show γ.pool p = none from hq] at hG; cases hG
        rw [htk' _ (by simp [hqp]) j, htk' _ (by simp) j, htk' _ (by simp) j]
        exact hh.nop q hq j hj
      nog := fun c hc' j hj => by
        rw [htk' _ (by simp) j, htk' _ (by simp) j, htk' _ (by simp) j]
        exact hh.nog c hc' j hj }
  · exact h.team.share hact (by rw [hl']; exact hact) (by rw [hl']; rfl) (by rw [hl']; rfl) (by rw [hl']; rfl) (by rw [hl']; rfl) (by rw [hl']; rfl)
  · exact h.stills (l' := l') (pool := γ.pool) (gate := γ.gate) hi hu (by rw [hl']; rfl) (at_congr rfl rfl rfl) hsz
  · refine Keeps.atom h (fun j hj => set_ne γ l' hj) rfl (fun c hc => hc) (fun u G' _ => hcell _) (fun c G' hg ho => ?_) wake
    obtain ⟨c1, s1, r1, tm, ho⟩ := ho
    exact ⟨c1, s1, r1, tm, by rw [setChan_heap _ _ _ _ _ _ _ _ _ (hgb c G' hg)]; exact ho⟩
end
end Go.Proofs.Ytofohjbcgchhoaa
