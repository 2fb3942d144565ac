/-
  STEPS, on: a pool's counters.
-/
import Derived.Test.YtofohjbcgchhoaaD2
namespace Go.Proofs.Ytofohjbcgchhoaa
open Go.Conc
open Go.RowKit
open Go.ConcN (sumTo sumTo_congr le_sumTo)

def Lo.tok (l : Lo) (k : Tk) (n : Nat) : Lo := { l with res := ⟨l.res.cells, fun x => if x = k then n else l.res.tk x⟩ }
@[simp] theorem tok_same (l : Lo) (k : Tk) (n : Nat) : (l.tok k n).res.tk k = n := by simp [Lo.tok]
theorem tok_ne (l : Lo) {k x : Tk} (n : Nat) (h : x ≠ k) : (l.tok k n).res.tk x = l.res.tk x := by simp [Lo.tok, h]

section
variable {B0 : Nat} {w0 : World} {PP : Value → World → Prop} {γ γ' : Gh} {w w' : World} {t : Trace} {i : Nat}

/-- What a step of i's on shared cells leaves of the others. -/
theorem Keeps.atom (h : Whole B0 w0 γ w t) (hlo : ∀ j, j ≠ i → γ'.lo j = γ.lo j) (hN : γ'.N = γ.N) (hg : ∀ c, (γ.gate c).isSome = true → (γ'.gate c).isSome = true)
    (hs : ∀ u G, γ.wg u = some G → w'.cell? ⟨u, 1, none⟩ = w.cell? ⟨u, 1, none⟩) (hc : ∀ c G, γ.gate c = some G → Opn w c → Opn w' c) (wake : Bool) : Keeps (SY B0 w0 PP) i γ w γ' w' wake where
  own j _ hj := .inl (hlo j hj)
  stuck j hj hst := by
    obtain ⟨h1, h2, h3, u, B, h4, h5, h6⟩ := hst
    obtain ⟨_, _, _, _, G, hG, _⟩ := h.team.boss j h1 u B h4
    exact .inr ⟨by rw [hN]; exact h1, by rw [hlo j hj]; exact h2, by rw [hlo j hj]; exact h3, u, B, by rw [hlo j hj]; exact h4, h5, by rw [hs u G hG]; exact h6⟩
  gate j c hj hgt := by
    obtain ⟨h1, h2, h3, h4⟩ := hgt
    obtain ⟨G, hG⟩ := Option.isSome_iff_exists.1 h3
    exact ⟨⟨by rw [hN]; exact h1, by rw [hlo j hj]; exact h2, hg c h3, by rw [hlo j hj]; exact h4⟩, fun ho => .inl (hc c G hG ho)⟩
theorem Opn.setCell {c : Nat} (h : Opn w c) (a : Addr) (v : Value) : Opn (w.setCell a v) c := by
  obtain ⟨cap, s, r, tm, hc⟩ := h
  exact ⟨cap, s, r, tm, setCell_chan v hc⟩

/-- Shares in 'alive' and 'begun' alone have changed. -/
theorem Nums.ab (h : Nums γ) (hi : i < γ.N) {l' : Lo} (hmd : l'.md = (γ.lo i).md) (hpk : l'.pk = (γ.lo i).pk) (hpl : l'.pl = (γ.lo i).pl) (hgl : l'.gl = (γ.lo i).gl) (hcl : l'.cl = (γ.lo i).cl) (hgk : l'.gk = (γ.lo i).gk) (hoc : l'.oc = (γ.lo i).oc) (hsk : l'.sk = (γ.lo i).sk) (hal : l'.al = (γ.lo i).al)
    (htk : ∀ k, (∀ p, k ≠ .alive p) → (∀ p, k ≠ .begun p) → l'.res.tk k = (γ.lo i).res.tk k) (hsl : ∀ p, l'.res.tk (.alive p) ≤ l'.res.tk (.slot p))
    (hgm : ∀ c G, γ.gate c = some G → G.closed = false → l'.res.tk (.gm c) ≤ l'.res.tk (.alive G.p)) (hno : ∀ p, γ.pool p = none → l'.res.tk (.alive p) = 0 ∧ l'.res.tk (.begun p) = 0) : Nums (γ.set i l') := by
  have F : ∀ {α : Type} (f : Lo → α), f l' = f (γ.lo i) → ∀ j, f ((γ.set i l').lo j) = f (γ.lo j) := fun f h j => set_field f γ i l' h j
  have htk' : ∀ k, (∀ p, k ≠ .alive p) → (∀ p, k ≠ .begun p) → ∀ j, ((γ.set i l').lo j).res.tk k = (γ.lo j).res.tk k := fun k h1 h2 => F (fun l => l.res.tk k) (htk k h1 h2)
  have hs : ∀ k, (∀ p, k ≠ .alive p) → (∀ p, k ≠ .begun p) → (γ.set i l').sum k = γ.sum k := fun k h1 h2 => sumTo_congr fun j _ => htk' k h1 h2 j
  exact {
    slot := fun j hj p => by
      by_cases e : j = i
      · subst e; rw [set_same]; exact hsl p
      · rw [set_ne γ _ e]; exact h.slot j hj p
    pool := fun p G hG => by rw [hs _ (by simp) (by simp)]; exact h.pool p G hG
    pk := fun j hj p G hG => by rw [F Lo.pk hpk j]; exact h.pk j hj p G hG
    pl := fun j hj p ch cap so e => by rw [F Lo.pl hpl j] at e; exact h.pl j hj p ch cap so e
    gl := fun j hj c bg n p e => by rw [F Lo.gl hgl j] at e; exact h.gl j hj c bg n p e
    cl := fun j hj c e => by rw [F Lo.cl hcl j] at e; exact h.cl j hj c e
    gate := fun c G hG => by
      rw [hs _ (by simp) (by simp), hs _ (by simp) (by simp)]
      obtain ⟨h1, h2⟩ := h.gate c G hG
      refine ⟨h1, ?_⟩
      rcases h2 with h2 | ⟨h2, h3, h4, h5⟩ | h2
      · exact .inl h2
      · exact .inr (.inl ⟨h2, h3, h4, fun j hj => by rw [htk' _ (by simp) (by simp) j, htk' _ (by simp) (by simp) j]; exact h5 j hj⟩)
      · exact .inr (.inr h2)
    al := fun j hj c e => by rw [F Lo.al hal j] at e; rw [hs _ (by simp) (by simp)]; exact h.al j hj c e
    gm := fun c G hG hc j hj => by
      by_cases e : j = i
      · subst e; rw [set_same]; exact hgm c G hG hc
      · rw [set_ne γ _ e]; exact h.gm c G hG hc j hj
    gku := fun j hj c e => by
      rw [F Lo.gk hgk j] at e
      obtain ⟨k1, k2⟩ := h.gku j hj c e
      exact ⟨k1, fun k hk hne => by rw [F Lo.gk hgk k]; exact k2 k hk hne⟩
    nopk := fun p hG j hj => by rw [F Lo.pk hpk j]; exact h.nopk p hG j hj
    gk := fun j hj c k e => by rw [F Lo.gk hgk j] at e; rw [hs _ (by simp) (by simp)]; exact h.gk j hj c k e
    idle := fun j hj e c => by rw [F Lo.md hmd j] at e; rw [htk' _ (by simp) (by simp) j]; exact h.idle j hj e c
    chp := h.chp
    chpp := h.chpp
    solo := fun p G hG hso => by rw [hs _ (by simp) (by simp), F Lo.sk hsk 0]; exact h.solo p G hG hso
    oc := fun j hj c e => by
      rw [F Lo.oc hoc j] at e
      obtain ⟨k1, k2, k3⟩ := h.oc j hj c e
      exact ⟨k1, k2, fun k hk hne => by rw [F Lo.oc hoc k]; exact k3 k hk hne⟩
    bgi := h.bgi
    nop := fun p hG j hj => by
      by_cases e : j = i
      · subst e
        rw [set_same, htk _ (by simp) (by simp)]
        exact ⟨(h.nop p hG j hj).1, hno p hG⟩
      · rw [set_ne γ _ e]; exact h.nop p hG j hj
    nog := fun c hG j hj => by
      rw [htk' _ (by simp) (by simp) j, htk' _ (by simp) (by simp) j, htk' _ (by simp) (by simp) j]
      exact h.nog c hG j hj }

/-- A worker's or a leader's part with other shares. -/
theorem Team.share (h : Team γ) {l' : Lo} (hact : (γ.lo i).md = .act) (hmd : l'.md = .act) (hwg : l'.wg = (γ.lo i).wg) (hwk : l'.wk = (γ.lo i).wk) (hws : l'.ws = (γ.lo i).ws) (hjn : l'.jn = (γ.lo i).jn) (hob : l'.ob = (γ.lo i).ob) : Team (γ.set i l') := by
  have F : ∀ {α : Type} (f : Lo → α), f l' = f (γ.lo i) → ∀ j, f ((γ.set i l').lo j) = f (γ.lo j) := fun f h j => set_field f γ i l' h j
  have only : ∀ {α : Type} (f : Lo → α), ∀ j, j < γ.N → (γ.lo j).md = .act ∨ f ((γ.set i l').lo j) = f (γ.lo j) := fun f j hj => by
    by_cases e : j = i
    · subst e; exact .inl hact
    · exact .inr (by rw [set_ne γ _ e])
  exact h.of rfl rfl (fun j _ => F Lo.md (by rw [hmd, hact]) j) (fun j _ => F Lo.wg hwg j) (fun j _ => F Lo.wk hwk j) (fun j _ => F Lo.ws hws j) (fun j _ => F Lo.jn hjn j) (fun j _ => F Lo.ob hob j) (only Lo.res) (only Lo.ro)

theorem wrap_small {n : Nat} (h : n < 4611686018427387904) : IntKind.i64.wrap (n : Int) = n := by rw [IntKind.wrap_i64]; omega

/-- The blocks of pools, groups, gates lie apart (their cells hold numbers of other kinds). -/
theorem Whole.pool_wg (h : Whole B0 w0 γ w t) {p u : Nat} {G : PoolG} {G' : WgG} (hp : γ.pool p = some G) (hu : γ.wg u = some G') : p ≠ u := by
  rintro rfl
  have h1 := (h.mem.pool p G hp).2.1
  have h2 := (h.mem.wg p G' hu).2.2.1
  rw [h1] at h2
  cases h2

theorem Whole.setPool (h : Whole B0 w0 γ w t) (hi : i < γ.N) (hact : (γ.lo i).md = .act) {p o : Nat} {G : PoolG} (hG : γ.pool p = some G) (ho : 1 ≤ o ∧ o < 4) {l' : Lo} {G1 : PoolG} (hG1 : G1.ch = G.ch ∧ G1.cap = G.cap ∧ G1.solo = G.solo) (v : Value) (fn : FuncId) (pos : String)
    (hc : l'.res.cells = (γ.lo i).res.cells) (hro : l'.ro = (γ.lo i).ro) (hmd : l'.md = .act) (hjn : l'.jn = (γ.lo i).jn) (hoc : l'.oc = (γ.lo i).oc) (hwk : l'.wk = (γ.lo i).wk) (hdf : l'.df = (γ.lo i).df)
    (hwg : l'.wg = (γ.lo i).wg) (hws : l'.ws = (γ.lo i).ws) (hob : l'.ob = (γ.lo i).ob) (hn : Nums { γ.set i l' with pool := fun q => if q = p then some G1 else γ.pool q })
    (hsl : l'.res.tk (.slot p) = (γ.lo i).res.tk (.slot p)) (hot : ∀ k, (∀ j, k = .alive p → j = p) → k ≠ .alive p → k ≠ .begun p → l'.res.tk k = (γ.lo i).res.tk k)
    (h1 : (o = 1 → v = .int .i64 ((γ.set i l').sum (.alive p) : Nat)) ∧ (o ≠ 1 → l'.res.tk (.alive p) = (γ.lo i).res.tk (.alive p))) (h2 : (o = 2 → v = .int .i64 (G1.pk : Nat)) ∧ (o ≠ 2 → G1.pk = G.pk))
    (h3 : (o = 3 → v = .int .i64 (IntKind.i64.wrap ((γ.set i l').sum (.begun p) : Nat))) ∧ (o ≠ 3 → l'.res.tk (.begun p) = (γ.lo i).res.tk (.begun p))) :
    Whole B0 w0 { γ.set i l' with pool := fun q => if q = p then some G1 else γ.pool q } (w.setCell ⟨p, o, none⟩ v) (t ++ MemOp.ofEvents i fn pos #[⟨.cell ⟨p, o, none⟩, false, true⟩, ⟨.cell ⟨p, o, none⟩, true, true⟩]) ∧
    ∀ wake, Keeps (SY B0 w0 PP) i γ w { γ.set i l' with pool := fun q => if q = p then some G1 else γ.pool q } (w.setCell ⟨p, o, none⟩ v) wake := by
  obtain ⟨γ', hγ'⟩ : ∃ γ' : Gh, γ' = { γ.set i l' with pool := fun q => if q = p then some G1 else γ.pool q } := ⟨_, rfl⟩
  have hlo : ∀ j, j ≠ i → γ'.lo j = γ.lo j := fun j hj => by rw [hγ']; exact set_ne γ l' hj
  have hli : γ'.lo i = l' := by rw [hγ']; exact set_same γ i l'
  have hN : γ'.N = γ.N := by rw [hγ']; rfl
  have hwg' : γ'.wg = γ.wg := by rw [hγ']; rfl
  have hgt : γ'.gate = γ.gate := by rw [hγ']; rfl
  have hpl : ∀ q, γ'.pool q = if q = p then some G1 else γ.pool q := fun q => by rw [hγ']
  have hsum : ∀ k, γ'.sum k = (γ.set i l').sum k := fun k => by rw [hγ']; rfl
  have heq : ∀ k, l'.res.tk k = (γ.lo i).res.tk k → γ'.sum k = γ.sum k := fun k e => by
    rw [hsum]
    have := sum_set γ hi l' k
    omega
  have hAT : AT γ' = AT γ := by
    funext a
    unfold AT
    rw [hwg', hgt, hpl]
    by_cases e : a.block = p
    · rw [if_pos e, e, hG]; rfl
    · rw [if_neg e]
  have hp : AT γ ⟨p, o, none⟩ := ⟨rfl, .inl ⟨by rw [show γ.pool p = some G from hG]; rfl, ho.1, ho.2⟩⟩
  have hB : B0 ≤ p := (h.mem.pool p G hG).1
  have hblk : p < w.heap.size := lt_of_cell2 (h.mem.pool p G hG).2.1
  rw [← hγ'] at hn ⊢
  have hcnt : ∀ u, γ'.cnt u = γ.cnt u := fun u => by
    have e : γ'.cnt u = (γ.set i l').cnt u := by rw [hγ']; rfl
    rw [e]
    have := cnt_set γ hi l' u
    rw [hwk] at this
    omega
  have hother : ∀ k, k ≠ .alive p → k ≠ .begun p → γ'.sum k = γ.sum k := fun k k1 k2 => heq k (hot k (fun j e => absurd e k1) k1 k2)
  have semne : ∀ u G', γ.wg u = some G' → ∀ x, (⟨p, o, none⟩ : Addr) ≠ ⟨u, x, none⟩ := fun u G' hu x e => by
    have : p = u := by injection e
    exact h.pool_wg hG hu this
  refine ⟨h.atom hi fn pos hN hlo (by rw [hli]; exact hc) (by rw [hli]; exact hro) (by rw [hli, hmd, hact]) (by rw [hli]; exact hjn) hAT (sd_congr hwg') ?_ hn ?_ (by simp [World.setCell]) (by rw [hli, hdf]; rfl) (fun e he => ?_) (.inl hact), fun wake => ?_⟩
  · have cong : ∀ {α : Type} (f : Lo → α), f l' = f (γ.lo i) → ∀ j, f (γ'.lo j) = f (γ.lo j) := fun f hf j => by
      by_cases e : j = i
      · subst e; rw [hli]; exact hf
      · rw [hlo j e]
    refine Mem.setAt h _ hp hB v hN (fun j _ => cong (fun l => l.res.cells) hc j) (fun j _ => cong Lo.ro hro j) (fun j _ => cong Lo.oc hoc j) (fun q G' hq => ?_) (fun u G' hu => ?_) (fun c G' hcg => ?_)
    · rw [hpl] at hq
      by_cases e : q = p
      · subst e
        rw [if_pos rfl] at hq
        cases hq
        refine ⟨G, hG, hG1.1, hG1.2.1, fun e => ?_, fun e => ?_, fun e => ?_, fun e => ?_, fun e => ?_, fun e => ?_, heq _ hsl⟩
        · rw [h1.1 (by injection e), hsum]
        · exact heq _ (h1.2 (fun x => e (by rw [x])))
        · exact h2.1 (by injection e)
        · exact h2.2 (fun x => e (by rw [x]))
        · rw [h3.1 (by injection e), hsum]
        · rw [heq _ (h3.2 (fun x => e (by rw [x])))]
      · rw [if_neg e] at hq
        have hne : ∀ x, (⟨p, o, none⟩ : Addr) ≠ ⟨q, x, none⟩ := fun x e' => e (by injection e' with e1; exact e1.symm)
        exact ⟨G', hq, rfl, rfl, fun x => absurd x (hne _), fun _ => hother _ (by simp [e]) (by simp), fun x => absurd x (hne _), fun _ => rfl, fun x => absurd x (hne _), fun _ => by rw [hother _ (by simp) (by simp [e])], hother _ (by simp) (by simp)⟩
    · rw [hwg'] at hu
      exact ⟨G', hu, fun x => absurd x (semne u G' hu _), fun _ => by rw [hcnt], fun x => absurd x (semne u G' hu _), fun _ => rfl⟩
    · rw [hgt] at hcg
      refine ⟨G', hcg, rfl, rfl, fun e => ?_, fun _ => hother _ (by simp) (by simp)⟩
      have : o = 0 := by injection e
      omega
  · have := h.team.share (i := i) (l' := l') hact hmd hwg hwk hws hjn hob
    exact this.of hN hwg' (fun j _ => by rw [hγ']) (fun j _ => by rw [hγ']) (fun j _ => by rw [hγ']) (fun j _ => by rw [hγ']) (fun j _ => by rw [hγ']) (fun j _ => by rw [hγ']) (fun j _ => .inr (by rw [hγ'])) (fun j _ => .inr (by rw [hγ']))
  · simp only [List.mem_toArray, List.mem_cons, List.not_mem_nil, or_false] at he
    rcases he with rfl | rfl <;> exact ⟨hblk, hp⟩
  · exact Keeps.atom h hlo hN (fun c hcs => by rw [hgt]; exact hcs) (fun u G' hu => setCell_cell_ne v (semne u G' hu 1)) (fun c G' hc' ho' => ho'.setCell _ _) wake
end
end Go.Proofs.Ytofohjbcgchhoaa
