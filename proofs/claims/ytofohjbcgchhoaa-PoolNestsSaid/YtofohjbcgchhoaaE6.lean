/-
  THE WALK, on: what each shared operation makes of the ghost.
-/
import Derived.Test.YtofohjbcgchhoaaE5
import Derived.Conc.SmallLaws
import Derived.Conc.WgArith
namespace Go.Proofs.Ytofohjbcgchhoaa
open Go.Conc
open Go.RowKit
variable {E : En} {l : Lo} {fn : FuncId} {K : Value → Lo → Prop}

theorem wrap_u64 {n : Nat} (h : n < 18446744073709551616) : IntKind.u64.wrap (n : Int) = n := by rw [IntKind.wrap_u64]; omega

theorem at_mute (mk : Mark) (hmu : Event.mute ⟨.mark mk, false, true⟩ = true) (h : K (.tuple #[]) (l.dfd (deafBehind l.df #[⟨.mark mk, false, true⟩]))) : E.MarkAt l fn mk K := fun γ w t pos hI hl hi => by
  subst hl
  have key := Whole.mutes (PP := E.PP) hI hi fn pos (es := #[⟨.mark mk, false, true⟩]) (fun e he => by
    obtain rfl : e = ⟨.mark mk, false, true⟩ := by simpa using he
    exact hmu)
  exact ⟨_, ⟨_, key.1, rfl, key.2 _, set_same _ _ _⟩, h⟩
theorem at_disable (h : K (.tuple #[]) (l.dfd (l.df + 1))) : E.MarkAt l fn .disable K := at_mute _ rfl h
theorem at_enable (h : K (.tuple #[]) (l.dfd (l.df - 1))) : E.MarkAt l fn .enable K := at_mute _ rfl h
/-- The leader says that it reads, that it writes. -/
theorem at_said {u o : Nat} {B : Boss} (hB : l.ws u = some B) (mk : Mark) (hmk : mk = .read ⟨u, o, none⟩ ∨ mk = .write ⟨u, o, none⟩) (h : K (.tuple #[]) l) : E.MarkAt l fn mk K := fun γ w t pos hI hl hi => by
  subst hl
  obtain ⟨G, hG, hb, _⟩ := hI.lead hi hB
  have hact := (hI.team.boss _ hi u B hB).1
  have key := Whole.marks (PP := E.PP) hI hi fn pos (es := #[⟨.mark mk, false, true⟩]) (fun e he => by
    obtain rfl : e = ⟨.mark mk, false, true⟩ := by simpa using he
    have hsd : sd γ ⟨u, o, none⟩ = E.i := by
      unfold sd
      simp only [hG]
      exact hb
    rcases hmk with rfl | rfl
    · exact ⟨hI.wg_lt hG, wg_at hG o, hsd⟩
    · exact ⟨hI.wg_lt hG, wg_at hG o, hsd⟩) (.inl hact)
  have e0 : deafBehind (γ.lo E.i).df #[⟨.mark mk, false, true⟩] = (γ.lo E.i).df := by rcases hmk with rfl | rfl <;> rfl
  rw [e0] at key
  exact ⟨γ.lo E.i, ⟨_, key.1, rfl, key.2 _, by rw [set_same]; rfl⟩, h⟩
theorem at_release {u : Nat} (hact : l.md = .act) (hdf : l.df = 0) (hwg : l.wg = some u) (hob : l.ob l.res) (hws : ∀ x, l.ws x = none) (htr : ∀ c, l.res.tk (.tr c) = 0) (h : ∀ p, K (.tuple #[]) (l.mdd (.rel p ⟨u, 0, none⟩ 0))) : E.MarkAt l fn (.releaseMerge ⟨u, 0, none⟩) K := fun γ w t pos hI hl hi => by
  subst hl
  have key := Whole.release (PP := E.PP) hI hi hact hdf hwg hob hws htr fn pos
  exact ⟨_, ⟨_, key.1, rfl, key.2 _, set_same _ _ _⟩, h _⟩
theorem at_acquire {u : Nat} {ws : List (Nat × (Res → Prop))} (hdf : l.df = 0) (hB : l.ws u = some ⟨ws, 0, 0⟩) (h : ∀ rs jn', Met ws rs ∧ Apart l.res rs → K (.tuple #[]) { l with res := rs.foldl Res.add l.res, jn := jn', ws := fun x => if x = u then none else l.ws x }) : E.MarkAt l fn (.acquire ⟨u, 0, none⟩) K := fun γ w t pos hI hl hi => by
  subst hl
  obtain ⟨γ', rs, jn', h1, h2, h3, h4, h5⟩ := Whole.collect (PP := E.PP) hI hi hdf hB fn pos
  exact ⟨_, ⟨γ', h2, h3, h4 _, h5⟩, h rs jn' h1⟩

theorem at_add_up {u hi' : Nat} {ws : List (Nat × (Res → Prop))} (hB : l.ws u = some ⟨ws, hi', 0⟩) (hh : hi' < 2147483647) (h : ∀ n : Nat, n ≤ hi' → K (.int .u64 (((n + 1) * 4294967296 : Nat) : Int)) ((l.wkd u (l.wk u + 1)).wsd u (some ⟨ws, hi' + 1, 0⟩))) : E.AddAt l fn ⟨u, 0, none⟩ .u64 4294967296 K := fun γ w t pos hI hl hi => by
  subst hl
  obtain ⟨n, h1, h2, h3, γ', h4, h5, h6, h7⟩ := Whole.add_up (PP := E.PP) hI hi hB hh fn pos
  have e : IntKind.u64.wrap (((n * 4294967296 : Nat) : Int) + 4294967296) = (((n + 1) * 4294967296 : Nat) : Int) := by rw [IntKind.wrap_u64]; omega
  refine ⟨_, _, h2, h3, ⟨γ', ?_, h5, ?_, h7⟩, ?_⟩
  · rw [e]; exact h4
  · rw [e]; exact h6 _
  · rw [e]; exact h n h1
theorem at_add_down {u p : Nat} {a : Addr} (hwg : l.wg = some u) (hmd : l.md = .rel p a 0) (hwk : l.wk u = 1) (hdf : l.df ≠ 0) (h : ∀ n wt : Nat, wt ≤ 1 → n < 2147483647 → K (.int .u64 ((n * 4294967296 + wt : Nat) : Int)) ((l.wkd u 0).mdd (if n = 0 ∧ wt = 1 then Md.rel p a 2 else Md.quit p a))) : E.AddAt l fn ⟨u, 0, none⟩ .u64 18446744069414584320 K := fun γ w t pos hI hl hi => by
  subst hl
  obtain ⟨n, wt, h0, h1, h2, h3, γ', md', h4, h5, h6, h7, h8⟩ := Whole.add_down (PP := E.PP) hI hi hwg hmd hwk hdf fn pos
  have e : IntKind.u64.wrap ((((n + 1) * 4294967296 + wt : Nat) : Int) + 18446744069414584320) = ((n * 4294967296 + wt : Nat) : Int) := by rw [IntKind.wrap_u64]; omega
  refine ⟨_, _, h2, h3, ⟨γ', ?_, h6, ?_, h8⟩, ?_⟩
  · rw [e]; exact h5
  · rw [e]; exact h7 _
  · rw [e, h4]; exact h n wt h0 h1
theorem at_duty_load {u p : Nat} {a : Addr} (hwg : l.wg = some u) (hmd : l.md = .rel p a 2) (hdf : l.df ≠ 0) (h : K (.int .u64 1) l) : E.LoadAt l fn ⟨u, 0, none⟩ .u64 K := fun γ w t pos hI hl hi => by
  subst hl
  obtain ⟨h1, γ', h2, h3, h4, h5⟩ := Whole.duty_load (PP := E.PP) hI hi hwg hmd hdf fn pos
  exact ⟨_, _, h1, ⟨γ', h2, h3, h4 _, h5⟩, h⟩
theorem at_duty_store {u p : Nat} {a : Addr} (hwg : l.wg = some u) (hmd : l.md = .rel p a 2) (hwk : l.wk u = 0) (hdf : l.df ≠ 0) (h : K (.tuple #[]) (l.mdd (.rel p a 3))) : E.StoreAt l fn ⟨u, 0, none⟩ .u64 0 K := fun γ w t pos hI hl hi => by
  subst hl
  obtain ⟨⟨x, h1⟩, h2, γ', h3, h4, h5, h6⟩ := Whole.duty_store (PP := E.PP) hI hi hwg hmd hwk hdf fn pos
  exact ⟨_, _, h1, h2, ⟨γ', h3, h4, h5 _, h6⟩, h⟩
theorem at_duty_wake {u p : Nat} {a : Addr} {KK : Lo → Prop} (hwg : l.wg = some u) (hmd : l.md = .rel p a 3) (hwk : l.wk u = 0) (h : KK (l.mdd (.quit p a))) :
    E.All l fun γ w t pos => ∃ l', w.cell? ⟨u, 1, none⟩ = some (.int .u32 0) ∧ w.frozen? ⟨u, 1, none⟩ = false ∧ E.Step fn γ w t pos (w.setCell ⟨u, 1, none⟩ (.int .u32 1)) (semEvents ⟨u, 1, none⟩) l' ∧ KK l' := fun γ w t pos hI hl hi => by
  subst hl
  obtain ⟨h1, h2, γ', h3, h4, h5, h6⟩ := Whole.duty_wake (PP := E.PP) hI hi hwg hmd hwk fn pos
  exact ⟨_, h1, h2, ⟨γ', h3, h4, h5, h6⟩, h⟩
theorem at_lead_load {u hi' : Nat} {ws : List (Nat × (Res → Prop))} (hB : l.ws u = some ⟨ws, hi', 0⟩) (h : ∀ n : Nat, n ≤ hi' → l.wk u ≤ n → n < 2147483648 → K (.int .u64 ((n * 4294967296 : Nat) : Int)) (l.wsd u (some ⟨ws, n, 0⟩))) : E.LoadAt l fn ⟨u, 0, none⟩ .u64 K := fun γ w t pos hI hl hi => by
  subst hl
  obtain ⟨n, h1, h2, h3, γ', h4, h5, h6, h7⟩ := Whole.lead_load (PP := E.PP) hI hi hB fn pos
  have hs : n < 2147483648 := by
    obtain ⟨G, hG, _, hp0, _⟩ := hI.lead hi hB
    obtain ⟨_, k2, _⟩ := hI.mem.wg u G hG
    rw [h3] at k2
    have e0 : wtOf G.ph = 0 := by rw [hp0 rfl]; rfl
    simp only [e0, Option.some.injEq, Value.int.injEq, true_and] at k2
    have := hI.team.small u
    omega
  exact ⟨_, _, h3, ⟨γ', h4, h5, h6 _, h7⟩, h n h1 h2 hs⟩
theorem at_lead_cas {u v : Nat} {ws : List (Nat × (Res → Prop))} (hB : l.ws u = some ⟨ws, v, 0⟩) (hv : 0 < v) (hwk : l.wk u = 0) (h1 : K (.bool true) (l.wsd u (some ⟨ws, v, 1⟩))) (h2 : K (.bool false) (l.wsd u (some ⟨ws, v - 1, 0⟩))) : E.CasAt l fn ⟨u, 0, none⟩ .u64 ((v * 4294967296 : Nat) : Int) ((v * 4294967296 + 1 : Nat) : Int) K := fun γ w t pos hI hl hi => by
  subst hl
  obtain ⟨n, g1, g2, g3, g4⟩ := Whole.lead_cas (PP := E.PP) hI hi hB hv hwk fn pos
  refine ⟨_, g1, g2, fun e => ?_, fun e => ?_⟩
  · obtain ⟨γ', k1, k2, k3, k4⟩ := g3 (by omega)
    exact ⟨_, ⟨γ', k1, k2, k3 _, k4⟩, h1⟩
  · obtain ⟨γ', k1, k2, k3, k4⟩ := g4 (fun e' => e (by rw [e']))
    exact ⟨_, ⟨γ', k1, k2, k3 _, k4⟩, h2⟩
theorem at_lead_sem {u v : Nat} {ws : List (Nat × (Res → Prop))} {KK : Lo → Prop} (hB : l.ws u = some ⟨ws, v, 1⟩) (htr : ∀ c, l.res.tk (.tr c) = 0) (h : KK (l.wsd u (some ⟨ws, 0, 0⟩))) :
    E.All l fun γ w t pos => (w.cell? ⟨u, 1, none⟩ = some (.int .u32 0) ∧ Stuck γ E.i w) ∨ ∃ l', w.cell? ⟨u, 1, none⟩ = some (.int .u32 1) ∧ w.frozen? ⟨u, 1, none⟩ = false ∧ E.Step fn γ w t pos (w.setCell ⟨u, 1, none⟩ (.int .u32 0)) (semEvents ⟨u, 1, none⟩) l' ∧ KK l' := fun γ w t pos hI hl hi => by
  subst hl
  rcases Whole.lead_sem (PP := E.PP) hI hi hB fn pos with h1 | ⟨h1, h2, γ', h3, h4, h5, h6⟩
  · exact .inl ⟨h1, hi, (hI.team.boss _ hi u _ hB).1, htr, u, _, hB, by simp, h1⟩
  · exact .inr ⟨_, h1, h2, ⟨γ', h3, h4, h5 _, h6⟩, h⟩

/-! A pool. -/
theorem at_alive_up {p ch cap : Nat} {so : Bool} (hact : l.md = .act) (hpl : l.pl p = some (ch, cap, so)) (hlt : l.res.tk (.alive p) < l.res.tk (.slot p))
    (h : ∀ n : Nat, n + 1 ≤ cap → cap ≤ 16 → (∀ c bg m g, l.gl c = some (bg, m, p) → l.gk c = some g → 0 < l.res.tk (.tr c) → g ≤ n) → K (.int .i64 (n + 1 : Nat)) (l.tok (.alive p) (l.res.tk (.alive p) + 1))) : E.AddAt l fn ⟨p, 1, none⟩ .i64 1 K := fun γ w t pos hI hl hi => by
  subst hl
  obtain ⟨n, h1, h2, h3, h4, h5, h6, h7⟩ := Whole.alive_up (PP := E.PP) hI hi hact hpl hlt fn pos
  have e : IntKind.i64.wrap ((n : Int) + 1) = ((n + 1 : Nat) : Int) := by rw [IntKind.wrap_i64]; omega
  refine ⟨_, _, h1, h2, ⟨γ.set E.i ((γ.lo E.i).tok (.alive p) ((γ.lo E.i).res.tk (.alive p) + 1)), ?_, rfl, ?_, set_same _ _ _⟩, ?_⟩
  · rw [e]; exact h6
  · rw [e]; exact h7 _
  · rw [e]; exact h n h3 h4 h5
theorem at_alive_down {p ch cap x : Nat} {so : Bool} (hact : l.md = .act) (hpl : l.pl p = some (ch, cap, so)) (hx : l.res.tk (.alive p) = x + 1) (hgm : ∀ c, l.res.tk (.gm c) = 0 ∨ l.cl c) (h : ∀ v, K v (l.tok (.alive p) x)) : E.AddAt l fn ⟨p, 1, none⟩ .i64 (-1) K := fun γ w t pos hI hl hi => by
  subst hl
  obtain ⟨n, h1, h2, h3, h6, h7⟩ := Whole.alive_down (PP := E.PP) hI hi hact hpl hx hgm fn pos
  have e : IntKind.i64.wrap (((n + 1 : Nat) : Int) + -1) = ((n : Nat) : Int) := by rw [IntKind.wrap_i64]; omega
  refine ⟨_, _, h1, h2, ⟨γ.set E.i ((γ.lo E.i).tok (.alive p) x), ?_, rfl, ?_, set_same _ _ _⟩, ?_⟩
  · rw [e]; exact h6
  · rw [e]; exact h7 _
  · rw [e]; exact h _
theorem at_begun {p ch cap : Nat} {so : Bool} (hact : l.md = .act) (hpl : l.pl p = some (ch, cap, so)) (h : ∀ v, K v (l.tok (.begun p) (l.res.tk (.begun p) + 1))) : E.AddAt l fn ⟨p, 3, none⟩ .i64 1 K := fun γ w t pos hI hl hi => by
  subst hl
  obtain ⟨n, h1, h2, h6, h7⟩ := Whole.begun_up (PP := E.PP) hI hi hact hpl fn pos
  exact ⟨_, _, h1, h2, ⟨_, h6, rfl, h7 _, set_same _ _ _⟩, h _⟩
theorem at_peak {p ch cap : Nat} {so : Bool} (hact : l.md = .act) (hpl : l.pl p = some (ch, cap, so)) (h : ∀ n : Nat, l.pk p ≤ n → n ≤ cap → K (.int .i64 n) (l.pkd p n)) : E.LoadAt l fn ⟨p, 2, none⟩ .i64 K := fun γ w t pos hI hl hi => by
  subst hl
  obtain ⟨n, h1, h2, h3, h6, h7⟩ := Whole.peak_load (PP := E.PP) hI hi hact hpl fn pos
  exact ⟨_, _, h1, ⟨_, h6, rfl, h7 _, set_same _ _ _⟩, h n h2 h3⟩
theorem at_peak_cas {p ch cap x y : Nat} {so : Bool} (hact : l.md = .act) (hpl : l.pl p = some (ch, cap, so)) (hx : x ≤ l.pk p) (hxy : x < y) (hy : y ≤ cap) (h1 : K (.bool true) (l.pkd p y)) (h2 : K (.bool false) (l.pkd p (x + 1))) : E.CasAt l fn ⟨p, 2, none⟩ .i64 (x : Nat) (y : Nat) K := fun γ w t pos hI hl hi => by
  subst hl
  obtain ⟨n, g1, g2, g3, g4⟩ := Whole.peak_cas (PP := E.PP) hI hi hact hpl hx hxy hy fn pos
  refine ⟨_, g1, g2, fun e => ?_, fun e => ?_⟩
  · obtain ⟨k1, k2⟩ := g3 (by omega)
    exact ⟨_, ⟨_, k1, rfl, k2 _, set_same _ _ _⟩, h1⟩
  · obtain ⟨k1, k2⟩ := g4 (fun e' => e (by rw [e']))
    exact ⟨_, ⟨_, k1, rfl, k2 _, set_same _ _ _⟩, h2⟩
/-- Goroutine 0, alone, reads how many are alive, how many have begun. -/
theorem at_alone {p ch cap o : Nat} {so : Bool} (h0 : E.i = 0) (hact : l.md = .act) (hpl : l.pl p = some (ch, cap, so)) (hws : ∀ u B, l.ws u = some B → B.ws = []) (k : Tk) (hk : (o = 1 ∧ k = .alive p) ∨ (o = 3 ∧ k = .begun p)) (hsm : l.res.tk k < 4611686018427387904) (h : K (.int .i64 (l.res.tk k : Nat)) l) : E.LoadAt l fn ⟨p, o, none⟩ .i64 K := fun γ w t pos hI hl hi => by
  subst hl
  obtain ⟨kk, hG⟩ := hI.nums.pl _ hi p ch cap so hpl
  have hsum := Whole.alone_sum hI (by rw [h0] at hws; exact hws) k
  rw [← h0] at hsum
  obtain ⟨_, m1, _, m3, _⟩ := hI.mem.pool p _ hG
  have key := Whole.pool_read (PP := E.PP) hI hi hact hpl (o := o) (by omega) fn pos
  refine ⟨((γ.lo E.i).res.tk k : Nat), _, ?_, ⟨γ, key.1, rfl, key.2 _, rfl⟩, h⟩
  rcases hk with ⟨rfl, rfl⟩ | ⟨rfl, rfl⟩
  · rw [m1, hsum]
  · rw [m3, hsum, wrap_small hsm]
end Go.Proofs.Ytofohjbcgchhoaa
