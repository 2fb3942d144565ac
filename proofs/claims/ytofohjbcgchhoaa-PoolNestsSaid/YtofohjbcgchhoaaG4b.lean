/-
  WHAT A POOL'S LOOP KEEPS, on: what a task finds; a worker that is sent.
-/
import Derived.Test.YtofohjbcgchhoaaG4
namespace Go.Proofs.Ytofohjbcgchhoaa
open Go.Conc
open Go.RowKit
open Go.ConcN (sumTo sumTo_congr le_sumTo)

theorem sum_one_le {f : Nat → Nat} {i n : Nat} (h : i < n) : sumTo i f + f i ≤ sumTo n f := by
  induction n with
  | zero => omega
  | succ m ih =>
    show _ ≤ sumTo m _ + _
    by_cases e : i = m
    · subst e; exact Nat.le_refl _
    · have := ih (by omega); omega
theorem all_in {i : Nat} {fk : List Nat} (hn : fk.Nodup) (hl : ∀ j ∈ fk, j < i) (hlen : fk.length = i) : ∀ j, j < i → j ∈ fk := by
  intro j hj
  have h := sum_apart i (fun _ => 1) fk hn hl
  have h1 : (fk.map (fun _ => 1)).sum = fk.length := by
    clear h hn hl hlen
    induction fk with
    | nil => rfl
    | cons x xs ih => simp only [List.map_cons, List.sum_cons, ih, List.length_cons]; omega
  have h2 : sumTo i (fun _ => 1) = i := by
    clear h h1 hj hlen hl
    induction i with
    | zero => rfl
    | succ n ih => show sumTo n _ + 1 = _; rw [ih]
  have h3 := le_sumTo (f := fun j => if j ∈ fk then 0 else 1) hj
  by_cases e : j ∈ fk
  · exact e
  · simp only [e, if_false] at h3
    omega

section
variable {D : DoPar} {e0 : Prop} {i : Nat} {l l' : Lo} {ws : List (Nat × (Res → Prop))} {hi : Nat} {fk : List Nat} {xs : Nat → Int}

theorem DoAt.has (P : DoPre D e0) (hin : i < D.n) (h : DoAt D e0 i l ws hi fk xs) (k : Tk) : (D.ts i).T k ≤ l.res.tk k := by
  by_cases e : ∃ c, k = .gm c
  · obtain ⟨c, rfl⟩ := e
    rw [((P.ok i hin).gm c).1]
    exact Nat.zero_le _
  · have h1 := h.tk k fun c hc => e ⟨c, hc⟩
    have h2 := P.T k
    have h3 := sum_one_le (f := fun j => (D.ts j).T k) hin
    omega
theorem DoAt.slots (P : DoPre D e0) (hin : i ≤ D.n) (h : DoAt D e0 i l ws hi fk xs) (p : Nat) : l.res.tk (.alive p) = D.l0.res.tk (.alive p) ∧ l.res.tk (.slot p) = D.l0.res.tk (.slot p) := by
  have t1 := h.tk (.alive p) (by simp)
  have t2 := h.tk (.slot p) (by simp)
  have z1 : sumTo i (fun j => (D.ts j).T (.alive p)) = 0 := sumTo_zero fun j hj => ((P.ok j (by omega)).alive p).1
  have z2 : sumTo i (fun j => (D.ts j).T (.slot p)) = 0 := sumTo_zero fun j hj => ((P.ok j (by omega)).slot p).1
  have z3 : sumTo i (fun j => if j ∈ fk then 0 else (D.ts j).T' (.alive p)) = 0 := sumTo_zero fun j hj => by have := ((P.ok j (by omega)).alive p).2; simp [this]
  have z4 : sumTo i (fun j => if j ∈ fk then 0 else (D.ts j).T' (.slot p)) = 0 := sumTo_zero fun j hj => by have := ((P.ok j (by omega)).slot p).2; simp [this]
  omega
theorem DoAt.trs (P : DoPre D e0) (hin : i ≤ D.n) (h : DoAt D e0 i l ws hi fk xs) (c : Nat) : l.res.tk (.tr c) + sumTo i (fun j => (D.ts j).T (.tr c)) = sumTo D.n (fun j => (D.ts j).T (.tr c)) := by
  have t1 := h.tk (.tr c) (by simp)
  have t2 := P.tr c
  have z : sumTo i (fun j => if j ∈ fk then 0 else (D.ts j).T' (.tr c)) = 0 := sumTo_zero fun j hj => by have := (P.ok j (by omega)).tr c; simp [this]
  omega
theorem DoAt.tbs (P : DoPre D e0) (hin : i < D.n) (h : DoAt D e0 i l ws hi fk xs) {c : Nat} (hc : D.gc = some c) : l.res.tk (.tb c) = 0 := by
  obtain ⟨_, _, _, _, _, _, _, _, g1, _, g2, _⟩ := P.gate c hc
  have t1 := h.tk (.tb c) (by simp)
  have hall := all_in h.nd (fun j hj => (h.fkl j hj).1) ((h.gate c hc).2.2.2.1 hin)
  have z : sumTo i (fun j => if j ∈ fk then 0 else (D.ts j).T' (.tb c)) = 0 := sumTo_zero fun j hj => by simp [hall j hj]
  omega
theorem DoAt.gms (P : DoPre D e0) (h : DoAt D e0 i l ws hi fk xs) (c : Nat) : l.cl c ∨ l.res.tk (.gm c) = 0 := by
  rcases P.gm c with e | e
  · exact .inl (h.ext.cl c e)
  · exact .inr ((h.gm c).trans e)
/-- What a task finds that is run at once. -/
theorem DoAt.ready (P : DoPre D e0) (hin : i < D.n) (h : DoAt D e0 i l ws hi fk xs) (hgi : ∀ c, D.gc = some c → i + 1 = D.n) (c : Nat) : l.res.tk (.tr c) = (D.ts i).T (.tr c) := by
  have h1 := h.trs P (by omega) c
  cases hg : D.gc with
  | none =>
    have h2 := (P.free hg).2
    have z : sumTo D.n (fun j => (D.ts j).T (.tr c)) = 0 := sumTo_zero fun j hj => h2 j hj c
    have := h2 i hin c
    omega
  | some c0 =>
    have := hgi c0 hg
    rw [← this] at h1
    have h1 : l.res.tk (.tr c) + sumTo i (fun j => (D.ts j).T (.tr c)) = sumTo i (fun j => (D.ts j).T (.tr c)) + (D.ts i).T (.tr c) := h1
    omega

/-- The shares that a worker is given besides the task's. -/
def DoPar.X (D : DoPar) (k : Tk) : Nat :=
  match D.gc with
  | some c => if k = .slot D.p ∨ k = .alive D.p ∨ k = .gm c then 1 else 0
  | none => if k = .slot D.p ∨ k = .alive D.p then 1 else 0
theorem DoPar.X_slot (D : DoPar) (q : Nat) : D.X (.slot q) = D.X (.alive q) := by
  unfold DoPar.X
  cases D.gc <;> simp
theorem DoPar.X_tr (D : DoPar) (c : Nat) : D.X (.tr c) = 0 ∧ D.X (.tb c) = 0 := by
  unfold DoPar.X
  cases D.gc <;> simp
theorem DoPar.X_gm (D : DoPar) (c : Nat) : D.X (.gm c) = if D.gc = some c then 1 else 0 := by
  unfold DoPar.X
  cases D.gc with
  | none => simp
  | some c0 => by_cases e : c0 = c <;> simp [e, eq_comm]
theorem DoPar.X_p (D : DoPar) : D.X (.slot D.p) = 1 ∧ D.X (.alive D.p) = 1 := by
  unfold DoPar.X
  cases D.gc <;> simp

open Classical in
/-- What a worker is given. -/
noncomputable def DoPar.Rc (D : DoPar) (i : Nat) (l : Lo) : Res := ⟨fun a => if (D.ts i).foot a ∨ a = ⟨D.O, i, none⟩ then l.res.cells a else none, fun k => (D.ts i).T k + D.X k⟩
open Classical in
/-- What stays. -/
noncomputable def DoPar.Rr (D : DoPar) (i : Nat) (l : Lo) : Res := ⟨fun a => if (D.ts i).foot a ∨ a = ⟨D.O, i, none⟩ then none else l.res.cells a, fun k => l.res.tk k - ((D.ts i).T k + D.X k)⟩

/-- How the worker begins. -/
structure Begins (D : DoPar) (i : Nat) (lc : Lo) : Prop where
  ext : Ext D.l0 lc
  foot : ∀ a, (D.ts i).foot a → lc.res.cells a = D.l0.res.cells a
  T : ∀ k, (D.ts i).T k ≤ lc.res.tk k
  tr : ∀ c, lc.res.tk (.tr c) = (D.ts i).T (.tr c)
  tb : ∀ c, D.gc = some c → lc.res.tk (.tb c) = 0
  slots : ∀ p, lc.res.tk (.alive p) ≤ lc.res.tk (.slot p)
  gm : ∀ c, D.gc = some c ∨ lc.res.tk (.gm c) = 0 ∨ lc.cl c
  slot1 : lc.res.tk (.slot D.p) = 1
  alive1 : lc.res.tk (.alive D.p) = 1
  cell : lc.res.cells ⟨D.O, i, none⟩ ≠ none
  ends : ∀ r x, r.cells ⟨D.O, i, none⟩ = some (.int .i64 x) → (D.ts i).post x r.cells → (∀ k, r.tk k + (D.ts i).T k + (if k = .slot D.p ∨ k = .alive D.p then 1 else 0) = lc.res.tk k + (D.ts i).T' k) → D.J i r

theorem DoAt.fork (P : DoPre D e0) (hin : i < D.n) (h : DoAt D e0 i l ws hi fk xs) (hO : ∀ j k, j < D.n → ¬ (D.ts j).foot ⟨D.O, k, none⟩) (hO0 : ∀ k, D.l0.res.cells ⟨D.O, k, none⟩ = none) (hv : (D.ts i).v ≠ .nilFunc) (hpool : D.pool = true) {l8 : Lo}
    (e8 : Ext l l8) (c8 : ∀ a, l.res.cells a ≠ none → l8.res.cells a = l.res.cells a) (tk8 : ∀ k, l8.res.tk k = l.res.tk k + D.X k) (ws8 : ∀ y, y ≠ D.u → l8.ws y = l.ws y) (hwk0 : l.wk D.u = 0) (wk8 : ∀ y, y ≠ D.u → l8.wk y = l.wk y) (wg8 : l8.wg = l.wg) (ob8 : l8.ob = l.ob)
    (gk8 : ∀ c, l8.gk c = if D.gc = some c then some (fk.length + 1) else l.gk c) (sk8 : ∀ q, l8.sk q = if q = D.p then l.sk q + 1 else l.sk q) (pk8 : 1 ≤ l8.pk D.p) (pk8' : ∀ c, D.gc = some c → fk.length + 1 ≤ l8.pk D.p) :
    Parts l8 (D.Rc i l8) (D.Rr i l8) ∧ (∀ N, DoAt D e0 (i + 1) (l8.parent N D.u 0 (D.Rr i l8) (D.J i) ws (hi + 1)) ((N, D.J i) :: ws) (hi + 1) (i :: fk) xs) ∧ ∀ N, Begins D i (l8.child N D.u (D.Rc i l8) (D.J i)) := by
  have ho := P.ok i hin
  have hT := h.has P hin
  have hsl := fun q => h.slots P (by omega) q
  have hpsl := P.slots
  have hO8 : l.res.cells ⟨D.O, i, none⟩ ≠ none := (h.todo i (Nat.le_refl _) hin).2
  refine ⟨?_, fun N => ?_, fun N => ?_⟩
  · exact {
      tk := fun k => by
        show _ = ((D.ts i).T k + D.X k) + (l8.res.tk k - ((D.ts i).T k + D.X k))
        have := hT k; have := tk8 k
        omega
      cc := fun a v e => by
        simp only [DoPar.Rc] at e
        by_cases hf : (D.ts i).foot a ∨ a = ⟨D.O, i, none⟩
        · rw [if_pos hf] at e; exact ⟨e, by simp only [DoPar.Rr, if_pos hf]⟩
        · rw [if_neg hf] at e; cases e
      cr := fun a v e => by
        simp only [DoPar.Rr] at e
        split at e
        · cases e
        · exact e
      slot := fun q => by
        have h1 := tk8 (.alive q); have h2 := tk8 (.slot q); have h3 := D.X_slot q
        have h4 := (ho.slot q).1; have h5 := (ho.alive q).1
        have h6 := hsl q; have h7 := hpsl q
        simp only [DoPar.Rc, DoPar.Rr]
        omega
      gm := fun c => by
        have h1 := tk8 (.gm c); have h2 := D.X_gm c; have h3 := (ho.gm c).1
        by_cases hc : D.gc = some c
        · obtain ⟨_, _, _, _, _, ⟨bg, m, g1⟩, _, g2, _⟩ := P.gate c hc
          have h4 := h.gm c
          rw [if_pos hc] at h2
          refine .inr ⟨by simp only [DoPar.Rr]; omega, .inr ⟨bg, m, D.p, by rw [e8.gl, h.ext.gl]; exact g1, ?_⟩⟩
          have h5 := D.X_p.2; have h6 := (ho.alive D.p).1
          simp only [DoPar.Rc]
          omega
        · rw [if_neg hc] at h2
          rcases h.gms P c with e | e
          · exact .inl (e8.cl c e)
          · exact .inr ⟨by simp only [DoPar.Rr]; omega, .inl (by simp only [DoPar.Rc]; omega)⟩
      tr := fun c hne => by
        have h1 := tk8 (.tr c); have h2 := tk8 (.tb c); have h3 := D.X_tr c
        have h4 := h.trs P (by omega) c
        cases hg : D.gc with
        | none =>
          have z : sumTo D.n (fun j => (D.ts j).T (.tr c)) = 0 := sumTo_zero fun j hj => (P.free hg).2 j hj c
          omega
        | some c0 =>
          by_cases e : c = c0
          · subst e
            have := h.tbs P hin hg
            omega
          · have z : sumTo D.n (fun j => (D.ts j).T (.tr c)) = 0 := sumTo_zero fun j hj => (P.gate c0 hg).2.2.2.2.2.2.2.2.2.2.2 c e j hj
            omega }
  · refine h.sent P hin hO hO0 hv ⟨e8.md, e8.df, e8.ro, e8.pl, e8.gl, e8.pk, e8.cl⟩ ?_ ?_ wg8 ob8 (fun a h1 h2 h3 => ?_) (fun k hk => ?_) (fun c => ?_) gk8 sk8 hpool pk8 pk8'
    · funext y
      by_cases e : y = D.u
      · simp only [Lo.parent, e, if_true]
      · simp only [Lo.parent, if_neg e]; exact ws8 y e
    · funext y
      by_cases e : y = D.u
      · simp only [Lo.parent, e, if_true]; exact hwk0.symm
      · simp only [Lo.parent, if_neg e]; exact wk8 y e
    · show (D.Rr i l8).cells a = _
      simp only [DoPar.Rr]
      rw [if_neg (fun e => e.elim h1 h2)]
      exact c8 a h3
    · show (D.Rr i l8).tk k + _ = _
      simp only [DoPar.Rr]
      have := hT k; have := tk8 k
      omega
    · show (D.Rr i l8).tk _ = _
      simp only [DoPar.Rr]
      have := tk8 (.gm c); have := (ho.gm c).1
      omega
  · have hx : ∀ k, (l8.child N D.u (D.Rc i l8) (D.J i)).res.tk k = (D.ts i).T k + D.X k := fun k => rfl
    exact {
      ext := ⟨rfl, rfl, fun a v x => e8.ro a v (h.ext.ro a v x), e8.pl.trans h.ext.pl, e8.gl.trans h.ext.gl, fun p => Nat.le_trans (h.ext.pk p) (e8.pk p), fun c x => e8.cl c (h.ext.cl c x)⟩
      foot := fun a ha => by
        show (D.Rc i l8).cells a = _
        simp only [DoPar.Rc, ha, true_or, if_true]
        have := (h.todo i (Nat.le_refl _) hin).1 a ha
        rw [c8 a (by rw [this]; exact P.own i hin a ha), this]
      T := fun k => by rw [hx]; omega
      tr := fun c => by rw [hx, (D.X_tr c).1]; omega
      tb := fun c hc => by
        rw [hx, (D.X_tr c).2]
        obtain ⟨_, _, _, _, _, _, _, _, _, _, g2, _⟩ := P.gate c hc
        have := g2 i hin
        omega
      slots := fun q => by rw [hx, hx, D.X_slot]; have := (ho.slot q).1; have := (ho.alive q).1; omega
      gm := fun c => by
        by_cases hc : D.gc = some c
        · exact .inl hc
        · refine .inr (.inl ?_)
          rw [hx, D.X_gm, if_neg hc, (ho.gm c).1]
      slot1 := by rw [hx, D.X_p.1, (ho.slot _).1]
      alive1 := by rw [hx, D.X_p.2, (ho.alive _).1]
      cell := by
        show (D.Rc i l8).cells _ ≠ none
        simp only [DoPar.Rc, or_true, if_true]
        rw [c8 _ hO8]; exact hO8
      ends := fun r x h1 h2 h3 => ⟨x, h1, h2, fun k hk => by
        have h4 := h3 k
        rw [hx] at h4
        have h5 : D.X k = if k = .slot D.p ∨ k = .alive D.p then 1 else 0 := by
          unfold DoPar.X
          cases hg : D.gc with
          | none => simp
          | some c => have := hk c hg; simp only [this, or_false]
        rw [h5] at h4
        omega⟩ }
end
end Go.Proofs.Ytofohjbcgchhoaa
