/-
  Steps towards TopCounts (no conditions of their own): SYNTH, PLAINLY: what the smith writes, and what it does.
-/
import Derived.Test.YthkoodpnepfijaaGreatDoorM08
/- PT: SYNTH, PLAINLY: what the smith writes, and what it does. -/
namespace Go.Proofs.YthkoodpnepfijaaGreatDoor
set_option linter.unusedVariables false

/-! ### what the smith writes -/
def tm (to a c : Int) : List Ins := if c = 0 then [⟨4, to, a, a, 0⟩] else if c = 1 ∧ to = a then [] else if c = 1 then [⟨1, to, a, 0, 0⟩] else if c = -1 then [⟨2, to, a, 0, 0⟩] else [⟨5, to, a, 0, c⟩]
def ov (to c : Int) : List Ins := if c = 1 then [] else if c = -1 then [⟨2, to, to, 0, 0⟩] else [⟨6, to, to, 0, c⟩]
def pwL (to c : Int) : Nat → Int → Int → List Ins
  | 0, fr, k => tm to fr k
  | e + 1, fr, k => if k * c > 512 ∨ k * c < -512 then tm to fr k ++ pwL to c e to (1 * c) else pwL to c e fr (k * c)
def pw (to a c : Int) (e : Nat) : List Ins := if (c = 0 ∧ 0 < e) ∨ c = 1 ∨ c = -1 then tm to a (if c = -1 ∧ e % 2 = 0 then 1 else c) else pwL to c e a 1
/-- The point k's value (p) taken away from the point i's (q). -/
def awI (n : Nat) (p q : Pnt) (u v : Int) (k i e : Nat) : List Ins :=
  (if u * q.A + v * q.B ≠ 0 ∨ e = 0 then pw (3 * n : Nat) (k : Nat) (u * q.A + v * q.B) e ++ [⟨4, (i : Nat), (i : Nat), (3 * n : Nat), 0⟩] else []) ++ (if p.A * q.B - q.A * p.B = 1 then [] else ov (i : Nat) (p.A * q.B - q.A * p.B))
def lowR (u : Int) (th : List Bool) (j : Nat) : Bool := decide (0 < j) && (th.getD (j - 1) false && decide (u ≠ 0))
def ownR (v : Int) (th : List Bool) (j : Nat) : Bool := th.getD j false && decide (v ≠ 0)
def raI (n : Nat) (u v : Int) (j : Nat) (th : List Bool) : List Ins :=
  (if lowR u th j = true then tm (3 * n : Nat) (2 * n + (j - 1) : Nat) u else []) ++
  (if ownR v th j = true then (if lowR u th j = true then tm (2 * n + j : Nat) (2 * n + j : Nat) v ++ [⟨3, (2 * n + j : Nat), (2 * n + j : Nat), (3 * n : Nat), 0⟩] else tm (2 * n + j : Nat) (2 * n + j : Nat) v)
   else if lowR u th j = true then tm (2 * n + j : Nat) (3 * n : Nat) 1 else [])
def raTh (u v : Int) (j : Nat) (th : List Bool) : List Bool := th.set j (ownR v th j || lowR u th j)
/-- The places m - 1 .. 0. -/
def raJ (n : Nat) (u v : Int) : Nat → List Bool → List Ins
  | 0, th => []
  | m + 1, th => raI n u v m th ++ raJ n u v m (raTh u v m th)
def raJt (u v : Int) : Nat → List Bool → List Bool
  | 0, th => th
  | m + 1, th => raJt u v m (raTh u v m th)
/-- The powers d + 1 .. d + m. -/
def raD (n : Nat) (u v : Int) : Nat → Nat → List Bool → List Ins
  | _, 0, th => []
  | d, m + 1, th => raJ n u v (d + 2) th ++ raD n u v (d + 1) m (raJt u v (d + 2) th)
def raDt (u v : Int) : Nat → Nat → List Bool → List Bool
  | _, 0, th => th
  | d, m + 1, th => raDt u v (d + 1) m (raJt u v (d + 2) th)
def th0 (e : Nat) : List Bool := (List.replicate (e + 1) false).set 0 true
def raised (n : Nat) (u v : Int) (k e : Nat) : List Ins := tm (2 * n : Nat) (k : Nat) 1 ++ raD n u v 0 e (th0 e)
def raisedT (u v : Int) (e : Nat) : List Bool := raDt u v 0 e (th0 e)
def bkI (n : Nat) (p : Pnt) (e j : Nat) : List Ins :=
  if j = e then tm (n + j : Nat) (n + (j - 1) : Nat) (-p.B) else (if 0 < j then tm (3 * n : Nat) (n + (j - 1) : Nat) p.B else []) ++ tm (n + j : Nat) (n + j : Nat) p.A ++ (if 0 < j then [⟨4, (n + j : Nat), (n + j : Nat), (3 * n : Nat), 0⟩] else [])
/-- The places m - 1 .. 0. -/
def bkJ (n : Nat) (p : Pnt) (e : Nat) : Nat → List Ins
  | 0 => []
  | m + 1 => bkI n p e m ++ bkJ n p e m
def sumJ (n : Nat) (th : List Bool) (j : Nat) : List Ins := if th.getD j false = true then [⟨3, (n + j : Nat), (n + j : Nat), (2 * n + j : Nat), 0⟩] else []
def back (n : Nat) (p : Pnt) (u v : Int) (k e : Nat) : List Ins := bkJ n p e (e + 1) ++ raised n u v k e ++ (List.range (e + 1)).flatMap (sumJ n (raisedT u v e))

/-! ### what it does -/
theorem mem_eq {α : Type} {a b : α} {l : List α} (e : a = b) (h : b ∈ l) : a ∈ l := e ▸ h
/-- s and t agree but for the registers of X. -/
def Agr (X : Int → Prop) (s t : Rg) : Prop := ∀ r, ¬ X r → t r = s r
theorem Agr.refl (X : Int → Prop) (s : Rg) : Agr X s s := fun _ _ => rfl
theorem Agr.trans {X : Int → Prop} {s t u : Rg} (h : Agr X s t) (k : Agr X t u) : Agr X s u := fun r hr => (k r hr).trans (h r hr)
theorem Agr.mono {X Y : Int → Prop} {s t : Rg} (h : Agr X s t) (hXY : ∀ r, X r → Y r) : Agr Y s t := fun r hr => h r fun x => hr (hXY r x)
theorem Rg.set_self (s : Rg) (r : Int) {v : Int} (h : v = s r) : s.set r v = s := by
  funext q; unfold Rg.set; split
  · rename_i e; rw [h, e]
  · rfl
theorem Rg.set_set (s : Rg) (r v w : Int) : (s.set r v).set r w = s.set r w := by funext q; unfold Rg.set; split <;> rfl
theorem exec_nil (s : Rg) : exec [] s = some s := rfl
theorem exec_one (i : Ins) (s : Rg) : exec [i] s = stepI i s := by simp only [exec]; cases stepI i s <;> rfl
theorem add_run (t a b c : Int) (s : Rg) : exec [⟨3, t, a, b, c⟩] s = some (s.set t (s a + s b)) := by rw [exec_one]; simp [stepI, Ins.val]
theorem sub_run (t a b c : Int) (s : Rg) : exec [⟨4, t, a, b, c⟩] s = some (s.set t (s a - s b)) := by rw [exec_one]; simp [stepI, Ins.val]
theorem tm_run (to a c : Int) (s : Rg) : exec (tm to a c) s = some (s.set to (s a * c)) := by
  unfold tm
  split
  · rename_i h; rw [exec_one]; simp [stepI, Ins.val, h]
  split
  · rename_i h0 h; rw [exec_nil, h.1, h.2, Rg.set_self]; simp
  split
  · rename_i h; rw [exec_one]; simp [stepI, Ins.val, h]
  split
  · rename_i h; rw [exec_one]; simp [stepI, Ins.val, h]
  · rw [exec_one]; simp [stepI, Ins.val]
theorem ov_run (to c : Int) (s : Rg) (q : Int) (hc : c ≠ 0) (h : s to = c * q) : exec (ov to c) s = some (s.set to q) := by
  unfold ov
  split
  · rename_i h1; rw [exec_nil, Rg.set_self]; rw [h, h1]; simp
  split
  · rename_i h1; rw [exec_one]; simp [stepI, Ins.val, h, h1]
  · rw [exec_one]
    simp [stepI, Ins.val, h, Int.dvd_mul_right, Int.mul_ediv_cancel_left q hc]
theorem pwL_run (to c : Int) : ∀ (e : Nat) (fr k : Int) (s : Rg), exec (pwL to c e fr k) s = some (s.set to (s fr * (k * c ^ e)))
  | 0, fr, k, s => by rw [pwL, tm_run]; simp
  | e + 1, fr, k, s => by
    unfold pwL
    split
    · refine exec_two (tm_run ..) ?_
      rw [pwL_run to c e, Rg.set_same, Rg.set_set]
      congr 2
      rw [Int.pow_succ]; grind
    · rw [pwL_run to c e]
      congr 2
      rw [Int.pow_succ]; grind
theorem neg_one_pow (e : Nat) : (-1 : Int) ^ e = if e % 2 = 0 then 1 else -1 := by
  induction e with
  | zero => rfl
  | succ e ih => rw [Int.pow_succ, ih]; split <;> split <;> omega
theorem pw_run (to a c : Int) (e : Nat) (he : 0 < e) (s : Rg) : exec (pw to a c e) s = some (s.set to (s a * c ^ e)) := by
  unfold pw
  split
  · rename_i h
    rw [tm_run]
    congr 3
    rcases h with ⟨h, _⟩ | h | h
    · subst h; rw [if_neg (by omega), Int.zero_pow (by omega)]
    · subst h; rw [if_neg (by omega), Int.one_pow]
    · subst h; rw [neg_one_pow]; simp
  · rw [pwL_run]; simp
theorem aw_run {n k i e : Nat} {p q : Pnt} {u v x : Int} (s : Rg) (he : 0 < e) (hi : i < n) (hk : k < n) (hki : k ≠ i) (hd : p.A * q.B - q.A * p.B ≠ 0) (h : s i = s k * (u * q.A + v * q.B) ^ e + (p.A * q.B - q.A * p.B) * x) :
    ∃ t, exec (awI n p q u v k i e) s = some t ∧ t i = x ∧ Agr (fun r => r = i ∨ r = (3 * n : Nat)) s t := by
  unfold awI
  generalize hc : u * q.A + v * q.B = c at *
  generalize hdd : p.A * q.B - q.A * p.B = d at *
  have h1 : ∃ t, exec (if c ≠ 0 ∨ e = 0 then pw (3 * n : Nat) (k : Nat) c e ++ [⟨4, (i : Nat), (i : Nat), (3 * n : Nat), 0⟩] else []) s = some t ∧ t i = d * x ∧ Agr (fun r => r = i ∨ r = (3 * n : Nat)) s t := by
    split
    · refine ⟨_, exec_two (pw_run _ _ _ _ he s) (sub_run ..), ?_, fun r hr => ?_⟩
      · rw [Rg.set_same, Rg.set_ne _ _ (by omega), Rg.set_same, h]; omega
      · rw [Rg.set_ne _ _ (by omega), Rg.set_ne _ _ (by omega)]
    · rename_i hz
      have : c = 0 := by omega
      rw [this, Int.zero_pow (by omega)] at h
      exact ⟨s, rfl, by rw [h]; simp, Agr.refl _ _⟩
  obtain ⟨t, e1, e2, e3⟩ := h1
  by_cases h1 : d = 1
  · rw [if_pos h1, List.append_nil]
    exact ⟨t, e1, by rw [e2, h1]; simp, e3⟩
  · rw [if_neg h1]
    refine ⟨t.set i x, exec_two e1 (ov_run _ _ _ _ hd e2), Rg.set_same .., e3.trans fun r hr => Rg.set_ne _ _ (by omega)⟩
/-! the powers of the form -/
/-- The form's registers hold w times f, where they are there; elsewhere f is nought. -/
def FormI (n : Nat) (w : Int) (f : Nat → Int) (th : List Bool) (s : Rg) (j : Nat) : Prop := (th.getD j false = true → s (2 * n + j : Nat) = w * f j) ∧ (th.getD j false = false → f j = 0)
theorem getD_setB {th : List Bool} {j i : Nat} {b : Bool} (h : j < th.length) : (th.set j b).getD i false = if i = j then b else th.getD i false := by
  simp only [List.getD_eq_getElem?_getD, List.getElem?_set]
  by_cases hij : j = i
  · subst hij; simp [h]
  · rw [if_neg hij, if_neg (by omega)]
theorem ra_run {n m : Nat} {u v w : Int} {f g : Nat → Int} {th : List Bool} (s : Rg) (hm : m < n) (hth : m < th.length) (hg : ∀ j, g j = u * dn f j + v * f j) (hf : ∀ j, j ≤ m → FormI n w f th s j) :
    ∃ t, exec (raI n u v m th) s = some t ∧ FormI n w g (raTh u v m th) t m ∧ Agr (fun r => r = (2 * n + m : Nat) ∨ r = (3 * n : Nat)) s t := by
  have hown : ownR v th m = true → s (2 * n + m : Nat) * v = w * (v * f m) := fun h => by
    unfold ownR at h; simp only [Bool.and_eq_true] at h
    rw [(hf m (Nat.le_refl _)).1 h.1]; grind
  have hown0 : ownR v th m = false → v * f m = 0 := fun h => by
    unfold ownR at h
    cases h1 : th.getD m false
    · rw [(hf m (Nat.le_refl _)).2 h1]; simp
    · rw [h1] at h; simp at h; rw [h]; simp
  have hlow : lowR u th m = true → 0 < m ∧ s (2 * n + (m - 1) : Nat) * u = w * (u * dn f m) := fun h => by
    unfold lowR at h; simp only [Bool.and_eq_true, decide_eq_true_eq] at h
    obtain ⟨h0, h1, h2⟩ := h
    refine ⟨h0, ?_⟩
    have := (hf (m - 1) (by omega)).1 h1
    rw [this]
    have e : dn f m = f (m - 1) := by cases m with | zero => omega | succ m => rfl
    rw [e]; grind
  have hlow0 : lowR u th m = false → u * dn f m = 0 := fun h => by
    unfold lowR at h
    cases m with
    | zero => simp [dn]
    | succ m =>
      simp only [dn]
      cases h1 : th.getD m false
      · rw [(hf m (by omega)).2 h1]; simp
      · simp at h; rw [h (by simpa using h1)]; simp
  unfold raI
  cases ho : ownR v th m <;> cases hl : lowR u th m <;> simp only [if_true, if_false, Bool.false_eq_true, List.nil_append, List.append_nil]
  · refine ⟨s, rfl, ⟨fun h => ?_, fun h => ?_⟩, Agr.refl _ _⟩
    · unfold raTh at h; rw [getD_setB hth, if_pos rfl, ho, hl] at h; cases h
    · rw [hg, hlow0 hl, hown0 ho]; rfl
  · obtain ⟨h0, h1⟩ := hlow hl
    refine ⟨_, exec_two (tm_run ..) (tm_run ..), ⟨fun h => ?_, fun h => ?_⟩, fun r hr => ?_⟩
    · rw [Rg.set_same, Rg.set_same, h1, hg, hown0 ho]; simp
    · unfold raTh at h; rw [getD_setB hth, if_pos rfl, ho, hl] at h; cases h
    · rw [Rg.set_ne _ _ (by omega), Rg.set_ne _ _ (by omega)]
  · refine ⟨_, tm_run .., ⟨fun h => ?_, fun h => ?_⟩, fun r hr => ?_⟩
    · rw [Rg.set_same, hown ho, hg, hlow0 hl]; simp
    · unfold raTh at h; rw [getD_setB hth, if_pos rfl, ho, hl] at h; cases h
    · rw [Rg.set_ne _ _ (by omega)]
  · obtain ⟨h0, h1⟩ := hlow hl
    refine ⟨_, exec_two (tm_run ..) (exec_two (tm_run ..) (add_run ..)), ⟨fun h => ?_, fun h => ?_⟩, fun r hr => ?_⟩
    · rw [Rg.set_same, Rg.set_same, Rg.set_ne _ _ (by omega), Rg.set_ne _ _ (by omega), Rg.set_same, hown ho, h1, hg]; grind
    · unfold raTh at h; rw [getD_setB hth, if_pos rfl, ho, hl] at h; cases h
    · rw [Rg.set_ne _ _ (by omega), Rg.set_ne _ _ (by omega), Rg.set_ne _ _ (by omega)]
theorem raTh_len (u v : Int) (j : Nat) (th : List Bool) : (raTh u v j th).length = th.length := by simp [raTh]
theorem raJt_len (u v : Int) : ∀ (m : Nat) (th : List Bool), (raJt u v m th).length = th.length
  | 0, th => rfl
  | m + 1, th => by rw [raJt, raJt_len u v m, raTh_len]
theorem raDt_len (u v : Int) : ∀ (m d : Nat) (th : List Bool), (raDt u v d m th).length = th.length
  | 0, d, th => rfl
  | m + 1, d, th => by rw [raDt, raDt_len u v m, raJt_len]
theorem raJ_run {n : Nat} {u v w : Int} {f g : Nat → Int} (hg : ∀ j, g j = u * dn f j + v * f j) : ∀ (m : Nat) (th : List Bool) (s : Rg), m ≤ n → m ≤ th.length → (∀ j, j < m → FormI n w f th s j) → (∀ j, m ≤ j → j < n → FormI n w g th s j) →
    ∃ t, exec (raJ n u v m th) s = some t ∧ (∀ j, j < n → FormI n w g (raJt u v m th) t j) ∧ Agr (fun r => (2 * n : Nat) ≤ r ∧ r ≤ (3 * n : Nat)) s t
  | 0, th, s, _, _, _, h => ⟨s, rfl, fun j hj => h j (by omega) hj, Agr.refl _ _⟩
  | m + 1, th, s, hm, hth, h1, h2 => by
    obtain ⟨t, e1, e2, e3⟩ := ra_run s (by omega : m < n) (by omega) hg fun j hj => h1 j (by omega)
    have keep : ∀ (F : Nat → Int) j, j ≠ m → j < n → FormI n w F th s j → FormI n w F (raTh u v m th) t j := fun F j hj hjn ⟨a, b⟩ => by
      have e : (raTh u v m th).getD j false = th.getD j false := by unfold raTh; rw [getD_setB (by omega), if_neg hj]
      exact ⟨fun h => by rw [e] at h; rw [e3 _ (by omega)]; exact a h, fun h => by rw [e] at h; exact b h⟩
    obtain ⟨t', k1, k2, k3⟩ := raJ_run hg m (raTh u v m th) t (by omega) (by rw [raTh_len]; omega) (fun j hj => keep f j (by omega) (by omega) (h1 j (by omega))) (fun j hj hjn => by
      by_cases hjm : j = m
      · subst hjm; exact e2
      · exact keep g j hjm hjn (h2 j (by omega) hjn))
    exact ⟨t', exec_two e1 k1, k2, (e3.mono fun r hr => by omega).trans k3⟩
theorem raD_run {n : Nat} {u v w : Int} : ∀ (m d : Nat) (th : List Bool) (s : Rg), d + m < n → d + m < th.length → (∀ j, d < j → th.getD j false = false) → (∀ j, j < n → FormI n w (Sp u v d) th s j) →
    ∃ t, exec (raD n u v d m th) s = some t ∧ (∀ j, j < n → FormI n w (Sp u v (d + m)) (raDt u v d m th) t j) ∧ Agr (fun r => (2 * n : Nat) ≤ r ∧ r ≤ (3 * n : Nat)) s t
  | 0, d, th, s, _, _, _, h => ⟨s, rfl, h, Agr.refl _ _⟩
  | m + 1, d, th, s, hn, hl, hz, h => by
    have hhi : ∀ j, d + 2 ≤ j → j < n → FormI n w (Sp u v (d + 1)) th s j := fun j hj hjn => ⟨fun h => absurd h (by rw [hz j (by omega)]; simp), fun _ => Sp_high u v (d + 1) j (by omega)⟩
    obtain ⟨t, e1, e2, e3⟩ := raJ_run (w := w) (fun j => Sp_succ u v d j) (d + 2) th s (by omega) (by omega) (fun j hj => h j (by omega)) hhi
    have hz2 : ∀ j, d + 1 < j → (raJt u v (d + 2) th).getD j false = false := by
      have key : ∀ (m : Nat) (th : List Bool) j, m ≤ j → (raJt u v m th).getD j false = th.getD j false := by
        intro m
        induction m with
        | zero => intros; rfl
        | succ m ih =>
          intro th j hj
          rw [raJt, ih _ _ (by omega)]
          unfold raTh
          simp only [List.getD_eq_getElem?_getD]
          rw [List.getElem?_set_ne (by omega)]
      intro j hj
      rw [key _ _ _ (by omega)]
      exact hz j (by omega)
    obtain ⟨t', k1, k2, k3⟩ := raD_run m (d + 1) (raJt u v (d + 2) th) t (by omega) (by rw [raJt_len]; omega) hz2 e2
    exact ⟨t', exec_two e1 k1, by rw [show d + (m + 1) = d + 1 + m by omega]; exact k2, e3.trans k3⟩
theorem raised_run {n k e : Nat} {u v : Int} (s : Rg) (he : e < n) (hk : k < n) : ∃ t, exec (raised n u v k e) s = some t ∧ (∀ j, j < n → FormI n (s k) (Sp u v e) (raisedT u v e) t j) ∧ Agr (fun r => (2 * n : Nat) ≤ r ∧ r ≤ (3 * n : Nat)) s t := by
  have hg : ∀ j, (th0 e).getD j false = decide (j = 0) := fun j => by
    unfold th0
    rw [getD_setB (by simp)]
    split
    · rename_i h; simp [h]
    · rename_i h
      simp only [List.getD_eq_getElem?_getD, List.getElem?_replicate]
      split <;> simp [h]
  obtain ⟨t, e1, e2, e3⟩ := raD_run (n := n) (u := u) (v := v) (w := s k) e 0 (th0 e) (s.set (2 * n : Nat) (s k * 1)) (by omega) (by simp [th0]) (fun j hj => by rw [hg]; simp; omega) (fun j hj => by
    refine ⟨fun h => ?_, fun h => ?_⟩
    · rw [hg] at h; simp at h; subst h; rw [Nat.add_zero, Rg.set_same]; rfl
    · rw [hg] at h; simp at h
      cases j with
      | zero => omega
      | succ j => rfl)
  rw [Nat.zero_add] at e2
  refine ⟨t, exec_two (tm_run ..) e1, e2, Agr.trans (fun r hr => Rg.set_ne _ _ (by omega)) e3⟩
/-! the polynomial back -/
theorem bk_run {n : Nat} {p : Pnt} {e : Nat} {f g : Nat → Int} (he : e < n) (hg : ∀ j, g j = p.A * f j - p.B * dn f j) (hfe : ∀ j, e ≤ j → f j = 0) (he0 : 0 < e) : ∀ (m : Nat) (s : Rg), m ≤ e + 1 → (∀ j, j < m → j < e → s (n + j : Nat) = f j) → (∀ j, m ≤ j → j ≤ e → s (n + j : Nat) = g j) →
    ∃ t, exec (bkJ n p e m) s = some t ∧ (∀ j, j ≤ e → t (n + j : Nat) = g j) ∧ Agr (fun r => ((n : Nat) ≤ r ∧ r < (2 * n : Nat)) ∨ r = (3 * n : Nat)) s t
  | 0, s, _, _, h => ⟨s, rfl, fun j hj => h j (by omega) hj, Agr.refl _ _⟩
  | m + 1, s, hm, h1, h2 => by
    have h3 : ∃ t, exec (bkI n p e m) s = some t ∧ t (n + m : Nat) = g m ∧ Agr (fun r => r = (n + m : Nat) ∨ r = (3 * n : Nat)) s t := by
      unfold bkI
      split
      · rename_i hme
        subst hme
        refine ⟨_, tm_run .., ?_, fun r hr => Rg.set_ne _ _ (by omega)⟩
        rw [Rg.set_same, h1 (m - 1) (by omega) (by omega), hg, hfe m (Nat.le_refl _)]
        have : dn f m = f (m - 1) := by cases m with | zero => omega | succ m => rfl
        rw [this]; grind
      · rename_i hme
        have hfm := h1 m (by omega) (by omega)
        by_cases h0 : 0 < m
        · rw [if_pos h0, if_pos h0]
          refine ⟨_, exec_two (exec_two (tm_run ..) (tm_run ..)) (sub_run ..), ?_, fun r hr => ?_⟩
          · rw [Rg.set_same, Rg.set_same, Rg.set_ne _ _ (by omega), Rg.set_ne _ _ (by omega), Rg.set_same, hfm, h1 (m - 1) (by omega) (by omega), hg]
            have : dn f m = f (m - 1) := by cases m with | zero => omega | succ m => rfl
            rw [this]; grind
          · rw [Rg.set_ne _ _ (by omega), Rg.set_ne _ _ (by omega), Rg.set_ne _ _ (by omega)]
        · rw [if_neg h0, if_neg h0, List.nil_append, List.append_nil]
          refine ⟨_, tm_run .., ?_, fun r hr => Rg.set_ne _ _ (by omega)⟩
          rw [Rg.set_same, hfm, hg]
          have : m = 0 := by omega
          subst this
          simp only [dn]; grind
    obtain ⟨t, e1, e2, e3⟩ := h3
    obtain ⟨t', k1, k2, k3⟩ := bk_run he hg hfe he0 m t (by omega) (fun j hj hje => by rw [e3 _ (by omega)]; exact h1 j (by omega) hje) (fun j hj hje => by
      by_cases hjm : j = m
      · subst hjm; exact e2
      · rw [e3 _ (by omega)]; exact h2 j (by omega) hje)
    exact ⟨t', exec_two e1 k1, k2, (e3.mono fun r hr => by omega).trans k3⟩
theorem sum_run {n : Nat} {w : Int} {f : Nat → Int} {th : List Bool} : ∀ (l : List Nat) (s : Rg), l.Nodup → (∀ j ∈ l, j < n) → (∀ j, j < n → FormI n w f th s j) →
    ∃ t, exec (l.flatMap (sumJ n th)) s = some t ∧ (∀ j ∈ l, t (n + j : Nat) = s (n + j : Nat) + w * f j) ∧ Agr (fun r => ∃ j ∈ l, r = (n + j : Nat)) s t
  | [], s, _, _, _ => ⟨s, rfl, (fun j hj => by cases hj), Agr.refl _ _⟩
  | i :: l, s, hd, hn, hf => by
    have hin := hn i (List.mem_cons_self ..)
    have h1 : ∃ t, exec (sumJ n th i) s = some t ∧ t (n + i : Nat) = s (n + i : Nat) + w * f i ∧ Agr (fun r => r = (n + i : Nat)) s t := by
      unfold sumJ
      split
      · rename_i h
        refine ⟨_, add_run .., ?_, fun r hr => Rg.set_ne _ _ hr⟩
        rw [Rg.set_same, (hf i hin).1 h]
      · rename_i h
        refine ⟨s, rfl, ?_, Agr.refl _ _⟩
        rw [(hf i hin).2 (by simpa using h)]; simp
    obtain ⟨t, e1, e2, e3⟩ := h1
    obtain ⟨t', k1, k2, k3⟩ := sum_run l t (List.nodup_cons.1 hd).2 (fun j hj => hn j (List.mem_cons_of_mem _ hj)) (fun j hj => ⟨fun h => by rw [e3 _ (by omega)]; exact (hf j hj).1 h, (hf j hj).2⟩)
    refine ⟨t', exec_two e1 k1, fun j hj => ?_, (e3.mono fun r hr => ⟨i, List.mem_cons_self .., hr⟩).trans (k3.mono fun r ⟨j, hj, hr⟩ => ⟨j, List.mem_cons_of_mem _ hj, hr⟩)⟩
    rcases List.mem_cons.1 hj with rfl | hj
    · rw [k3 _ fun ⟨q, hq, e⟩ => (List.nodup_cons.1 hd).1 (mem_eq (by omega) hq)]
      exact e2
    · rw [k2 j hj, e3 _ fun e => (List.nodup_cons.1 hd).1 (mem_eq (by omega) hj)]
theorem back_run {n k e : Nat} {p : Pnt} {u v : Int} {c q : Nat → Int} (s : Rg) (he : e < n) (he0 : 0 < e) (hk : k < n) (hc : ∀ j, c j = s k * Sp u v e j + (p.A * q j - p.B * dn q j)) (hq : ∀ j, e ≤ j → q j = 0) (h : ∀ j, j < e → s (n + j : Nat) = q j) :
    ∃ t, exec (back n p u v k e) s = some t ∧ (∀ j, j ≤ e → t (n + j : Nat) = c j) ∧ Agr (fun r => (n : Nat) ≤ r) s t := by
  obtain ⟨t1, a1, a2, a3⟩ := bk_run (n := n) (p := p) (f := q) (g := fun j => p.A * q j - p.B * dn q j) he (fun _ => rfl) hq he0 (e + 1) s (Nat.le_refl _) (fun j _ hj => h j hj) (fun j h1 h2 => by omega)
  obtain ⟨t2, b1, b2, b3⟩ := raised_run (u := u) (v := v) t1 he hk
  have hk1 : t1 (k : Nat) = s k := a3 _ (by omega)
  rw [hk1] at b2
  obtain ⟨t3, c1, c2, c3⟩ := sum_run (w := s k) (List.range (e + 1)) t2 List.nodup_range (fun j hj => by have := List.mem_range.1 hj; omega) b2
  refine ⟨t3, exec_two (exec_two a1 b1) c1, fun j hj => ?_, ?_⟩
  · rw [c2 j (List.mem_range.2 (by omega)), b3 _ (by omega), a2 j hj, hc j]; omega
  · exact ((a3.mono fun r hr => by omega).trans (b3.mono fun r hr => by omega)).trans (c3.mono fun r ⟨j, _, e⟩ => by omega)
/-! all of it -/
/-- From the point t on: W k is the point k (of primitive coordinates), uv k what makes its form. -/
def solve (n : Nat) (W : Nat → Pnt) (uv : Nat → Int × Int) : Nat → Nat → List Ins
  | 0, t => tm (n : Nat) (t : Nat) 1
  | e + 1, t => (List.range (e + 1)).flatMap (fun i => awI n (W t) (W (t + 1 + i)) (uv t).1 (uv t).2 t (t + 1 + i) (e + 1)) ++ solve n W uv e (t + 1) ++ back n (W t) (uv t).1 (uv t).2 t (e + 1)
theorem aws_run {n t e : Nat} {W : Nat → Pnt} {u v : Int} {c q : Nat → Int} (he : 0 < e) (ht : t < n) (hd : ∀ i, i < n → i ≠ t → (W t).A * (W i).B - (W i).A * (W t).B ≠ 0) {w : Int} (hdiv : ∀ A B, V c e A B = w * (u * A + v * B) ^ e + ((W t).A * B - A * (W t).B) * V q (e - 1) A B) : ∀ (l : List Nat) (s : Rg), s t = w → l.Nodup → (∀ i ∈ l, t + 1 + i < n) → (∀ i ∈ l, s (t + 1 + i : Nat) = V c e (W (t + 1 + i)).A (W (t + 1 + i)).B) →
    ∃ s', exec (l.flatMap fun i => awI n (W t) (W (t + 1 + i)) u v t (t + 1 + i) e) s = some s' ∧ (∀ i ∈ l, s' (t + 1 + i : Nat) = V q (e - 1) (W (t + 1 + i)).A (W (t + 1 + i)).B) ∧ Agr (fun r => (∃ i ∈ l, r = (t + 1 + i : Nat)) ∨ r = (3 * n : Nat)) s s'
  | [], s, _, _, _, _ => ⟨s, rfl, (fun i hi => by cases hi), Agr.refl _ _⟩
  | i :: l, s, hw, hnd, hn, hs => by
    have hin := hn i (List.mem_cons_self ..)
    have h1 := hs i (List.mem_cons_self ..)
    rw [hdiv] at h1
    rw [← hw] at h1
    obtain ⟨s1, a1, a2, a3⟩ := aw_run s he hin ht (by omega) (hd (t + 1 + i) hin (by omega)) h1
    obtain ⟨s2, b1, b2, b3⟩ := aws_run he ht hd hdiv l s1 (by rw [a3 _ (by omega)]; exact hw) (List.nodup_cons.1 hnd).2 (fun j hj => hn j (List.mem_cons_of_mem _ hj)) (fun j hj => by
      have hne : j ≠ i := fun e => (List.nodup_cons.1 hnd).1 (by rw [← e]; exact hj)
      have := hn j (List.mem_cons_of_mem _ hj)
      rw [a3 _ (by omega)]; exact hs j (List.mem_cons_of_mem _ hj))
    refine ⟨s2, exec_two a1 b1, fun j hj => ?_, (a3.mono fun r hr => hr.imp (fun e => ⟨i, List.mem_cons_self .., e⟩) id).trans (b3.mono fun r hr => hr.imp (fun ⟨j, hj, e⟩ => ⟨j, List.mem_cons_of_mem _ hj, e⟩) id)⟩
    rcases List.mem_cons.1 hj with rfl | hj
    · rw [b3 _ (fun hr => by
        rcases hr with ⟨q, hq, e⟩ | e
        · exact (List.nodup_cons.1 hnd).1 (mem_eq (by omega) hq)
        · omega)]
      exact a2
    · exact b2 j hj
theorem solve_run {n : Nat} {W : Nat → Pnt} {uv : Nat → Int × Int} (hd : ∀ i j, i < n → j < n → i ≠ j → (W i).A * (W j).B - (W j).A * (W i).B ≠ 0) (huv : ∀ i, i < n → (uv i).1 * (W i).A + (uv i).2 * (W i).B = 1) : ∀ (e t : Nat) (c : Nat → Int) (s : Rg), t + e + 1 = n → (∀ j, e < j → c j = 0) →
    (∀ i, t ≤ i → i < n → s (i : Nat) = V c e (W i).A (W i).B) → ∃ s', exec (solve n W uv e t) s = some s' ∧ (∀ j, j ≤ e → s' (n + j : Nat) = c j) ∧ Agr (fun r => ((t + 1 : Nat) ≤ r)) s s'
  | 0, t, c, s, hn, hc, h => by
    refine ⟨_, tm_run .., fun j hj => ?_, fun r hr => Rg.set_ne _ _ (by omega)⟩
    have : j = 0 := by omega
    subst this
    rw [Nat.add_zero, Rg.set_same, h t (Nat.le_refl _) (by omega)]
    simp [V]
  | e + 1, t, c, s, hn, hc, h => by
    obtain ⟨q, hq, hcq⟩ := divp (huv t (by omega)) (e + 1) c hc
    have hst := h t (Nat.le_refl _) (by omega)
    rw [← hst] at hcq
    have hdiv := divp_at hcq hq
    obtain ⟨s1, a1, a2, a3⟩ := aws_run (q := q) (c := c) (n := n) (t := t) (W := W) (e := e + 1) (by omega) (by omega) (fun i hi hne => hd t i (by omega) hi (Ne.symm hne)) hdiv (List.range (e + 1)) s rfl List.nodup_range (fun i hi => by have := List.mem_range.1 hi; omega) (fun i hi => h _ (by omega) (by have := List.mem_range.1 hi; omega))
    obtain ⟨s2, b1, b2, b3⟩ := solve_run hd huv e (t + 1) q s1 (by omega) (fun j hj => hq j (by omega)) (fun i h1 h2 => by
      have := a2 (i - (t + 1)) (List.mem_range.2 (by omega))
      rwa [show t + 1 + (i - (t + 1)) = i by omega] at this)
    have ht2 : s2 (t : Nat) = s t := by
      rw [b3 _ (by omega), a3 _ (fun hr => by rcases hr with ⟨i, _, e⟩ | e <;> omega)]
    obtain ⟨s3, c1, c2, c3⟩ := back_run (k := t) (e := e + 1) (p := W t) (u := (uv t).1) (v := (uv t).2) (c := c) (q := q) s2 (by omega) (by omega) (by omega) (fun j => by rw [ht2]; exact hcq j) hq (fun j hj => b2 j (by omega))
    refine ⟨s3, exec_two (exec_two a1 b1) c1, c2, ?_⟩
    exact ((a3.mono fun r hr => by rcases hr with ⟨i, _, e⟩ | e <;> omega).trans (b3.mono fun r hr => by omega)).trans (c3.mono fun r hr => by omega)
end Go.Proofs.YthkoodpnepfijaaGreatDoor
