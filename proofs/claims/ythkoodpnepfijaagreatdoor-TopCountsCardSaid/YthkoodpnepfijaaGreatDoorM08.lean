/-
  Steps towards TopCounts (no conditions of their own): LIMBS AS NUMBERS: no program in sight. WALKS: what is shared: a join, limbs as rows. WALKS: limbs: trim, Norm, Add. WALKS: limbs: copies; Norm. ARRAYS: an element's address, an element of an array's value. PROGRAMS, PLAINLY: instructions, what may be, what a run makes. SYNTH, PLAINLY: the algebra.
-/
import Derived.Test.YthkoodpnepfijaaGreatDoorM07
import Derived.Below
import Derived.Scope
/- P1: LIMBS AS NUMBERS: no program in sight. -/
namespace Go.Proofs.YthkoodpnepfijaaGreatDoor

/-- The number of the m lowest limbs. -/
def numF (f : Nat → Nat) : Nat → Nat
  | 0 => 0
  | m + 1 => numF f m + f m * 4294967296 ^ m
theorem numF_congr {f g : Nat → Nat} : ∀ {m : Nat}, (∀ i, i < m → f i = g i) → numF f m = numF g m
  | 0, _ => rfl
  | m + 1, h => by
    show numF f m + f m * _ = numF g m + g m * _
    rw [numF_congr fun i hi => h i (by omega), h m (by omega)]
theorem numF_lt {f : Nat → Nat} : ∀ {m : Nat}, (∀ i, i < m → f i < 4294967296) → numF f m < 4294967296 ^ m
  | 0, _ => by show 0 < 1; omega
  | m + 1, h => by
    have h1 := numF_lt (m := m) fun i hi => h i (by omega)
    have h2 := h m (by omega)
    show numF f m + f m * 4294967296 ^ m < 4294967296 ^ (m + 1)
    have h3 : f m * 4294967296 ^ m ≤ 4294967295 * 4294967296 ^ m := Nat.mul_le_mul_right _ (by omega)
    rw [Nat.pow_succ]
    omega
theorem numF_zero {f : Nat → Nat} {k : Nat} : ∀ {m : Nat}, k ≤ m → (∀ i, k ≤ i → i < m → f i = 0) → numF f m = numF f k
  | 0, hk, _ => by rw [show k = 0 by omega]
  | m + 1, hk, h => by
    by_cases e : k = m + 1
    · rw [e]
    · show numF f m + f m * _ = _
      rw [numF_zero (m := m) (by omega) fun i h1 h2 => h i h1 (by omega), h m (by omega) (by omega)]
      omega
theorem numF_ge {f : Nat → Nat} {m : Nat} (h : f m ≠ 0) : 4294967296 ^ m ≤ numF f (m + 1) := by
  show _ ≤ numF f m + f m * 4294967296 ^ m
  have : 1 * 4294967296 ^ m ≤ f m * 4294967296 ^ m := Nat.mul_le_mul_right _ (by omega)
  omega
theorem numF_top {f g : Nat → Nat} {k : Nat} : ∀ {m : Nat}, k ≤ m → (∀ i, k ≤ i → i < m → f i = g i) → numF f k < numF g k → numF f m < numF g m
  | 0, hk, _, h => by rw [show k = 0 by omega] at h; exact h
  | m + 1, hk, h, h0 => by
    by_cases e : k = m + 1
    · rw [← e]; exact h0
    · show numF f m + f m * _ < numF g m + g m * _
      have := numF_top (m := m) (by omega) (fun i h1 h2 => h i h1 (by omega)) h0
      rw [h m (by omega) (by omega)]
      omega
theorem numF_step {f g : Nat → Nat} {k : Nat} (hf : ∀ i, i < k → f i < 4294967296) (h : f k < g k) : numF f (k + 1) < numF g (k + 1) := by
  show numF f k + f k * 4294967296 ^ k < numF g k + g k * 4294967296 ^ k
  have h1 := numF_lt hf
  have h2 : (f k + 1) * 4294967296 ^ k ≤ g k * 4294967296 ^ k := Nat.mul_le_mul_right _ h
  rw [Nat.add_mul] at h2
  omega
/-- Fewer limbs, the highest not nought: less. -/
theorem numF_len {f g : Nat → Nat} {m k : Nat} (hf : ∀ i, i < m → f i < 4294967296) (h : m < k) (hg : g (k - 1) ≠ 0) : numF f m < numF g k := by
  obtain ⟨q, rfl⟩ : ∃ q, k = q + 1 := ⟨k - 1, by omega⟩
  have h1 := numF_lt hf
  have h2 := numF_ge (f := g) (m := q) hg
  have h3 : 4294967296 ^ m ≤ 4294967296 ^ q := Nat.pow_le_pow_right (by decide) (by omega)
  omega
/-- A list's number. -/
def num (ds : List Nat) : Nat := numF (fun i => ds.getD i 0) ds.length
/-- Limbs, each below 2^32. -/
def Dig (ds : List Nat) : Prop := ∀ i, i < ds.length → ds.getD i 0 < 4294967296
def sgn (x y : Nat) : Int := if x < y then -1 else if y < x then 1 else 0
end Go.Proofs.YthkoodpnepfijaaGreatDoor
/- W0: WALKS: what is shared: a join, limbs as rows. -/
namespace Go.Proofs.YthkoodpnepfijaaGreatDoor
open Go.RowKit
set_option linter.unusedVariables false

/-- Ways that join: the states at the join are a family. -/
theorem c_mid {n : Nat} {ro : Option Nat} {Q : Exit → St → Prop} {x0 : Fr} {b0 : Nat → Value} {o0 : List Ch} {F0 : Fz} {c c' : Code} {ι : Type} {ds : List Deferred} (X : ι → Fr) (own : ι → List Ch) (F : ι → Fz) (P : ι → Prop)
    (h1 : C n ro c (Thn (fun s' => ∃ i, fits s'.x (X i) ∧ s'.own = own i ∧ s'.F = F i ∧ s'.ds = ds ∧ P i) Q) ⟨x0, b0, ds, o0, F0⟩)
    (h2 : ∀ i b, P i → C n ro c' Q ⟨X i, b, ds, own i, F i⟩) : C n ro (.seq c c') Q ⟨x0, b0, ds, o0, F0⟩ :=
  c_seq (h1.mono fun ex s' hq => by
    cases ex with
    | normal =>
      obtain ⟨i, hf, ho, hF, hd, hp⟩ := hq
      obtain ⟨x, b, ds', own', F'⟩ := s'
      simp only at ho hF hd
      subst ho hF hd
      exact c_frame (X i) hf fun b => h2 i b hp
    | exit id => exact hq
    | goto l => exact hq
    | ret => exact hq
    | panic ch => exact hq
    | outgrown => exact hq)
/-- .. where the walk stands ahead of the ways. -/
theorem c_join {n : Nat} {ro : Option Nat} {Q : Exit → St → Prop} {x0 : Fr} {b0 : Nat → Value} {o0 : List Ch} {F0 : Fz} {c c' : Code} {ι : Type} {ds : List Deferred} (X : ι → Fr) (own : ι → List Ch) (F : ι → Fz) (P : ι → Prop)
    (h1 : C n ro c (Thn (fun s' => ∃ i, fits s'.x (X i) ∧ s'.own = own i ∧ s'.F = F i ∧ s'.ds = ds ∧ P i) Q) ⟨x0, b0, ds, o0, F0⟩)
    (h2 : ∀ i b, P i → C n ro c' Q ⟨X i, b, ds, own i, F i⟩) : C n ro c (Thn (fun s' => C n ro c' Q s') Q) ⟨x0, b0, ds, o0, F0⟩ :=
  h1.mono fun ex s' hq => by
    cases ex with
    | normal =>
      obtain ⟨i, hf, ho, hF, hd, hp⟩ := hq
      obtain ⟨x, b, ds', own', F'⟩ := s'
      simp only at ho hF hd
      subst ho hF hd
      exact c_frame (X i) hf fun b => h2 i b hp
    | exit id => exact hq
    | goto l => exact hq
    | ret => exact hq
    | panic ch => exact hq
    | outgrown => exact hq
/-- What a join's or a loop's state must be. -/
abbrev Pt := Fr → List Ch → Fz → Prop
theorem c_joinE {n : Nat} {ro : Option Nat} {Q : Exit → St → Prop} {x0 : Fr} {b0 : Nat → Value} {o0 : List Ch} {F0 : Fz} {c c' : Code} {ds : List Deferred} (P : Pt)
    (h1 : C n ro c (Thn (fun s' => ∃ y o F, P y o F ∧ fits s'.x y ∧ s'.own = o ∧ s'.F = F ∧ s'.ds = ds) Q) ⟨x0, b0, ds, o0, F0⟩)
    (h2 : ∀ y o F b, P y o F → C n ro c' Q ⟨y, b, ds, o, F⟩) : C n ro c (Thn (fun s' => C n ro c' Q s') Q) ⟨x0, b0, ds, o0, F0⟩ :=
  c_join (ι := Fr × List Ch × Fz) (fun i => i.1) (fun i => i.2.1) (fun i => i.2.2) (fun i => P i.1 i.2.1 i.2.2)
    (h1.mono fun ex s' hq => by
      cases ex with
      | normal => obtain ⟨y, o, F, hp, hf, ho, hF, hd⟩ := hq; exact ⟨(y, o, F), hf, ho, hF, hd, hp⟩
      | exit id => exact hq
      | goto l => exact hq
      | ret => exact hq
      | panic ch => exact hq
      | outgrown => exact hq) fun i b hp => h2 _ _ _ b hp
theorem c_loopE {n : Nat} {ro : Option Nat} {Q : Exit → St → Prop} {x : Fr} {b : Nat → Value} {ds : List Deferred} {ow : List Ch} {F0 : Fz} {c : Code} (P : Nat → Pt) (h0 : ∃ m y o F, P m y o F ∧ fits x y ∧ ow = o ∧ F0 = F)
    (round : ∀ m y o F b, P m y o F → C n ro c (Thn (fun s' => ∃ m' y o F, P m' y o F ∧ fits s'.x y ∧ s'.own = o ∧ s'.F = F ∧ s'.ds = ds ∧ m' < m) Q) ⟨y, b, ds, o, F⟩) : C n ro (.loop c) Q ⟨x, b, ds, ow, F0⟩ := by
  obtain ⟨m, y, o, F, hp, hf, ho, hF⟩ := h0
  refine c_lp (ι := Nat × Fr × List Ch × Fz) (fun i => i.2.1) (fun i => i.2.2.1) (fun i => i.2.2.2) (fun i => P i.1 i.2.1 i.2.2.1 i.2.2.2) (fun i => i.1) (m, y, o, F) hf ho hF hp fun i b hp => ?_
  refine (round _ _ _ _ b hp).mono fun ex s' hq => ?_
  cases ex with
  | normal => obtain ⟨m', y, o, F, hp, hf, ho, hF, hd, hm⟩ := hq; exact ⟨(m', y, o, F), hf, ho, hF, hd, hp, hm⟩
  | exit id => exact hq
  | goto l => exact hq
  | ret => exact hq
  | panic ch => exact hq
  | outgrown => exact hq
theorem c_scope {n : Nat} {Q : Exit → St → Prop} {s : St} {c : Code} (hq : ∀ l s, Q (.goto l) s → False) (h : C n none c Q s) : C n none (.scope c) Q s := by
  refine ⟨fun B w0 w hI => ?_⟩
  have h1 : c.wp Tryz.prog (fun e a' w' => ∃ s' : St, a' = s'.act n ∧ Inv B w0 s'.own s'.F w' ∧ Q e s') (s.act n) w := wpIn_wide.1 (h.out B w0 w hI)
  refine wpIn_wide.2 (wp_scope_straight (wp_mono h1 fun ex a' w' ⟨s', k0, k1, k2⟩ => ?_))
  cases ex with
  | goto l => exact (hq l s' k2).elim
  | normal => exact ⟨s', k0, k1, k2⟩
  | exit id => exact ⟨s', k0, k1, k2⟩
  | ret => exact ⟨s', k0, k1, k2⟩
  | panic ch => exact ⟨s', k0, k1, k2⟩
  | outgrown => exact ⟨s', k0, k1, k2⟩
theorem set_app {α : Type} (a : List α) (u x : α) (l : List α) {k : Nat} (h : k = a.length) : (a ++ x :: l).set k u = a ++ u :: l := by
  subst h; simp
theorem rep_sub {α : Type} {n k : Nat} (h : k < n) (z : α) : List.replicate (n - k) z = z :: List.replicate (n - (k + 1)) z := by
  rw [show n - k = (n - (k + 1)) + 1 by omega]; rfl
/-- A row that is filled from below: the next place. -/
theorem fill_set {α β : Type} {f : α → β} {a : List α} {n : Nat} {z u : β} (h : a.length < n) : (a.map f ++ List.replicate (n - a.length) z).set a.length u = a.map f ++ u :: List.replicate (n - (a.length + 1)) z := by
  rw [rep_sub h, set_app _ _ _ _ (by simp)]
theorem fill_set' {α β : Type} {f : α → β} {a : List α} {n : Nat} {z : β} {x : α} (h : a.length < n) : (a.map f ++ List.replicate (n - a.length) z).set a.length (f x) = (a ++ [x]).map f ++ List.replicate (n - (a ++ [x]).length) z := by
  rw [fill_set h]; simp
theorem fill_end {α β : Type} {f : α → β} {a : List α} {n : Nat} {z u : β} {x : α} (h : a.length < n) (hu : u = f x) : (a.map f ++ List.replicate (n - a.length) z).set a.length u = (a ++ [x]).map f ++ List.replicate (n - (a ++ [x]).length) z := by
  rw [hu, fill_set' h]
theorem own1 {r : Nat} {A B : List Value} {own : List Ch} (h : A = B) : Ch.c r A :: own = Ch.c r B :: own := by rw [h]
theorem getD_none {l : List Nat} {i : Nat} (h : ¬ i < l.length) : l.getD i 0 = 0 := by
  rw [List.getD_eq_getElem?_getD, List.getElem?_eq_none (by omega)]; rfl
theorem rep_succ {α : Type} (k : Nat) (z : α) : List.replicate (k + 1) z = z :: List.replicate k z := rfl

/-- A limb in memory. -/
def vu (d : Nat) : Value := .int .u32 (d : Nat)
theorem vu_eq {z : Int} {d : Nat} (h : z = d) : Value.int .u32 z = vu d := by rw [h]; rfl
abbrev B32 : Nat := 4294967296
/-- A row of limbs. -/
structure Lr (F : Fz) (v : Value) (l : List Nat) : Prop where
  row : RowM F v vu 0 l
  dig : Dig l
theorem Lr.le {F G : Fz} {v : Value} {l : List Nat} (h : Lr F v l) (hl : Fle F G) : Lr G v l := ⟨h.row.le hl, h.dig⟩
theorem Lr.d {F : Fz} {v : Value} {l : List Nat} (h : Lr F v l) (i : Nat) : l.getD i 0 < 4294967296 := by
  by_cases hi : i < l.length
  · exact h.dig i hi
  · rw [List.getD_eq_getElem?_getD, List.getElem?_eq_none (by omega)]; decide
/-- No nought ahead. -/
def Trm (l : List Nat) : Prop := l.length = 0 ∨ l.getD (l.length - 1) 0 ≠ 0
theorem getD_take {l : List Nat} {m i : Nat} (h : i < m) : (l.take m).getD i 0 = l.getD i 0 := by
  simp only [List.getD_eq_getElem?_getD, List.getElem?_take, if_pos h]
theorem num_take {l : List Nat} {m : Nat} (h : m ≤ l.length) : num (l.take m) = numF (fun i => l.getD i 0) m := by
  unfold num
  rw [List.length_take, Nat.min_eq_left h]
  exact numF_congr fun i hi => getD_take hi
theorem getD_app {l k : List Nat} {i : Nat} : (l ++ k).getD i 0 = if i < l.length then l.getD i 0 else k.getD (i - l.length) 0 := by
  simp only [List.getD_eq_getElem?_getD, List.getElem?_append]
  split <;> rfl
theorem num_snoc (l : List Nat) (d : Nat) : num (l ++ [d]) = num l + d * 4294967296 ^ l.length := by
  unfold num
  rw [List.length_append]
  show numF _ (l.length + 1) = _
  show numF _ l.length + (l ++ [d]).getD l.length 0 * _ = _
  rw [getD_app, if_neg (Nat.lt_irrefl _), Nat.sub_self]
  congr 1
  exact numF_congr fun i hi => by rw [getD_app, if_pos hi]
theorem Dig.snoc {l : List Nat} {d : Nat} (h : Dig l) (hd : d < 4294967296) : Dig (l ++ [d]) := fun i hi => by
  rw [getD_app]
  split
  · rename_i h1; exact h i h1
  · simp at hi
    rw [show i - l.length = 0 by omega]; exact hd
theorem Dig.take {l : List Nat} (h : Dig l) (m : Nat) : Dig (l.take m) := fun i hi => by
  rw [List.length_take] at hi
  rw [getD_take (by omega)]; exact h i (by omega)
theorem pow_pos' (k : Nat) : 0 < 4294967296 ^ k := Nat.pow_pos (by decide)
end Go.Proofs.YthkoodpnepfijaaGreatDoor
/- W1: WALKS: limbs: trim, Norm, Add. -/
namespace Go.Proofs.YthkoodpnepfijaaGreatDoor
open Go.RowKit
set_option linter.unusedVariables false
set_option maxRecDepth 100000
set_option maxHeartbeats 1000000
/-- A slice without room behind its end. -/
def Full (v : Value) : Prop := ∃ A n, v = .slice A n n
section
variable {n : Nat} {ops : Array Oper} {fl : Option (List Nat)} {rest : List Oper} {K : St → Prop} {wk : List Ch} {x : Fr} {b : Nat → Value} {ds : List Deferred} {own : List Ch} {F : Fz}
  {d ty : Nat} {pos : String} {af : Array Edge}
theorem o_slicerF {a : Operand} {hi mx : Operand} {t e s : Nat} [ht : SlT t e s] {v : Value} {xs : List Value} {k : IntKind} {z : Int} (h' : Nat) (ha : evS n x a = some v) (hr : Row F v xs) (hhi : evS n x hi = some (.int k z)) (hz : z = h') (hmx : evS n x mx = some (.int k z)) (h1 : h' ≤ xs.length)
    (h : ∀ v', Full v' → Row F v' (xs.take h') → O n ops fl rest K wk ⟨(d, v') :: x, b, ds, own, F⟩) : O n ops fl (⟨some d, .slice t a none (some hi) (some mx), ty, pos, af, none⟩ :: rest) K wk ⟨x, b, ds, own, F⟩ := by
  have hr' := hr
  obtain ⟨A, c, rfl, h2, h3⟩ := hr
  refine o_slice (A' := A) 0 h' h' ha rfl ⟨k, z, hhi, hz⟩ ⟨k, z, hmx, hz⟩ (fun _ => rfl) (Nat.zero_le _) (Nat.le_refl _) (by omega) (by split <;> cases A <;> simp [Addr.add]) (h _ ⟨A, h', by simp⟩ (hr'.take h' _ h1 (by omega)))
end
theorem trim113 {v : Value} {l : List Nat} {F : Fz} (hr : Lr F v l) (hl : l.length < 4611686018427387904) :
    Pu 113 [v] F fun v' F' => ∃ l', Lr F' v' l' ∧ Trm l' ∧ num l' = num l ∧ l'.length ≤ l.length ∧ Full v' := fun own => by
  have key : ∀ m v', m ≤ l.length → (∀ i, m ≤ i → i < l.length → l.getD i 0 = 0) → (0 < m → l.getD (m - 1) 0 ≠ 0) → Row F v' ((l.map vu).take m) → Full v' → ∃ l', Lr F v' l' ∧ Trm l' ∧ num l' = num l ∧ l'.length ≤ l.length ∧ Full v' := fun m v' hm hz h0 hv hf => by
    rw [← List.map_take] at hv
    refine ⟨l.take m, ⟨hv, hr.dig.take m⟩, ?_, ?_, by rw [List.length_take]; omega, hf⟩
    · unfold Trm
      rw [List.length_take, Nat.min_eq_left hm]
      by_cases h : m = 0
      · exact .inl h
      · exact .inr (by rw [getD_take (by omega)]; exact h0 (by omega))
    · rw [num_take hm]
      exact (numF_zero hm hz).symm
  have hrow := hr.row
  refine n_fun Tryz.func113 Tryz.ntmps113 rfl rfl rfl ?_
  refine go ?_
  refine c_lp (fun m : Nat => [(0, v), (3, .int .i64 (m : Nat))]) (fun _ => own) (fun _ => F) (fun m => m ≤ l.length ∧ ∀ i, m ≤ i → i < l.length → l.getD i 0 = 0) id l.length ⟨rfl, rfl, trivial⟩ rfl rfl ⟨Nat.le_refl _, fun i h1 h2 => by omega⟩ ?_
  intro m b ⟨hm, hz⟩
  by_cases h0 : 0 < m
  · by_cases h1 : l.getD (m - 1) 0 = 0
    · refine go ?_
      exact ⟨m - 1, ⟨rfl, eqI (by omega), trivial⟩, rfl, rfl, rfl, ⟨by omega, fun i h2 h3 => by
        by_cases e : i = m - 1
        · rw [e]; exact h1
        · exact hz i (by omega) h3⟩, show m - 1 < m by omega⟩
    · refine go ?_
      refine o_slicerF m rfl hrow.row rfl rfl rfl (by rw [List.length_map]; exact hm) (fun v' hf hv' => ?_)
      refine go ?_
      exact b_ret rfl (.cons (.tmp rfl) .nil) (Turn.refl _ _) ⟨rfl, Fle.refl _, key m _ hm hz (fun _ => h1) hv' hf⟩
  · refine go ?_
    refine o_slicerF m rfl hrow.row rfl rfl rfl (by rw [List.length_map]; exact hm) (fun v' hf hv' => ?_)
    refine go ?_
    exact b_ret rfl (.cons (.tmp rfl) .nil) (Turn.refl _ _) ⟨rfl, Fle.refl _, key m _ hm hz (fun h => absurd h h0) hv' hf⟩
end Go.Proofs.YthkoodpnepfijaaGreatDoor
/- W3: WALKS: limbs: copies; Norm. -/
namespace Go.Proofs.YthkoodpnepfijaaGreatDoor
open Go.RowKit
set_option linter.unusedVariables false
set_option linter.unusedSimpArgs false
set_option maxRecDepth 100000
set_option maxHeartbeats 1000000
theorem setL_all : ∀ (us pre vs : List Value), vs.length = us.length → setL (pre ++ vs) pre.length us = pre ++ us
  | [], pre, vs, h => by have : vs = [] := List.eq_nil_of_length_eq_zero (by simpa using h); rw [this]; rfl
  | u :: us, pre, [], h => by cases h
  | u :: us, pre, v :: vs, h => by
    rw [setL, set_app _ _ _ _ rfl]
    have := setL_all us (pre ++ [u]) vs (by simpa using h)
    simpa using this
theorem setL_full {us vs : List Value} (h : vs.length = us.length) : setL vs 0 us = us := setL_all us [] vs h
section
variable {n : Nat} {ops : Array Oper} {fl : Option (List Nat)} {rest : List Oper} {K : St → Prop} {wk wk' : List Ch} {x : Fr} {b : Nat → Value} {ds : List Deferred} {own : List Ch} {F : Fz}
  {d ty : Nat} {pos : String} {af : Array Edge}
/-- copy(dst, src): the row that is read fills a block of its own. -/
theorem o_copy {a a' : Operand} {t t' e m c r : Nat} [ht : SlT t e 1] {v : Value} {us vs : List Value} (p : Nat) (ha : evS n x a = some (.slice (some ⟨r, 0, none⟩) m c)) (ha' : evS n x a' = some v) (hr : Row F v us) (hone : us.all One = true) (hm : us.length = m) (hp : own[p]? = some (.c r vs)) (hl : vs.length = us.length)
    (h : O n ops none rest K (own.set p (.c r us)) ⟨(d, .int .i64 (m : Nat)) :: x, b, ds, own.set p (.c r us), F⟩) : O n ops none (⟨some d, .call { callee := .builtin .copy, args := #[a, a'], argTypes := #[t, t'] }, ty, pos, af, none⟩ :: rest) K own ⟨x, b, ds, own, F⟩ :=
  o_ef (List.Sublist.refl _) rfl fun B w0 w hI => by
    obtain ⟨A, c', rfl, h2, h3⟩ := hr
    subst hm
    obtain ⟨w', e1, e2⟩ := Inv.stores (A := ⟨r, 0, none⟩) (k := 0) rfl us 0 own vs w hI hp (fun u hu' => List.all_eq_true.1 hone u hu') (by omega)
    rw [setL_full hl] at e2
    have hfc : (Builtin.firstCells 1 us.length (.slice A us.length c')).run Tryz.prog w = .ok us.toArray w := by
      cases A with
      | none =>
        have : us = [] := by
          cases us with
          | nil => rfl
          | cons u us => obtain ⟨B, e, _⟩ := h3 0 u rfl; cases e
        subst this
        rfl
      | some A =>
        have := run_firstCells_some (P := Tryz.prog) w 1 us.length A us.length c' us (by omega) (fun j u hu => by
          obtain ⟨B, e, k⟩ := h3 j u hu; cases e; exact hI.fr _ _ k)
        exact this
    unfold execOp
    simp only [resolve, invoke, builtin, Sem.run_bind, Sem.run_pure, Result.andThen, List.map_toArray, List.map_cons, List.map_nil, evx ha, evx ha']
    simp [Builtin.copy_, run_underlying ht.h, Builtin.lenOf, size_run ht.hs, Result.andThen, hfc, e1, goInt, upK]
    exact ⟨⟨(d, .int .i64 (us.length : Nat)) :: x, b, ds, own.set p (.c r us), F⟩, act_putx .., e2, _, .text, h⟩
end
theorem all_vu (l : List Nat) : (l.map vu).all One = true := by
  rw [List.all_eq_true]; intro u hu; obtain ⟨d, _, rfl⟩ := List.mem_map.1 hu; rfl
/-- A block of limbs of its own, only read from now on. -/
theorem lr_ice {F : Fz} {r c m : Nat} {l : List Nat} (hd : Dig l) (hm : m = l.length) (hc : m ≤ c) : Lr (F.add (.c r (l.map vu))) (.slice (some ⟨r, 0, none⟩) m c) l := by
  refine ⟨?_, hd⟩
  subst hm
  have := row_ice' (F := F) (r := r) (vs := l.map vu) (c := c) (by simpa using hc)
  rwa [List.length_map] at this
theorem norm71 {v : Value} {l : List Nat} {F : Fz} (hr : Lr F v l) (hl : l.length < 1099511627776) :
    Pu 71 [v] F fun v' F' => ∃ l', Lr F' v' l' ∧ Trm l' ∧ num l' = num l ∧ l'.length ≤ l.length := fun own => by
  refine n_fun Tryz.func71 Tryz.ntmps71 rfl rfl rfl ?_
  refine go ?_
  refine o_pu rfl (trim113 hr (by omega)) (fun v' F' hF ⟨l', hv, ht, hn, hle, hfull⟩ => ?_)
  have hv1 := hv.row
  refine go ?_
  refine o_make l'.length rfl rfl (by omega) (by omega) (fun r => ?_)
  rw [rep_one]
  refine go ?_
  refine o_copy 0 rfl rfl hv1.row (all_vu l') (by simp) rfl (by simp) ?_
  refine go ?_
  refine b_ret rfl (.cons (.tmp rfl) .nil) Turn.ice ⟨rfl, hF.trans (Fz.add_le _ _), l', lr_ice hv.dig rfl (Nat.le_refl _), ht, hn, hle⟩
end Go.Proofs.YthkoodpnepfijaaGreatDoor
/- VX: ARRAYS: an element's address, an element of an array's value. -/
namespace Go.Proofs.YthkoodpnepfijaaGreatDoor
open Go.RowKit
set_option linter.unusedVariables false
set_option linter.unusedSimpArgs false
/-- An array type; its length, its element, the element's size. -/
class ArT (t : Nat) (m e s : outParam Nat) : Prop where
  h : Tryz.prog.underlying t = some (.array m e)
  hs : (Tryz.prog.info? e).map (·.size) = some s
instance : ArT 92 3 53 1 := ⟨by kernel_rfl, by kernel_rfl⟩
instance : ArT 138 2 101 1 := ⟨by kernel_rfl, by kernel_rfl⟩
instance : ArT 140 2 139 6 := ⟨by kernel_rfl, by kernel_rfl⟩
instance : ArT 182 2 3 1 := ⟨by kernel_rfl, by kernel_rfl⟩
instance : ArT 243 32 5 1 := ⟨by kernel_rfl, by kernel_rfl⟩
instance : ArT 244 64 5 1 := ⟨by kernel_rfl, by kernel_rfl⟩
section
variable {n : Nat} {ops : Array Oper} {fl : Option (List Nat)} {rest : List Oper} {K : St → Prop} {wk : List Ch} {x : Fr} {b : Nat → Value} {ds : List Deferred} {own : List Ch} {F : Fz}
  {d ty : Nat} {pos : String} {af : Array Edge}
theorem o_idxa {a i : Operand} {t m e s : Nat} [ht : ArT t m e s] {A : Addr} {k : IntKind} {z : Int} (j : Nat) (ha : evS n x a = some (.pointer (some A))) (hi : evS n x i = some (.int k z)) (hz : z = j) (hj : j < m) (h : O n ops fl rest K wk ⟨(d, .pointer (some (A.add (j * s)))) :: x, b, ds, own, F⟩) : O n ops fl (⟨some d, .indexAddr t a i, ty, pos, af, none⟩ :: rest) K wk ⟨x, b, ds, own, F⟩ :=
  o_rd _ rfl (fun B w0 w hw => by
    subst hz
    have : (Instr.indexAt t (.pointer (some A)) (.int k j)).run Tryz.prog w = .ok (.pointer (some (A.add (j * s)))) w := by
      unfold Instr.indexAt
      have h1 : (j : Int) < m := by omega
      have h0 : ¬ (m ≤ 1 ∧ ¬ ((j : Int) < m)) := fun ⟨_, h⟩ => h h1
      have h0 : (0 : Int) ≤ j := by omega
      simp only [asIntOf, Sem.run_bind, Sem.run_pure, Result.andThen, run_underlying ht.h, Instr.sureAddr]
      simp [run_underlying ht.h, Result.andThen, size_run ht.hs, hj]
    unfold execOp
    simp [evx ha, evx hi, this, Result.andThen]) h
/-- An element of one cell. -/
theorem o_ixa {a i : Operand} {t m e : Nat} [ht : ArT t m e 1] [hf : FlT e] {k : IntKind} {z : Int} {vs : List Value} {v : Value} (j : Nat) (ha : evS n x a = some (.agg vs.toArray)) (hi : evS n x i = some (.int k z)) (hz : z = j) (hj : j < m) (hv : vs[j]? = some v) (h : O n ops fl rest K wk ⟨(d, v) :: x, b, ds, own, F⟩) : O n ops fl (⟨some d, .index t a i, ty, pos, af, none⟩ :: rest) K wk ⟨x, b, ds, own, F⟩ :=
  o_rd _ rfl (fun B w0 w hw => by
    subst hz
    have : (Instr.index t (.agg vs.toArray) (.int k j)).run Tryz.prog w = .ok v w := by
      unfold Instr.index
      simp [asIntOf, run_underlying ht.h, Result.andThen, size_run ht.hs, hj, part, hf.agg, hv]
    unfold execOp
    simp [evx ha, evx hi, this, Result.andThen]) h
/-- .. of several. -/
theorem o_ixaa {a i : Operand} {t m e s : Nat} [ht : ArT t m e s] [hf : AgT e s] {k : IntKind} {z : Int} {vs us : List Value} (j : Nat) (ha : evS n x a = some (.agg vs.toArray)) (hi : evS n x i = some (.int k z)) (hz : z = j) (hj : j < m) (hv : (vs.drop (j * s)).take s = us) (h : O n ops fl rest K wk ⟨(d, .agg us.toArray) :: x, b, ds, own, F⟩) : O n ops fl (⟨some d, .index t a i, ty, pos, af, none⟩ :: rest) K wk ⟨x, b, ds, own, F⟩ :=
  o_rd _ rfl (fun B w0 w hw => by
    subst hz
    have : (Instr.index t (.agg vs.toArray) (.int k j)).run Tryz.prog w = .ok (.agg us.toArray) w := by
      unfold Instr.index
      simp [asIntOf, run_underlying ht.h, Result.andThen, size_run ht.hs, hj, part, hf.agg, ← hv, List.extract_eq_take_drop]
    unfold execOp
    simp [evx ha, evx hi, this, Result.andThen]) h
end
end Go.Proofs.YthkoodpnepfijaaGreatDoor
/- PB: PROGRAMS, PLAINLY: instructions, what may be, what a run makes. -/
namespace Go.Proofs.YthkoodpnepfijaaGreatDoor
set_option linter.unusedVariables false

/-- An instruction. -/
structure Ins where
  op : Int
  to : Int
  a : Int
  b : Int
  c : Int
deriving DecidableEq
/-- A program. -/
structure Prg where
  ins : Int
  regs : Int
  code : List Ins
  outs : List Int
deriving DecidableEq

def twoOp (op : Int) : Prop := op = 3 ∨ op = 4
instance (op : Int) : Decidable (twoOp op) := inferInstanceAs (Decidable (_ ∨ _))
def constOk (op c : Int) : Prop := if op = 5 ∨ op = 6 then c ≠ 0 ∧ -512 ≤ c ∧ c ≤ 512 else if op = 7 ∨ op = 8 then 1 ≤ c ∧ c ≤ 64 else c = 0
instance (op c : Int) : Decidable (constOk op c) := inferInstanceAs (Decidable (ite _ _ _))
/-- An instruction that may be, among so many registers. -/
structure Ins.ok (regs : Int) (i : Ins) : Prop where
  op1 : 1 ≤ i.op
  op8 : i.op ≤ 8
  to0 : 0 ≤ i.to
  to1 : i.to < regs
  a0 : 0 ≤ i.a
  a1 : i.a < regs
  b0 : 0 ≤ i.b
  b1 : i.b < regs
  bz : ¬ twoOp i.op → i.b = 0
  cc : constOk i.op i.c
theorem Ins.ok_iff (regs : Int) (i : Ins) : i.ok regs ↔ 1 ≤ i.op ∧ i.op ≤ 8 ∧ 0 ≤ i.to ∧ i.to < regs ∧ 0 ≤ i.a ∧ i.a < regs ∧ 0 ≤ i.b ∧ i.b < regs ∧ (¬ twoOp i.op → i.b = 0) ∧ constOk i.op i.c :=
  ⟨fun h => ⟨h.op1, h.op8, h.to0, h.to1, h.a0, h.a1, h.b0, h.b1, h.bz, h.cc⟩, fun ⟨h1, h2, h3, h4, h5, h6, h7, h8, h9, h10⟩ => ⟨h1, h2, h3, h4, h5, h6, h7, h8, h9, h10⟩⟩
instance (regs : Int) (i : Ins) : Decidable (i.ok regs) := decidable_of_iff _ (Ins.ok_iff regs i).symm
/-- A program that may be. -/
structure Prg.ok (p : Prg) : Prop where
  ins1 : 1 ≤ p.ins
  insr : p.ins ≤ p.regs
  regs : p.regs ≤ 128
  len : p.code.length ≤ 16384
  out1 : 1 ≤ p.outs.length
  outn : p.outs.length ≤ 128
  outs : ∀ r ∈ p.outs, 0 ≤ r ∧ r < p.regs
  code : ∀ i ∈ p.code, i.ok p.regs
theorem Prg.ok_iff (p : Prg) : p.ok ↔ 1 ≤ p.ins ∧ p.ins ≤ p.regs ∧ p.regs ≤ 128 ∧ p.code.length ≤ 16384 ∧ 1 ≤ p.outs.length ∧ p.outs.length ≤ 128 ∧ (∀ r ∈ p.outs, 0 ≤ r ∧ r < p.regs) ∧ ∀ i ∈ p.code, i.ok p.regs :=
  ⟨fun h => ⟨h.ins1, h.insr, h.regs, h.len, h.out1, h.outn, h.outs, h.code⟩, fun ⟨h1, h2, h3, h4, h5, h6, h7, h8⟩ => ⟨h1, h2, h3, h4, h5, h6, h7, h8⟩⟩
instance (p : Prg) : Decidable p.ok := decidable_of_iff _ (Prg.ok_iff p).symm

/-- What registers hold. -/
abbrev Rg := Int → Int
def Rg.set (s : Rg) (r v : Int) : Rg := fun q => if q = r then v else s q
theorem Rg.set_same (s : Rg) (r v : Int) : s.set r v r = v := by simp [Rg.set]
theorem Rg.set_ne (s : Rg) {r q : Int} (v : Int) (h : q ≠ r) : s.set r v q = s q := by simp [Rg.set, h]
/-- What an instruction sets its register to. -/
def Ins.val (i : Ins) (s : Rg) : Option Int :=
  if i.op = 2 then some (-(s i.a)) else if i.op = 3 then some (s i.a + s i.b) else if i.op = 4 then some (s i.a - s i.b) else if i.op = 5 then some (s i.a * i.c)
  else if i.op = 6 then (if i.c ∣ s i.a then some (s i.a / i.c) else none)
  else if i.op = 7 then some (s i.a * 2 ^ i.c.toNat)
  else if i.op = 8 then (if (2 ^ i.c.toNat : Int) ∣ s i.a then some (s i.a / 2 ^ i.c.toNat) else none)
  else some (s i.a)
def stepI (i : Ins) (s : Rg) : Option Rg := (i.val s).map fun v => s.set i.to v
def exec : List Ins → Rg → Option Rg
  | [], s => some s
  | i :: r, s => (stepI i s).bind (exec r)
theorem exec_app (a b : List Ins) (s : Rg) : exec (a ++ b) s = (exec a s).bind (exec b) := by
  induction a generalizing s with
  | nil => rfl
  | cons i a ih =>
    simp only [List.cons_append, exec]
    cases h : stepI i s with
    | none => rfl
    | some s' => simp [ih]
theorem exec_snoc (a : List Ins) (i : Ins) (s : Rg) : exec (a ++ [i]) s = (exec a s).bind (stepI i) := by
  rw [exec_app]
  congr 1
  funext s
  simp only [exec]
  cases stepI i s <;> rfl
theorem exec_two {a b : List Ins} {s t u : Rg} (h : exec a s = some t) (k : exec b t = some u) : exec (a ++ b) s = some u := by rw [exec_app, h]; exact k
/-- The registers at the beginning. -/
def rg0 (l : List Int) : Rg := fun r => if 0 ≤ r then l.getD r.toNat 0 else 0
/-- A run to its end. -/
def Runs (p : Prg) (l o : List Int) : Prop := ∃ s, exec p.code (rg0 l) = some s ∧ o = p.outs.map s
/-- No division in it. -/
def NoDiv (p : Prg) : Prop := ∀ i ∈ p.code, i.op ≠ 6 ∧ i.op ≠ 8
/-- What a pass makes of a program. -/
structure Sim (p q : Prg) : Prop where
  ok : q.ok
  ins : q.ins = p.ins
  outs : q.outs.length = p.outs.length
  nodiv : NoDiv p → NoDiv q
  runs : ∀ l o, (l.length : Int) = p.ins → Runs p l o → Runs q l o
theorem Sim.refl {p : Prg} (h : p.ok) : Sim p p := ⟨h, rfl, rfl, id, fun _ _ _ h => h⟩
theorem Sim.trans {p q r : Prg} (h : Sim p q) (k : Sim q r) : Sim p r := ⟨k.ok, k.ins.trans h.ins, k.outs.trans h.outs, fun x => k.nodiv (h.nodiv x), fun l o e x => k.runs l o (e.trans h.ins.symm) (h.runs l o e x)⟩

/-! ### how great the numbers become -/
theorem pow_le2 {a b : Nat} (h : a ≤ b) : 2 ^ a ≤ 2 ^ b := Nat.pow_le_pow_right (by decide) h
theorem div_abs {x c : Int} : (x / c).natAbs ≤ x.natAbs ∨ ¬ c ∣ x := by
  by_cases h : c ∣ x
  · left
    obtain ⟨q, rfl⟩ := h
    by_cases hc : c = 0
    · subst hc; simp
    · rw [Int.mul_ediv_cancel_left q hc, Int.natAbs_mul]
      exact Nat.le_mul_of_pos_left _ (by omega)
  · exact .inr h
theorem Ins.val_lt {i : Ins} {regs : Int} (hi : i.ok regs) {s : Rg} {k : Nat} (hs : ∀ r, (s r).natAbs < 2 ^ k) {v : Int} (h : i.val s = some v) : v.natAbs < 2 ^ (k + 64) := by
  have ha := hs i.a
  have hb := hs i.b
  have hk : 2 ^ (k + 64) = 2 ^ k * 18446744073709551616 := by rw [Nat.pow_add]
  have hcc := hi.cc
  unfold Ins.val at h
  unfold constOk at hcc
  split at h
  · cases h; omega
  split at h
  · cases h; omega
  split at h
  · cases h; omega
  split at h
  · cases h
    rename_i h5
    rw [if_pos (.inl h5)] at hcc
    rw [Int.natAbs_mul, hk]
    have : i.c.natAbs ≤ 512 := by omega
    exact Nat.lt_of_le_of_lt (Nat.mul_le_mul (by omega) this : (s i.a).natAbs * i.c.natAbs ≤ 2 ^ k * 512) (Nat.mul_lt_mul_of_pos_left (by decide) (Nat.pow_pos (by decide)))
  split at h
  · split at h
    · cases h
      rename_i hd
      rcases @div_abs (s i.a) i.c with x | x
      · omega
      · exact absurd hd x
    · cases h
  split at h
  · cases h
    rename_i h7
    rw [if_neg (by omega), if_pos (.inl h7)] at hcc
    rw [Int.natAbs_mul, Int.natAbs_pow]
    have : i.c.toNat ≤ 64 := by omega
    rw [Nat.pow_add]
    have h2 : (2 : Int).natAbs ^ i.c.toNat ≤ 2 ^ 64 := pow_le2 this
    exact Nat.mul_lt_mul_of_lt_of_le ha h2 (Nat.pow_pos (by decide))
  split at h
  · split at h
    · cases h
      rename_i hd
      rcases @div_abs (s i.a) (2 ^ i.c.toNat) with x | x
      · omega
      · exact absurd hd x
    · cases h
  · cases h; omega
theorem stepI_lt {i : Ins} {regs : Int} (hi : i.ok regs) {s t : Rg} {k : Nat} (hs : ∀ r, (s r).natAbs < 2 ^ k) (h : stepI i s = some t) : ∀ r, (t r).natAbs < 2 ^ (k + 64) := by
  intro r
  unfold stepI at h
  cases hv : i.val s with
  | none => rw [hv] at h; cases h
  | some v =>
    rw [hv] at h
    cases h
    show (if r = i.to then v else s r).natAbs < _
    split
    · exact Ins.val_lt hi hs hv
    · exact Nat.lt_of_lt_of_le (hs r) (pow_le2 (by omega))
theorem exec_lt {regs : Int} : ∀ {code : List Ins} {s t : Rg} {k : Nat}, (∀ i ∈ code, i.ok regs) → (∀ r, (s r).natAbs < 2 ^ k) → exec code s = some t → ∀ r, (t r).natAbs < 2 ^ (k + 64 * code.length)
  | [], s, t, k, _, hs, h => by cases h; simpa using hs
  | i :: code, s, t, k, hc, hs, h => by
    simp only [exec] at h
    cases hi : stepI i s with
    | none => rw [hi] at h; cases h
    | some u =>
      rw [hi] at h
      have h1 := stepI_lt (hc i (List.mem_cons_self ..)) hs hi
      have := exec_lt (fun j hj => hc j (List.mem_cons_of_mem _ hj)) h1 h
      intro r
      have h2 := this r
      rw [List.length_cons]
      rwa [show k + 64 + 64 * code.length = k + 64 * (code.length + 1) by omega] at h2
theorem rg0_lt {l : List Int} {k : Nat} (h : ∀ x ∈ l, x.natAbs < 2 ^ k) : ∀ r, (rg0 l r).natAbs < 2 ^ k := by
  intro r
  unfold rg0
  have h0 : (0 : Int).natAbs < 2 ^ k := Nat.pow_pos (by decide)
  split
  · by_cases hr : r.toNat < l.length
    · rw [List.getD_eq_getElem?_getD, List.getElem?_eq_getElem hr]
      exact h _ (List.getElem_mem hr)
    · rw [List.getD_eq_getElem?_getD, List.getElem?_eq_none (by omega)]; exact h0
  · exact h0
end Go.Proofs.YthkoodpnepfijaaGreatDoor
/- PS: SYNTH, PLAINLY: the algebra. -/
namespace Go.Proofs.YthkoodpnepfijaaGreatDoor
set_option linter.unusedVariables false

structure Pnt where
  A : Int
  B : Int
deriving DecidableEq
/-- The value of c_0 .. c_e at a point. -/
def V (c : Nat → Int) : Nat → Int → Int → Int
  | 0, _, _ => c 0
  | e + 1, A, B => B * V c e A B + c (e + 1) * A ^ (e + 1)
/-- The coefficients of (u x + v)^e. -/
def Sp (u v : Int) : Nat → Nat → Int
  | 0, 0 => 1
  | 0, _ + 1 => 0
  | e + 1, 0 => v * Sp u v e 0
  | e + 1, j + 1 => u * Sp u v e j + v * Sp u v e (j + 1)
/-- One place down; nought ahead of the first. -/
def dn (q : Nat → Int) : Nat → Int
  | 0 => 0
  | j + 1 => q j
theorem Sp_succ (u v : Int) (e j : Nat) : Sp u v (e + 1) j = u * dn (Sp u v e) j + v * Sp u v e j := by
  cases j with
  | zero => simp [Sp, dn]
  | succ j => simp [Sp, dn]
theorem Sp_high (u v : Int) : ∀ (e j : Nat), e < j → Sp u v e j = 0
  | 0, 0, h => by omega
  | 0, j + 1, _ => rfl
  | e + 1, 0, h => by omega
  | e + 1, j + 1, h => by simp [Sp, Sp_high u v e j (by omega), Sp_high u v e (j + 1) (by omega)]
theorem V_congr {c d : Nat → Int} {A B : Int} : ∀ {e : Nat}, (∀ j, j ≤ e → c j = d j) → V c e A B = V d e A B
  | 0, h => h 0 (Nat.le_refl 0)
  | e + 1, h => by simp only [V]; rw [V_congr (e := e) fun j hj => h j (by omega), h (e + 1) (Nat.le_refl _)]
theorem V_lin (c d : Nat → Int) (x y A B : Int) : ∀ e, V (fun j => x * c j + y * d j) e A B = x * V c e A B + y * V d e A B
  | 0 => rfl
  | e + 1 => by simp only [V, V_lin c d x y A B e]; grind
/-- Times Y: the same coefficients, none at the top. -/
theorem V_y (c : Nat → Int) (A B : Int) (e : Nat) (h : c (e + 1) = 0) : V c (e + 1) A B = B * V c e A B := by simp [V, h]
theorem V_x (c : Nat → Int) (A B : Int) : ∀ e, V (dn c) (e + 1) A B = A * V c e A B
  | 0 => by simp only [V, dn]; grind
  | e + 1 => by
    have := V_x c A B e
    simp only [V] at this ⊢
    simp only [dn] at this ⊢
    rw [this]
    grind
theorem V_sp (u v A B : Int) : ∀ e, V (Sp u v e) e A B = (u * A + v * B) ^ e
  | 0 => by simp [V, Sp]
  | e + 1 => by
    have h1 : V (Sp u v (e + 1)) (e + 1) A B = V (fun j => u * dn (Sp u v e) j + v * Sp u v e j) (e + 1) A B := V_congr fun j _ => Sp_succ u v e j
    rw [h1, V_lin, V_x, V_y _ _ _ _ (Sp_high u v e (e + 1) (by omega)), V_sp u v A B e]
    grind
theorem V_scale (c : Nat → Int) (g A B : Int) : ∀ e, V c e (g * A) (g * B) = g ^ e * V c e A B
  | 0 => by simp [V]
  | e + 1 => by simp only [V, V_scale c g A B e, Int.mul_pow, Int.pow_succ]; grind
/-- Only the coefficients up to e. -/
def cut (c : Nat → Int) (e : Nat) : Nat → Int := fun j => if j ≤ e then c j else 0
theorem cut_high (c : Nat → Int) {e j : Nat} (h : e < j) : cut c e j = 0 := by unfold cut; rw [if_neg (by omega)]
theorem cut_low (c : Nat → Int) {e j : Nat} (h : j ≤ e) : cut c e j = c j := by unfold cut; rw [if_pos h]
/-- **The division**: c = c(p) S^e + T q, where S is 1 at p and T is 0 at p. -/
theorem divp {a b u v : Int} (h : u * a + v * b = 1) : ∀ (e : Nat) (c : Nat → Int), (∀ j, e < j → c j = 0) → ∃ q : Nat → Int, (∀ j, e ≤ j → q j = 0) ∧ ∀ j, c j = V c e a b * Sp u v e j + (a * q j - b * dn q j)
  | 0, c, hc => ⟨fun _ => 0, fun _ _ => rfl, fun j => by
      cases j with
      | zero => simp [V, Sp, dn]
      | succ j => simp [V, Sp, dn, hc (j + 1) (by omega)]⟩
  | e + 1, c, hc => by
    obtain ⟨q1, z1, h1⟩ := divp h e (cut c e) fun j hj => cut_high c hj
    obtain ⟨q2, z2, h2⟩ := divp h e (fun j => if j = e then c (e + 1) else 0) fun j hj => if_neg (by omega)
    have e1 : V (cut c e) e a b = V c e a b := V_congr fun j hj => cut_low c hj
    have e2 : ∀ e' d A B, V (fun j => if j = e' then d else 0) e' A B = d * A ^ e' := fun e' d A B => by
      cases e' with
      | zero => simp [V]
      | succ k =>
        have hz : ∀ m, m ≤ k → V (fun j => if j = k + 1 then d else 0) m A B = 0 := by
          intro m
          induction m with
          | zero => intro _; simp [V]
          | succ m ih => intro hm; simp only [V]; rw [ih (by omega), if_neg (by omega)]; simp
        simp only [V]
        rw [hz k (Nat.le_refl _)]
        simp
    rw [e2] at h2
    rw [e1] at h1
    generalize hw1 : V c e a b = w1 at h1
    generalize hw2 : c (e + 1) * a ^ e = w2 at h2
    refine ⟨fun j => q1 j + dn q2 j + (u * w1 - v * w2) * Sp u v e j, fun j hj => ?_, fun j => ?_⟩
    · cases j with
      | zero => omega
      | succ j => simp only [dn]; rw [z1 (j + 1) (by omega), z2 j (by omega), Sp_high u v e (j + 1) (by omega)]; simp
    · have hv : V c (e + 1) a b = b * w1 + w2 * a := by
        simp only [V]; rw [hw1, ← hw2]; grind
      rw [hv, Sp_succ]
      have hcj : c j = cut c e j + dn (fun j => if j = e then c (e + 1) else 0) j := by
        cases j with
        | zero => simp [cut, dn]
        | succ j =>
          simp only [cut, dn]
          by_cases hj : j + 1 ≤ e
          · rw [if_pos hj, if_neg (by omega)]; simp
          · rw [if_neg hj]
            by_cases hj2 : j = e
            · rw [if_pos hj2, hj2]; simp
            · rw [if_neg hj2, hc (j + 1) (by omega)]; simp
      have h2' : dn (fun j => if j = e then c (e + 1) else 0) j = w2 * dn (Sp u v e) j + (a * dn q2 j - b * dn (dn q2) j) := by
        cases j with
        | zero => simp [dn]
        | succ j => simp only [dn]; exact h2 j
      have h3 : dn (fun j => q1 j + dn q2 j + (u * w1 - v * w2) * Sp u v e j) j = dn q1 j + dn (dn q2) j + (u * w1 - v * w2) * dn (Sp u v e) j := by
        cases j with
        | zero => simp [dn]
        | succ j => simp only [dn]
      rw [hcj, h1 j, h2', h3]
      grind
/-- .. at another point. -/
theorem divp_at {a b u v : Int} {e : Nat} {c q : Nat → Int} {w : Int} (h : ∀ j, c j = w * Sp u v (e + 1) j + (a * q j - b * dn q j)) (hq : ∀ j, e + 1 ≤ j → q j = 0) (A B : Int) :
    V c (e + 1) A B = w * (u * A + v * B) ^ (e + 1) + (a * B - A * b) * V q e A B := by
  have h1 : V c (e + 1) A B = V (fun j => 1 * (fun j => w * Sp u v (e + 1) j + a * q j) j + (-b) * dn q j) (e + 1) A B := V_congr fun j _ => by rw [h j]; grind
  rw [h1, V_lin, V_lin, V_sp, V_x, V_y q A B e (hq _ (Nat.le_refl _))]
  grind
end Go.Proofs.YthkoodpnepfijaaGreatDoor
