/-
  Steps towards TopCounts (no conditions of their own): RETURNS; rows that are only read; the script that goes straight on.
-/
import Derived.Test.YthkoodpnepfijaaGreatDoorM05
/- V8: RETURNS; rows that are only read; the script that goes straight on. -/
namespace Go.Proofs.YthkoodpnepfijaaGreatDoor
open Go.RowKit
set_option linter.unusedVariables false
set_option linter.unusedSimpArgs false

/-! ### what is owned and known, told anew -/
def Turn (own : List Ch) (F : Fz) (own' : List Ch) (F' : Fz) : Prop := ∀ B w0 w, Inv B w0 own F w → Inv B w0 own' F' w
theorem Turn.refl (own : List Ch) (F : Fz) : Turn own F own F := fun _ _ _ h => h
theorem Turn.trans {a b c : List Ch} {F G H : Fz} (h : Turn a F b G) (k : Turn b G c H) : Turn a F c H := fun B w0 w x => k B w0 w (h B w0 w x)
theorem Turn.sub {own own' : List Ch} {F : Fz} (h : List.Sublist own' own) : Turn own F own' F := fun _ _ _ x => x.sub h
theorem Turn.drop {c : Ch} {own : List Ch} {F : Fz} : Turn (c :: own) F own F := Turn.sub (List.sublist_cons_self ..)
theorem Turn.ice {c : Ch} {own : List Ch} {F : Fz} : Turn (c :: own) F own (F.add c) := fun _ _ _ x => x.ice
theorem Turn.perm {own own' : List Ch} {F : Fz} (h : own.Perm own') : Turn own F own' F := fun _ _ _ x => x.perm h
theorem Turn.nil {own : List Ch} {F : Fz} (e s : Nat) : Turn own F (.g (.slice none 0 0) e s 0 [] :: own) F := fun _ _ _ x => x.nil e s

/-! ### rows that are only read -/
/-- The address k cells behind a slice's first. -/
def slA : Value → Nat → Addr
  | .slice (some A) _ _, k => A.add k
  | _, _ => ⟨0, 0, none⟩
/-- A slice of one-cell values. -/
def Row (F : Fz) (v : Value) (xs : List Value) : Prop := ∃ (A : Option Addr) (c : Nat), v = .slice A xs.length c ∧ xs.length ≤ c ∧ ∀ i u, xs[i]? = some u → ∃ B, A = some B ∧ F (B.add i) u
/-- .. of values of s cells each. -/
def Rows (F : Fz) (s : Nat) (v : Value) (xs : List (List Value)) : Prop := ∃ (A : Option Addr) (c : Nat), v = .slice A xs.length c ∧ xs.length ≤ c ∧ ∀ i us, xs[i]? = some us → us.length = s ∧ ∃ B, A = some B ∧ Cs F (B.add (i * s)) us
theorem Row.le {F G : Fz} {v : Value} {xs : List Value} (h : Row F v xs) (hl : Fle F G) : Row G v xs := by
  obtain ⟨A, c, h1, h2, h3⟩ := h
  exact ⟨A, c, h1, h2, fun i u hu => by obtain ⟨B, e, k⟩ := h3 i u hu; exact ⟨B, e, hl _ _ k⟩⟩
theorem Rows.le {F G : Fz} {s : Nat} {v : Value} {xs : List (List Value)} (h : Rows F s v xs) (hl : Fle F G) : Rows G s v xs := by
  obtain ⟨A, c, h1, h2, h3⟩ := h
  exact ⟨A, c, h1, h2, fun i u hu => by obtain ⟨k0, B, e, k⟩ := h3 i u hu; exact ⟨k0, B, e, k.le hl⟩⟩
theorem Row.sl {F : Fz} {v : Value} {xs : List Value} {j : Nat} (h : Row F v xs) (hj : j < xs.length) : ∃ A c, v = .slice (some A) xs.length c := by
  obtain ⟨A, c, rfl, h2, h3⟩ := h
  obtain ⟨B, rfl, _⟩ := h3 j _ (List.getElem?_eq_getElem hj)
  exact ⟨B, c, rfl⟩
theorem Row.at {F : Fz} {v u : Value} {xs : List Value} {j : Nat} (h : Row F v xs) (hj : xs[j]? = some u) : F (slA v j) u := by
  obtain ⟨A, c, rfl, h2, h3⟩ := h
  obtain ⟨B, rfl, hB⟩ := h3 j u hj
  exact hB
theorem Rows.sl {F : Fz} {s : Nat} {v : Value} {xs : List (List Value)} {j : Nat} (h : Rows F s v xs) (hj : j < xs.length) : ∃ A c, v = .slice (some A) xs.length c := by
  obtain ⟨A, c, rfl, h2, h3⟩ := h
  obtain ⟨_, B, rfl, _⟩ := h3 j _ (List.getElem?_eq_getElem hj)
  exact ⟨B, c, rfl⟩
theorem Rows.at {F : Fz} {s : Nat} {v : Value} {us : List Value} {xs : List (List Value)} {j : Nat} (h : Rows F s v xs) (hj : xs[j]? = some us) : us.length = s ∧ Cs F (slA v (j * s)) us := by
  obtain ⟨A, c, rfl, h2, h3⟩ := h
  obtain ⟨hl, B, rfl, hB⟩ := h3 j us hj
  exact ⟨hl, hB⟩
theorem Row.nil (F : Fz) : Row F (.slice none 0 0) [] := ⟨none, 0, rfl, Nat.le_refl _, fun i u h => by cases h⟩
theorem Rows.nil (F : Fz) (s : Nat) : Rows F s (.slice none 0 0) [] := ⟨none, 0, rfl, Nat.le_refl _, fun i u h => by cases h⟩
theorem Row.one {F : Fz} {v : Value} {xs : List Value} (h : Row F v xs) : One v = true := by obtain ⟨A, c, rfl, _⟩ := h; rfl
theorem Rows.one {F : Fz} {s : Nat} {v : Value} {xs : List (List Value)} (h : Rows F s v xs) : One v = true := by obtain ⟨A, c, rfl, _⟩ := h; rfl
/-- A block of its own, only read from now on. -/
theorem row_ice {F : Fz} {r c : Nat} {vs : List Value} {m : Nat} (hm : m ≤ vs.length) (hc : m ≤ c) : Row (F.add (.c r vs)) (.slice (some ⟨r, 0, none⟩) m c) (vs.take m) := by
  have hl : (vs.take m).length = m := by rw [List.length_take]; omega
  refine ⟨some ⟨r, 0, none⟩, c, by rw [hl], by omega, fun i u hu => ⟨_, rfl, .inr ?_⟩⟩
  have : Of ((⟨r, 0, none⟩ : Addr).add i) r (0 + i) := inferInstance
  rw [at_c this, Nat.zero_add]
  rw [List.getElem?_take] at hu
  split at hu
  · exact hu
  · cases hu
theorem row_ice' {F : Fz} {r c : Nat} {vs : List Value} (hc : vs.length ≤ c) : Row (F.add (.c r vs)) (.slice (some ⟨r, 0, none⟩) vs.length c) vs := by
  have := row_ice (F := F) (r := r) (vs := vs) (c := c) (Nat.le_refl _) hc
  rwa [List.take_length] at this
/-- A row that grew, only read from now on. -/
theorem row_iceg {B : Nat} {w0 w : World} {own : List Ch} {F : Fz} {v : Value} {e m : Nat} {xs : List Value} (h : Inv B w0 (.g v e 1 m xs :: own) F w) : Row (F.add (.g v e 1 m xs)) v xs := by
  have hok := h.ok _ (List.mem_cons_self ..)
  have hl : xs.length = m := by have := hok.1; omega
  rcases hok.2 with ⟨rfl, rfl⟩ | ⟨g, cap, cur, rfl, _, hg, hn, _⟩
  · have : xs = [] := List.eq_nil_of_length_eq_zero hl
    subst this
    exact Row.nil _
  · refine ⟨some ⟨g, 0, none⟩, cap, by rw [hl], by omega, fun i u hu => ⟨_, rfl, .inr ?_⟩⟩
    have : Of ((⟨g, 0, none⟩ : Addr).add i) g (0 + i) := inferInstance
    rw [at_g this, Nat.zero_add]
    exact hu
theorem rows_iceg {B : Nat} {w0 w : World} {own : List Ch} {F : Fz} {v : Value} {e m s : Nat} {xs : List (List Value)} (h : Inv B w0 (.g v e s m xs.flatten :: own) F w) (hs : ∀ us ∈ xs, us.length = s) (hm : xs.length = m) : Rows (F.add (.g v e s m xs.flatten)) s v xs := by
  have hok := h.ok _ (List.mem_cons_self ..)
  have hget : ∀ (xs : List (List Value)), (∀ us ∈ xs, us.length = s) → ∀ i us j u, xs[i]? = some us → us[j]? = some u → xs.flatten[i * s + j]? = some u := by
    intro xs
    induction xs with
    | nil => intro _ i us j u h; cases h
    | cons y ys ih =>
      intro hs i us j u hi hj
      have hy := hs y (List.mem_cons_self ..)
      rw [List.flatten_cons]
      cases i with
      | zero =>
        simp only [List.getElem?_cons_zero, Option.some.injEq] at hi
        subst hi
        rw [Nat.zero_mul, Nat.zero_add, List.getElem?_append_left (List.getElem?_eq_some_iff.1 hj).1]
        exact hj
      | succ i =>
        rw [List.getElem?_cons_succ] at hi
        have := ih (fun us h => hs us (List.mem_cons_of_mem _ h)) i us j u hi hj
        rw [Nat.add_mul, List.getElem?_append_right (by omega)]
        rw [show i * s + 1 * s + j - y.length = i * s + j by omega]
        exact this
  rcases hok.2 with ⟨rfl, rfl⟩ | ⟨g, cap, cur, rfl, _, hg, hn, _⟩
  · have : xs = [] := List.eq_nil_of_length_eq_zero hm
    subst this
    exact Rows.nil _ _
  · refine ⟨some ⟨g, 0, none⟩, cap, by rw [hm], by omega, fun i us hu => ⟨hs us (List.mem_of_getElem? hu), _, rfl, fun j u hj => .inr ?_⟩⟩
    have : Of (((⟨g, 0, none⟩ : Addr).add (i * s)).add j) g (0 + i * s + j) := inferInstance
    rw [at_g this, Nat.zero_add]
    exact hget xs hs i us j u hu hj
theorem Row.take {F : Fz} {A : Option Addr} {m c : Nat} {xs : List Value} (h : Row F (.slice A m c) xs) (k c' : Nat) (hk : k ≤ m) (hc : k ≤ c') : Row F (.slice A k c') (xs.take k) := by
  obtain ⟨A', c0, e, h2, h3⟩ := h
  cases e
  have hl : (xs.take k).length = k := by rw [List.length_take]; omega
  refine ⟨A, c', by rw [hl], by omega, fun i u hu => h3 i u ?_⟩
  rw [List.getElem?_take] at hu
  split at hu
  · exact hu
  · cases hu

theorem Row.drop {F : Fz} {A : Option Addr} {m c : Nat} {xs : List Value} (h : Row F (.slice A m c) xs) (k : Nat) (hk : k ≤ m) : Row F (.slice (if c = k then A else A.map (·.add (k * 1))) (m - k) (c - k)) (xs.drop k) := by
  obtain ⟨A', c0, e, h2, h3⟩ := h
  cases e
  have hl : (xs.drop k).length = xs.length - k := List.length_drop
  refine ⟨_, c - k, by rw [hl], by omega, fun i u hu => ?_⟩
  rw [List.getElem?_drop] at hu
  obtain ⟨B, e, hB⟩ := h3 (k + i) u hu
  have hlt := (List.getElem?_eq_some_iff.1 hu).1
  rw [if_neg (by omega), e]
  exact ⟨B.add (k * 1), rfl, by rw [Addr.add_add, Nat.mul_one]; exact hB⟩
section
variable {n : Nat} {ops : Array Oper} {fl : Option (List Nat)} {rest : List Oper} {K : St → Prop} {wk : List Ch} {x : Fr} {b : Nat → Value} {ds : List Deferred} {own : List Ch} {F : Fz}
  {d ty : Nat} {pos : String} {af : Array Edge}
theorem o_lenr {a : Operand} {t e z : Nat} [ht : SlT t e z] {v : Value} {xs : List Value} (ha : evS n x a = some v) (hr : Row F v xs) (h : O n ops fl rest K wk ⟨(d, .int .i64 (xs.length : Nat)) :: x, b, ds, own, F⟩) : O n ops fl (⟨some d, .call { callee := .builtin .len, args := #[a], argTypes := #[t] }, ty, pos, af, none⟩ :: rest) K wk ⟨x, b, ds, own, F⟩ := by
  obtain ⟨A, c, rfl, h2, h3⟩ := hr
  exact o_len ha h
theorem o_lenrs {a : Operand} {t e z s : Nat} [ht : SlT t e z] {v : Value} {xs : List (List Value)} (ha : evS n x a = some v) (hr : Rows F s v xs) (h : O n ops fl rest K wk ⟨(d, .int .i64 (xs.length : Nat)) :: x, b, ds, own, F⟩) : O n ops fl (⟨some d, .call { callee := .builtin .len, args := #[a], argTypes := #[t] }, ty, pos, af, none⟩ :: rest) K wk ⟨x, b, ds, own, F⟩ := by
  obtain ⟨A, c, rfl, h2, h3⟩ := hr
  exact o_len ha h
/-- xs[i], its address. -/
theorem o_idxr {a i : Operand} {t e s : Nat} [ht : SlT t e s] {v : Value} {m : Nat} {k : IntKind} {z : Int} (j : Nat) (ha : evS n x a = some v) (hi : evS n x i = some (.int k z)) (hr : ∃ A c, v = .slice (some A) m c) (hz : z = j) (hu : j < m) (h : O n ops fl rest K wk ⟨(d, .pointer (some (slA v (j * s)))) :: x, b, ds, own, F⟩) : O n ops fl (⟨some d, .indexAddr t a i, ty, pos, af, none⟩ :: rest) K wk ⟨x, b, ds, own, F⟩ := by
  obtain ⟨A, c, rfl⟩ := hr
  exact o_idx j ha hi hz hu h
/-- xs[:h:m] -/
theorem o_slicer {a : Operand} {hi : Operand} {mx : Option Operand} {t e s : Nat} [ht : SlT t e s] {v : Value} {xs : List Value} {k : IntKind} {z : Int} (h' : Nat) (ha : evS n x a = some v) (hr : Row F v xs) (hhi : evS n x hi = some (.int k z)) (hz : z = h') (hmx : mx = none ∨ ∃ y, mx = some y ∧ evS n x y = some (.int k z)) (h1 : h' ≤ xs.length)
    (h : ∀ v', Row F v' (xs.take h') → O n ops fl rest K wk ⟨(d, v') :: x, b, ds, own, F⟩) : O n ops fl (⟨some d, .slice t a none (some hi) mx, ty, pos, af, none⟩ :: rest) K wk ⟨x, b, ds, own, F⟩ := by
  have hr' := hr
  obtain ⟨A, c, rfl, h2, h3⟩ := hr
  rcases hmx with rfl | ⟨y, rfl, hy⟩
  · refine o_slice (A' := A) 0 h' c ha rfl ⟨k, z, hhi, hz⟩ rfl (fun e => by cases e) (Nat.zero_le _) (by omega) (Nat.le_refl _) (by split <;> cases A <;> simp [Addr.add]) (h _ (hr'.take h' _ h1 (by omega)))
  · refine o_slice (A' := A) 0 h' h' ha rfl ⟨k, z, hhi, hz⟩ ⟨k, z, hy, hz⟩ (fun _ => rfl) (Nat.zero_le _) (Nat.le_refl _) (by omega) (by split <;> cases A <;> simp [Addr.add]) (h _ (hr'.take h' _ h1 (by omega)))
/-- xs[l:] -/
theorem o_slicel {a lo : Operand} {t e : Nat} [ht : SlT t e 1] {v : Value} {xs : List Value} {k : IntKind} {z : Int} (l' : Nat) (ha : evS n x a = some v) (hr : Row F v xs) (hlo : evS n x lo = some (.int k z)) (hz : z = l') (h1 : l' ≤ xs.length)
    (h : ∀ v', Row F v' (xs.drop l') → O n ops fl rest K wk ⟨(d, v') :: x, b, ds, own, F⟩) : O n ops fl (⟨some d, .slice t a (some lo) none none, ty, pos, af, none⟩ :: rest) K wk ⟨x, b, ds, own, F⟩ := by
  have hr' := hr
  obtain ⟨A, c, rfl, h2, h3⟩ := hr
  exact o_slice l' xs.length c ha ⟨k, z, hlo, hz⟩ rfl rfl (fun e => by cases e) h1 h2 (Nat.le_refl _) rfl (h _ (hr'.drop l' h1))
end
end Go.Proofs.YthkoodpnepfijaaGreatDoor
