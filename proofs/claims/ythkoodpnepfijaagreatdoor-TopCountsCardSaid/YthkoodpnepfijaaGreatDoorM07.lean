/-
  Steps towards TopCounts (no conditions of their own): RETURNS; a function's contract out of its walk; rows told by a function; the script that goes straight on.
-/
import Derived.Test.YthkoodpnepfijaaGreatDoorM06
import Derived.Conc.CompanyMem
/- V9: RETURNS; a function's contract out of its walk; rows told by a function; the script that goes straight on. -/
namespace Go.Proofs.YthkoodpnepfijaaGreatDoor
open Go.RowKit
set_option linter.unusedVariables false
set_option linter.unusedSimpArgs false

inductive RV (n : Nat) (s : St) : ResultVar → Value → Prop
  | tmp {t : Nat} {v : Value} (h : evS n s.x (.tmp t) = some v) : RV n s (.tmp t) v
  | cell {t ty : Nat} {A : Addr} {v : Value} [ht : FlT ty] (h : evS n s.x (.tmp t) = some (.pointer (some A))) (hr : Rd s.own s.F A v) : RV n s (.cell t ty) v
  | cella {t ty k : Nat} {A : Addr} {vs : List Value} [ht : AgT ty k] (h : evS n s.x (.tmp t) = some (.pointer (some A))) (hl : vs.length = k) (hr : Rds s.own s.F A vs) : RV n s (.cell t ty) (.agg vs.toArray)
inductive RVs (n : Nat) (s : St) : List ResultVar → List Value → Prop
  | nil : RVs n s [] []
  | cons {r v rs vs} (h : RV n s r v) (k : RVs n s rs vs) : RVs n s (r :: rs) (v :: vs)
def tupV : List Value → Value
  | [v] => v
  | vs => .tuple vs.toArray
/-- What a body must come to. -/
def bodyR (n : Nat) (rs : List ResultVar) (Post : Value → List Ch → Fz → Prop) : Exit → St → Prop
  | .normal, s | .ret, s => s.ds = [] ∧ ∃ vs own' F', RVs n s rs vs ∧ Turn s.own s.F own' F' ∧ Post (tupV vs) own' F'
  | _, _ => False
theorem tmps_get {n : Nat} {s : St} {t : Nat} {v : Value} (h : evS n s.x (.tmp t) = some v) : (s.act n).tmps.getD t undef = v := by
  have := ev_of (s := s) h
  simpa [Act.eval] using this
theorem RV.run {n : Nat} {s : St} {r : ResultVar} {v : Value} (h : RV n s r v) {B : Nat} {w0 w : World} (hI : Inv B w0 s.own s.F w) : Sem.run Tryz.prog (match r with | .tmp t => pure ((s.act n).tmps.getD t undef) | .cell a t => do loadVar t (← asAddr ((s.act n).tmps.getD a undef))) w = .ok v w := by
  cases h with
  | tmp h => simp only [tmps_get h, Sem.run_pure]
  | cell h hr =>
    rename_i ht
    simp only [tmps_get h, asAddr, Sem.run_bind, Sem.run_pure, Result.andThen]
    exact loadVar_flat ht (hI.rd hr)
  | cella h hl hr =>
    rename_i ht
    simp only [tmps_get h, asAddr, Sem.run_bind, Sem.run_pure, Result.andThen]
    exact loadVar_agg ht hl (fun i v hi => hI.rd (hr i v hi))
theorem RVs.run {n : Nat} {s : St} {fn : Func} {rs : List ResultVar} {vs : List Value} (hf : fn.results = rs.toArray) (h : RVs n s rs vs) {B : Nat} {w0 w : World} (hI : Inv B w0 s.own s.F w) : (results fn (s.act n).tmps).run Tryz.prog w = .ok (tupV vs) w := by
  unfold results
  rw [hf, Array.mapM_eq_mapM_toList]
  have key : ∀ {rs vs}, RVs n s rs vs → Sem.run Tryz.prog (rs.mapM fun | ResultVar.tmp t => pure ((s.act n).tmps.getD t undef) | .cell a t => do loadVar t (← asAddr ((s.act n).tmps.getD a undef))) w = .ok vs w := by
    intro rs vs h
    induction h with
    | nil => rfl
    | cons h k ih =>
      rw [List.mapM_cons]
      have h1 := h.run hI
      simp only [Sem.run_bind, h1, ih, Result.andThen, Sem.run_pure]
  have := key h
  change Sem.run Tryz.prog (((List.mapM (fun | ResultVar.tmp t => pure ((s.act n).tmps.getD t undef) | .cell a t => do loadVar t (← asAddr ((s.act n).tmps.getD a undef))) rs) >>= fun l => pure l.toArray) >>= fun vs => pure (if h : vs.size = 1 then vs[0] else .tuple vs)) w = _
  rw [Sem.run_bind, Sem.run_bind, this]
  simp only [Result.andThen, Sem.run_pure]
  cases vs with
  | nil => rfl
  | cons v vs =>
    cases vs with
    | nil => rfl
    | cons u vs => simp [tupV]
/-- A contract out of a walk. -/
theorem n_fun {f : FuncId} {fn : Func} {c : Code} {n : Nat} {args : List Value} {own : List Ch} {F : Fz} {rs : List ResultVar} {Post : Value → List Ch → Fz → Prop} (hf : Tryz.prog.funcs[f]? = some fn) (hn : fn.ntmps = n) (hb : fn.body = some c) (hr : fn.results = rs.toArray) (ha : Nat.ble args.length n = true)
    (h : C n none c (bodyR n rs Post) ⟨args0 0 args, fun _ => undef, [], own, F⟩) : N f args own F Post := by
  refine ⟨fun B w0 w hI => ?_⟩
  have hw := h.out B w0 w hI
  have hw : c.wp Tryz.prog (fun e a' w' => ∃ s' : St, a' = s'.act n ∧ Inv B w0 s'.own s'.F w' ∧ bodyR n rs Post e s') (St.act n ⟨args0 0 args, fun _ => undef, [], own, F⟩) w := wpIn_wide.1 hw
  rw [← act_args n args own F (by simpa using ha)] at hw
  subst hn
  refine calls_of_wp hf hb (wp_mono hw fun ex a' w' ⟨s', h0, h1, h2⟩ => ?_)
  subst h0
  cases ex with
  | normal => obtain ⟨hd, vs, o', F', hv, ht, hp⟩ := h2; exact ⟨hd, _, hv.run hr h1, _, _, _, rfl, ht B w0 w' h1, hp⟩
  | ret => obtain ⟨hd, vs, o', F', hv, ht, hp⟩ := h2; exact ⟨hd, _, hv.run hr h1, _, _, _, rfl, ht B w0 w' h1, hp⟩
  | exit id => exact h2.elim
  | goto x => exact h2.elim
  | panic ch => exact h2.elim
  | outgrown => exact h2.elim
theorem b_ret {n : Nat} {rs : List ResultVar} {Post : Value → List Ch → Fz → Prop} {s : St} {vs : List Value} {own' : List Ch} {F' : Fz} (hd : s.ds = []) (hv : RVs n s rs vs) (ht : Turn s.own s.F own' F') (hp : Post (tupV vs) own' F') : bodyR n rs Post .ret s := ⟨hd, vs, own', F', hv, ht, hp⟩
theorem b_norm {n : Nat} {rs : List ResultVar} {Post : Value → List Ch → Fz → Prop} {s : St} {vs : List Value} {own' : List Ch} {F' : Fz} (hd : s.ds = []) (hv : RVs n s rs vs) (ht : Turn s.own s.F own' F') (hp : Post (tupV vs) own' F') : bodyR n rs Post .normal s := ⟨hd, vs, own', F', hv, ht, hp⟩

/-! ### rows of plain things -/
section
variable {α : Type}
def RowM (F : Fz) (v : Value) (f : α → Value) (z0 : α) (ds : List α) : Prop := Row F v (ds.map f)
theorem RowM.le {F G : Fz} {v : Value} {f : α → Value} {z0 : α} {ds : List α} (h : RowM F v f z0 ds) (hl : Fle F G) : RowM G v f z0 ds := Row.le h hl
theorem RowM.row {F : Fz} {v : Value} {f : α → Value} {z0 : α} {ds : List α} (h : RowM F v f z0 ds) : Row F v (ds.map f) := h
theorem RowM.one {F : Fz} {v : Value} {f : α → Value} {z0 : α} {ds : List α} (h : RowM F v f z0 ds) : One v = true := Row.one h
theorem map_getD {f : α → Value} {ds : List α} {j : Nat} (z0 : α) (hj : j < ds.length) : (ds.map f)[j]? = some (f (ds.getD j z0)) := by
  rw [List.getElem?_map, List.getElem?_eq_getElem hj, List.getD_eq_getElem?_getD, List.getElem?_eq_getElem hj]; rfl
end
/-! .. of structs. -/
section
variable {α : Type}
def RowS (F : Fz) (v : Value) (f : α → List Value) (s : Nat) (z0 : α) (ds : List α) : Prop := Rows F s v (ds.map f)
theorem RowS.le {F G : Fz} {v : Value} {f : α → List Value} {s : Nat} {z0 : α} {ds : List α} (h : RowS F v f s z0 ds) (hl : Fle F G) : RowS G v f s z0 ds := Rows.le h hl
theorem RowS.rows {F : Fz} {v : Value} {f : α → List Value} {s : Nat} {z0 : α} {ds : List α} (h : RowS F v f s z0 ds) : Rows F s v (ds.map f) := h
theorem RowS.one {F : Fz} {v : Value} {f : α → List Value} {s : Nat} {z0 : α} {ds : List α} (h : RowS F v f s z0 ds) : One v = true := Rows.one h
theorem RowS.dest {F : Fz} {v : Value} {f : α → List Value} {s : Nat} {z0 : α} {ds : List α} (h : RowS F v f s z0 ds) : ∃ A c, v = .slice A ds.length c := by
  obtain ⟨A, c, e, _⟩ := h
  rw [List.length_map] at e
  exact ⟨A, c, e⟩
theorem map_getD' {β : Type} {f : α → β} {ds : List α} {j : Nat} (z0 : α) (hj : j < ds.length) : (ds.map f)[j]? = some (f (ds.getD j z0)) := by
  rw [List.getElem?_map, List.getElem?_eq_getElem hj, List.getD_eq_getElem?_getD, List.getElem?_eq_getElem hj]; rfl
theorem RowS.at {F : Fz} {v : Value} {f : α → List Value} {s : Nat} {z0 : α} {ds : List α} {j : Nat} (h : RowS F v f s z0 ds) (hj : j < ds.length) : Cs F (slA v (j * s)) (f (ds.getD j z0)) := (Rows.at h (map_getD' z0 hj)).2
theorem RowS.cell {F : Fz} {v u : Value} {f : α → List Value} {s : Nat} {z0 : α} {ds : List α} {j k : Nat} (h : RowS F v f s z0 ds) (hj : j < ds.length) (hu : (f (ds.getD j z0))[k]? = some u) : F ((slA v (j * s)).add k) u := h.at hj k u hu
theorem RowS.nil {F : Fz} {f : α → List Value} {s : Nat} {z0 : α} : RowS F (.slice none 0 0) f s z0 [] := Rows.nil F s
end
/-- A number that is none below nought, as one of ℕ; p: where it is so. -/
class NatOf (z : Int) (j : outParam Nat) (p : outParam Prop) : Prop where
  h : p → z = (j : Nat)
instance natOf_cast (m : Nat) : NatOf (m : Nat) m True := ⟨fun _ => rfl⟩
instance natOf_of (m : Nat) : NatOf (Int.ofNat m) m True := ⟨fun _ => rfl⟩
instance natOf_lit (m : Nat) : NatOf (no_index (OfNat.ofNat m : Int)) (OfNat.ofNat m) True := ⟨fun _ => rfl⟩
instance natOf_add (a b : Int) (i j : Nat) (p q : Prop) [h : NatOf a i p] [k : NatOf b j q] : NatOf (a + b) (i + j) (p ∧ q) := ⟨fun ⟨x, y⟩ => by rw [h.h x, k.h y]; simp⟩
instance natOf_sub (a b : Int) (i j : Nat) (p q : Prop) [h : NatOf a i p] [k : NatOf b j q] : NatOf (a - b) (i - j) (p ∧ q ∧ j ≤ i) := ⟨fun ⟨x, y, z⟩ => by rw [h.h x, k.h y]; omega⟩
instance natOf_div (a b : Int) (i j : Nat) (p q : Prop) [h : NatOf a i p] [k : NatOf b j q] : NatOf (a / b) (i / j) (p ∧ q) := ⟨fun ⟨x, y⟩ => by rw [h.h x, k.h y]; simp⟩
instance natOf_mod (a b : Int) (i j : Nat) (p q : Prop) [h : NatOf a i p] [k : NatOf b j q] : NatOf (a % b) (i % j) (p ∧ q) := ⟨fun ⟨x, y⟩ => by rw [h.h x, k.h y]; simp⟩
instance natOf_pow (a : Int) (i k : Nat) (p : Prop) [h : NatOf a i p] : NatOf (a ^ k) (i ^ k) p := ⟨fun x => by rw [h.h x]; simp⟩
instance natOf_mul (a b : Int) (i j : Nat) (p q : Prop) [h : NatOf a i p] [k : NatOf b j q] : NatOf (a * b) (i * j) (p ∧ q) := ⟨fun ⟨x, y⟩ => by rw [h.h x, k.h y]; simp⟩
section
variable {n : Nat} {ops : Array Oper} {fl : Option (List Nat)} {rest : List Oper} {K : St → Prop} {wk : List Ch} {x : Fr} {b : Nat → Value} {ds : List Deferred} {own : List Ch} {F : Fz}
  {d ty : Nat} {pos : String} {af : Array Edge}
theorem o_lenm {α : Type} {a : Operand} {t e z : Nat} [ht : SlT t e z] {v : Value} {f : α → Value} {z0 : α} {l : List α} (ha : evS n x a = some v) (hr : RowM F v f z0 l) (h : O n ops fl rest K wk ⟨(d, .int .i64 (l.length : Nat)) :: x, b, ds, own, F⟩) : O n ops fl (⟨some d, .call { callee := .builtin .len, args := #[a], argTypes := #[t] }, ty, pos, af, none⟩ :: rest) K wk ⟨x, b, ds, own, F⟩ :=
  o_lenr ha hr.row (by rw [List.length_map]; exact h)
theorem RowM.at {α : Type} {F : Fz} {v : Value} {f : α → Value} {z0 : α} {l : List α} {j : Nat} (h : RowM F v f z0 l) (hj : j < l.length) : F (slA v j) (f (l.getD j z0)) := Row.at h (map_getD z0 hj)
theorem o_idxm {α : Type} {a i : Operand} {t e : Nat} [ht : SlT t e 1] {v : Value} {f : α → Value} {z0 : α} {l : List α} {k : IntKind} {z : Int} {j : Nat} {p : Prop} (ha : evS n x a = some v) (hi : evS n x i = some (.int k z)) (hz : NatOf z j p) (hr : RowM F v f z0 l) (hp : p) (hj : j < l.length) (h : O n ops fl rest K wk ⟨(d, .pointer (some (slA v j))) :: x, b, ds, own, F⟩) : O n ops fl (⟨some d, .indexAddr t a i, ty, pos, af, none⟩ :: rest) K wk ⟨x, b, ds, own, F⟩ :=
  o_idxr (m := l.length) j ha hi (by have := hr.row.sl (j := j) (by simpa using hj); simpa using this) (hz.h hp) hj (by rw [Nat.mul_one]; exact h)
theorem o_lens {α : Type} {a : Operand} {t e z s : Nat} [ht : SlT t e z] {v : Value} {f : α → List Value} {z0 : α} {l : List α} (ha : evS n x a = some v) (hr : RowS F v f s z0 l) (h : O n ops fl rest K wk ⟨(d, .int .i64 (l.length : Nat)) :: x, b, ds, own, F⟩) : O n ops fl (⟨some d, .call { callee := .builtin .len, args := #[a], argTypes := #[t] }, ty, pos, af, none⟩ :: rest) K wk ⟨x, b, ds, own, F⟩ :=
  o_lenrs ha hr.rows (by rw [List.length_map]; exact h)
theorem o_idxs {α : Type} {a i : Operand} {t e s : Nat} [ht : SlT t e s] {v : Value} {f : α → List Value} {z0 : α} {l : List α} {k : IntKind} {z : Int} {j : Nat} {p : Prop} (ha : evS n x a = some v) (hi : evS n x i = some (.int k z)) (hz : NatOf z j p) (hr : RowS F v f s z0 l) (hp : p) (hj : j < l.length) (h : O n ops fl rest K wk ⟨(d, .pointer (some (slA v (j * s)))) :: x, b, ds, own, F⟩) : O n ops fl (⟨some d, .indexAddr t a i, ty, pos, af, none⟩ :: rest) K wk ⟨x, b, ds, own, F⟩ :=
  o_idxr (m := l.length) j ha hi (by have := hr.rows.sl (j := j) (by simpa using hj); simpa using this) (hz.h hp) hj h
/-- An element's address in a block of its own. -/
theorem o_idxc {a i : Operand} {t e s : Nat} [ht : SlT t e s] {r m c : Nat} {k : IntKind} {z : Int} {j : Nat} {p : Prop} (ha : evS n x a = some (.slice (some ⟨r, 0, none⟩) m c)) (hi : evS n x i = some (.int k z)) (hz : NatOf z j p) (hp : p) (hj : j < m) (h : O n ops fl rest K wk ⟨(d, .pointer (some ⟨r, j * s, none⟩)) :: x, b, ds, own, F⟩) : O n ops fl (⟨some d, .indexAddr t a i, ty, pos, af, none⟩ :: rest) K wk ⟨x, b, ds, own, F⟩ :=
  o_idx j ha hi (hz.h hp) hj (by rw [Addr.add_lit, Nat.zero_add]; exact h)
theorem o_idxc1 {a i : Operand} {t e : Nat} [ht : SlT t e 1] {r m c : Nat} {k : IntKind} {z : Int} {j : Nat} {p : Prop} (ha : evS n x a = some (.slice (some ⟨r, 0, none⟩) m c)) (hi : evS n x i = some (.int k z)) (hz : NatOf z j p) (hp : p) (hj : j < m) (h : O n ops fl rest K wk ⟨(d, .pointer (some ⟨r, j, none⟩)) :: x, b, ds, own, F⟩) : O n ops fl (⟨some d, .indexAddr t a i, ty, pos, af, none⟩ :: rest) K wk ⟨x, b, ds, own, F⟩ :=
  o_idx1 j ha hi (hz.h hp) hj (by rw [Addr.add_lit, Nat.zero_add]; exact h)
/-- .. of a stretch of it. -/
theorem o_idxo1 {a i : Operand} {t e : Nat} [ht : SlT t e 1] {r o m c : Nat} {k : IntKind} {z : Int} {j : Nat} {p : Prop} (ha : evS n x a = some (.slice (some ⟨r, o, none⟩) m c)) (hi : evS n x i = some (.int k z)) (hz : NatOf z j p) (hp : p) (hj : j < m) (h : O n ops fl rest K wk ⟨(d, .pointer (some ⟨r, o + j, none⟩)) :: x, b, ds, own, F⟩) : O n ops fl (⟨some d, .indexAddr t a i, ty, pos, af, none⟩ :: rest) K wk ⟨x, b, ds, own, F⟩ :=
  o_idx1 j ha hi (hz.h hp) hj (by rw [Addr.add_lit]; exact h)
/-- Within the kind: the number stays. -/
theorem o_convK {a : Operand} {s t : Nat} {k k' : IntKind} [hs : InT s k] [ht : InT t k'] {z : Int} (ha : evS n x a = some (.int k z)) (hy : inK k' z) (h : O n ops fl rest K wk ⟨(d, .int k' z) :: x, b, ds, own, F⟩) : O n ops fl (⟨some d, .convert s t a, ty, pos, af, none⟩ :: rest) K wk ⟨x, b, ds, own, F⟩ :=
  o_conv ha (wrap_in hy) h
/-- Its lowest 32 bits. -/
theorem o_conv32 {a : Operand} {s t : Nat} {k : IntKind} [hs : InT s k] [ht : InT t .u32] {z : Int} (ha : evS n x a = some (.int k z)) (h : O n ops fl rest K wk ⟨(d, .int .u32 (z % 4294967296)) :: x, b, ds, own, F⟩) : O n ops fl (⟨some d, .convert s t a, ty, pos, af, none⟩ :: rest) K wk ⟨x, b, ds, own, F⟩ :=
  o_conv ha (by simp [IntKind.wrap, IntKind.signed, IntKind.bits]) h
theorem o_shrN {a a' : Operand} {t t' : Nat} {k k' : IntKind} {p z : Int} {q : Nat} {pp : Prop} (ha : evS n x a = some (.int k p)) (ha' : evS n x a' = some (.int k' z)) (hz : NatOf z q pp) (hp : pp) (hq : q ≤ k.bits) (h : O n ops fl rest K wk ⟨(d, .int k (p / 2 ^ q)) :: x, b, ds, own, F⟩) : O n ops fl (⟨some d, .binOp .shr t a a' t', ty, pos, af, none⟩ :: rest) K wk ⟨x, b, ds, own, F⟩ :=
  o_shr ha (by rw [ha', hz.h hp]) hq h
theorem o_shr32 {a a' : Operand} {t t' : Nat} {k k' : IntKind} {p : Int} (ha : evS n x a = some (.int k p)) (ha' : evS n x a' = some (.int k' 32)) (hq : Nat.ble 32 k.bits = true) (h : O n ops fl rest K wk ⟨(d, .int k (p / 4294967296)) :: x, b, ds, own, F⟩) : O n ops fl (⟨some d, .binOp .shr t a a' t', ty, pos, af, none⟩ :: rest) K wk ⟨x, b, ds, own, F⟩ :=
  o_shr (q := 32) ha ha' (by simpa using hq) (by simpa using h)
theorem o_shl32 {a a' : Operand} {t t' : Nat} {k k' : IntKind} {p : Int} (ha : evS n x a = some (.int k p)) (ha' : evS n x a' = some (.int k' 32)) (hq : Nat.ble 32 k.bits = true) (hk : inK k (p * 4294967296)) (h : O n ops fl rest K wk ⟨(d, .int k (p * 4294967296)) :: x, b, ds, own, F⟩) : O n ops fl (⟨some d, .binOp .shl t a a' t', ty, pos, af, none⟩ :: rest) K wk ⟨x, b, ds, own, F⟩ :=
  o_shl (q := 32) ha ha' (by simpa using hq) (by have := wrap_in hk; simpa using this) h
/-- p | q where q's bits lie below p's. -/
theorem o_orS {a a' : Operand} {t t' : Nat} {k : IntKind} {p q : Int} {i j : Nat} {pp pq : Prop} (ha : evS n x a = some (.int k p)) (ha' : evS n x a' = some (.int k q)) (hp : NatOf p i pp) (hq : NatOf q j pq) (h1 : pp) (h2 : pq) (hi : i % 4294967296 = 0) (hj : j < 4294967296) (hk : k = .u64) (hb : i < 18446744073709551616) (h : O n ops fl rest K wk ⟨(d, .int k (p + q)) :: x, b, ds, own, F⟩) : O n ops fl (⟨some d, .binOp .or t a a' t', ty, pos, af, none⟩ :: rest) K wk ⟨x, b, ds, own, F⟩ :=
  o_rd _ rfl (fun B w0 w hw => by
    subst hk
    have e1 := hp.h h1
    have e2 := hq.h h2
    have m1 : i % 18446744073709551616 = i := Nat.mod_eq_of_lt hb
    have m2 : j % 18446744073709551616 = j := Nat.mod_eq_of_lt (by omega)
    have e3 : i ||| j = i + j := by
      have := Nat.two_pow_add_eq_or_of_lt (i := 32) (b := j) (by omega) (i / 4294967296)
      have e : 2 ^ 32 * (i / 4294967296) = i := by omega
      rw [e] at this
      exact this.symm
    have hwr : IntKind.u64.wrap ((i + j : Nat) : Int) = (i : Int) + j := by
      have : i + j < 18446744073709551616 := by omega
      simp only [IntKind.wrap, IntKind.signed, IntKind.bits]; simp; omega
    have hb' : (BitVec.ofNat 64 i ||| BitVec.ofNat 64 j).toNat = i + j := by rw [BitVec.toNat_or, BitVec.toNat_ofNat, BitVec.toNat_ofNat, ← e3]; simp [m1, m2]
    unfold execOp
    simp [evx ha, evx ha', eqGuard, binOp, Op.intBits, Result.andThen, e1, e2, IntKind.bits]
    exact (congrArg (fun r : Nat => IntKind.u64.wrap (r : Nat)) hb').trans hwr) h
/-- .. the low bits first. -/
theorem o_orR {a a' : Operand} {t t' : Nat} {k : IntKind} {p q : Int} {i j : Nat} {pp pq : Prop} (ha : evS n x a = some (.int k p)) (ha' : evS n x a' = some (.int k q)) (hp : NatOf p i pp) (hq : NatOf q j pq) (h1 : pp) (h2 : pq) (hi : i < 4294967296) (hj : j % 4294967296 = 0) (hk : k = .u64) (hb : j < 18446744073709551616) (h : O n ops fl rest K wk ⟨(d, .int k (p + q)) :: x, b, ds, own, F⟩) : O n ops fl (⟨some d, .binOp .or t a a' t', ty, pos, af, none⟩ :: rest) K wk ⟨x, b, ds, own, F⟩ :=
  o_rd _ rfl (fun B w0 w hw => by
    subst hk
    have e1 := hp.h h1
    have e2 := hq.h h2
    have m1 : i % 18446744073709551616 = i := Nat.mod_eq_of_lt (by omega)
    have m2 : j % 18446744073709551616 = j := Nat.mod_eq_of_lt hb
    have e3 : i ||| j = i + j := by
      have := Nat.two_pow_add_eq_or_of_lt (i := 32) (b := i) (by omega) (j / 4294967296)
      have e : 2 ^ 32 * (j / 4294967296) = j := by omega
      rw [e] at this
      rw [Nat.or_comm, ← this, Nat.add_comm]
    have hwr : IntKind.u64.wrap ((i + j : Nat) : Int) = (i : Int) + j := by
      have : i + j < 18446744073709551616 := by omega
      simp only [IntKind.wrap, IntKind.signed, IntKind.bits]; simp; omega
    have hb' : (BitVec.ofNat 64 i ||| BitVec.ofNat 64 j).toNat = i + j := by rw [BitVec.toNat_or, BitVec.toNat_ofNat, BitVec.toNat_ofNat, ← e3]; simp [m1, m2]
    unfold execOp
    simp [evx ha, evx ha', eqGuard, binOp, Op.intBits, Result.andThen, e1, e2, IntKind.bits]
    exact (congrArg (fun r : Nat => IntKind.u64.wrap (r : Nat)) hb').trans hwr) h
theorem o_quoN {a a' : Operand} {t t' : Nat} {k : IntKind} {p q : Int} {i j : Nat} {pp pq : Prop} (ha : evS n x a = some (.int k p)) (ha' : evS n x a' = some (.int k q)) (hp : NatOf p i pp) (hq : NatOf q j pq) (h1 : pp) (h2 : pq) (hj : 0 < j) (hk : inK k (i : Nat)) (h : O n ops fl rest K wk ⟨(d, .int k ((i / j : Nat) : Int)) :: x, b, ds, own, F⟩) : O n ops fl (⟨some d, .binOp .quo t a a' t', ty, pos, af, none⟩ :: rest) K wk ⟨x, b, ds, own, F⟩ := by
  have e1 := hp.h h1
  have e2 := hq.h h2
  subst e1 e2
  have hd : i / j ≤ i := Nat.div_le_self i j
  refine o_quo ha ha' (by omega) ?_ (by rw [← Int.ofNat_tdiv]; exact h)
  rw [← Int.ofNat_tdiv]
  generalize i / j = g at hd ⊢
  cases k <;> simp only [inK] at hk ⊢ <;> omega
theorem o_remN {a a' : Operand} {t t' : Nat} {k : IntKind} {p q : Int} {i j : Nat} {pp pq : Prop} (ha : evS n x a = some (.int k p)) (ha' : evS n x a' = some (.int k q)) (hp : NatOf p i pp) (hq : NatOf q j pq) (h1 : pp) (h2 : pq) (hj : 0 < j) (h : O n ops fl rest K wk ⟨(d, .int k ((i % j : Nat) : Int)) :: x, b, ds, own, F⟩) : O n ops fl (⟨some d, .binOp .rem t a a' t', ty, pos, af, none⟩ :: rest) K wk ⟨x, b, ds, own, F⟩ := by
  have e1 := hp.h h1
  have e2 := hq.h h2
  subst e1 e2
  exact o_rem ha ha' (by omega) (by rw [← Int.ofNat_tmod]; exact h)
/-- + - *, without a sign, 64 bits. -/
theorem o_arU {op : BinOp} {a a' : Operand} {t t' : Nat} {p q z : Int} (ha : evS n x a = some (.int .u64 p)) (ha' : evS n x a' = some (.int .u64 q)) (hz : arV op p q = some z) (h : O n ops fl rest K wk ⟨(d, .int .u64 (z % 18446744073709551616)) :: x, b, ds, own, F⟩) : O n ops fl (⟨some d, .binOp op t a a' t', ty, pos, af, none⟩ :: rest) K wk ⟨x, b, ds, own, F⟩ :=
  o_rd _ rfl (fun B w0 w hw => by
    have hwr : ∀ z, IntKind.u64.wrap z = z % 18446744073709551616 := fun z => by simp [IntKind.wrap, IntKind.signed, IntKind.bits]
    unfold execOp
    cases op <;> simp only [arV, Option.some.injEq, reduceCtorEq] at hz <;> subst hz <;> simp [evx ha, evx ha', eqGuard, binOp, Op.intArith, Result.andThen, hwr]) h
theorem o_arW {op : BinOp} {a a' : Operand} {t t' : Nat} {p q z : Int} (z' : Int) (ha : evS n x a = some (.int .u64 p)) (ha' : evS n x a' = some (.int .u64 q)) (hz : arV op p q = some z) (he : z % 18446744073709551616 = z') (h : O n ops fl rest K wk ⟨(d, .int .u64 z') :: x, b, ds, own, F⟩) : O n ops fl (⟨some d, .binOp op t a a' t', ty, pos, af, none⟩ :: rest) K wk ⟨x, b, ds, own, F⟩ :=
  o_arU ha ha' hz (by rw [he]; exact h)
/-- Bits, of numbers from nought on. -/
def btV : BinOp → Nat → Nat → Option Nat
  | .and, p, q => some (p &&& q)
  | .or, p, q => some (p ||| q)
  | .xor, p, q => some (p ^^^ q)
  | _, _, _ => none
theorem o_bits {op : BinOp} {a a' : Operand} {t t' : Nat} {k : IntKind} {p q : Int} {i j r : Nat} {pp pq : Prop} (ha : evS n x a = some (.int k p)) (ha' : evS n x a' = some (.int k q)) (hp : NatOf p i pp) (hq : NatOf q j pq) (hr : btV op i j = some r) (h1 : pp) (h2 : pq) (hi : i < 2 ^ k.bits) (hj : j < 2 ^ k.bits) (hk : k.signed = false) (h : O n ops fl rest K wk ⟨(d, .int k (r : Nat)) :: x, b, ds, own, F⟩) : O n ops fl (⟨some d, .binOp op t a a' t', ty, pos, af, none⟩ :: rest) K wk ⟨x, b, ds, own, F⟩ :=
  o_rd _ rfl (fun B w0 w hw => by
    have e1 := hp.h h1
    have e2 := hq.h h2
    have m1 : i % 2 ^ k.bits = i := Nat.mod_eq_of_lt hi
    have m2 : j % 2 ^ k.bits = j := Nat.mod_eq_of_lt hj
    have hwr : ∀ r : Nat, r < 2 ^ k.bits → k.wrap (r : Nat) = r := fun r hr => by
      cases k <;> simp only [IntKind.signed, reduceCtorEq] at hk <;> simp only [IntKind.bits] at hr <;> simp only [IntKind.wrap, IntKind.signed, IntKind.bits] <;> simp <;> omega
    unfold execOp
    cases op <;> simp only [btV, Option.some.injEq, reduceCtorEq] at hr <;> subst hr <;> simp [evx ha, evx ha', eqGuard, binOp, Op.intBits, Result.andThen, e1, e2, m1, m2]
    · exact hwr _ (Nat.and_lt_two_pow _ hj)
    · exact hwr _ (Nat.or_lt_two_pow hi hj)
    · exact hwr _ (Nat.xor_lt_two_pow hi hj)) h
theorem get0 {α : Type} {c : α} {l : List α} : (c :: l)[0]? = some c := rfl
theorem get1 {α : Type} {a c : α} {l : List α} : (a :: c :: l)[1]? = some c := rfl
theorem get2 {α : Type} {a a' c : α} {l : List α} : (a :: a' :: c :: l)[2]? = some c := rfl
theorem get3 {α : Type} {a a' a'' c : α} {l : List α} : (a :: a' :: a'' :: c :: l)[3]? = some c := rfl
theorem get4 {α : Type} {a a' a'' a3 c : α} {l : List α} : (a :: a' :: a'' :: a3 :: c :: l)[4]? = some c := rfl
theorem get5 {α : Type} {a a' a'' a3 a4 c : α} {l : List α} : (a :: a' :: a'' :: a3 :: a4 :: c :: l)[5]? = some c := rfl
theorem get6 {α : Type} {a a' a'' a3 a4 a5 c : α} {l : List α} : (a :: a' :: a'' :: a3 :: a4 :: a5 :: c :: l)[6]? = some c := rfl
def setC : List Ch → Nat → Ch → Option (List Ch)
  | [], _, _ => none
  | _ :: l, 0, d => some (d :: l)
  | a :: l, p + 1, d => match setC l p d with
    | some l' => some (a :: l')
    | none => none
theorem setC_eq : ∀ {own own' : List Ch} {p : Nat} {d : Ch}, setC own p d = some own' → own.set p d = own'
  | [], own', p, d, h => by cases h
  | a :: l, own', 0, d, h => by cases h; rfl
  | a :: l, own', p + 1, d, h => by
    unfold setC at h
    cases h1 : setC l p d with
    | none => rw [h1] at h; cases h
    | some l' => rw [h1] at h; cases h; rw [List.set_cons_succ, setC_eq h1]
theorem setL_all' : ∀ (us pre vs : List Value), vs.length = us.length → setL (pre ++ vs) pre.length us = pre ++ us
  | [], pre, vs, h => by have : vs = [] := List.eq_nil_of_length_eq_zero (by simpa using h); rw [this]; rfl
  | u :: us, pre, [], h => by cases h
  | u :: us, pre, v :: vs, h => by
    have e : (pre ++ v :: vs).set pre.length u = pre ++ u :: vs := by simp
    rw [setL, e]
    have := setL_all' us (pre ++ [u]) vs (by simpa using h)
    simpa using this
theorem o_stN {a v : Operand} {t p : Nat} [ht : FlT t] {A : Addr} {r k : Nat} {u : Value} {vs : List Value} {wk' own' : List Ch} (ha : evS n x a = some (.pointer (some A))) (hA : Of A r k) (hv : evS n x v = some u) (hu : One u = true) (hp : own[p]? = some (.c r vs)) (ho : setC own p (.c r (vs.set k u)) = some own') (hk : k < vs.length)
    (hsub : List.Sublist wk own) (hw : Wk fl (Fg ops fl rest.length) wk F own' F wk') (h : O n ops fl rest K wk' ⟨x, b, ds, own', F⟩) : O n ops fl (⟨none, .store t a v, ty, pos, af, none⟩ :: rest) K wk ⟨x, b, ds, own, F⟩ := by
  have := setC_eq ho
  subst this
  exact o_store p ha hv hu hp hk h hsub hw
theorem o_stL {a v : Operand} {t p : Nat} [ht : FlT t] {A : Addr} {r k : Nat} {u : Value} {vs vs' : List Value} {wk' own' : List Ch} (ha : evS n x a = some (.pointer (some A))) (hA : Of A r k) (hv : evS n x v = some u) (hu : One u = true) (hp : own[p]? = some (.c r vs)) (hvs : forceL (vs.set k u) = some vs') (ho : setC own p (.c r vs') = some own') (hk : k < vs.length)
    (hsub : List.Sublist wk own) (hw : Wk fl (Fg ops fl rest.length) wk F own' F wk') (h : O n ops fl rest K wk' ⟨x, b, ds, own', F⟩) : O n ops fl (⟨none, .store t a v, ty, pos, af, none⟩ :: rest) K wk ⟨x, b, ds, own, F⟩ :=
  o_stN ha hA hv hu hp (by rw [forceL_eq hvs]; exact ho) hk hsub hw h
theorem o_staN {a v : Operand} {t s p : Nat} [ht : AgT t s] {A : Addr} {r k : Nat} {us vs : List Value} {wk' own' : List Ch} (ha : evS n x a = some (.pointer (some A))) (hA : Of A r k) (hv : evS n x v = some (.agg us.toArray)) (hl : us.length = s) (hu : us.all One = true) (hp : own[p]? = some (.c r vs)) (ho : setC own p (.c r (setL vs k us)) = some own') (hk : k + us.length ≤ vs.length)
    (hsub : List.Sublist wk own) (hw : Wk fl (Fg ops fl rest.length) wk F own' F wk') (h : O n ops fl rest K wk' ⟨x, b, ds, own', F⟩) : O n ops fl (⟨none, .store t a v, ty, pos, af, none⟩ :: rest) K wk ⟨x, b, ds, own, F⟩ := by
  have := setC_eq ho
  subst this
  exact o_storea p ha hv hl hu hp hk h hsub hw
theorem o_staL {a v : Operand} {t s p : Nat} [ht : AgT t s] {A : Addr} {r k : Nat} {us vs vs' : List Value} {wk' own' : List Ch} (ha : evS n x a = some (.pointer (some A))) (hA : Of A r k) (hv : evS n x v = some (.agg us.toArray)) (hl : us.length = s) (hu : us.all One = true) (hp : own[p]? = some (.c r vs)) (hvs : forceL (setL vs k us) = some vs') (ho : setC own p (.c r vs') = some own') (hk : k + us.length ≤ vs.length)
    (hsub : List.Sublist wk own) (hw : Wk fl (Fg ops fl rest.length) wk F own' F wk') (h : O n ops fl rest K wk' ⟨x, b, ds, own', F⟩) : O n ops fl (⟨none, .store t a v, ty, pos, af, none⟩ :: rest) K wk ⟨x, b, ds, own, F⟩ :=
  o_staN ha hA hv hl hu hp (by rw [forceL_eq hvs]; exact ho) hk hsub hw h
theorem o_staF {a v : Operand} {t s p : Nat} [ht : AgT t s] {A : Addr} {r : Nat} {us vs : List Value} {wk' own' : List Ch} (ha : evS n x a = some (.pointer (some A))) (hA : Of A r 0) (hv : evS n x v = some (.agg us.toArray)) (hl : us.length = s) (hu : us.all One = true) (hp : own[p]? = some (.c r vs)) (ho : setC own p (.c r us) = some own') (hk : vs.length = s)
    (hsub : List.Sublist wk own) (hw : Wk fl (Fg ops fl rest.length) wk F own' F wk') (h : O n ops fl rest K wk' ⟨x, b, ds, own', F⟩) : O n ops fl (⟨none, .store t a v, ty, pos, af, none⟩ :: rest) K wk ⟨x, b, ds, own, F⟩ :=
  o_staN ha hA hv hl hu hp (by rw [show setL vs 0 us = us from setL_all' us [] vs (by omega)]; exact ho) (by omega) hsub hw h
theorem o_allocN {t : Nat} {zs : List Value} [ht : ZrT t zs] {wk' : Nat → List Ch} (hsub : List.Sublist wk own) (hw : ∀ r, Wk fl (Fg ops fl rest.length) wk F (.c r zs :: own) F (wk' r)) (h : ∀ r, O n ops fl rest K (wk' r) ⟨(d, .pointer (some ⟨r, 0, none⟩)) :: x, b, ds, .c r zs :: own, F⟩) : O n ops fl (⟨some d, .alloc t, ty, pos, af, none⟩ :: rest) K wk ⟨x, b, ds, own, F⟩ := o_alloc h hsub hw
theorem o_boxN {t : Nat} {a : Operand} {v : Value} {wk' : Nat → List Ch} (ha : evS n x a = some v) (hv : One v = true) (hsub : List.Sublist wk own) (hw : ∀ r, Wk fl (Fg ops fl rest.length) wk F (.c r [v] :: own) F (wk' r)) (h : ∀ r, O n ops fl rest K (wk' r) ⟨(d, .pointer (some ⟨r, 0, none⟩)) :: x, b, ds, .c r [v] :: own, F⟩) : O n ops fl (⟨some d, .box t a, ty, pos, af, none⟩ :: rest) K wk ⟨x, b, ds, own, F⟩ := o_box ha hv h hsub hw
theorem o_boxaN {t : Nat} {a : Operand} {vs : List Value} {wk' : Nat → List Ch} (ha : evS n x a = some (.agg vs.toArray)) (hsub : List.Sublist wk own) (hw : ∀ r, Wk fl (Fg ops fl rest.length) wk F (.c r vs :: own) F (wk' r)) (h : ∀ r, O n ops fl rest K (wk' r) ⟨(d, .pointer (some ⟨r, 0, none⟩)) :: x, b, ds, .c r vs :: own, F⟩) : O n ops fl (⟨some d, .box t a, ty, pos, af, none⟩ :: rest) K wk ⟨x, b, ds, own, F⟩ := o_boxa ha h hsub hw
theorem o_and32 {a a' : Operand} {t t' : Nat} {k : IntKind} {p : Int} {i : Nat} {pp : Prop} (ha : evS n x a = some (.int k p)) (ha' : evS n x a' = some (.int k 4294967295)) (hp : NatOf p i pp) (h1 : pp) (hk : k = .u64) (hb : i < 18446744073709551616) (h : O n ops fl rest K wk ⟨(d, .int k (p % 4294967296)) :: x, b, ds, own, F⟩) : O n ops fl (⟨some d, .binOp .and t a a' t', ty, pos, af, none⟩ :: rest) K wk ⟨x, b, ds, own, F⟩ := by
  subst hk
  have e1 := hp.h h1
  refine o_bits (r := i % 4294967296) ha ha' hp (natOf_lit 4294967295) ?_ h1 True.intro hb (by decide) rfl (by rw [e1] at h; simpa using h)
  simp only [btV, Option.some.injEq]
  exact Nat.and_two_pow_sub_one_eq_mod i 32
/-- A test's slot, told. -/
theorem o_split {todo : List Oper} {t : Nat} {c : Bool} (hc : lookS x t = some (.bool c)) (h1 : c = true → O n ops fl todo K wk ⟨(t, .bool true) :: x, b, ds, own, F⟩) (h2 : c = false → O n ops fl todo K wk ⟨(t, .bool false) :: x, b, ds, own, F⟩) : O n ops fl todo K wk ⟨x, b, ds, own, F⟩ := by
  cases c
  · exact o_known false hc rfl (h2 rfl)
  · exact o_known true hc rfl (h1 rfl)
/-- A guarded operation: its test is known. -/
theorem o_gdT {op : Op} {dd : Option Tmp} {j t : Nat} {c : Bool} {want : Bool} (hg : gslot ops j = some t) (hl : lookS x t = some (.bool c)) (hn : Nat.blt t n = true) (e : c = want) (h : O n ops fl (⟨dd, op, ty, pos, af, none⟩ :: rest) K wk ⟨(t, .bool want) :: x, b, ds, own, F⟩) : O n ops fl (⟨dd, op, ty, pos, af, some (j, want)⟩ :: rest) K wk ⟨x, b, ds, own, F⟩ :=
  o_known want hl e (o_guard (t := t) want hg (by simp only [evS, hn, lookS, show Nat.beq t t = true from Nat.beq_refl t]; rfl) (fun _ => h) (fun e => by cases want <;> cases e))
theorem o_gdF {op : Op} {d : Nat} {j t : Nat} {c : Bool} {want : Bool} (hg : gslot ops j = some t) (hl : lookS x t = some (.bool c)) (hn : Nat.blt t n = true) (e : c = !want) (h : O n ops fl rest K wk ⟨(d, undef) :: (t, .bool (!want)) :: x, b, ds, own, F⟩) : O n ops fl (⟨some d, op, ty, pos, af, some (j, want)⟩ :: rest) K wk ⟨x, b, ds, own, F⟩ :=
  o_known (!want) hl e (o_guard (t := t) (!want) hg (by simp only [evS, hn, lookS, show Nat.beq t t = true from Nat.beq_refl t]; rfl) (fun e => by cases want <;> cases e) (fun _ => h))
theorem wanted_u {j t : Nat} {want : Bool} {o : Oper} {s : St} (hg : gslot ops j = some t) (hc : evS n s.x (.tmp t) = some undef) (ho : o.guard = some (j, want)) : Region.wanted o (yielded ops (s.act n).tmps) = false := by
  have h1 : (s.act n).tmps[t]? = some undef := by
    have := ev_of (s := s) hc
    simp only [evS] at hc
    cases ht : Nat.blt t n
    · rw [ht] at hc; cases hc
    · have hlt : t < n := by simpa using ht
      rw [ht] at hc
      have h2 := look_of (b := s.b) hc
      simp [St.act, hlt, h2]
  unfold gslot at hg
  simp only [Region.wanted, ho, yielded, hg, Option.bind_some, h1]
  rfl
/-- A guarded operation whose test was left out. -/
theorem o_gdU {op : Op} {d : Nat} {j t : Nat} {want : Bool} (hg : gslot ops j = some t) (hl : lookS x t = some undef) (hn : Nat.blt t n = true) (h : O n ops fl rest K wk ⟨(d, undef) :: x, b, ds, own, F⟩) : O n ops fl (⟨some d, op, ty, pos, af, some (j, want)⟩ :: rest) K wk ⟨x, b, ds, own, F⟩ := by
  have hc : evS n x (.tmp t) = some undef := by simp only [evS, hn, hl]; rfl
  refine ⟨fun B w0 w hI => ?_, h.sub⟩
  have hw : Region.wanted ⟨some d, op, ty, pos, af, some (j, want)⟩ (yielded ops (St.act n ⟨x, b, ds, own, F⟩).tmps) = false := wanted_u (s := ⟨x, b, ds, own, F⟩) hg hc rfl
  have k1 := h.out B w0 w hI
  cases fl with
  | none =>
    simp only [wpT] at k1 ⊢
    unfold stpO
    rw [if_neg (by simp [hw]), act_put]
    exact k1
  | some fl =>
    simp only [zipF, wpL]
    refine ⟨Inv B w0 wk F, hI.sub h.sub, fun _ x => x, ?_⟩
    cases hrd : isRd op
    · refine .inr ⟨rfl, ?_⟩
      unfold stpO
      rw [if_neg (by simp [hw]), act_put]
      exact ⟨Inv B w0 wk F, hI.sub h.sub, fun _ _ x => x, k1⟩
    · refine .inl ⟨undef, .inr ⟨hw, rfl⟩, rfl, ?_⟩
      rw [act_put]
      exact k1
theorem c_T {ro : Option Nat} {Q : Exit → St → Prop} {s : St} {c : Operand} {x y : Code} {t : Bool} (hc : evS n s.x c = some (.bool t)) (e : t = true) (h1 : C n ro x Q s) : C n ro (.cond c x y) Q s := c_cond hc (fun _ => h1) (fun e' => by rw [e] at e'; cases e')
theorem c_F {ro : Option Nat} {Q : Exit → St → Prop} {s : St} {c : Operand} {x y : Code} {t : Bool} (hc : evS n s.x c = some (.bool t)) (e : t = false) (h1 : C n ro y Q s) : C n ro (.cond c x y) Q s := c_cond hc (fun e' => by rw [e] at e'; cases e') (fun _ => h1)
end

/-- A loop: the states at its head are a family. -/
theorem c_lp {n : Nat} {ro : Option Nat} {Q : Exit → St → Prop} {x : Fr} {b : Nat → Value} {ds : List Deferred} {ow : List Ch} {F0 : Fz} {ι : Type} {c : Code} (X : ι → Fr) (own : ι → List Ch) (F : ι → Fz) (P : ι → Prop) (μ : ι → Nat) (i : ι) (hx : fits x (X i)) (ho : ow = own i) (hF : F0 = F i) (hP : P i)
    (round : ∀ i b, P i → C n ro c (Thn (fun s' => ∃ j, fits s'.x (X j) ∧ s'.own = own j ∧ s'.F = F j ∧ s'.ds = ds ∧ P j ∧ μ j < μ i) Q) ⟨X i, b, ds, own i, F i⟩) : C n ro (.loop c) Q ⟨x, b, ds, ow, F0⟩ := c_loop X own F P μ i hx ho hF hP round

theorem c_txt {n : Nat} {ro : Option Nat} {Q : Exit → St → Prop} {x : Fr} {b : Nat → Value} {ds : List Deferred} {own : List Ch} {F : Fz} {id : Nat} {ops : Array Oper} {l : List Oper} (hl : ops = l.toArray) (hd : noDefer ops = true) (h : O n ops none l (Q .normal) own ⟨x, b, ds, own, F⟩) : C n ro (.region id ops false) Q ⟨x, b, ds, own, F⟩ := c_text hl hd h
theorem c_drw {n : Nat} {ro : Option Nat} {Q : Exit → St → Prop} {x : Fr} {b : Nat → Value} {ds : List Deferred} {own : List Ch} {F : Fz} {id : Nat} {ops : Array Oper} {l : List Oper} (hl : ops = l.toArray) (hok : (Region.noSelect ops && noDefer ops && ordOk ops (Array.replicate ops.size false) (List.range ops.size) && ((List.range ops.size).length == ops.size)) = true)
    (h : O n ops (some (List.range ops.size)) l (Q .normal) own ⟨x, b, ds, own, F⟩) : C n ro (.region id ops true) Q ⟨x, b, ds, own, F⟩ := c_draw hl own (List.Sublist.refl _) hok h
/-- .. where some of what is owned moves. -/
theorem c_drww {n : Nat} {ro : Option Nat} {Q : Exit → St → Prop} {x : Fr} {b : Nat → Value} {ds : List Deferred} {own : List Ch} {F : Fz} {id : Nat} {ops : Array Oper} {l : List Oper} (wk : List Ch) (hw : List.Sublist wk own) (hl : ops = l.toArray) (hok : (Region.noSelect ops && noDefer ops && ordOk ops (Array.replicate ops.size false) (List.range ops.size) && ((List.range ops.size).length == ops.size)) = true)
    (h : O n ops (some (List.range ops.size)) l (Q .normal) wk ⟨x, b, ds, own, F⟩) : C n ro (.region id ops true) Q ⟨x, b, ds, own, F⟩ := c_draw hl wk hw hok h
theorem getD_lit (l : List Oper) (k : Nat) : l.toArray.getD k default = l.getD k default := by simp
/-- .. walked in a given order. -/
theorem c_drwo {n : Nat} {ro : Option Nat} {Q : Exit → St → Prop} {x : Fr} {b : Nat → Value} {ds : List Deferred} {own : List Ch} {F : Fz} {id : Nat} {ops : Array Oper} {l : List Oper} (order : List Nat) (hok : (Region.noSelect ops && noDefer ops && ordOk ops (Array.replicate ops.size false) order && (order.length == ops.size)) = true) (hl : (order.map fun i => ops.getD i default) = l)
    (h : O n ops (some order) l (Q .normal) own ⟨x, b, ds, own, F⟩) : C n ro (.region id ops true) Q ⟨x, b, ds, own, F⟩ := c_drawo order own (List.Sublist.refl _) hok (by rw [hl]; exact h)
section
variable {R : St → Prop} {Q : Exit → St → Prop} {s : St}
theorem norm_Thn (h : R s) : Thn R Q .normal s := h
theorem norm_Inb {id : Nat} (h : Q .normal s) : Inb id Q .normal s := h
theorem ret_Thn (h : Q .ret s) : Thn R Q .ret s := h
theorem ret_Inb {id : Nat} (h : Q .ret s) : Inb id Q .ret s := h
theorem exit_Thn {i : Nat} (h : Q (.exit i) s) : Thn R Q (.exit i) s := h
theorem exit_InbS {id i : Nat} (e : Nat.beq i id = true) (h : Q .normal s) : Inb id Q (.exit i) s := by
  show (bif Nat.beq i id then Q .normal s else Q (.exit i) s); rw [e]; exact h
theorem exit_InbD {id i : Nat} (e : Nat.beq i id = false) (h : Q (.exit i) s) : Inb id Q (.exit i) s := by
  show (bif Nat.beq i id then Q .normal s else Q (.exit i) s); rw [e]; exact h
end
theorem eqI {k : IntKind} {p q : Int} (h : p = q) : some (Value.int k p) = some (.int k q) := by rw [h]

theorem o_owneq {n : Nat} {ops : Array Oper} {todo : List Oper} {K : St → Prop} {x : Fr} {b : Nat → Value} {ds : List Deferred} {own own' : List Ch} {F : Fz} (e : own = own') (h : O n ops none todo K own' ⟨x, b, ds, own', F⟩) : O n ops none todo K own ⟨x, b, ds, own, F⟩ := by rw [e]; exact h
theorem c_owneq {n : Nat} {ro : Option Nat} {c : Code} {Q : Exit → St → Prop} {x : Fr} {b : Nat → Value} {ds : List Deferred} {own own' : List Ch} {F : Fz} (e : own = own') (h : C n ro c Q ⟨x, b, ds, own', F⟩) : C n ro c Q ⟨x, b, ds, own, F⟩ := by rw [e]; exact h
/-- A slot's value, spelt otherwise. -/
theorem o_val {n : Nat} {ops : Array Oper} {fl : Option (List Nat)} {todo : List Oper} {K : St → Prop} {wk : List Ch} {x : Fr} {b : Nat → Value} {ds : List Deferred} {own : List Ch} {F : Fz} {d : Nat} {u : Value} (v : Value) (e : u = v) (h : O n ops fl todo K wk ⟨(d, v) :: x, b, ds, own, F⟩) : O n ops fl todo K wk ⟨(d, u) :: x, b, ds, own, F⟩ := by rw [e]; exact h

def eqbV : BinOp → Bool → Bool → Option Bool
  | .eql, true, true => some true
  | .eql, false, false => some true
  | .eql, true, false => some false
  | .eql, false, true => some false
  | .neq, true, true => some false
  | .neq, false, false => some false
  | .neq, true, false => some true
  | .neq, false, true => some true
  | _, _, _ => none
theorem bool4 : Tryz.prog.underlying 4 = some .bool := by kernel_rfl
theorem run_equalb (p q : Bool) (w : World) : (Op.equal 4 (.bool p) (.bool q)).run Tryz.prog w = .ok (p == q) w := by
  unfold Op.equal
  rw [show Op.maxDepth = 9999 + 1 from rfl]
  unfold Op.equalIn
  simp [run_underlying bool4, Result.andThen]
section
variable {n : Nat} {ops : Array Oper} {fl : Option (List Nat)} {rest : List Oper} {K : St → Prop} {wk : List Ch} {x : Fr} {b : Nat → Value} {ds : List Deferred} {own : List Ch} {F : Fz}
  {d ty : Nat} {pos : String} {af : Array Edge}
theorem o_eqb {op : BinOp} {a a' : Operand} {t' : Nat} {p q c : Bool} (ha : evS n x a = some (.bool p)) (ha' : evS n x a' = some (.bool q)) (hc : eqbV op p q = some c) (h : O n ops fl rest K wk ⟨(d, .bool c) :: x, b, ds, own, F⟩) : O n ops fl (⟨some d, .binOp op 4 a a' t', ty, pos, af, none⟩ :: rest) K wk ⟨x, b, ds, own, F⟩ :=
  o_rd _ rfl (fun B w0 w hw => by
    unfold execOp
    cases op <;> cases p <;> cases q <;> simp only [eqbV, Option.some.injEq, reduceCtorEq] at hc <;> subst hc <;> simp [evx ha, evx ha', eqGuard, binOp, Result.andThen, run_equalb]) h
end
/-- A block of its own, read whole. -/
theorem rdsW {wk : List Ch} {F : Fz} {A : Addr} {r : Nat} {vs : List Value} [h : Of A r 0] (p : Nat) (hp : wk[p]? = some (.c r vs)) : Rds wk F A vs := rdsC p hp (fun i v hi => by rw [Nat.zero_add]; exact hi)
theorem Row.dest {F : Fz} {v : Value} {xs : List Value} (h : Row F v xs) : ∃ A c, v = .slice A xs.length c := by obtain ⟨A, c, e, _⟩ := h; exact ⟨A, c, e⟩
theorem RowM.dest {α : Type} {F : Fz} {v : Value} {f : α → Value} {z0 : α} {l : List α} (h : RowM F v f z0 l) : ∃ A c, v = .slice A l.length c := by
  obtain ⟨A, c, e⟩ := Row.dest h
  rw [List.length_map] at e
  exact ⟨A, c, e⟩

theorem tdiv_in64 {x g : Int} (hx : -9223372036854775807 ≤ x ∧ x ≤ 9223372036854775807) : inK .i64 (x.tdiv g) := by
  have h1 : (x.tdiv g).natAbs = x.natAbs / g.natAbs := Int.natAbs_tdiv x g
  have h2 : x.natAbs / g.natAbs ≤ x.natAbs := Nat.div_le_self _ _
  exact ⟨by omega, by omega⟩
theorem o_quoZ {n : Nat} {ops : Array Oper} {fl : Option (List Nat)} {rest : List Oper} {K : St → Prop} {wk : List Ch} {x : Fr} {b : Nat → Value} {ds : List Deferred} {own : List Ch} {F : Fz} {d ty : Nat} {pos : String} {af : Array Edge}
  {a a' : Operand} {t t' : Nat} {p q : Int} (ha : evS n x a = some (.int .i64 p)) (ha' : evS n x a' = some (.int .i64 q)) (hq : q ≠ 0) (hz : -9223372036854775807 ≤ p ∧ p ≤ 9223372036854775807) (h : O n ops fl rest K wk ⟨(d, .int .i64 (p.tdiv q)) :: x, b, ds, own, F⟩) : O n ops fl (⟨some d, .binOp .quo t a a' t', ty, pos, af, none⟩ :: rest) K wk ⟨x, b, ds, own, F⟩ :=
  o_quo ha ha' hq (tdiv_in64 hz) h
/-- A call that makes nothing: its answer is known where p holds. -/
class ScF (f : Nat) (args : List Value) (v : outParam Value) (p : outParam Prop) : Prop where
  h : p → ∀ F own, N f args own F fun v' own' F' => own' = own ∧ F' = F ∧ v' = v
theorem o_sc {n : Nat} {ops : Array Oper} {fl : Option (List Nat)} {rest : List Oper} {K : St → Prop} {wk : List Ch} {x : Fr} {b : Nat → Value} {ds : List Deferred} {own : List Ch} {F : Fz} {d ty : Nat} {pos : String} {af : Array Edge}
  {f : FuncId} {os : List Operand} {ats : Array TypeId} {vs : List Value} {v : Value} {p : Prop} [hf : Fn_ f] (ha : evL n x os = some vs) (hs : ScF f vs v p) (hp : p) (hsub : List.Sublist wk own)
  (h : O n ops fl rest K wk ⟨(d, v) :: x, b, ds, own, F⟩) :
    O n ops fl (⟨some d, .call { callee := .value (.func f), args := os.toArray, argTypes := ats }, ty, pos, af, none⟩ :: rest) K wk ⟨x, b, ds, own, F⟩ :=
  o_call ha (hs.h hp F own) (fun v' own' F' ⟨e1, e2, e3⟩ => ⟨wk, .keep (by rw [e1]; exact hsub) (by rw [e2]; exact Fle.refl _), by rw [e1, e2, e3]; exact h⟩) hsub

/-! ### straight on -/
inductive Wrp (Q : Prop) : Prop where | mk (h : Q)
theorem Wrp.out {Q : Prop} : Wrp Q → Q | ⟨h⟩ => h
/-- STRAIGHT ON. -/
theorem go {P Q : Prop} (k : Q) (h : Wrp Q → P := by
  intro hk
  repeat (first
    | (with_reducible co_applyP o_move
       · exact rfl)
    | (with_reducible co_applyP o_assign
       · exact rfl)
    | (with_reducible co_applyP o_nil
       · first | exact List.Sublist.refl _ | exact List.nil_sublist _ | exact List.Sublist.cons _ (List.Sublist.refl _) | exact .cons_cons _ (List.nil_sublist _) | exact .cons_cons _ (.cons_cons _ (List.nil_sublist _)) | exact .cons_cons _ (.cons_cons _ (.cons_cons _ (List.nil_sublist _))))
    | with_reducible co_applyP norm_Thn
    | with_reducible co_applyP norm_Inb
    | with_reducible co_applyP ret_Thn
    | with_reducible co_applyP ret_Inb
    | with_reducible co_applyP exit_Thn
    | (with_reducible co_applyP exit_InbS
       · exact rfl)
    | (with_reducible co_applyP exit_InbD
       · exact rfl)
    | with_reducible co_applyP c_seq
    | (with_reducible co_applyP c_txt
       · exact rfl
       · kernel_rfl)
    | (with_reducible co_applyP c_drw
       · exact rfl
       · decide +kernel)
    | with_reducible co_applyP c_block
    | (with_reducible co_applyP c_T
       · exact rfl
       · first | with_reducible rfl | assumption | (simp only [decide_eq_true_eq, decide_eq_false_iff_not, Bool.not_eq_true', Bool.not_true, Bool.not_false, Bool.not_eq_eq_eq_not] <;> first | assumption | omega))
    | (with_reducible co_applyP c_F
       · exact rfl
       · first | with_reducible rfl | assumption | (simp only [decide_eq_true_eq, decide_eq_false_iff_not, Bool.not_eq_true', Bool.not_true, Bool.not_false, Bool.not_eq_eq_eq_not] <;> first | assumption | omega))
    | with_reducible co_applyP c_skip
    | with_reducible co_applyP c_label
    | with_reducible co_applyP c_exit
    | with_reducible co_applyP c_ret
    | (with_reducible co_applyP o_gdT
       · exact rfl
       · exact rfl
       · exact rfl
       · first | with_reducible rfl | assumption | (simp only [decide_eq_true_eq, decide_eq_false_iff_not, Bool.not_eq_true', Bool.not_true, Bool.not_false, Bool.not_eq_eq_eq_not] <;> first | assumption | omega))
    | (with_reducible co_applyP o_gdF
       · exact rfl
       · exact rfl
       · exact rfl
       · first | with_reducible rfl | assumption | (simp only [decide_eq_true_eq, decide_eq_false_iff_not, Bool.not_eq_true', Bool.not_true, Bool.not_false, Bool.not_eq_eq_eq_not] <;> first | assumption | omega))
    | (with_reducible co_applyP o_gdU
       · exact rfl
       · exact rfl
       · exact rfl)
    | (with_reducible co_applyP o_len
       · exact rfl)
    | (with_reducible co_applyP o_lenm
       · exact rfl
       · assumption)
    | (with_reducible co_applyP o_lens
       · exact rfl
       · assumption)
    | (with_reducible co_applyP o_cmp
       · exact rfl
       · exact rfl
       · exact rfl)
    | (with_reducible co_applyP o_ar
       · exact rfl
       · exact rfl
       · exact rfl
       · exact ⟨by omega, by omega⟩)
    | (with_reducible co_applyP o_idxc1
       · exact rfl
       · exact rfl
       · infer_instance
       · first | exact True.intro | (simp only [true_and, and_true, and_self] <;> omega)
       · omega)
    | (with_reducible co_applyP o_idxc
       · exact rfl
       · exact rfl
       · infer_instance
       · first | exact True.intro | (simp only [true_and, and_true, and_self] <;> omega)
       · omega)
    | (with_reducible co_applyP o_idxo1
       · exact rfl
       · exact rfl
       · infer_instance
       · first | exact True.intro | (simp only [true_and, and_true, and_self] <;> omega)
       · omega)
    | (with_reducible co_applyP o_idxm
       · exact rfl
       · exact rfl
       · infer_instance
       · assumption
       · first | exact True.intro | (simp only [true_and, and_true, and_self] <;> omega)
       · omega)
    | (with_reducible co_applyP o_idxs
       · exact rfl
       · exact rfl
       · infer_instance
       · assumption
       · first | exact True.intro | (simp only [true_and, and_true, and_self] <;> omega)
       · omega)
    | (with_reducible co_applyP o_load
       · exact rfl
       · first | exact .inl (by assumption) | exact .inl (RowM.at (by assumption) (by omega)) | exact .inl (RowS.cell (by assumption) (by omega) rfl) | exact rdC 0 rfl rfl | exact rdC 1 rfl rfl | exact rdC 2 rfl rfl | exact rdC 3 rfl rfl | exact rdC 0 rfl (map_getD 0 (by omega)) | exact rdC 1 rfl (map_getD 0 (by omega)) | exact rdC 0 rfl (map_getD false (by omega)) | exact rdC 1 rfl (map_getD false (by omega)) | exact rdC 2 rfl (map_getD 0 (by omega)) | exact rdC 2 rfl (map_getD false (by omega)) | exact rdC 4 rfl rfl | exact rdC 5 rfl rfl | exact rdC 6 rfl rfl | exact rdC 3 rfl (map_getD false (by omega)) | exact rdC 4 rfl (map_getD false (by omega)) | exact rdC 3 rfl (map_getD 0 (by omega)) | exact rdC 4 rfl (map_getD 0 (by omega)))
    | (with_reducible co_applyP o_loada
       · exact rfl
       rotate_left
       · first | exact rdsW 0 rfl | exact rdsW 1 rfl | exact rdsW 2 rfl | exact rdsW 3 rfl | exact rdsW 4 rfl | exact rdsW 5 rfl | exact rdsW 6 rfl | exact Cs.rds (by assumption) | exact Cs.rds (RowS.at (by assumption) (by omega))
       rotate_left
       · exact rfl)
    | (with_reducible co_applyP o_eqb
       · exact rfl
       · exact rfl
       · exact rfl)
    | (with_reducible co_applyP o_build
       · exact rfl
       · exact rfl)
    | (with_reducible co_applyP o_fa
       · exact rfl)
    | (with_reducible co_applyP o_shl32
       · exact rfl
       · exact rfl
       · exact rfl
       · exact ⟨by omega, by omega⟩)
    | (with_reducible co_applyP o_orS
       · exact rfl
       · exact rfl
       · infer_instance
       · infer_instance
       · first | exact True.intro | (simp only [true_and, and_true, and_self] <;> omega)
       · first | exact True.intro | (simp only [true_and, and_true, and_self] <;> omega)
       · omega
       · omega
       · exact rfl
       · omega)
    | (with_reducible co_applyP o_orR
       · exact rfl
       · exact rfl
       · infer_instance
       · infer_instance
       · first | exact True.intro | (simp only [true_and, and_true, and_self] <;> omega)
       · first | exact True.intro | (simp only [true_and, and_true, and_self] <;> omega)
       · omega
       · omega
       · exact rfl
       · omega)
    | (with_reducible co_applyP o_quoN
       · exact rfl
       · exact rfl
       · infer_instance
       · infer_instance
       · first | exact True.intro | (simp only [true_and, and_true, and_self] <;> omega)
       · first | exact True.intro | (simp only [true_and, and_true, and_self] <;> omega)
       · omega
       · exact ⟨by omega, by omega⟩)
    | (with_reducible co_applyP o_remN
       · exact rfl
       · exact rfl
       · infer_instance
       · infer_instance
       · first | exact True.intro | (simp only [true_and, and_true, and_self] <;> omega)
       · first | exact True.intro | (simp only [true_and, and_true, and_self] <;> omega)
       · omega)
    | (with_reducible co_applyP o_and32
       · exact rfl
       · exact rfl
       · infer_instance
       · first | exact True.intro | (simp only [true_and, and_true, and_self] <;> omega)
       · exact rfl
       · omega)
    | (with_reducible co_applyP o_bits
       · exact rfl
       · exact rfl
       · infer_instance
       · infer_instance
       · exact rfl
       · first | exact True.intro | (simp only [true_and, and_true, and_self] <;> omega)
       · first | exact True.intro | (simp only [true_and, and_true, and_self] <;> omega)
       · simp only [IntKind.bits]; omega
       · simp only [IntKind.bits]; omega
       · exact rfl)
    | (with_reducible co_applyP o_convK
       · exact rfl
       · exact ⟨by omega, by omega⟩)
    | (with_reducible co_applyP o_conv32
       · exact rfl)
    | (with_reducible co_applyP o_shr32
       · exact rfl
       · exact rfl
       · exact rfl)
    | (with_reducible co_applyP o_shrN
       · exact rfl
       · exact rfl
       · infer_instance
       · first | exact True.intro | (simp only [true_and, and_true, and_self] <;> omega)
       · first | decide | (simp only [IntKind.bits]; omega))
    | (with_reducible co_applyP o_nilp
       · exact rfl)
    | (with_reducible co_applyP o_nilf
       · exact rfl)
    | (with_reducible co_applyP o_mkf
       · exact rfl
       · exact rfl)
    | (with_reducible co_applyP o_neg
       · exact rfl
       · exact ⟨by omega, by omega⟩)
    | (with_reducible co_applyP o_ext
       · exact rfl
       · exact rfl)
    | (with_reducible co_applyP o_not
       · exact rfl)
    | (with_reducible co_applyP o_sc
       · exact rfl
       · infer_instance
       · first | exact True.intro | assumption | omega | (simp only [true_and, and_true, and_self] <;> omega)
       · first | exact List.Sublist.refl _ | exact List.nil_sublist _ | exact List.Sublist.cons _ (List.Sublist.refl _) | exact .cons_cons _ (List.nil_sublist _) | exact .cons_cons _ (.cons_cons _ (List.nil_sublist _)) | exact .cons_cons _ (.cons_cons _ (.cons_cons _ (List.nil_sublist _))))
    | (with_reducible co_applyP o_pickt
       · exact rfl
       · exact rfl)
    | (with_reducible co_applyP o_quoZ
       · exact rfl
       · exact rfl
       · first | assumption | omega
       · omega)
    | (with_reducible co_applyP o_rem
       · exact rfl
       · exact rfl
       · first | assumption | omega)
    | (with_reducible co_applyP o_pickf
       · exact rfl
       · exact rfl)
    | (with_reducible co_applyP o_allocN
       · first | exact List.Sublist.refl _ | exact List.nil_sublist _ | exact List.Sublist.cons _ (List.Sublist.refl _) | exact List.Sublist.cons _ (List.Sublist.cons _ (List.Sublist.refl _)) | exact List.Sublist.cons _ (List.Sublist.cons _ (List.Sublist.cons _ (List.Sublist.refl _))) | exact .cons_cons _ (List.nil_sublist _) | exact .cons_cons _ (.cons_cons _ (List.nil_sublist _)) | exact .cons_cons _ (.cons_cons _ (.cons_cons _ (List.nil_sublist _)))
       · first | exact fun _ => Wk.text | exact fun _ => Wk.keep (by first | exact List.Sublist.refl _ | exact List.nil_sublist _ | exact List.Sublist.cons _ (List.Sublist.refl _) | exact .cons_cons _ (List.nil_sublist _) | exact .cons_cons _ (.cons_cons _ (List.nil_sublist _)) | exact .cons_cons _ (.cons_cons _ (.cons_cons _ (List.nil_sublist _)))) (Fle.refl _) | exact fun _ => Wk.keep (by first | exact List.Sublist.cons _ (List.Sublist.refl _) | exact List.Sublist.cons _ (List.Sublist.cons _ (List.Sublist.refl _)) | exact List.Sublist.cons _ (List.Sublist.cons _ (List.Sublist.cons _ (List.Sublist.refl _)))) (Fle.refl _) | exact fun _ => Wk.late _ (by decide +kernel) (List.Sublist.refl _)
       intro rGo)
    | (with_reducible co_applyP o_boxN
       · exact rfl
       · exact rfl
       · first | exact List.Sublist.refl _ | exact List.nil_sublist _ | exact List.Sublist.cons _ (List.Sublist.refl _) | exact List.Sublist.cons _ (List.Sublist.cons _ (List.Sublist.refl _)) | exact List.Sublist.cons _ (List.Sublist.cons _ (List.Sublist.cons _ (List.Sublist.refl _))) | exact .cons_cons _ (List.nil_sublist _) | exact .cons_cons _ (.cons_cons _ (List.nil_sublist _)) | exact .cons_cons _ (.cons_cons _ (.cons_cons _ (List.nil_sublist _)))
       · first | exact fun _ => Wk.text | exact fun _ => Wk.keep (by first | exact List.Sublist.refl _ | exact List.nil_sublist _ | exact List.Sublist.cons _ (List.Sublist.refl _) | exact .cons_cons _ (List.nil_sublist _) | exact .cons_cons _ (.cons_cons _ (List.nil_sublist _)) | exact .cons_cons _ (.cons_cons _ (.cons_cons _ (List.nil_sublist _)))) (Fle.refl _) | exact fun _ => Wk.keep (by first | exact List.Sublist.cons _ (List.Sublist.refl _) | exact List.Sublist.cons _ (List.Sublist.cons _ (List.Sublist.refl _)) | exact List.Sublist.cons _ (List.Sublist.cons _ (List.Sublist.cons _ (List.Sublist.refl _)))) (Fle.refl _) | exact fun _ => Wk.late _ (by decide +kernel) (List.Sublist.refl _)
       intro rGo)
    | (with_reducible co_applyP o_boxaN
       · exact rfl
       · first | exact List.Sublist.refl _ | exact List.nil_sublist _ | exact List.Sublist.cons _ (List.Sublist.refl _) | exact List.Sublist.cons _ (List.Sublist.cons _ (List.Sublist.refl _)) | exact List.Sublist.cons _ (List.Sublist.cons _ (List.Sublist.cons _ (List.Sublist.refl _))) | exact .cons_cons _ (List.nil_sublist _) | exact .cons_cons _ (.cons_cons _ (List.nil_sublist _)) | exact .cons_cons _ (.cons_cons _ (.cons_cons _ (List.nil_sublist _)))
       · first | exact fun _ => Wk.text | exact fun _ => Wk.keep (by first | exact List.Sublist.refl _ | exact List.nil_sublist _ | exact List.Sublist.cons _ (List.Sublist.refl _) | exact .cons_cons _ (List.nil_sublist _) | exact .cons_cons _ (.cons_cons _ (List.nil_sublist _)) | exact .cons_cons _ (.cons_cons _ (.cons_cons _ (List.nil_sublist _)))) (Fle.refl _) | exact fun _ => Wk.keep (by first | exact List.Sublist.cons _ (List.Sublist.refl _) | exact List.Sublist.cons _ (List.Sublist.cons _ (List.Sublist.refl _)) | exact List.Sublist.cons _ (List.Sublist.cons _ (List.Sublist.cons _ (List.Sublist.refl _)))) (Fle.refl _) | exact fun _ => Wk.late _ (by decide +kernel) (List.Sublist.refl _)
       intro rGo)
    | (with_reducible co_applyP o_stL
       · exact rfl
       · infer_instance
       · exact rfl
       · exact rfl
       · first | exact get0 | exact get1 | exact get2 | exact get3 | exact get4 | exact get5 | exact get6
       · exact rfl
       · exact rfl
       · first | decide | exact Nat.le_of_ble_eq_true rfl | (rw [List.length_map]; omega) | (simp only [List.length_append, List.length_map, List.length_replicate, List.length_cons, List.length_set, List.length_nil]; omega)
       · first | exact List.Sublist.refl _ | exact List.nil_sublist _ | exact List.Sublist.cons _ (List.Sublist.refl _) | exact .cons_cons _ (List.nil_sublist _) | exact .cons_cons _ (.cons_cons _ (List.nil_sublist _)) | exact .cons_cons _ (.cons_cons _ (.cons_cons _ (List.nil_sublist _)))
       · first | exact Wk.text | exact Wk.keep (by first | exact List.Sublist.refl _ | exact List.nil_sublist _ | exact List.Sublist.cons _ (List.Sublist.refl _) | exact .cons_cons _ (List.nil_sublist _) | exact .cons_cons _ (.cons_cons _ (List.nil_sublist _)) | exact .cons_cons _ (.cons_cons _ (.cons_cons _ (List.nil_sublist _)))) (Fle.refl _) | exact Wk.late _ (by decide +kernel) (List.Sublist.refl _))
    | (with_reducible co_applyP o_stN
       · exact rfl
       · infer_instance
       · exact rfl
       · exact rfl
       · first | exact get0 | exact get1 | exact get2 | exact get3 | exact get4 | exact get5 | exact get6
       · exact rfl
       · first | decide | exact Nat.le_of_ble_eq_true rfl | (rw [List.length_map]; omega) | (simp only [List.length_append, List.length_map, List.length_replicate, List.length_cons, List.length_set, List.length_nil]; omega)
       · first | exact List.Sublist.refl _ | exact List.nil_sublist _ | exact List.Sublist.cons _ (List.Sublist.refl _) | exact .cons_cons _ (List.nil_sublist _) | exact .cons_cons _ (.cons_cons _ (List.nil_sublist _)) | exact .cons_cons _ (.cons_cons _ (.cons_cons _ (List.nil_sublist _)))
       · first | exact Wk.text | exact Wk.keep (by first | exact List.Sublist.refl _ | exact List.nil_sublist _ | exact List.Sublist.cons _ (List.Sublist.refl _) | exact .cons_cons _ (List.nil_sublist _) | exact .cons_cons _ (.cons_cons _ (List.nil_sublist _)) | exact .cons_cons _ (.cons_cons _ (.cons_cons _ (List.nil_sublist _)))) (Fle.refl _) | exact Wk.late _ (by decide +kernel) (List.Sublist.refl _))
    | (with_reducible co_applyP o_staF
       · exact rfl
       · infer_instance
       · exact rfl
       · exact rfl
       · exact rfl
       · first | exact get0 | exact get1 | exact get2 | exact get3 | exact get4 | exact get5 | exact get6
       · exact rfl
       · exact rfl
       · first | exact List.Sublist.refl _ | exact List.nil_sublist _ | exact List.Sublist.cons _ (List.Sublist.refl _) | exact .cons_cons _ (List.nil_sublist _) | exact .cons_cons _ (.cons_cons _ (List.nil_sublist _)) | exact .cons_cons _ (.cons_cons _ (.cons_cons _ (List.nil_sublist _)))
       · first | exact Wk.text | exact Wk.keep (by first | exact List.Sublist.refl _ | exact List.nil_sublist _ | exact List.Sublist.cons _ (List.Sublist.refl _) | exact .cons_cons _ (List.nil_sublist _) | exact .cons_cons _ (.cons_cons _ (List.nil_sublist _)) | exact .cons_cons _ (.cons_cons _ (.cons_cons _ (List.nil_sublist _)))) (Fle.refl _) | exact Wk.late _ (by decide +kernel) (List.Sublist.refl _))
    | (with_reducible co_applyP o_staL
       · exact rfl
       · infer_instance
       · exact rfl
       · exact rfl
       · exact rfl
       · first | exact get0 | exact get1 | exact get2 | exact get3 | exact get4 | exact get5 | exact get6
       · exact rfl
       · exact rfl
       · first | decide | exact Nat.le_of_ble_eq_true rfl | (rw [List.length_map]; omega) | (simp only [List.length_append, List.length_map, List.length_replicate, List.length_cons, List.length_set, List.length_nil]; omega)
       · first | exact List.Sublist.refl _ | exact List.nil_sublist _ | exact List.Sublist.cons _ (List.Sublist.refl _) | exact .cons_cons _ (List.nil_sublist _) | exact .cons_cons _ (.cons_cons _ (List.nil_sublist _)) | exact .cons_cons _ (.cons_cons _ (.cons_cons _ (List.nil_sublist _)))
       · first | exact Wk.text | exact Wk.keep (by first | exact List.Sublist.refl _ | exact List.nil_sublist _ | exact List.Sublist.cons _ (List.Sublist.refl _) | exact .cons_cons _ (List.nil_sublist _) | exact .cons_cons _ (.cons_cons _ (List.nil_sublist _)) | exact .cons_cons _ (.cons_cons _ (.cons_cons _ (List.nil_sublist _)))) (Fle.refl _) | exact Wk.late _ (by decide +kernel) (List.Sublist.refl _))
    | (with_reducible co_applyP o_staN
       · exact rfl
       · infer_instance
       · exact rfl
       · exact rfl
       · exact rfl
       · first | exact get0 | exact get1 | exact get2 | exact get3 | exact get4 | exact get5 | exact get6
       · exact rfl
       · first | decide | exact Nat.le_of_ble_eq_true rfl | (rw [List.length_map]; omega) | (simp only [List.length_append, List.length_map, List.length_replicate, List.length_cons, List.length_set, List.length_nil]; omega)
       · first | exact List.Sublist.refl _ | exact List.nil_sublist _ | exact List.Sublist.cons _ (List.Sublist.refl _) | exact .cons_cons _ (List.nil_sublist _) | exact .cons_cons _ (.cons_cons _ (List.nil_sublist _)) | exact .cons_cons _ (.cons_cons _ (.cons_cons _ (List.nil_sublist _)))
       · first | exact Wk.text | exact Wk.keep (by first | exact List.Sublist.refl _ | exact List.nil_sublist _ | exact List.Sublist.cons _ (List.Sublist.refl _) | exact .cons_cons _ (List.nil_sublist _) | exact .cons_cons _ (.cons_cons _ (List.nil_sublist _)) | exact .cons_cons _ (.cons_cons _ (.cons_cons _ (List.nil_sublist _)))) (Fle.refl _) | exact Wk.late _ (by decide +kernel) (List.Sublist.refl _)))
  repeat revert rGo
  exact hk.out) : P := h ⟨k⟩
/-- .. up to a drawn region. -/
theorem goT {P Q : Prop} (k : Q) (h : Wrp Q → P := by
  intro hk
  repeat (first
    | (with_reducible co_applyP o_move
       · exact rfl)
    | (with_reducible co_applyP o_assign
       · exact rfl)
    | (with_reducible co_applyP o_nil
       · first | exact List.Sublist.refl _ | exact List.nil_sublist _ | exact List.Sublist.cons _ (List.Sublist.refl _) | exact .cons_cons _ (List.nil_sublist _) | exact .cons_cons _ (.cons_cons _ (List.nil_sublist _)) | exact .cons_cons _ (.cons_cons _ (.cons_cons _ (List.nil_sublist _))))
    | with_reducible co_applyP norm_Thn
    | with_reducible co_applyP norm_Inb
    | with_reducible co_applyP ret_Thn
    | with_reducible co_applyP ret_Inb
    | with_reducible co_applyP exit_Thn
    | (with_reducible co_applyP exit_InbS
       · exact rfl)
    | (with_reducible co_applyP exit_InbD
       · exact rfl)
    | with_reducible co_applyP c_seq
    | (with_reducible co_applyP c_txt
       · exact rfl
       · kernel_rfl)
    | with_reducible co_applyP c_block
    | (with_reducible co_applyP c_T
       · exact rfl
       · first | with_reducible rfl | assumption | (simp only [decide_eq_true_eq, decide_eq_false_iff_not, Bool.not_eq_true', Bool.not_true, Bool.not_false, Bool.not_eq_eq_eq_not] <;> first | assumption | omega))
    | (with_reducible co_applyP c_F
       · exact rfl
       · first | with_reducible rfl | assumption | (simp only [decide_eq_true_eq, decide_eq_false_iff_not, Bool.not_eq_true', Bool.not_true, Bool.not_false, Bool.not_eq_eq_eq_not] <;> first | assumption | omega))
    | with_reducible co_applyP c_skip
    | with_reducible co_applyP c_label
    | with_reducible co_applyP c_exit
    | with_reducible co_applyP c_ret
    | (with_reducible co_applyP o_gdT
       · exact rfl
       · exact rfl
       · exact rfl
       · first | with_reducible rfl | assumption | (simp only [decide_eq_true_eq, decide_eq_false_iff_not, Bool.not_eq_true', Bool.not_true, Bool.not_false, Bool.not_eq_eq_eq_not] <;> first | assumption | omega))
    | (with_reducible co_applyP o_gdF
       · exact rfl
       · exact rfl
       · exact rfl
       · first | with_reducible rfl | assumption | (simp only [decide_eq_true_eq, decide_eq_false_iff_not, Bool.not_eq_true', Bool.not_true, Bool.not_false, Bool.not_eq_eq_eq_not] <;> first | assumption | omega))
    | (with_reducible co_applyP o_gdU
       · exact rfl
       · exact rfl
       · exact rfl)
    | (with_reducible co_applyP o_len
       · exact rfl)
    | (with_reducible co_applyP o_lenm
       · exact rfl
       · assumption)
    | (with_reducible co_applyP o_lens
       · exact rfl
       · assumption)
    | (with_reducible co_applyP o_cmp
       · exact rfl
       · exact rfl
       · exact rfl)
    | (with_reducible co_applyP o_ar
       · exact rfl
       · exact rfl
       · exact rfl
       · exact ⟨by omega, by omega⟩)
    | (with_reducible co_applyP o_idxc1
       · exact rfl
       · exact rfl
       · infer_instance
       · first | exact True.intro | (simp only [true_and, and_true, and_self] <;> omega)
       · omega)
    | (with_reducible co_applyP o_idxc
       · exact rfl
       · exact rfl
       · infer_instance
       · first | exact True.intro | (simp only [true_and, and_true, and_self] <;> omega)
       · omega)
    | (with_reducible co_applyP o_idxo1
       · exact rfl
       · exact rfl
       · infer_instance
       · first | exact True.intro | (simp only [true_and, and_true, and_self] <;> omega)
       · omega)
    | (with_reducible co_applyP o_idxm
       · exact rfl
       · exact rfl
       · infer_instance
       · assumption
       · first | exact True.intro | (simp only [true_and, and_true, and_self] <;> omega)
       · omega)
    | (with_reducible co_applyP o_idxs
       · exact rfl
       · exact rfl
       · infer_instance
       · assumption
       · first | exact True.intro | (simp only [true_and, and_true, and_self] <;> omega)
       · omega)
    | (with_reducible co_applyP o_load
       · exact rfl
       · first | exact .inl (by assumption) | exact .inl (RowM.at (by assumption) (by omega)) | exact .inl (RowS.cell (by assumption) (by omega) rfl) | exact rdC 0 rfl rfl | exact rdC 1 rfl rfl | exact rdC 2 rfl rfl | exact rdC 3 rfl rfl | exact rdC 0 rfl (map_getD 0 (by omega)) | exact rdC 1 rfl (map_getD 0 (by omega)) | exact rdC 0 rfl (map_getD false (by omega)) | exact rdC 1 rfl (map_getD false (by omega)) | exact rdC 2 rfl (map_getD 0 (by omega)) | exact rdC 2 rfl (map_getD false (by omega)) | exact rdC 4 rfl rfl | exact rdC 5 rfl rfl | exact rdC 6 rfl rfl | exact rdC 3 rfl (map_getD false (by omega)) | exact rdC 4 rfl (map_getD false (by omega)) | exact rdC 3 rfl (map_getD 0 (by omega)) | exact rdC 4 rfl (map_getD 0 (by omega)))
    | (with_reducible co_applyP o_loada
       · exact rfl
       rotate_left
       · first | exact rdsW 0 rfl | exact rdsW 1 rfl | exact rdsW 2 rfl | exact rdsW 3 rfl | exact rdsW 4 rfl | exact rdsW 5 rfl | exact rdsW 6 rfl | exact Cs.rds (by assumption) | exact Cs.rds (RowS.at (by assumption) (by omega))
       rotate_left
       · exact rfl)
    | (with_reducible co_applyP o_eqb
       · exact rfl
       · exact rfl
       · exact rfl)
    | (with_reducible co_applyP o_build
       · exact rfl
       · exact rfl)
    | (with_reducible co_applyP o_fa
       · exact rfl)
    | (with_reducible co_applyP o_shl32
       · exact rfl
       · exact rfl
       · exact rfl
       · exact ⟨by omega, by omega⟩)
    | (with_reducible co_applyP o_orS
       · exact rfl
       · exact rfl
       · infer_instance
       · infer_instance
       · first | exact True.intro | (simp only [true_and, and_true, and_self] <;> omega)
       · first | exact True.intro | (simp only [true_and, and_true, and_self] <;> omega)
       · omega
       · omega
       · exact rfl
       · omega)
    | (with_reducible co_applyP o_orR
       · exact rfl
       · exact rfl
       · infer_instance
       · infer_instance
       · first | exact True.intro | (simp only [true_and, and_true, and_self] <;> omega)
       · first | exact True.intro | (simp only [true_and, and_true, and_self] <;> omega)
       · omega
       · omega
       · exact rfl
       · omega)
    | (with_reducible co_applyP o_quoN
       · exact rfl
       · exact rfl
       · infer_instance
       · infer_instance
       · first | exact True.intro | (simp only [true_and, and_true, and_self] <;> omega)
       · first | exact True.intro | (simp only [true_and, and_true, and_self] <;> omega)
       · omega
       · exact ⟨by omega, by omega⟩)
    | (with_reducible co_applyP o_remN
       · exact rfl
       · exact rfl
       · infer_instance
       · infer_instance
       · first | exact True.intro | (simp only [true_and, and_true, and_self] <;> omega)
       · first | exact True.intro | (simp only [true_and, and_true, and_self] <;> omega)
       · omega)
    | (with_reducible co_applyP o_and32
       · exact rfl
       · exact rfl
       · infer_instance
       · first | exact True.intro | (simp only [true_and, and_true, and_self] <;> omega)
       · exact rfl
       · omega)
    | (with_reducible co_applyP o_bits
       · exact rfl
       · exact rfl
       · infer_instance
       · infer_instance
       · exact rfl
       · first | exact True.intro | (simp only [true_and, and_true, and_self] <;> omega)
       · first | exact True.intro | (simp only [true_and, and_true, and_self] <;> omega)
       · simp only [IntKind.bits]; omega
       · simp only [IntKind.bits]; omega
       · exact rfl)
    | (with_reducible co_applyP o_convK
       · exact rfl
       · exact ⟨by omega, by omega⟩)
    | (with_reducible co_applyP o_conv32
       · exact rfl)
    | (with_reducible co_applyP o_shr32
       · exact rfl
       · exact rfl
       · exact rfl)
    | (with_reducible co_applyP o_shrN
       · exact rfl
       · exact rfl
       · infer_instance
       · first | exact True.intro | (simp only [true_and, and_true, and_self] <;> omega)
       · first | decide | (simp only [IntKind.bits]; omega))
    | (with_reducible co_applyP o_nilp
       · exact rfl)
    | (with_reducible co_applyP o_nilf
       · exact rfl)
    | (with_reducible co_applyP o_mkf
       · exact rfl
       · exact rfl)
    | (with_reducible co_applyP o_neg
       · exact rfl
       · exact ⟨by omega, by omega⟩)
    | (with_reducible co_applyP o_ext
       · exact rfl
       · exact rfl)
    | (with_reducible co_applyP o_not
       · exact rfl)
    | (with_reducible co_applyP o_sc
       · exact rfl
       · infer_instance
       · first | exact True.intro | assumption | omega | (simp only [true_and, and_true, and_self] <;> omega)
       · first | exact List.Sublist.refl _ | exact List.nil_sublist _ | exact List.Sublist.cons _ (List.Sublist.refl _) | exact .cons_cons _ (List.nil_sublist _) | exact .cons_cons _ (.cons_cons _ (List.nil_sublist _)) | exact .cons_cons _ (.cons_cons _ (.cons_cons _ (List.nil_sublist _))))
    | (with_reducible co_applyP o_pickt
       · exact rfl
       · exact rfl)
    | (with_reducible co_applyP o_quoZ
       · exact rfl
       · exact rfl
       · first | assumption | omega
       · omega)
    | (with_reducible co_applyP o_rem
       · exact rfl
       · exact rfl
       · first | assumption | omega)
    | (with_reducible co_applyP o_pickf
       · exact rfl
       · exact rfl)
    | (with_reducible co_applyP o_allocN
       · first | exact List.Sublist.refl _ | exact List.nil_sublist _ | exact List.Sublist.cons _ (List.Sublist.refl _) | exact List.Sublist.cons _ (List.Sublist.cons _ (List.Sublist.refl _)) | exact List.Sublist.cons _ (List.Sublist.cons _ (List.Sublist.cons _ (List.Sublist.refl _))) | exact .cons_cons _ (List.nil_sublist _) | exact .cons_cons _ (.cons_cons _ (List.nil_sublist _)) | exact .cons_cons _ (.cons_cons _ (.cons_cons _ (List.nil_sublist _)))
       · first | exact fun _ => Wk.text | exact fun _ => Wk.keep (by first | exact List.Sublist.refl _ | exact List.nil_sublist _ | exact List.Sublist.cons _ (List.Sublist.refl _) | exact .cons_cons _ (List.nil_sublist _) | exact .cons_cons _ (.cons_cons _ (List.nil_sublist _)) | exact .cons_cons _ (.cons_cons _ (.cons_cons _ (List.nil_sublist _)))) (Fle.refl _) | exact fun _ => Wk.keep (by first | exact List.Sublist.cons _ (List.Sublist.refl _) | exact List.Sublist.cons _ (List.Sublist.cons _ (List.Sublist.refl _)) | exact List.Sublist.cons _ (List.Sublist.cons _ (List.Sublist.cons _ (List.Sublist.refl _)))) (Fle.refl _) | exact fun _ => Wk.late _ (by decide +kernel) (List.Sublist.refl _)
       intro rGo)
    | (with_reducible co_applyP o_boxN
       · exact rfl
       · exact rfl
       · first | exact List.Sublist.refl _ | exact List.nil_sublist _ | exact List.Sublist.cons _ (List.Sublist.refl _) | exact List.Sublist.cons _ (List.Sublist.cons _ (List.Sublist.refl _)) | exact List.Sublist.cons _ (List.Sublist.cons _ (List.Sublist.cons _ (List.Sublist.refl _))) | exact .cons_cons _ (List.nil_sublist _) | exact .cons_cons _ (.cons_cons _ (List.nil_sublist _)) | exact .cons_cons _ (.cons_cons _ (.cons_cons _ (List.nil_sublist _)))
       · first | exact fun _ => Wk.text | exact fun _ => Wk.keep (by first | exact List.Sublist.refl _ | exact List.nil_sublist _ | exact List.Sublist.cons _ (List.Sublist.refl _) | exact .cons_cons _ (List.nil_sublist _) | exact .cons_cons _ (.cons_cons _ (List.nil_sublist _)) | exact .cons_cons _ (.cons_cons _ (.cons_cons _ (List.nil_sublist _)))) (Fle.refl _) | exact fun _ => Wk.keep (by first | exact List.Sublist.cons _ (List.Sublist.refl _) | exact List.Sublist.cons _ (List.Sublist.cons _ (List.Sublist.refl _)) | exact List.Sublist.cons _ (List.Sublist.cons _ (List.Sublist.cons _ (List.Sublist.refl _)))) (Fle.refl _) | exact fun _ => Wk.late _ (by decide +kernel) (List.Sublist.refl _)
       intro rGo)
    | (with_reducible co_applyP o_boxaN
       · exact rfl
       · first | exact List.Sublist.refl _ | exact List.nil_sublist _ | exact List.Sublist.cons _ (List.Sublist.refl _) | exact List.Sublist.cons _ (List.Sublist.cons _ (List.Sublist.refl _)) | exact List.Sublist.cons _ (List.Sublist.cons _ (List.Sublist.cons _ (List.Sublist.refl _))) | exact .cons_cons _ (List.nil_sublist _) | exact .cons_cons _ (.cons_cons _ (List.nil_sublist _)) | exact .cons_cons _ (.cons_cons _ (.cons_cons _ (List.nil_sublist _)))
       · first | exact fun _ => Wk.text | exact fun _ => Wk.keep (by first | exact List.Sublist.refl _ | exact List.nil_sublist _ | exact List.Sublist.cons _ (List.Sublist.refl _) | exact .cons_cons _ (List.nil_sublist _) | exact .cons_cons _ (.cons_cons _ (List.nil_sublist _)) | exact .cons_cons _ (.cons_cons _ (.cons_cons _ (List.nil_sublist _)))) (Fle.refl _) | exact fun _ => Wk.keep (by first | exact List.Sublist.cons _ (List.Sublist.refl _) | exact List.Sublist.cons _ (List.Sublist.cons _ (List.Sublist.refl _)) | exact List.Sublist.cons _ (List.Sublist.cons _ (List.Sublist.cons _ (List.Sublist.refl _)))) (Fle.refl _) | exact fun _ => Wk.late _ (by decide +kernel) (List.Sublist.refl _)
       intro rGo)
    | (with_reducible co_applyP o_stL
       · exact rfl
       · infer_instance
       · exact rfl
       · exact rfl
       · first | exact get0 | exact get1 | exact get2 | exact get3 | exact get4 | exact get5 | exact get6
       · exact rfl
       · exact rfl
       · first | decide | exact Nat.le_of_ble_eq_true rfl | (rw [List.length_map]; omega) | (simp only [List.length_append, List.length_map, List.length_replicate, List.length_cons, List.length_set, List.length_nil]; omega)
       · first | exact List.Sublist.refl _ | exact List.nil_sublist _ | exact List.Sublist.cons _ (List.Sublist.refl _) | exact .cons_cons _ (List.nil_sublist _) | exact .cons_cons _ (.cons_cons _ (List.nil_sublist _)) | exact .cons_cons _ (.cons_cons _ (.cons_cons _ (List.nil_sublist _)))
       · first | exact Wk.text | exact Wk.keep (by first | exact List.Sublist.refl _ | exact List.nil_sublist _ | exact List.Sublist.cons _ (List.Sublist.refl _) | exact .cons_cons _ (List.nil_sublist _) | exact .cons_cons _ (.cons_cons _ (List.nil_sublist _)) | exact .cons_cons _ (.cons_cons _ (.cons_cons _ (List.nil_sublist _)))) (Fle.refl _) | exact Wk.late _ (by decide +kernel) (List.Sublist.refl _))
    | (with_reducible co_applyP o_stN
       · exact rfl
       · infer_instance
       · exact rfl
       · exact rfl
       · first | exact get0 | exact get1 | exact get2 | exact get3 | exact get4 | exact get5 | exact get6
       · exact rfl
       · first | decide | exact Nat.le_of_ble_eq_true rfl | (rw [List.length_map]; omega) | (simp only [List.length_append, List.length_map, List.length_replicate, List.length_cons, List.length_set, List.length_nil]; omega)
       · first | exact List.Sublist.refl _ | exact List.nil_sublist _ | exact List.Sublist.cons _ (List.Sublist.refl _) | exact .cons_cons _ (List.nil_sublist _) | exact .cons_cons _ (.cons_cons _ (List.nil_sublist _)) | exact .cons_cons _ (.cons_cons _ (.cons_cons _ (List.nil_sublist _)))
       · first | exact Wk.text | exact Wk.keep (by first | exact List.Sublist.refl _ | exact List.nil_sublist _ | exact List.Sublist.cons _ (List.Sublist.refl _) | exact .cons_cons _ (List.nil_sublist _) | exact .cons_cons _ (.cons_cons _ (List.nil_sublist _)) | exact .cons_cons _ (.cons_cons _ (.cons_cons _ (List.nil_sublist _)))) (Fle.refl _) | exact Wk.late _ (by decide +kernel) (List.Sublist.refl _))
    | (with_reducible co_applyP o_staF
       · exact rfl
       · infer_instance
       · exact rfl
       · exact rfl
       · exact rfl
       · first | exact get0 | exact get1 | exact get2 | exact get3 | exact get4 | exact get5 | exact get6
       · exact rfl
       · exact rfl
       · first | exact List.Sublist.refl _ | exact List.nil_sublist _ | exact List.Sublist.cons _ (List.Sublist.refl _) | exact .cons_cons _ (List.nil_sublist _) | exact .cons_cons _ (.cons_cons _ (List.nil_sublist _)) | exact .cons_cons _ (.cons_cons _ (.cons_cons _ (List.nil_sublist _)))
       · first | exact Wk.text | exact Wk.keep (by first | exact List.Sublist.refl _ | exact List.nil_sublist _ | exact List.Sublist.cons _ (List.Sublist.refl _) | exact .cons_cons _ (List.nil_sublist _) | exact .cons_cons _ (.cons_cons _ (List.nil_sublist _)) | exact .cons_cons _ (.cons_cons _ (.cons_cons _ (List.nil_sublist _)))) (Fle.refl _) | exact Wk.late _ (by decide +kernel) (List.Sublist.refl _))
    | (with_reducible co_applyP o_staL
       · exact rfl
       · infer_instance
       · exact rfl
       · exact rfl
       · exact rfl
       · first | exact get0 | exact get1 | exact get2 | exact get3 | exact get4 | exact get5 | exact get6
       · exact rfl
       · exact rfl
       · first | decide | exact Nat.le_of_ble_eq_true rfl | (rw [List.length_map]; omega) | (simp only [List.length_append, List.length_map, List.length_replicate, List.length_cons, List.length_set, List.length_nil]; omega)
       · first | exact List.Sublist.refl _ | exact List.nil_sublist _ | exact List.Sublist.cons _ (List.Sublist.refl _) | exact .cons_cons _ (List.nil_sublist _) | exact .cons_cons _ (.cons_cons _ (List.nil_sublist _)) | exact .cons_cons _ (.cons_cons _ (.cons_cons _ (List.nil_sublist _)))
       · first | exact Wk.text | exact Wk.keep (by first | exact List.Sublist.refl _ | exact List.nil_sublist _ | exact List.Sublist.cons _ (List.Sublist.refl _) | exact .cons_cons _ (List.nil_sublist _) | exact .cons_cons _ (.cons_cons _ (List.nil_sublist _)) | exact .cons_cons _ (.cons_cons _ (.cons_cons _ (List.nil_sublist _)))) (Fle.refl _) | exact Wk.late _ (by decide +kernel) (List.Sublist.refl _))
    | (with_reducible co_applyP o_staN
       · exact rfl
       · infer_instance
       · exact rfl
       · exact rfl
       · exact rfl
       · first | exact get0 | exact get1 | exact get2 | exact get3 | exact get4 | exact get5 | exact get6
       · exact rfl
       · first | decide | exact Nat.le_of_ble_eq_true rfl | (rw [List.length_map]; omega) | (simp only [List.length_append, List.length_map, List.length_replicate, List.length_cons, List.length_set, List.length_nil]; omega)
       · first | exact List.Sublist.refl _ | exact List.nil_sublist _ | exact List.Sublist.cons _ (List.Sublist.refl _) | exact .cons_cons _ (List.nil_sublist _) | exact .cons_cons _ (.cons_cons _ (List.nil_sublist _)) | exact .cons_cons _ (.cons_cons _ (.cons_cons _ (List.nil_sublist _)))
       · first | exact Wk.text | exact Wk.keep (by first | exact List.Sublist.refl _ | exact List.nil_sublist _ | exact List.Sublist.cons _ (List.Sublist.refl _) | exact .cons_cons _ (List.nil_sublist _) | exact .cons_cons _ (.cons_cons _ (List.nil_sublist _)) | exact .cons_cons _ (.cons_cons _ (.cons_cons _ (List.nil_sublist _)))) (Fle.refl _) | exact Wk.late _ (by decide +kernel) (List.Sublist.refl _)))
  repeat revert rGo
  exact hk.out) : P := h ⟨k⟩
end Go.Proofs.YthkoodpnepfijaaGreatDoor
