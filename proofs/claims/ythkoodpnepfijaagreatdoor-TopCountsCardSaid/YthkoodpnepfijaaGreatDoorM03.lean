/-
  Steps towards TopCounts (no conditions of their own): THE RULES, on: reading memory; addresses; the rest of arithmetic. THE RULES, on: what acts: stores, new blocks, appends, calls.
-/
import Derived.Test.YthkoodpnepfijaaGreatDoorM02
/- V5: THE RULES, on: reading memory; addresses; the rest of arithmetic. -/
namespace Go.Proofs.YthkoodpnepfijaaGreatDoor
open Go.RowKit
set_option linter.unusedVariables false
set_option linter.unusedSimpArgs false

/-- An address in a block. -/
class Of (A : Addr) (r k : outParam Nat) : Prop where
  h : A = ⟨r, k, none⟩
instance of_lit (r k : Nat) : Of ⟨r, k, none⟩ r k := ⟨rfl⟩
instance of_add (A : Addr) (r k m : Nat) [h : Of A r k] : Of (A.add m) r (k + m) := ⟨by
  rw [h.h]; unfold Addr.add
  split
  · rename_i e; subst e; rfl
  · rfl⟩
theorem at_c {A : Addr} {r k : Nat} (h : Of A r k) (vs : List Value) : (Ch.c r vs).at A = vs[k]? := by
  rw [h.h]; simp [Ch.at]
theorem at_g {A : Addr} {r k : Nat} (h : Of A r k) (c n m : Nat) (e s : Nat) (vs : List Value) : (Ch.g (.slice (some ⟨r, 0, none⟩) m c) e s n vs).at A = vs[k]? := by
  rw [h.h]; simp [Ch.at, Value.ownBlock]
theorem rdF {wk : List Ch} {F : Fz} {A : Addr} {v : Value} (h : F A v) : Rd wk F A v := .inl h
theorem rdC {wk : List Ch} {F : Fz} {A : Addr} {v : Value} {r k : Nat} {vs : List Value} [h : Of A r k] (p : Nat) (hp : wk[p]? = some (.c r vs)) (hv : vs[k]? = some v) : Rd wk F A v :=
  .inr ⟨_, List.mem_of_getElem? hp, by rw [at_c h]; exact hv⟩
theorem rdG {wk : List Ch} {F : Fz} {A : Addr} {v : Value} {r k c n m e s : Nat} {vs : List Value} [h : Of A r k] (p : Nat) (hp : wk[p]? = some (.g (.slice (some ⟨r, 0, none⟩) m c) e s n vs)) (hv : vs[k]? = some v) : Rd wk F A v :=
  .inr ⟨_, List.mem_of_getElem? hp, by rw [at_g h]; exact hv⟩
/-- Cells one after the other. -/
def Rds (wk : List Ch) (F : Fz) (A : Addr) (vs : List Value) : Prop := ∀ i v, vs[i]? = some v → Rd wk F (A.add i) v
theorem Addr.add_add (A : Addr) (m k : Nat) : (A.add m).add k = A.add (m + k) := by
  unfold Addr.add
  by_cases h : k = 0
  · subst h; simp
  · by_cases h' : m = 0
    · subst h'; simp [h]
    · simp [h, h', Nat.add_assoc]
theorem Addr.add_zero (A : Addr) : A.add 0 = A := by unfold Addr.add; simp
/-- A frozen stretch of cells. -/
def Cs (F : Fz) (A : Addr) (vs : List Value) : Prop := ∀ i v, vs[i]? = some v → F (A.add i) v
theorem Cs.le {F G : Fz} {A : Addr} {vs : List Value} (h : Cs F A vs) (hl : Fle F G) : Cs G A vs := fun i v hv => hl _ _ (h i v hv)
theorem Cs.rds {wk : List Ch} {F : Fz} {A : Addr} {vs : List Value} (h : Cs F A vs) : Rds wk F A vs := fun i v hv => .inl (h i v hv)
theorem rdsC {wk : List Ch} {F : Fz} {A : Addr} {r k : Nat} {us vs : List Value} [h : Of A r k] (p : Nat) (hp : wk[p]? = some (.c r us)) (hv : ∀ i v, vs[i]? = some v → us[k + i]? = some v) : Rds wk F A vs := fun i v hi => rdC p hp (hv i v hi)

section
variable {n : Nat} {ops : Array Oper} {fl : Option (List Nat)} {rest : List Oper} {K : St → Prop} {wk : List Ch} {x : Fr} {b : Nat → Value} {ds : List Deferred} {own : List Ch} {F : Fz}
  {d ty : Nat} {pos : String} {af : Array Edge}
theorem o_load {a : Operand} {t : Nat} [ht : FlT t] {A : Addr} {v : Value} (ha : evS n x a = some (.pointer (some A))) (hr : Rd wk F A v) (h : O n ops fl rest K wk ⟨(d, v) :: x, b, ds, own, F⟩) : O n ops fl (⟨some d, .load t a, ty, pos, af, none⟩ :: rest) K wk ⟨x, b, ds, own, F⟩ :=
  o_rd v rfl (fun B w0 w hw => by
    unfold execOp
    simp [evx ha, Instr.loadAt, Instr.sureAddr, loadVar_flat ht (hw.rd hr), Result.andThen]) h
theorem o_loada {a : Operand} {t k : Nat} [ht : AgT t k] {A : Addr} {vs : List Value} (ha : evS n x a = some (.pointer (some A))) (hl : vs.length = k) (hr : Rds wk F A vs) (h : O n ops fl rest K wk ⟨(d, .agg vs.toArray) :: x, b, ds, own, F⟩) : O n ops fl (⟨some d, .load t a, ty, pos, af, none⟩ :: rest) K wk ⟨x, b, ds, own, F⟩ :=
  o_rd _ rfl (fun B w0 w hw => by
    unfold execOp
    simp [evx ha, Instr.loadAt, Instr.sureAddr, loadVar_agg ht hl (fun i v hi => hw.rd (hr i v hi)), Result.andThen]) h
theorem run_idx {t e z : Nat} (ht : SlT t e z) {A : Addr} {m c : Nat} {k : IntKind} {i : Int} {j : Nat} (hij : i = j) (hj : j < m) (w : World) : (Instr.indexAt t (.slice (some A) m c) (.int k i)).run Tryz.prog w = .ok (.pointer (some (A.add (j * z)))) w := by
  subst hij
  unfold Instr.indexAt
  simp [asIntOf, run_underlying ht.h, Result.andThen, size_run ht.hs, hj]
theorem o_idx1 {a i : Operand} {t e : Nat} [ht : SlT t e 1] {A : Addr} {m c : Nat} {k : IntKind} {z : Int} (j : Nat) (ha : evS n x a = some (.slice (some A) m c)) (hi : evS n x i = some (.int k z)) (hz : z = j) (hj : j < m) (h : O n ops fl rest K wk ⟨(d, .pointer (some (A.add j))) :: x, b, ds, own, F⟩) : O n ops fl (⟨some d, .indexAddr t a i, ty, pos, af, none⟩ :: rest) K wk ⟨x, b, ds, own, F⟩ :=
  o_rd _ rfl (fun B w0 w hw => by
    unfold execOp
    have := run_idx ht (A := A) (m := m) (c := c) (k := k) hz hj w
    simp [evx ha, evx hi, this, Result.andThen]) h
theorem o_idx {a i : Operand} {t e s : Nat} [ht : SlT t e s] {A : Addr} {m c : Nat} {k : IntKind} {z : Int} (j : Nat) (ha : evS n x a = some (.slice (some A) m c)) (hi : evS n x i = some (.int k z)) (hz : z = j) (hj : j < m) (h : O n ops fl rest K wk ⟨(d, .pointer (some (A.add (j * s)))) :: x, b, ds, own, F⟩) : O n ops fl (⟨some d, .indexAddr t a i, ty, pos, af, none⟩ :: rest) K wk ⟨x, b, ds, own, F⟩ :=
  o_rd _ rfl (fun B w0 w hw => by
    unfold execOp
    simp [evx ha, evx hi, run_idx ht hz hj, Result.andThen]) h
theorem o_fa {a : Operand} {t f off e : Nat} [ht : FdT t f off e] {A : Addr} (ha : evS n x a = some (.pointer (some A))) (h : O n ops fl rest K wk ⟨(d, .pointer (some (A.add off))) :: x, b, ds, own, F⟩) : O n ops fl (⟨some d, .fieldAddr t a f, ty, pos, af, none⟩ :: rest) K wk ⟨x, b, ds, own, F⟩ :=
  o_rd _ rfl (fun B w0 w hw => by
    obtain ⟨fs, fd, h1, h2, h3, h4⟩ := ht.fld
    obtain ⟨i, hi, hz⟩ := Option.map_eq_some_iff.1 ht.hz
    have hz : ¬ i.size = 0 := fun e => by rw [e] at hz; cases hz
    subst h3 h4
    unfold execOp
    simp [evx ha, Instr.fieldAt, Instr.sureAddr, run_underlying h1, h2, fieldPlace, sizeOf, run_typeInfo w hi, hz, Result.andThen]) h
theorem o_nilp {a : Operand} {A : Addr} (ha : evS n x a = some (.pointer (some A))) (h : O n ops fl rest K wk ⟨(d, .pointer (some A)) :: x, b, ds, own, F⟩) : O n ops fl (⟨some d, .nilCheck a, ty, pos, af, none⟩ :: rest) K wk ⟨x, b, ds, own, F⟩ :=
  o_rd _ rfl (fun B w0 w hw => by unfold execOp; simp [evx ha]) h
theorem o_nilf {a : Operand} {f : FuncId} {p q : Array Value} (ha : evS n x a = some (.func (.func f) p q)) (h : O n ops fl rest K wk ⟨(d, .func (.func f) p q) :: x, b, ds, own, F⟩) : O n ops fl (⟨some d, .nilCheck a, ty, pos, af, none⟩ :: rest) K wk ⟨x, b, ds, own, F⟩ :=
  o_rd _ rfl (fun B w0 w hw => by unfold execOp; simp [evx ha]) h
theorem o_nily {a : Operand} {l : Nat} {p q : Array Value} (ha : evS n x a = some (.func (.yield l) p q)) (h : O n ops fl rest K wk ⟨(d, .func (.yield l) p q) :: x, b, ds, own, F⟩) : O n ops fl (⟨some d, .nilCheck a, ty, pos, af, none⟩ :: rest) K wk ⟨x, b, ds, own, F⟩ :=
  o_rd _ rfl (fun B w0 w hw => by unfold execOp; simp [evx ha]) h
theorem o_ext {a : Operand} {i : Nat} {vs : List Value} {v : Value} (ha : evS n x a = some (.tuple vs.toArray)) (hv : vs[i]? = some v) (h : O n ops fl rest K wk ⟨(d, v) :: x, b, ds, own, F⟩) : O n ops fl (⟨some d, .extract a i, ty, pos, af, none⟩ :: rest) K wk ⟨x, b, ds, own, F⟩ :=
  o_rd _ rfl (fun B w0 w hw => by unfold execOp; simp [evx ha, Instr.extract, hv]) h
theorem o_mkf {fn : Fn} {p q : List Operand} {us vs : List Value} (hp : evL n x p = some us) (hq : evL n x q = some vs) (h : O n ops fl rest K wk ⟨(d, .func fn us.toArray vs.toArray) :: x, b, ds, own, F⟩) : O n ops fl (⟨some d, .makeFunc fn p.toArray q.toArray, ty, pos, af, none⟩ :: rest) K wk ⟨x, b, ds, own, F⟩ :=
  o_rd _ rfl (fun B w0 w hw => by
    unfold execOp
    simp only [evxs hp, evxs hq, Instr.makeFunc, Sem.run_bind, Sem.run_pure, Result.andThen]) h
/-! ### numbers -/
def kindOf (P : Program) (t : Nat) : Option IntKind :=
  match P.underlying t with
  | some (.int k) => some k
  | _ => none
class InT (t : Nat) (k : outParam IntKind) : Prop where
  h : kindOf Tryz.prog t = some k
theorem InT.u {t : Nat} {k : IntKind} (h : InT t k) : Tryz.prog.underlying t = some (.int k) := by
  have := h.h
  unfold kindOf at this
  split at this
  · rename_i hu; cases this; exact hu
  · cases this
theorem o_conv {a : Operand} {s t : Nat} {k k' : IntKind} [hs : InT s k] [ht : InT t k'] {z y : Int} (ha : evS n x a = some (.int k z)) (hy : k'.wrap z = y) (h : O n ops fl rest K wk ⟨(d, .int k' y) :: x, b, ds, own, F⟩) : O n ops fl (⟨some d, .convert s t a, ty, pos, af, none⟩ :: rest) K wk ⟨x, b, ds, own, F⟩ :=
  o_rd _ rfl (fun B w0 w hw => by
    subst hy
    unfold execOp convert
    simp [evx ha, run_underlying hs.u, run_underlying ht.u, Conv.intToInt, Result.andThen]) h
theorem o_shr {a a' : Operand} {t t' : Nat} {k k' : IntKind} {p : Int} {q : Nat} (ha : evS n x a = some (.int k p)) (ha' : evS n x a' = some (.int k' (q : Nat))) (hq : q ≤ k.bits) (h : O n ops fl rest K wk ⟨(d, .int k (p / 2 ^ q)) :: x, b, ds, own, F⟩) : O n ops fl (⟨some d, .binOp .shr t a a' t', ty, pos, af, none⟩ :: rest) K wk ⟨x, b, ds, own, F⟩ :=
  o_rd _ rfl (fun B w0 w hw => by
    have h0 : ¬ ((q : Int) < 0) := by omega
    have h1 : min q k.bits = q := by omega
    have h2 : p.fdiv (2 ^ q) = p / 2 ^ q := Int.fdiv_eq_ediv_of_nonneg _ (Int.pow_nonneg (by decide))
    unfold execOp
    simp [evx ha, evx ha', eqGuard, binOp, Op.shift, h0, h1, h2, Result.andThen]) h
theorem o_shl {a a' : Operand} {t t' : Nat} {k k' : IntKind} {p z : Int} {q : Nat} (ha : evS n x a = some (.int k p)) (ha' : evS n x a' = some (.int k' (q : Nat))) (hq : q ≤ k.bits) (hz : k.wrap (p * 2 ^ q) = z) (h : O n ops fl rest K wk ⟨(d, .int k z) :: x, b, ds, own, F⟩) : O n ops fl (⟨some d, .binOp .shl t a a' t', ty, pos, af, none⟩ :: rest) K wk ⟨x, b, ds, own, F⟩ :=
  o_rd _ rfl (fun B w0 w hw => by
    have h0 : ¬ ((q : Int) < 0) := by omega
    have h1 : min q k.bits = q := by omega
    subst hz
    unfold execOp
    simp [evx ha, evx ha', eqGuard, binOp, Op.shift, h0, h1, Result.andThen]) h
theorem o_rem {a a' : Operand} {t t' : Nat} {k : IntKind} {p q : Int} (ha : evS n x a = some (.int k p)) (ha' : evS n x a' = some (.int k q)) (hq : q ≠ 0) (h : O n ops fl rest K wk ⟨(d, .int k (p.tmod q)) :: x, b, ds, own, F⟩) : O n ops fl (⟨some d, .binOp .rem t a a' t', ty, pos, af, none⟩ :: rest) K wk ⟨x, b, ds, own, F⟩ :=
  o_rd _ rfl (fun B w0 w hw => by
    unfold execOp
    simp [evx ha, evx ha', eqGuard, binOp, Op.intDiv, hq, Result.andThen]) h
theorem o_quo {a a' : Operand} {t t' : Nat} {k : IntKind} {p q : Int} (ha : evS n x a = some (.int k p)) (ha' : evS n x a' = some (.int k q)) (hq : q ≠ 0) (hz : inK k (p.tdiv q)) (h : O n ops fl rest K wk ⟨(d, .int k (p.tdiv q)) :: x, b, ds, own, F⟩) : O n ops fl (⟨some d, .binOp .quo t a a' t', ty, pos, af, none⟩ :: rest) K wk ⟨x, b, ds, own, F⟩ :=
  o_rd _ rfl (fun B w0 w hw => by
    have := wrap_in hz
    unfold execOp
    simp [evx ha, evx ha', eqGuard, binOp, Op.intDiv, hq, this, Result.andThen]) h
/-- a[lo:hi:max] -/
theorem bound_run (k : IntKind) (i y : Nat) (code : BoundsCode) (h : i ≤ y) (w : World) : (Instr.sliceBound (.int k (i : Nat)) y code).run Tryz.prog w = .ok i w := by
  unfold Instr.sliceBound
  have : (0 : Int) ≤ i ∧ (i : Int) ≤ y := ⟨by omega, by omega⟩
  simp [asIntOf, this]
/-- A bound of a slice expression, where it stands. -/
def bnd (n : Nat) (x : Fr) (o : Option Operand) (dflt : Nat) (v : Nat) : Prop :=
  match o with
  | none => v = dflt
  | some a => ∃ k z, evS n x a = some (.int k z) ∧ z = (v : Nat)
theorem o_slice {a : Operand} {lo hi mx : Option Operand} {t e s : Nat} [ht : SlT t e s] {A : Option Addr} {m c : Nat} (l' h' m' : Nat) (ha : evS n x a = some (.slice A m c)) (hlo : bnd n x lo 0 l') (hhi : bnd n x hi m h') (hmx : bnd n x mx c m') (hmh : mx.isSome = true → hi.isSome = true) (h1 : l' ≤ h') (h2 : h' ≤ m') (h3 : m' ≤ c) {A' : Option Addr} (hA : (if m' = l' then A else A.map (·.add (l' * s))) = A')
    (h : O n ops fl rest K wk ⟨(d, .slice A' (h' - l') (m' - l')) :: x, b, ds, own, F⟩) : O n ops fl (⟨some d, .slice t a lo hi mx, ty, pos, af, none⟩ :: rest) K wk ⟨x, b, ds, own, F⟩ :=
  o_rd _ rfl (fun B w0 w hw => by
    subst hA
    have hev : ∀ (o : Option Operand) (v dflt : Nat), bnd n x o dflt v → (o = none ∧ v = dflt) ∨ ∃ k, o.map (St.act n ⟨x, b, ds, own, F⟩).eval = some (.int k (v : Nat)) := fun o v dflt hb => by
      cases o with
      | none => exact .inl ⟨rfl, hb⟩
      | some a => obtain ⟨k, z, e1, e2⟩ := hb; subst e2; exact .inr ⟨k, by rw [Option.map_some, evx e1]⟩
    have hb : (Instr.sliceBounds true m c (lo.map (St.act n ⟨x, b, ds, own, F⟩).eval) (hi.map (St.act n ⟨x, b, ds, own, F⟩).eval) (mx.map (St.act n ⟨x, b, ds, own, F⟩).eval)).run Tryz.prog w = .ok (l', h', m') w := by
      rcases hev _ _ _ hmx with ⟨rfl, rfl⟩ | ⟨k1, e1⟩
      · rcases hev _ _ _ hhi with ⟨rfl, rfl⟩ | ⟨k2, e2⟩
        · rcases hev _ _ _ hlo with ⟨rfl, rfl⟩ | ⟨k3, e3⟩
          · simp [Instr.sliceBounds]
          · unfold Instr.sliceBounds; rw [e3]; simp [bound_run _ _ _ _ h1, Result.andThen]
        · rcases hev _ _ _ hlo with ⟨rfl, rfl⟩ | ⟨k3, e3⟩
          · unfold Instr.sliceBounds; rw [e2]; simp [bound_run _ _ _ _ h2, Result.andThen]
          · unfold Instr.sliceBounds; rw [e2, e3]; simp [bound_run _ _ _ _ h2, bound_run _ _ _ _ h1, Result.andThen]
      · rcases hev _ _ _ hhi with ⟨rfl, rfl⟩ | ⟨k2, e2⟩
        · cases mx with
          | none => cases e1
          | some y => cases hmh rfl
        · rcases hev _ _ _ hlo with ⟨rfl, rfl⟩ | ⟨k3, e3⟩
          · unfold Instr.sliceBounds; rw [e1, e2]; simp [bound_run _ _ _ _ h2, bound_run _ _ _ _ h3, Result.andThen]
          · unfold Instr.sliceBounds; rw [e1, e2, e3]; simp [bound_run _ _ _ _ h3, bound_run _ _ _ _ h2, bound_run _ _ _ _ h1, Result.andThen]
    unfold execOp
    simp [evx ha, Instr.sliceAt, Instr.slice, run_underlying ht.h, hb, size_run ht.hs, Result.andThen]) h
end
end Go.Proofs.YthkoodpnepfijaaGreatDoor
/- V6: THE RULES, on: what acts: stores, new blocks, appends, calls. -/
namespace Go.Proofs.YthkoodpnepfijaaGreatDoor
open Go.RowKit
set_option linter.unusedVariables false
set_option linter.unusedSimpArgs false

theorem act_putx (n : Nat) (x : Fr) (b : Nat → Value) (ds : List Deferred) (own : List Ch) (F : Fz) (d : Nat) (v : Value) {own' : List Ch} {F' : Fz} : (St.act n ⟨x, b, ds, own, F⟩).put (some d) v = St.act n ⟨(d, v) :: x, b, ds, own', F'⟩ := act_put n ⟨x, b, ds, own, F⟩ (some d) v
theorem store_flat {w : World} {ty : TypeId} (hs : (Tryz.prog.info? ty).map (·.size) = some 1) {ad : Addr} {v u : Value} (hv : One v = true) (hc : w.cell? ad = some u) (hf : w.frozen? ad = false) : (storeVar ty ad v).run Tryz.prog w = .ok () (w.setCell ad v) := by
  have h0 : ad.add 0 = ad := Addr.add_zero ad
  unfold storeVar
  simp [One.cells hv, size_run hs, Result.andThen, storeCells, run_store _ _ _ _ _ (One.one hv), hc, hf, h0]
def setL : List Value → Nat → List Value → List Value
  | vs, _, [] => vs
  | vs, k, u :: us => setL (vs.set k u) (k + 1) us
theorem setL_len : ∀ (us vs : List Value) (k : Nat), (setL vs k us).length = vs.length
  | [], _, _ => rfl
  | u :: us, vs, k => by rw [setL, setL_len us]; simp
theorem Inv.cell_c {B : Nat} {w0 w : World} {own : List Ch} {F : Fz} (h : Inv B w0 own F w) {p r k : Nat} {vs : List Value} (hp : own[p]? = some (.c r vs)) {v : Value} (hv : vs[k]? = some v) : w.cell? ⟨r, k, none⟩ = some v ∧ w.frozen? ⟨r, k, none⟩ = false := by
  have := h.cellAt (List.mem_of_getElem? hp) (a := ⟨r, k, none⟩) (v := v) (by simp [Ch.at, hv])
  exact ⟨this.1, this.2.1⟩
theorem Inv.stores {B : Nat} {w0 : World} {F : Fz} {p r : Nat} {A : Addr} {k : Nat} (hA : A = ⟨r, k, none⟩) : ∀ (us : List Value) (i : Nat) (own : List Ch) (vs : List Value) (w : World), Inv B w0 own F w → own[p]? = some (.c r vs) → (∀ u ∈ us, One u = true) → k + i + us.length ≤ vs.length →
    ∃ w', (storeCells A us i).run Tryz.prog w = .ok () w' ∧ Inv B w0 (own.set p (.c r (setL vs (k + i) us))) F w'
  | [], i, own, vs, w, hI, hp, _, _ => ⟨w, rfl, by
      have : own.set p (.c r vs) = own := by
        obtain ⟨h1, h2⟩ := List.getElem?_eq_some_iff.1 hp
        rw [← h2]; exact List.set_getElem_self h1
      rw [setL, this]; exact hI⟩
  | u :: us, i, own, vs, w, hI, hp, h1, hl => by
    simp only [List.length_cons] at hl
    have hadd : A.add i = ⟨r, k + i, none⟩ := by
      subst hA; unfold Addr.add; split
      · rename_i e; subst e; rfl
      · rfl
    have hget : vs[k + i]? = some vs[k + i] := List.getElem?_eq_getElem (by omega)
    obtain ⟨c1, c2⟩ := hI.cell_c hp hget
    have hp' : (own.set p (.c r (vs.set (k + i) u)))[p]? = some (.c r (vs.set (k + i) u)) := by
      rw [List.getElem?_set_self (List.getElem?_eq_some_iff.1 hp).1]
    obtain ⟨w', e1, e2⟩ := Inv.stores hA us (i + 1) (own.set p (.c r (vs.set (k + i) u))) (vs.set (k + i) u) (w.setCell ⟨r, k + i, none⟩ u) (hI.set hp u) hp' (fun x hx => h1 x (List.mem_cons_of_mem _ hx)) (by rw [List.length_set]; omega)
    refine ⟨w', ?_, ?_⟩
    · have hst : (store (A.add i) u).run Tryz.prog w = .ok () (w.setCell ⟨r, k + i, none⟩ u) := by
        have := run_store Tryz.prog w (A.add i) u .plain (One.one (h1 u (by simp)))
        rw [hadd] at this ⊢
        simpa [c1, c2] using this
      simp only [storeCells, Sem.run_bind, hst, Result.andThen]
      exact e1
    · rw [List.set_set] at e2
      exact e2

/-- The cells of a new row: m times zs (of s cells). -/
def rep (m s : Nat) (zs : List Value) : List Value := (madeCells zs.toArray (m * s)).toList
theorem rep_one (m : Nat) (z : Value) : rep m 1 [z] = List.replicate m z := by
  unfold rep; rw [Nat.mul_one]; exact toList_madeCells_one z m
theorem rep_get {m s : Nat} {zs : List Value} (hz : zs.length = s) (i j : Nat) (hi : i < m) (hj : j < s) : (rep m s zs)[i * s + j]? = zs[j]? := by
  unfold rep madeCells
  have h1 : i * s + j < m * s := by
    have : (i + 1) * s ≤ m * s := Nat.mul_le_mul_right _ hi
    rw [Nat.add_mul] at this
    omega
  have h2 : (i * s + j) % s = j := by rw [Nat.add_comm, Nat.add_mul_mod_self_right, Nat.mod_eq_of_lt hj]
  subst hz
  simp [h1, h2, hj]
theorem rep_len (m s : Nat) (zs : List Value) : (rep m s zs).length = m * s := by unfold rep; rw [Array.length_toList, size_madeCells]
section
variable {n : Nat} {ops : Array Oper} {fl : Option (List Nat)} {rest : List Oper} {K : St → Prop} {wk wk' : List Ch} {x : Fr} {b : Nat → Value} {ds : List Deferred} {own : List Ch} {F : Fz}
  {d ty : Nat} {pos : String} {af : Array Edge}
/-- A store of one cell into a block of its own. -/
theorem o_store {a v : Operand} {t : Nat} [ht : FlT t] {A : Addr} {r k : Nat} {u : Value} {vs : List Value} [hA : Of A r k] (p : Nat) (ha : evS n x a = some (.pointer (some A))) (hv : evS n x v = some u) (hu : One u = true) (hp : own[p]? = some (.c r vs)) (hk : k < vs.length)
    (h : O n ops fl rest K wk' ⟨x, b, ds, own.set p (.c r (vs.set k u)), F⟩) (hsub : List.Sublist wk own := by first | exact List.Sublist.refl _ | exact List.nil_sublist _ | exact List.Sublist.cons _ (List.Sublist.refl _) | exact List.Sublist.cons _ (List.Sublist.cons _ (List.Sublist.refl _)) | exact List.Sublist.cons _ (List.Sublist.cons _ (List.Sublist.cons _ (List.Sublist.refl _)))) (hw : Wk fl (Fg ops fl rest.length) wk F (own.set p (.c r (vs.set k u))) F wk' := by first | exact Wk.text | exact Wk.keep (by first | exact List.Sublist.refl _ | exact List.nil_sublist _ | exact List.Sublist.cons _ (List.Sublist.refl _) | exact List.Sublist.cons _ (List.Sublist.cons _ (List.Sublist.refl _)) | exact List.Sublist.cons _ (List.Sublist.cons _ (List.Sublist.cons _ (List.Sublist.refl _)))) (Fle.refl _)) : O n ops fl (⟨none, .store t a v, ty, pos, af, none⟩ :: rest) K wk ⟨x, b, ds, own, F⟩ :=
  o_ef hsub rfl fun B w0 w hI => by
    have hget : vs[k]? = some vs[k] := List.getElem?_eq_getElem hk
    obtain ⟨c1, c2⟩ := hI.cell_c hp hget
    have hst := store_flat (w := w) ht.hs (ad := ⟨r, k, none⟩) hu c1 c2
    rw [← hA.h] at hst
    unfold execOp
    simp only [evx ha, evx hv, Instr.storeAt, Instr.sureAddr, Sem.run_bind, Sem.run_pure, Result.andThen, hst, upK]
    exact ⟨⟨x, b, ds, own.set p (.c r (vs.set k u)), F⟩, wk', rfl, by rw [hA.h]; exact hI.set hp u, hw, h⟩
/-- .. of a struct. -/
theorem o_storea {a v : Operand} {t s : Nat} [ht : AgT t s] {A : Addr} {r k : Nat} {us vs : List Value} [hA : Of A r k] (p : Nat) (ha : evS n x a = some (.pointer (some A))) (hv : evS n x v = some (.agg us.toArray)) (hl : us.length = s) (hu : us.all One = true) (hp : own[p]? = some (.c r vs)) (hk : k + us.length ≤ vs.length)
    (h : O n ops fl rest K wk' ⟨x, b, ds, own.set p (.c r (setL vs k us)), F⟩) (hsub : List.Sublist wk own := by first | exact List.Sublist.refl _ | exact List.nil_sublist _ | exact List.Sublist.cons _ (List.Sublist.refl _) | exact List.Sublist.cons _ (List.Sublist.cons _ (List.Sublist.refl _)) | exact List.Sublist.cons _ (List.Sublist.cons _ (List.Sublist.cons _ (List.Sublist.refl _)))) (hw : Wk fl (Fg ops fl rest.length) wk F (own.set p (.c r (setL vs k us))) F wk' := by first | exact Wk.text | exact Wk.keep (by first | exact List.Sublist.refl _ | exact List.nil_sublist _ | exact List.Sublist.cons _ (List.Sublist.refl _) | exact List.Sublist.cons _ (List.Sublist.cons _ (List.Sublist.refl _)) | exact List.Sublist.cons _ (List.Sublist.cons _ (List.Sublist.cons _ (List.Sublist.refl _)))) (Fle.refl _)) : O n ops fl (⟨none, .store t a v, ty, pos, af, none⟩ :: rest) K wk ⟨x, b, ds, own, F⟩ :=
  o_ef hsub rfl fun B w0 w hI => by
    obtain ⟨w', e1, e2⟩ := Inv.stores hA.h us 0 own vs w hI hp (fun u hu' => List.all_eq_true.1 hu u hu') (by simpa using hk)
    have hst : (storeVar t A (.agg us.toArray)).run Tryz.prog w = .ok () w' := by
      unfold storeVar
      simp [Value.cells, size_run ht.hs, hl, Result.andThen, e1]
    unfold execOp
    simp only [evx ha, evx hv, Instr.storeAt, Instr.sureAddr, Sem.run_bind, Sem.run_pure, Result.andThen, hst, upK]
    exact ⟨⟨x, b, ds, own.set p (.c r (setL vs k us)), F⟩, wk', rfl, e2, hw, h⟩
/-- A store into a row that may grow. -/
theorem o_storeg {a v : Operand} {t : Nat} [ht : FlT t] {A : Addr} {r k m c e s q : Nat} {u : Value} {vs : List Value} [hA : Of A r k] (p : Nat) (ha : evS n x a = some (.pointer (some A))) (hv : evS n x v = some u) (hu : One u = true) (hp : own[p]? = some (.g (.slice (some ⟨r, 0, none⟩) m c) e s m vs)) (hk : k < vs.length)
    (h : O n ops fl rest K wk' ⟨x, b, ds, own.set p (.g (.slice (some ⟨r, 0, none⟩) m c) e s m (vs.set k u)), F⟩) (hsub : List.Sublist wk own := by first | exact List.Sublist.refl _ | exact List.nil_sublist _ | exact List.Sublist.cons _ (List.Sublist.refl _) | exact List.Sublist.cons _ (List.Sublist.cons _ (List.Sublist.refl _)) | exact List.Sublist.cons _ (List.Sublist.cons _ (List.Sublist.cons _ (List.Sublist.refl _)))) (hw : Wk fl (Fg ops fl rest.length) wk F (own.set p (.g (.slice (some ⟨r, 0, none⟩) m c) e s m (vs.set k u))) F wk' := by first | exact Wk.text | exact Wk.keep (by first | exact List.Sublist.refl _ | exact List.nil_sublist _ | exact List.Sublist.cons _ (List.Sublist.refl _) | exact List.Sublist.cons _ (List.Sublist.cons _ (List.Sublist.refl _)) | exact List.Sublist.cons _ (List.Sublist.cons _ (List.Sublist.cons _ (List.Sublist.refl _)))) (Fle.refl _)) : O n ops fl (⟨none, .store t a v, ty, pos, af, none⟩ :: rest) K wk ⟨x, b, ds, own, F⟩ :=
  o_ef hsub rfl fun B w0 w hI => by
    have hget : vs[k]? = some vs[k] := List.getElem?_eq_getElem hk
    have c0 := hI.cellAt (List.mem_of_getElem? hp) (a := ⟨r, k, none⟩) (v := vs[k]) (by simp [Ch.at, Value.ownBlock, hget])
    have hst := store_flat (w := w) ht.hs (ad := ⟨r, k, none⟩) hu c0.1 c0.2.1
    rw [← hA.h] at hst
    unfold execOp
    simp only [evx ha, evx hv, Instr.storeAt, Instr.sureAddr, Sem.run_bind, Sem.run_pure, Result.andThen, hst, upK]
    exact ⟨⟨x, b, ds, own.set p (.g (.slice (some ⟨r, 0, none⟩) m c) e s m (vs.set k u)), F⟩, wk', rfl, by rw [hA.h]; exact hI.setg (m := m) hp u, hw, h⟩
/-- A new block. -/
theorem o_new {op : Op} (cs : List Value) (t : Nat) (v : Nat → Value) {wk' : Nat → List Ch} (hrd : isRd op = false) (hr : ∀ w, (execOp (St.act n ⟨x, b, ds, own, F⟩).eval ⟨some d, op, ty, pos, af, none⟩).run Tryz.prog w = .ok (.value (v w.heap.size)) (w.alloc (.cells cs.toArray t)))
    (h : ∀ r, O n ops fl rest K (wk' r) ⟨(d, v r) :: x, b, ds, .c r cs :: own, F⟩) (hsub : List.Sublist wk own := by first | exact List.Sublist.refl _ | exact List.nil_sublist _ | exact List.Sublist.cons _ (List.Sublist.refl _) | exact List.Sublist.cons _ (List.Sublist.cons _ (List.Sublist.refl _)) | exact List.Sublist.cons _ (List.Sublist.cons _ (List.Sublist.cons _ (List.Sublist.refl _)))) (hw : ∀ r, Wk fl (Fg ops fl rest.length) wk F (.c r cs :: own) F (wk' r) := by first | exact fun _ => Wk.text | exact fun _ => Wk.keep (by first | exact List.Sublist.refl _ | exact List.nil_sublist _ | exact List.Sublist.cons _ (List.Sublist.refl _) | exact List.Sublist.cons _ (List.Sublist.cons _ (List.Sublist.refl _)) | exact List.Sublist.cons _ (List.Sublist.cons _ (List.Sublist.cons _ (List.Sublist.refl _)))) (Fle.refl _)) : O n ops fl (⟨some d, op, ty, pos, af, none⟩ :: rest) K wk ⟨x, b, ds, own, F⟩ :=
  o_ef hsub hrd fun B w0 w hI => by
    rw [hr]
    exact ⟨_, wk' w.heap.size, act_putx .., hI.newc cs.toArray t, hw _, h _⟩
theorem o_alloc {t : Nat} {zs : List Value} [ht : ZrT t zs] {wk' : Nat → List Ch} (h : ∀ r, O n ops fl rest K (wk' r) ⟨(d, .pointer (some ⟨r, 0, none⟩)) :: x, b, ds, .c r zs :: own, F⟩) (hsub : List.Sublist wk own := by first | exact List.Sublist.refl _ | exact List.nil_sublist _ | exact List.Sublist.cons _ (List.Sublist.refl _) | exact List.Sublist.cons _ (List.Sublist.cons _ (List.Sublist.refl _)) | exact List.Sublist.cons _ (List.Sublist.cons _ (List.Sublist.cons _ (List.Sublist.refl _)))) (hw : ∀ r, Wk fl (Fg ops fl rest.length) wk F (.c r zs :: own) F (wk' r) := by first | exact fun _ => Wk.text | exact fun _ => Wk.keep (by first | exact List.Sublist.refl _ | exact List.nil_sublist _ | exact List.Sublist.cons _ (List.Sublist.refl _) | exact List.Sublist.cons _ (List.Sublist.cons _ (List.Sublist.refl _)) | exact List.Sublist.cons _ (List.Sublist.cons _ (List.Sublist.cons _ (List.Sublist.refl _)))) (Fle.refl _)) : O n ops fl (⟨some d, .alloc t, ty, pos, af, none⟩ :: rest) K wk ⟨x, b, ds, own, F⟩ :=
  o_new zs t (fun r => .pointer (some ⟨r, 0, none⟩)) rfl (fun w => by
    obtain ⟨z, hz, hc⟩ := Option.map_eq_some_iff.1 ht.h
    obtain ⟨i, hi, hz⟩ := Option.bind_eq_some_iff.1 hz
    unfold execOp
    simp [Instr.alloc, zeroValue, run_typeInfo w hi, hz, newVar, newRow, hc, Result.andThen]) h hsub hw
theorem o_box {t : Nat} {a : Operand} {v : Value} {wk' : Nat → List Ch} (ha : evS n x a = some v) (hv : One v = true) (h : ∀ r, O n ops fl rest K (wk' r) ⟨(d, .pointer (some ⟨r, 0, none⟩)) :: x, b, ds, .c r [v] :: own, F⟩) (hsub : List.Sublist wk own := by first | exact List.Sublist.refl _ | exact List.nil_sublist _ | exact List.Sublist.cons _ (List.Sublist.refl _) | exact List.Sublist.cons _ (List.Sublist.cons _ (List.Sublist.refl _)) | exact List.Sublist.cons _ (List.Sublist.cons _ (List.Sublist.cons _ (List.Sublist.refl _)))) (hw : ∀ r, Wk fl (Fg ops fl rest.length) wk F (.c r [v] :: own) F (wk' r) := by first | exact fun _ => Wk.text | exact fun _ => Wk.keep (by first | exact List.Sublist.refl _ | exact List.nil_sublist _ | exact List.Sublist.cons _ (List.Sublist.refl _) | exact List.Sublist.cons _ (List.Sublist.cons _ (List.Sublist.refl _)) | exact List.Sublist.cons _ (List.Sublist.cons _ (List.Sublist.cons _ (List.Sublist.refl _)))) (Fle.refl _)) : O n ops fl (⟨some d, .box t a, ty, pos, af, none⟩ :: rest) K wk ⟨x, b, ds, own, F⟩ :=
  o_new [v] t (fun r => .pointer (some ⟨r, 0, none⟩)) rfl (fun w => by
    unfold execOp
    simp [Instr.box, newVar, newRow, evx ha, One.cells hv, Result.andThen]) h hsub hw
theorem o_boxa {t : Nat} {a : Operand} {vs : List Value} {wk' : Nat → List Ch} (ha : evS n x a = some (.agg vs.toArray)) (h : ∀ r, O n ops fl rest K (wk' r) ⟨(d, .pointer (some ⟨r, 0, none⟩)) :: x, b, ds, .c r vs :: own, F⟩) (hsub : List.Sublist wk own := by first | exact List.Sublist.refl _ | exact List.nil_sublist _ | exact List.Sublist.cons _ (List.Sublist.refl _) | exact List.Sublist.cons _ (List.Sublist.cons _ (List.Sublist.refl _)) | exact List.Sublist.cons _ (List.Sublist.cons _ (List.Sublist.cons _ (List.Sublist.refl _)))) (hw : ∀ r, Wk fl (Fg ops fl rest.length) wk F (.c r vs :: own) F (wk' r) := by first | exact fun _ => Wk.text | exact fun _ => Wk.keep (by first | exact List.Sublist.refl _ | exact List.nil_sublist _ | exact List.Sublist.cons _ (List.Sublist.refl _) | exact List.Sublist.cons _ (List.Sublist.cons _ (List.Sublist.refl _)) | exact List.Sublist.cons _ (List.Sublist.cons _ (List.Sublist.cons _ (List.Sublist.refl _)))) (Fle.refl _)) : O n ops fl (⟨some d, .box t a, ty, pos, af, none⟩ :: rest) K wk ⟨x, b, ds, own, F⟩ :=
  o_new vs t (fun r => .pointer (some ⟨r, 0, none⟩)) rfl (fun w => by
    unfold execOp
    simp [Instr.box, newVar, newRow, evx ha, Value.cells, Result.andThen]) h hsub hw
/-- make([]T, n) -/
theorem o_make {t e s : Nat} {a : Operand} {zs : List Value} {by_ : Nat} [ht : SlT t e s] [hz : ZrT e zs] [hb : ByT e by_] {k : IntKind} {z : Int} {wk' : Nat → List Ch} (m : Nat) (ha : evS n x a = some (.int k z)) (hm : z = m) (hlt : by_ * m ≤ 140737488355328) (h63 : m ≤ 9223372036854775807)
    (h : ∀ r, O n ops fl rest K (wk' r) ⟨(d, .slice (some ⟨r, 0, none⟩) m m) :: x, b, ds, .c r (rep m s zs) :: own, F⟩) (hsub : List.Sublist wk own := by first | exact List.Sublist.refl _ | exact List.nil_sublist _ | exact List.Sublist.cons _ (List.Sublist.refl _) | exact List.Sublist.cons _ (List.Sublist.cons _ (List.Sublist.refl _)) | exact List.Sublist.cons _ (List.Sublist.cons _ (List.Sublist.cons _ (List.Sublist.refl _)))) (hw : ∀ r, Wk fl (Fg ops fl rest.length) wk F (.c r (rep m s zs) :: own) F (wk' r) := by first | exact fun _ => Wk.text | exact fun _ => Wk.keep (by first | exact List.Sublist.refl _ | exact List.nil_sublist _ | exact List.Sublist.cons _ (List.Sublist.refl _) | exact List.Sublist.cons _ (List.Sublist.cons _ (List.Sublist.refl _)) | exact List.Sublist.cons _ (List.Sublist.cons _ (List.Sublist.cons _ (List.Sublist.refl _)))) (Fle.refl _)) : O n ops fl (⟨some d, .makeSlice t a a, ty, pos, af, none⟩ :: rest) K wk ⟨x, b, ds, own, F⟩ :=
  o_new (rep m s zs) e (fun r => .slice (some ⟨r, 0, none⟩) m m) rfl (fun w => by
    subst hm
    obtain ⟨z0, hz0, hc⟩ := Option.map_eq_some_iff.1 hz.h
    obtain ⟨i, hi, hzi⟩ := Option.bind_eq_some_iff.1 hz0
    obtain ⟨i', hi', hbi⟩ := Option.map_eq_some_iff.1 hb.h
    obtain ⟨i'', hi'', hsi⟩ := Option.map_eq_some_iff.1 ht.hs
    rw [hi] at hi' hi''
    cases hi'; cases hi''
    have hb' : (i.bytes : Int) * (m : Int) ≤ 281474976710656 := by
      rw [hbi]
      have h : ((by_ * m : Nat) : Int) ≤ 140737488355328 := by omega
      rw [Int.natCast_mul] at h
      omega
    have hr := run_make (P := Tryz.prog) w t e i z0 ht.h hi hzi k k m m (by omega) (Int.le_refl _) hb' (by omega)
    simp only [Int.toNat_natCast] at hr
    unfold execOp
    simp only [evx ha, hr, Sem.run_bind, Result.andThen, Sem.run_pure]
    rw [hc, hsi]
    rfl) h hsub hw
end
end Go.Proofs.YthkoodpnepfijaaGreatDoor
