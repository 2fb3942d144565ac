/-
  Steps towards TopCounts (no conditions of their own): THE RULES, on: appends, calls, structs.
-/
import Derived.Test.YthkoodpnepfijaaGreatDoorM03
/- V7: THE RULES, on: appends, calls, structs. -/
namespace Go.Proofs.YthkoodpnepfijaaGreatDoor
open Go.RowKit
set_option linter.unusedVariables false
set_option linter.unusedSimpArgs false

section
variable {n : Nat} {ops : Array Oper} {fl : Option (List Nat)} {rest : List Oper} {K : St → Prop} {wk wk' : List Ch} {x : Fr} {b : Nat → Value} {ds : List Deferred} {own : List Ch} {F : Fz}
  {d ty : Nat} {pos : String} {af : Array Edge}
/-- The parts' values. -/
def evP (n : Nat) (x : Fr) : List (Nat × Operand) → Option (List (Nat × Value))
  | [] => some []
  | (i, o) :: r => match evS n x o with
    | some v => match evP n x r with
      | some vs => some ((i, v) :: vs)
      | none => none
    | none => none
theorem evP_of : ∀ {l : List (Nat × Operand)} {vs : List (Nat × Value)}, evP n x l = some vs → (l.map fun (i, o) => (i, (St.act n ⟨x, b, ds, own, F⟩).eval o)) = vs
  | [], vs, h => by cases h; rfl
  | (i, o) :: r, vs, h => by
    unfold evP at h
    cases h1 : evS n x o with
    | none => rw [h1] at h; cases h
    | some v =>
      rw [h1] at h
      cases h2 : evP n x r with
      | none => rw [h2] at h; cases h
      | some us =>
        rw [h2] at h
        cases h
        rw [List.map_cons, evP_of h2]
        show (i, (St.act n ⟨x, b, ds, own, F⟩).eval o) :: us = _
        rw [evx h1]
/-- A value's cells, as a list. -/
def vcells : Value → List Value
  | .agg us => us.toList
  | v => [v]
theorem vcells_eq (v : Value) : v.cells.toList = vcells v := by cases v <;> rfl
/-- Values laid into cells one after the other. -/
def layV (pl : Nat → Option (Nat × Nat)) : List Value → List (Nat × Value) → Option (List Value)
  | cs, [] => some cs
  | cs, (i, v) :: r => match pl i with
    | none => none
    | some (off, s) => bif Nat.beq (vcells v).length s && Nat.ble (off + s) cs.length then layV pl (setL cs off (vcells v)) r else none
theorem fold_set (off : Nat) : ∀ (us : List Value) (j : Nat) (cs : Array Value), (us.zipIdx j).foldl (fun cs (c, j) => cs.setIfInBounds (off + j) c) cs = (setL cs.toList (off + j) us).toArray
  | [], j, cs => by simp [setL]
  | u :: us, j, cs => by
    rw [List.zipIdx_cons, List.foldl_cons, fold_set off us (j + 1), setL]
    simp [Nat.add_assoc]
theorem fill_lay (pl : Nat → Option (Nat × Nat)) : ∀ (ps : List (Nat × Value)) (cs cs' : List Value), layV pl cs ps = some cs' → Instr.fill pl cs.toArray ps = some cs'.toArray
  | [], cs, cs', h => by cases h; rfl
  | (i, v) :: r, cs, cs', h => by
    unfold layV at h
    unfold Instr.fill
    cases hp : pl i with
    | none => rw [hp] at h; cases h
    | some q =>
      obtain ⟨off, s⟩ := q
      rw [hp] at h
      simp only at h ⊢
      cases hc : (Nat.beq (vcells v).length s && Nat.ble (off + s) cs.length)
      · rw [hc] at h; cases h
      · rw [hc] at h
        simp only [Bool.and_eq_true, Nat.beq_eq_true_eq, Nat.ble_eq] at hc
        have h1 : v.cells.size = s := by rw [← Nat.eq_of_beq_eq_true hc.1, ← vcells_eq]; simp
        rw [if_neg (by simp [h1]; omega)]
        have hf := fold_set off v.cells.toList 0 cs.toArray
        have : v.cells.zipIdx.foldl (fun cs (x : Value × Nat) => cs.setIfInBounds (off + x.2) x.1) cs.toArray = (setL cs off (vcells v)).toArray := by
          rw [← vcells_eq, ← Array.foldl_toList, Array.toList_zipIdx]
          simpa using hf
        rw [show (v.cells.zipIdx.foldl (fun cs x => match x with | (c, j) => cs.setIfInBounds (off + j) c) cs.toArray) = (setL cs off (vcells v)).toArray from this]
        exact fill_lay pl r _ _ h
def forceL : List Value → Option (List Value)
  | [] => some []
  | a :: l => match forceL l with
    | some l' => some (a :: l')
    | none => none
theorem forceL_eq : ∀ {l l' : List Value}, forceL l = some l' → l = l'
  | [], l', h => by cases h; rfl
  | a :: l, l', h => by
    unfold forceL at h
    cases h1 : forceL l with
    | none => rw [h1] at h; cases h
    | some m => rw [h1] at h; cases h; rw [forceL_eq h1]
def forceO : Option (List Value) → Option (List Value)
  | some l => forceL l
  | none => none
theorem forceO_eq {o : Option (List Value)} {l : List Value} (h : forceO o = some l) : o = some l := by
  cases o with
  | none => cases h
  | some m => rw [forceL_eq h]
/-- The cells of a new row, as a list that can be reckoned. -/
def repF : Nat → List Value → List Value
  | 0, _ => []
  | m + 1, zs => zs ++ repF m zs
theorem repF_len (zs : List Value) : ∀ m, (repF m zs).length = m * zs.length
  | 0 => by simp [repF]
  | m + 1 => by rw [repF, List.length_append, repF_len zs m, Nat.add_mul]; omega
theorem repF_get {zs : List Value} : ∀ {m i j : Nat}, i < m → j < zs.length → (repF m zs)[i * zs.length + j]? = zs[j]?
  | 0, i, j, h, _ => by omega
  | m + 1, 0, j, h, hj => by rw [repF, Nat.zero_mul, Nat.zero_add, List.getElem?_append_left hj]
  | m + 1, i + 1, j, h, hj => by
    rw [repF, List.getElem?_append_right (by rw [Nat.add_mul]; omega)]
    have : (i + 1) * zs.length + j - zs.length = i * zs.length + j := by rw [Nat.add_mul]; omega
    rw [this]
    exact repF_get (by omega) hj
theorem rep_eq {m : Nat} {zs : List Value} : rep m zs.length zs = repF m zs := by
  apply List.ext_getElem?
  intro k
  by_cases hk : k < m * zs.length
  · have hz : 0 < zs.length := by rcases Nat.eq_zero_or_pos zs.length with h | h; · rw [h] at hk; omega
                                  · exact h
    have h1 : k / zs.length < m := by rw [Nat.div_lt_iff_lt_mul hz]; exact hk
    have h2 : k % zs.length < zs.length := Nat.mod_lt _ hz
    have h3 : k = k / zs.length * zs.length + k % zs.length := by rw [Nat.mul_comm]; exact (Nat.div_add_mod k zs.length).symm
    rw [h3, rep_get rfl _ _ h1 h2, repF_get h1 h2]
  · rw [List.getElem?_eq_none (by rw [rep_len]; omega), List.getElem?_eq_none (by rw [repF_len]; omega)]
/-- []T{i: v, ..} -/
theorem o_lit {t e s m : Nat} {ps : List (Nat × Operand)} {vs : List (Nat × Value)} {zs cs : List Value} [ht : SlT t e s] [hz : ZrT e zs] {wk' : Nat → List Ch} (hv : evP n x ps = some vs) (hc : forceO (layV (fun i => some (i * s, s)) (repF m zs) vs) = some cs) (hzs : Nat.beq zs.length s = true) (hlt : Nat.ble (m * s) 16777216 = true) (hpos : Nat.blt 0 (m * s) = true)
    (h : ∀ r, O n ops fl rest K (wk' r) ⟨(d, .slice (some ⟨r, 0, none⟩) m m) :: x, b, ds, .c r cs :: own, F⟩) (hsub : List.Sublist wk own := by first | exact List.Sublist.refl _ | exact List.nil_sublist _ | exact List.Sublist.cons _ (List.Sublist.refl _) | exact List.Sublist.cons _ (List.Sublist.cons _ (List.Sublist.refl _)) | exact List.Sublist.cons _ (List.Sublist.cons _ (List.Sublist.cons _ (List.Sublist.refl _)))) (hw : ∀ r, Wk fl (Fg ops fl rest.length) wk F (.c r cs :: own) F (wk' r) := by first | exact fun _ => Wk.text | exact fun _ => Wk.keep (by first | exact List.Sublist.refl _ | exact List.nil_sublist _ | exact List.Sublist.cons _ (List.Sublist.refl _) | exact List.Sublist.cons _ (List.Sublist.cons _ (List.Sublist.refl _)) | exact List.Sublist.cons _ (List.Sublist.cons _ (List.Sublist.cons _ (List.Sublist.refl _)))) (Fle.refl _)) : O n ops fl (⟨some d, .buildSlice t m ps.toArray, ty, pos, af, none⟩ :: rest) K wk ⟨x, b, ds, own, F⟩ :=
  o_new cs e (fun r => .slice (some ⟨r, 0, none⟩) m m) rfl (fun w => by
    obtain ⟨z0, hz0, hzc⟩ := Option.map_eq_some_iff.1 hz.h
    obtain ⟨i, hi, hzi⟩ := Option.bind_eq_some_iff.1 hz0
    have h1 : ¬ (m * s > 2 ^ 24) := by simp at hlt; omega
    have h2 : ¬ (m * s = 0) := by simp at hpos; omega
    have hzs := Nat.eq_of_beq_eq_true hzs
    rw [← rep_eq, hzs] at hc
    have h3 := fill_lay _ _ _ _ (forceO_eq hc)
    have h4 : (ps.toArray.map fun (i, o) => (i, (St.act n ⟨x, b, ds, own, F⟩).eval o)).toList = vs := by rw [List.map_toArray]; exact evP_of hv
    have h5 : ((Array.range (m * s)).map (z0.cells[· % z0.cells.size]!)) = (rep m s zs).toArray := by
      rw [rep, ← hzc]; rfl
    unfold execOp
    simp only [Instr.buildSlice, h4]
    simp [run_underlying ht.h, size_run ht.hs, h1, h2, zeroValue, run_typeInfo w hi, hzi, Result.andThen, newRow]
    rw [h5, h3]
    rfl) h hsub hw
/-- append(s, xs...): a row of its own grows. -/
theorem o_append {t t' e s by_ : Nat} {a a' : Operand} {v : Value} {zs news xs : List Value} {A : Addr} {m m' c : Nat} [ht : SlT t e s] [hz : ZrT e zs] [hb : ByT e by_] (p : Nat) (ha : evS n x a = some v) (ha' : evS n x a' = some (.slice (some A) m' c)) (hp : own[p]? = some (.g v e s m xs))
    (hl : news.length = m' * s) (hr : Rds own F A news) (hone : news.all One = true) (hs : zs.length = s) (hs0 : Nat.blt 0 s = true) (hlt : (m + m') * by_ ≤ 140737488355328) (h63 : m + m' ≤ 9223372036854775807) {wk' : Value → List Ch}
    (h : ∀ v', (v' = .slice none 0 0 ↔ v = .slice none 0 0 ∧ m' = 0) → O n ops fl rest K (wk' v') ⟨(d, v') :: x, b, ds, own.set p (.g v' e s (m + m') (xs ++ news)), F⟩) (hsub : List.Sublist wk own := by first | exact List.Sublist.refl _ | exact List.nil_sublist _ | exact List.Sublist.cons _ (List.Sublist.refl _) | exact List.Sublist.cons _ (List.Sublist.cons _ (List.Sublist.refl _)) | exact List.Sublist.cons _ (List.Sublist.cons _ (List.Sublist.cons _ (List.Sublist.refl _)))) (hw : ∀ v', Wk fl (Fg ops fl rest.length) wk F (own.set p (.g v' e s (m + m') (xs ++ news))) F (wk' v') := by first | exact fun _ => Wk.text | exact fun _ => Wk.keep (by first | exact List.Sublist.refl _ | exact List.nil_sublist _ | exact List.Sublist.cons _ (List.Sublist.refl _) | exact List.Sublist.cons _ (List.Sublist.cons _ (List.Sublist.refl _)) | exact List.Sublist.cons _ (List.Sublist.cons _ (List.Sublist.cons _ (List.Sublist.refl _)))) (Fle.refl _)) :
    O n ops fl (⟨some d, .call { callee := .builtin .append, args := #[a, a'], argTypes := #[t, t] }, ty, pos, af, none⟩ :: rest) K wk ⟨x, b, ds, own, F⟩ :=
  o_ef hsub rfl fun B w0 w hI => by
    obtain ⟨z0, hz0, hzc⟩ := Option.map_eq_some_iff.1 hz.h
    obtain ⟨i, hi, hzi⟩ := Option.bind_eq_some_iff.1 hz0
    obtain ⟨i', hi', hbi⟩ := Option.map_eq_some_iff.1 hb.h
    obtain ⟨i'', hi'', hsi⟩ := Option.map_eq_some_iff.1 ht.hs
    rw [hi] at hi' hi''
    cases hi'; cases hi''
    have hok := hI.ok _ (List.mem_of_getElem? hp)
    obtain ⟨v', w', hr', h2, h3, h4⟩ := run_append_own (P := Tryz.prog) w B t ty e i z0 s by_ ht.h hi hzi hsi hbi (by rw [hzc]; simpa using hs) (by simpa using hs0) v m xs hok A m' c news hl (fun j u hu => hI.rd (hr j u hu)) (fun u hu => One.one (List.all_eq_true.1 hone u hu)) (by simp only [maxLen]; omega) hlt hI.big
    unfold execOp
    simp only [resolve, invoke, builtin, Sem.run_bind, Sem.run_pure, Result.andThen, List.map_toArray, List.map_cons, List.map_nil, evx ha, evx ha', hr', upK]
    refine ⟨⟨(d, v') :: x, b, ds, own.set p (.g v' e s (m + m') (xs ++ news)), F⟩, wk' v', act_putx .., hI.move hp h3 h2 ?_, hw v', h v' h4⟩
    rcases h2.2 with ⟨rfl, _⟩ | ⟨g, cap, cur, rfl, hg1, hg2, _⟩
    · exact .inr fun k hk => by cases hk
    · by_cases hg : some g = v.ownBlock
      · exact .inl hg
      · refine .inr fun k hk => ?_
        cases hk
        show w.heap.size ≤ g
        have hnw : ∀ j u, news[j]? = some u → w.cell? (A.add j) = some u := fun j u hu => hI.rd (hr j u hu)
        rcases hok.2 with ⟨rfl, rfl⟩ | ⟨g0, cap0, cur0, rfl, _, hg0, hn0, _, hcs0, _⟩
        · by_cases hm : m' = 0
          · exact absurd (h4.2 ⟨rfl, hm⟩) (by simp)
          · have hr2 := run_append_nil (P := Tryz.prog) (w := w) t ty e i z0 ht.h hi hzi A m' c news (by rw [hsi]; exact hl) hnw (by omega) (by omega) (by rw [hbi]; rw [Nat.zero_add] at hlt; omega)
            rw [hr2] at hr'
            injection hr' with e1 e2
            injection e1 with e1
            injection e1 with e1
            injection e1 with e1
            have e1 : w.heap.size = g := e1
            omega
        · by_cases hroom : m + m' ≤ cap0
          · have hr2 := run_append_room (P := Tryz.prog) (w := w) t ty e i ht.h hi g0 m cap0 cur0 hg0 A m' c news (by rw [hsi]; exact hl) hnw (fun u hu => One.one (List.all_eq_true.1 hone u hu)) hroom (by rw [hsi, hl, hcs0, ← Nat.add_mul]; exact Nat.mul_le_mul_right _ hroom)
            rw [hr2] at hr'
            injection hr' with e1 e2
            injection e1 with e1
            injection e1 with e1
            injection e1 with e1
            exact absurd (by simp [Value.ownBlock, e1]) hg
          · have hr2 := run_append_grow (P := Tryz.prog) (w := w) t ty e i z0 ht.h hi hzi ⟨g0, 0, none⟩ m cap0 xs (by rw [hsi]; exact hok.1) (hok.cells (g := g0) rfl) A m' c news (by rw [hsi]; exact hl) hnw (by omega) (by omega) (by rw [hbi]; exact growslice_fits (by omega) hlt)
            rw [hr2] at hr'
            injection hr' with e1 e2
            injection e1 with e1
            injection e1 with e1
            injection e1 with e1
            have e1 : w.heap.size = g := e1
            omega
/-- append(s, nil...) -/
theorem o_append0 {t e s : Nat} {a a' : Operand} {v : Value} {xs : List Value} {m : Nat} [ht : SlT t e s] (p : Nat) (ha : evS n x a = some v) (ha' : evS n x a' = some (.slice none 0 0)) (hp : own[p]? = some (.g v e s m xs))
    (h : O n ops fl rest K wk ⟨(d, v) :: x, b, ds, own, F⟩) (hsub : List.Sublist wk own := by first | exact List.Sublist.refl _ | exact List.nil_sublist _ | exact List.Sublist.cons _ (List.Sublist.refl _) | exact List.Sublist.cons _ (List.Sublist.cons _ (List.Sublist.refl _)) | exact List.Sublist.cons _ (List.Sublist.cons _ (List.Sublist.cons _ (List.Sublist.refl _)))) :
    O n ops fl (⟨some d, .call { callee := .builtin .append, args := #[a, a'], argTypes := #[t, t] }, ty, pos, af, none⟩ :: rest) K wk ⟨x, b, ds, own, F⟩ :=
  o_ef hsub rfl fun B w0 w hI => by
    obtain ⟨i, hi, hsi⟩ := Option.map_eq_some_iff.1 ht.hs
    have hok := hI.ok _ (List.mem_of_getElem? hp)
    have hr := run_append_owned_none (P := Tryz.prog) w B t ty e i s ht.h hi v m xs hok
    unfold execOp
    simp only [resolve, invoke, builtin, Sem.run_bind, Sem.run_pure, Result.andThen, List.map_toArray, List.map_cons, List.map_nil, evx ha, evx ha', hr, upK]
    exact ⟨⟨(d, v) :: x, b, ds, own, F⟩, wk, act_putx .., hI, .keep hsub (Fle.refl _), h⟩
/-- No row yet: it may grow. -/
theorem Inv.nil {B : Nat} {w0 w : World} {own : List Ch} {F : Fz} (h : Inv B w0 own F w) (e s : Nat) : Inv B w0 (.g (.slice none 0 0) e s 0 [] :: own) F w :=
  ⟨h.bel, h.big, fun c hc => by
    rcases List.mem_cons.1 hc with rfl | hc
    · exact World.ownsRow_nil w B e s
    · exact h.ok c hc, List.pairwise_cons.2 ⟨fun _ _ => .inl rfl, h.nod⟩, h.fr, fun c hc a v hb => by
    rcases List.mem_cons.1 hc with rfl | hc
    · cases hb
    · exact h.ex c hc a v hb⟩

/-! ### calls -/
theorem enter_run {f : FuncId} {fd : Func} (hf : Tryz.prog.funcs[f]? = some fd) (hn : (fd.name == "runtime.NumGoroutine") = false) (hb : fd.body.isNone = false) (vs : Array Value) (w : World) : (callFunc f vs).run Tryz.prog w = .ok (.enter f vs) w := by
  have h1 : ¬ fd.name = "runtime.NumGoroutine" := by simpa using hn
  have h2 : ¬ fd.body = none := by cases hx : fd.body <;> simp_all
  unfold callFunc
  simp [hf, h1, h2]
/-- A function of the program. -/
class Fn_ (f : Nat) : Prop where
  h : ∀ (vs : Array Value) (w : World), (callFunc f vs).run Tryz.prog w = .ok (.enter f vs) w
theorem o_call {f : FuncId} {os : List Operand} {ats : Array TypeId} {vs : List Value} {Post : Value → List Ch → Fz → Prop} [hf : Fn_ f] (ha : evL n x os = some vs) (hN : N f vs own F Post)
    (h : ∀ v own' F', Post v own' F' → ∃ wk', Wk fl (Fg ops fl rest.length) wk F own' F' wk' ∧ O n ops fl rest K wk' ⟨(d, v) :: x, b, ds, own', F'⟩) (hsub : List.Sublist wk own := by first | exact List.Sublist.refl _ | exact List.nil_sublist _ | exact List.Sublist.cons _ (List.Sublist.refl _) | exact List.Sublist.cons _ (List.Sublist.cons _ (List.Sublist.refl _)) | exact List.Sublist.cons _ (List.Sublist.cons _ (List.Sublist.cons _ (List.Sublist.refl _)))) :
    O n ops fl (⟨some d, .call { callee := .value (.func f), args := os.toArray, argTypes := ats }, ty, pos, af, none⟩ :: rest) K wk ⟨x, b, ds, own, F⟩ :=
  o_ef hsub rfl fun B w0 w hI => by
    unfold execOp
    simp only [resolve, invoke, Deferred.ofValue, Act.eval, evxs ha, Sem.run_bind, Sem.run_pure, Result.andThen, Array.empty_append, Array.append_empty, hf.h, upK]
    refine (hN.out B w0 w hI).mono fun e w' ⟨v, own', F', he, h1, h2⟩ => ⟨v, he, ?_⟩
    obtain ⟨wk', k1, k2⟩ := h v own' F' h2
    exact ⟨_, wk', act_putx .., h1, k1, k2⟩
/-- .. of a function value. -/
theorem o_callv {f : FuncId} {g : Operand} {us ws : List Value} {os : List Operand} {ats : Array TypeId} {vs all : List Value} {Post : Value → List Ch → Fz → Prop} (hg : evS n x g = some (.func (.func f) us.toArray ws.toArray)) [hf : Fn_ f] (ha : evL n x os = some vs) (hall : us ++ vs ++ ws = all) (hN : N f all own F Post)
    (h : ∀ v own' F', Post v own' F' → ∃ wk', Wk fl (Fg ops fl rest.length) wk F own' F' wk' ∧ O n ops fl rest K wk' ⟨(d, v) :: x, b, ds, own', F'⟩) (hsub : List.Sublist wk own := by first | exact List.Sublist.refl _ | exact List.nil_sublist _ | exact List.Sublist.cons _ (List.Sublist.refl _) | exact List.Sublist.cons _ (List.Sublist.cons _ (List.Sublist.refl _)) | exact List.Sublist.cons _ (List.Sublist.cons _ (List.Sublist.cons _ (List.Sublist.refl _)))) :
    O n ops fl (⟨some d, .call { callee := .value g, args := os.toArray, argTypes := ats }, ty, pos, af, none⟩ :: rest) K wk ⟨x, b, ds, own, F⟩ :=
  o_ef hsub rfl fun B w0 w hI => by
    subst hall
    unfold execOp
    simp only [resolve, invoke, Deferred.ofValue, evx hg, evxs ha, Sem.run_bind, Sem.run_pure, Result.andThen, List.append_toArray, hf.h, upK]
    refine (hN.out B w0 w hI).mono fun e w' ⟨v, own', F', he, h1, h2⟩ => ⟨v, he, ?_⟩
    obtain ⟨wk', k1, k2⟩ := h v own' F' h2
    exact ⟨_, wk', act_putx .., h1, k1, k2⟩
/-- A function that changes nothing of what is there: R tells its answer. -/
def Pu (f : FuncId) (args : List Value) (F : Fz) (R : Value → Fz → Prop) : Prop := ∀ own, N f args own F fun v own' F' => own' = own ∧ Fle F F' ∧ R v F'
theorem o_pu {f : FuncId} {os : List Operand} {ats : Array TypeId} {vs : List Value} {R : Value → Fz → Prop} [hf : Fn_ f] (ha : evL n x os = some vs) (hN : Pu f vs F R)
    (h : ∀ v F', Fle F F' → R v F' → O n ops fl rest K wk ⟨(d, v) :: x, b, ds, own, F'⟩) (hsub : List.Sublist wk own := by first | exact List.Sublist.refl _ | exact List.nil_sublist _ | exact List.Sublist.cons _ (List.Sublist.refl _) | exact List.Sublist.cons _ (List.Sublist.cons _ (List.Sublist.refl _)) | exact List.Sublist.cons _ (List.Sublist.cons _ (List.Sublist.cons _ (List.Sublist.refl _)))) :
    O n ops fl (⟨some d, .call { callee := .value (.func f), args := os.toArray, argTypes := ats }, ty, pos, af, none⟩ :: rest) K wk ⟨x, b, ds, own, F⟩ :=
  o_call ha (hN own) (fun v own' F' ⟨e, h1, h2⟩ => ⟨wk, .keep (by rw [e]; exact hsub) h1, by rw [e]; exact h v F' h1 h2⟩) hsub
/-! ### structs -/
/-- A struct type's fields. -/
def structF (P : Program) (t : Nat) : Option (List Field) :=
  match P.underlying t with
  | some (.struct fs) => some fs.toList
  | _ => none
/-- Where they stand, of how many cells. -/
class StT (t : Nat) (pl : outParam (List (Nat × Nat))) : Prop where
  h : (structF Tryz.prog t).map (fun l => l.map fun f => (f.offset, ((Tryz.prog.info? f.type).map (·.size)).getD 0)) = some pl
  hs : (structF Tryz.prog t).map (fun l => l.all fun f => (Tryz.prog.info? f.type).isSome) = some true
theorem mapM_sizes (w : World) : ∀ (l : List Field), (l.all fun f => (Tryz.prog.info? f.type).isSome) = true → Sem.run Tryz.prog (l.mapM fun f => do pure (f.offset, ← sizeOf f.type)) w = .ok (l.map fun f => (f.offset, ((Tryz.prog.info? f.type).map (·.size)).getD 0)) w := by
  intro l
  induction l with
  | nil => intro _; rfl
  | cons f l ih =>
    intro hl
    simp only [List.all_cons, Bool.and_eq_true] at hl
    obtain ⟨i, hi⟩ := Option.isSome_iff_exists.1 hl.1
    rw [List.mapM_cons]
    have hs : (sizeOf f.type).run Tryz.prog w = .ok i.size w := size_run (by rw [hi]; rfl) w
    simp only [Sem.run_bind, hs, Result.andThen, Sem.run_pure, ih hl.2, List.map_cons, hi, Option.map_some, Option.getD_some]
theorem StT.run {t : Nat} {pl : List (Nat × Nat)} (h : StT t pl) : ∃ fs, Tryz.prog.underlying t = some (.struct fs) ∧ ∀ w, Sem.run Tryz.prog (fs.mapM fun f => do pure (f.offset, ← sizeOf f.type)) w = .ok pl.toArray w := by
  have h1 := h.h
  have h2 := h.hs
  unfold structF at h1 h2
  cases hu : Tryz.prog.underlying t with
  | none => rw [hu] at h1; cases h1
  | some d =>
    rw [hu] at h1 h2
    cases d with
    | struct fs =>
      refine ⟨fs, rfl, fun w => ?_⟩
      simp only [Option.map_some, Option.some.injEq] at h1 h2
      subst h1
      have := mapM_sizes w fs.toList h2
      rw [Array.mapM_eq_mapM_toList]
      simp only [Functor.map, Sem.run_bind, this, Result.andThen, Sem.run_pure]
      change Sem.run Tryz.prog ((List.mapM (fun f => do
              let s ← sizeOf f.type
              pure (f.offset, s)) fs.toList) >>= fun l => pure l.toArray) w = _
      rw [Sem.run_bind, this]
      rfl
    | _ => cases h1
/-- T{..} -/
theorem o_build {t : Nat} {ps : List (Nat × Operand)} {vs : List (Nat × Value)} {pl : List (Nat × Nat)} {zs cs : List Value} [ht : StT t pl] [hz : ZrT t zs] (hv : evP n x ps = some vs) (hc : forceO (layV (pl[·]?) zs vs) = some cs)
    (h : O n ops fl rest K wk ⟨(d, .agg cs.toArray) :: x, b, ds, own, F⟩) : O n ops fl (⟨some d, .build t ps.toArray, ty, pos, af, none⟩ :: rest) K wk ⟨x, b, ds, own, F⟩ :=
  o_rd _ rfl (fun B w0 w hw => by
    obtain ⟨z0, hz0, hzc⟩ := Option.map_eq_some_iff.1 hz.h
    obtain ⟨i, hi, hzi⟩ := Option.bind_eq_some_iff.1 hz0
    obtain ⟨fs, hu, hm⟩ := ht.run
    have h3 := fill_lay _ _ _ _ (forceO_eq hc)
    have h4 : (ps.toArray.map fun (i, o) => (i, (St.act n ⟨x, b, ds, own, F⟩).eval o)).toList = vs := by rw [List.map_toArray]; exact evP_of hv
    unfold execOp
    simp only [Instr.build, h4]
    simp [run_underlying hu, zeroValue, run_typeInfo w hi, hzi, Result.andThen, hm, hzc]
    have hm' : Sem.run Tryz.prog (Array.mapM (fun f : Field => Functor.map (Prod.mk f.offset) (sizeOf f.type)) fs) w = .ok pl.toArray w := hm w
    have h3' : Instr.fill (fun x => pl.toArray[x]?) zs.toArray vs = some cs.toArray := by simpa using h3
    rw [hm']
    simp only [h3', Sem.run_pure]) h
end
end Go.Proofs.YthkoodpnepfijaaGreatDoor
