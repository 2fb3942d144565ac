/-
  Steps towards TopCounts (no conditions of their own): PLAINLY: how long the smith's code is at most; the points without what divides both. APPENDS in any region; rows that grew, only read from now on. WALKS: the program that interpolates, made.
-/
import Derived.Test.YthkoodpnepfijaaGreatDoorM10
import Derived.Test.YthkoodpnepfijaaGreatDoorM11
import Derived.Test.YthkoodpnepfijaaGreatDoorM12
/- PV: PLAINLY: how long the smith's code is at most; the points without what divides both. -/
namespace Go.Proofs.YthkoodpnepfijaaGreatDoor
set_option linter.unusedVariables false
theorem tm_len (to a c : Int) : (tm to a c).length ≤ 1 := by
  unfold tm
  repeat' split
  all_goals simp
theorem ov_len (to c : Int) : (ov to c).length ≤ 1 := by
  unfold ov
  repeat' split
  all_goals simp
theorem pwL_len (to c : Int) : ∀ (e : Nat) (fr k : Int), (pwL to c e fr k).length ≤ e + 1
  | 0, fr, k => tm_len ..
  | e + 1, fr, k => by
    unfold pwL
    split
    · rw [List.length_append]
      have := tm_len to fr k
      have := pwL_len to c e to (1 * c)
      omega
    · have := pwL_len to c e fr (k * c)
      omega
theorem pw_len (to a c : Int) (e : Nat) : (pw to a c e).length ≤ e + 1 := by
  unfold pw
  split
  · have := tm_len to a (if c = -1 ∧ e % 2 = 0 then 1 else c)
    omega
  · exact pwL_len ..
theorem awI_len (n : Nat) (p q : Pnt) (u v : Int) (k i e : Nat) : (awI n p q u v k i e).length ≤ e + 3 := by
  unfold awI
  rw [List.length_append]
  have h1 : (if u * q.A + v * q.B ≠ 0 ∨ e = 0 then pw (3 * n : Nat) (k : Nat) (u * q.A + v * q.B) e ++ [(⟨4, (i : Nat), (i : Nat), (3 * n : Nat), 0⟩ : Ins)] else []).length ≤ e + 2 := by
    split
    · rw [List.length_append, List.length_singleton]
      have := pw_len (3 * n : Nat) (k : Nat) (u * q.A + v * q.B) e
      omega
    · simp
  have h2 : (if p.A * q.B - q.A * p.B = 1 then [] else ov (i : Nat) (p.A * q.B - q.A * p.B)).length ≤ 1 := by
    split
    · simp
    · exact ov_len ..
  omega
theorem raI_len (n : Nat) (u v : Int) (j : Nat) (th : List Bool) : (raI n u v j th).length ≤ 3 := by
  unfold raI
  rw [List.length_append]
  have h1 := tm_len (3 * n : Nat) (2 * n + (j - 1) : Nat) u
  have h2 := tm_len (2 * n + j : Nat) (2 * n + j : Nat) v
  have h3 := tm_len (2 * n + j : Nat) (3 * n : Nat) 1
  cases lowR u th j <;> cases ownR v th j <;> simp only [if_true, if_false, Bool.false_eq_true, List.length_append, List.length_nil, List.length_singleton] <;> omega
theorem raJ_len (n : Nat) (u v : Int) : ∀ (m : Nat) (th : List Bool), (raJ n u v m th).length ≤ 3 * m
  | 0, th => by simp [raJ]
  | m + 1, th => by
    rw [raJ, List.length_append]
    have := raI_len n u v m th
    have := raJ_len n u v m (raTh u v m th)
    omega
theorem raD_len (n : Nat) (u v : Int) : ∀ (m d : Nat) (th : List Bool), (raD n u v d m th).length ≤ m * (3 * (d + m + 2))
  | 0, d, th => by simp [raD]
  | m + 1, d, th => by
    rw [raD, List.length_append]
    have h1 := raJ_len n u v (d + 2) th
    have h2 := raD_len n u v m (d + 1) (raJt u v (d + 2) th)
    have e : d + (m + 1) + 2 = d + 1 + m + 2 := by omega
    rw [e, Nat.add_mul, Nat.one_mul]
    omega
theorem raised_len (n : Nat) (u v : Int) (k e : Nat) (he : e ≤ 14) : (raised n u v k e).length ≤ 700 := by
  unfold raised
  rw [List.length_append]
  have h1 := tm_len (2 * n : Nat) (k : Nat) 1
  have h2 := raD_len n u v e 0 (th0 e)
  have h3 : e * (3 * (0 + e + 2)) ≤ 14 * (3 * 16) := Nat.mul_le_mul he (by omega)
  omega
theorem bkI_len (n : Nat) (p : Pnt) (e j : Nat) : (bkI n p e j).length ≤ 3 := by
  unfold bkI
  have h1 := tm_len (n + j : Nat) (n + (j - 1) : Nat) (-p.B)
  have h2 := tm_len (3 * n : Nat) (n + (j - 1) : Nat) p.B
  have h3 := tm_len (n + j : Nat) (n + j : Nat) p.A
  split
  · omega
  · rw [List.length_append, List.length_append]
    by_cases h0 : 0 < j
    · rw [if_pos h0, if_pos h0, List.length_singleton]; omega
    · rw [if_neg h0, if_neg h0, List.length_nil]; omega
theorem bkJ_len (n : Nat) (p : Pnt) (e : Nat) : ∀ m, (bkJ n p e m).length ≤ 3 * m
  | 0 => by simp [bkJ]
  | m + 1 => by
    rw [bkJ, List.length_append]
    have := bkI_len n p e m
    have := bkJ_len n p e m
    omega
theorem flatMap_len {α β : Type} (f : α → List β) (b : Nat) : ∀ (l : List α), (∀ a ∈ l, (f a).length ≤ b) → (l.flatMap f).length ≤ l.length * b
  | [], _ => by simp
  | a :: l, h => by
    rw [List.flatMap_cons, List.length_append, List.length_cons, Nat.add_mul, Nat.one_mul]
    have := h a (List.mem_cons_self ..)
    have := flatMap_len f b l (fun x hx => h x (List.mem_cons_of_mem _ hx))
    omega
theorem back_len (n : Nat) (p : Pnt) (u v : Int) (k e : Nat) (he : e ≤ 14) : (back n p u v k e).length ≤ 800 := by
  unfold back
  rw [List.length_append, List.length_append]
  have h1 := bkJ_len n p e (e + 1)
  have h2 := raised_len n u v k e he
  have h3 := flatMap_len (sumJ n (raisedT u v e)) 1 (List.range (e + 1)) (fun j _ => by unfold sumJ; split <;> simp)
  rw [List.length_range] at h3
  omega
theorem solve_len (n : Nat) (W : Nat → Pnt) (uv : Nat → Int × Int) : ∀ (e t : Nat), e ≤ 14 → (solve n W uv e t).length ≤ 1 + e * 1100
  | 0, t, _ => by have := tm_len (n : Nat) (t : Nat) 1; simp only [solve]; omega
  | e + 1, t, he => by
    rw [solve, List.length_append, List.length_append]
    have h1 := flatMap_len (fun i => awI n (W t) (W (t + 1 + i)) (uv t).1 (uv t).2 t (t + 1 + i) (e + 1)) 18 (List.range (e + 1)) (fun i _ => by have := awI_len n (W t) (W (t + 1 + i)) (uv t).1 (uv t).2 t (t + 1 + i) (e + 1); omega)
    have h2 := solve_len n W uv e (t + 1) (by omega)
    have h3 := back_len n (W t) (uv t).1 (uv t).2 t (e + 1) he
    rw [List.length_range] at h1
    omega
theorem madeC_len {l : List Pnt} (h : l.length ≤ 15) : (madeC l).length ≤ 20000 := by
  unfold madeC
  rw [List.length_append]
  have h1 := flatMap_len (preI l.length l) 14 (List.range l.length) (fun k _ => by
    unfold preI
    rw [List.length_flatten, List.map_replicate, List.sum_replicate_nat]
    have := ov_len (k : Nat) (gcdP (ptAt l k))
    have h2 : (l.length - 1) * (ov (k : Nat) (gcdP (ptAt l k))).length ≤ 14 * 1 := Nat.mul_le_mul (by omega) this
    omega)
  have h2 := solve_len l.length (whole l) (uvAt l) (l.length - 1) 0 (by omega)
  rw [List.length_range] at h1
  omega
def wholes (l : List Pnt) : List Pnt := (List.range l.length).map (whole l)
theorem wholes_len (l : List Pnt) : (wholes l).length = l.length := by simp [wholes]
theorem wholes_at {l : List Pnt} {k : Nat} (hk : k < l.length) : ptAt (wholes l) k = whole l k := by
  unfold wholes
  rw [ptAt, List.getD_eq_getElem?_getD, List.getElem?_map, List.getElem?_range hk]; rfl
theorem wholes_in {l : List Pnt} (h : RightP l) : ∀ p ∈ wholes l, InP p ∧ ¬ NotP p := fun p hp => by
  unfold wholes at hp
  obtain ⟨k, hk, rfl⟩ := List.mem_map.1 hp
  have := h.bz (List.mem_range.1 hk)
  exact ⟨this.pin, this.pn⟩
/-- The code, as it is written: ahead, and behind. -/
def aws (l : List Pnt) (t : Nat) : List Ins := (List.range (l.length - 1 - t)).flatMap fun i => awI l.length (whole l t) (whole l (t + 1 + i)) (uvAt l t).1 (uvAt l t).2 t (t + 1 + i) (l.length - 1 - t)
def bks (l : List Pnt) (t : Nat) : List Ins := back l.length (whole l t) (uvAt l t).1 (uvAt l t).2 t (l.length - 1 - t)
theorem solve_eq (l : List Pnt) : ∀ (e t : Nat), t + e + 1 = l.length → solve l.length (whole l) (uvAt l) e t = (List.range' t (e + 1)).flatMap (aws l) ++ tm (l.length : Nat) (l.length - 1 : Nat) 1 ++ (List.range' t e).reverse.flatMap (bks l)
  | 0, t, h => by
    have : aws l t = [] := by unfold aws; rw [show l.length - 1 - t = 0 by omega]; rfl
    simp [solve, this, show l.length - 1 = t by omega]
  | e + 1, t, h => by
    rw [solve, solve_eq l e (t + 1) (by omega)]
    have ha : aws l t = (List.range (e + 1)).flatMap (fun i => awI l.length (whole l t) (whole l (t + 1 + i)) (uvAt l t).1 (uvAt l t).2 t (t + 1 + i) (e + 1)) := by
      unfold aws; rw [show l.length - 1 - t = e + 1 by omega]
    have hb : bks l t = back l.length (whole l t) (uvAt l t).1 (uvAt l t).2 t (e + 1) := by
      unfold bks; rw [show l.length - 1 - t = e + 1 by omega]
    rw [List.range'_succ (s := t) (n := e + 1), List.range'_succ (s := t) (n := e), List.flatMap_cons, List.reverse_cons, List.flatMap_append, ha]
    simp only [List.flatMap_cons, List.flatMap_nil, List.append_nil, hb, List.append_assoc]
end Go.Proofs.YthkoodpnepfijaaGreatDoor
/- VE: APPENDS in any region; rows that grew, only read from now on. -/
namespace Go.Proofs.YthkoodpnepfijaaGreatDoor
open Go.RowKit
set_option linter.unusedVariables false
set_option linter.unusedSimpArgs false
/-- A part of what is owned. -/
theorem sl {a b : List Ch} (h : List.Sublist a b := by repeat (first | exact List.Sublist.refl _ | exact List.nil_sublist _ | apply List.Sublist.cons_cons | apply List.Sublist.cons)) : List.Sublist a b := h
section
variable {n : Nat} {ops : Array Oper} {fl : Option (List Nat)} {rest todo : List Oper} {K : St → Prop} {x : Fr} {b : Nat → Value} {ds : List Deferred} {own wk : List Ch} {F : Fz} {d ty : Nat} {pos : String} {af : Array Edge}
/-- A row that grows is a slice. -/
theorem o_gslW {v : Value} {e s m : Nat} {xs : List Value} (p : Nat) (hp : own[p]? = some (.g v e s m xs)) (hsub : List.Sublist wk own) (h : ∀ A c, v = .slice A m c → O n ops fl todo K wk ⟨x, b, ds, own, F⟩) : O n ops fl todo K wk ⟨x, b, ds, own, F⟩ := ⟨fun B w0 w hI => by
  have hok := hI.ok _ (List.mem_of_getElem? hp)
  rcases hok.2 with ⟨hv, hm⟩ | ⟨g, cap, cur, hv, _⟩
  · subst hm; exact (h none 0 hv).out B w0 w hI
  · exact (h _ _ hv).out B w0 w hI, hsub⟩
/-- append(s, x, ..), a row of its own and a block of the new cells, which goes. -/
theorem o_appW {t e s by_ m m' r : Nat} {a a' : Operand} {v : Value} {zs us xs : List Value} {own0 : List Ch} {own' : Value → List Ch} [ht : SlT t e s] [hz : ZrT e zs] [hb : ByT e by_] (p : Nat) (ha : evS n x a = some v) (ha' : evS n x a' = some (.slice (some ⟨r, 0, none⟩) m' m')) (hp : own0[p]? = some (.g v e s m xs))
    (hl : us.length = m' * s) (hone : us.all One = true) (hs : zs.length = s) (hs0 : Nat.blt 0 s = true) (hlt : (m + m') * by_ ≤ 140737488355328) (h63 : m + m' ≤ 9223372036854775807) (ho : ∀ v', setC own0 p (.g v' e s (m + m') (xs ++ us)) = some (own' v'))
    (hk : ∀ v', List.Sublist wk (own' v')) (hsub : List.Sublist wk (.c r us :: own0))
    (h : ∀ A c, O n ops fl rest K wk ⟨(d, .slice A (m + m') c) :: x, b, ds, own' (.slice A (m + m') c), F⟩) :
    O n ops fl (⟨some d, .call { callee := .builtin .append, args := #[a, a'], argTypes := #[t, t] }, ty, pos, af, none⟩ :: rest) K wk ⟨x, b, ds, .c r us :: own0, F⟩ := by
  refine o_append (t' := 0) (news := us) (p + 1) ha ha' (by simpa using hp) hl (rdsC 0 rfl (fun i v hi => by rw [Nat.zero_add]; exact hi)) hone hs hs0 hlt h63 (wk' := fun v' => wk) (fun v' hv' => ?_) hsub (fun v' => .keep (by rw [List.set_cons_succ, setC_eq (ho v')]; exact (hk v').cons _) (Fle.refl _))
  rw [List.set_cons_succ, setC_eq (ho v')]
  have h1 : ∀ K', O n ops fl rest K' wk ⟨(d, v') :: x, b, ds, own' v', F⟩ → O n ops fl rest K' wk ⟨(d, v') :: x, b, ds, .c r us :: own' v', F⟩ := fun K' hO => ⟨fun B w0 w hI => hO.out B w0 w (Turn.drop B w0 w hI), (hk v').cons _⟩
  refine h1 K (o_gslW p (v := v') (m := m + m') (e := e) (s := s) (xs := xs ++ us) ?_ (hk v') fun A c ev => ?_)
  · rw [← setC_eq (ho v')]; exact List.getElem?_set_self (List.getElem?_eq_some_iff.1 hp).1
  · subst ev; exact h A c
/-- What is owned, in another order. -/
theorem o_perm {own' : List Ch} (hp : own.Perm own') (h : O n ops none todo K own' ⟨x, b, ds, own', F⟩) : O n ops none todo K own ⟨x, b, ds, own, F⟩ := o_turn (Turn.perm hp) h
/-- The chunk at place p comes to the front. -/
def pick : List Ch → Nat → Option (Ch × List Ch)
  | [], _ => none
  | a :: l, 0 => some (a, l)
  | a :: l, p + 1 => match pick l p with
    | some (c, r) => some (c, a :: r)
    | none => none
theorem pick_perm : ∀ {own : List Ch} {p : Nat} {c : Ch} {r : List Ch}, pick own p = some (c, r) → own.Perm (c :: r)
  | [], p, c, r, h => by cases h
  | a :: l, 0, c, r, h => by cases h; exact .refl _
  | a :: l, p + 1, c, r, h => by
    unfold pick at h
    cases h1 : pick l p with
    | none => rw [h1] at h; cases h
    | some q =>
      obtain ⟨c', r'⟩ := q
      rw [h1] at h
      cases h
      exact ((pick_perm h1).cons a).trans (.swap ..)
/-- A row of structs that grew is only read from now on. -/
theorem o_iceS {α : Type} {f : α → List Value} {l : List α} {v : Value} {e s m : Nat} {r : List Ch} (z0 : α) (p : Nat) (hp : pick own p = some (.g v e s m (l.flatMap f), r)) (hf : ∀ a, (f a).length = s) (hm : l.length = m)
    (h : RowS (F.add (.g v e s m (l.flatMap f))) v f s z0 l → O n ops none todo K r ⟨x, b, ds, r, F.add (.g v e s m (l.flatMap f))⟩) : O n ops none todo K own ⟨x, b, ds, own, F⟩ := by
  refine o_perm (pick_perm hp) ⟨fun B w0 w hI => ?_, List.Sublist.refl _⟩
  have h1 : Inv B w0 (.g v e s m (l.map f).flatten :: r) F w := by rw [← List.flatMap_def]; exact hI
  have h2 := rows_iceg h1 (fun us hus => by obtain ⟨a, _, rfl⟩ := List.mem_map.1 hus; exact hf a) (by simpa using hm)
  rw [← List.flatMap_def] at h2
  exact (h h2).out B w0 w hI.ice
/-- .. of plain things. -/
theorem o_iceM {α : Type} {f : α → Value} {l : List α} {v : Value} {e m : Nat} {r : List Ch} (z0 : α) (p : Nat) (hp : pick own p = some (.g v e 1 m (l.map f), r))
    (h : RowM (F.add (.g v e 1 m (l.map f))) v f z0 l → O n ops none todo K r ⟨x, b, ds, r, F.add (.g v e 1 m (l.map f))⟩) : O n ops none todo K own ⟨x, b, ds, own, F⟩ := by
  refine o_perm (pick_perm hp) ⟨fun B w0 w hI => ?_, List.Sublist.refl _⟩
  exact (h (row_iceg hI)).out B w0 w hI.ice
/-- A block of plain things is only read from now on. -/
theorem o_iceC {α : Type} {f : α → Value} {l : List α} {r m c : Nat} {rs : List Ch} (z0 : α) (p : Nat) (hp : pick own p = some (.c r (l.map f), rs)) (hm : l.length = m) (hc : m ≤ c)
    (h : RowM (F.add (.c r (l.map f))) (.slice (some ⟨r, 0, none⟩) m c) f z0 l → O n ops none todo K rs ⟨x, b, ds, rs, F.add (.c r (l.map f))⟩) : O n ops none todo K own ⟨x, b, ds, own, F⟩ := by
  refine o_perm (pick_perm hp) ⟨fun B w0 w hI => ?_, List.Sublist.refl _⟩
  have := row_ice' (F := F) (r := r) (vs := l.map f) (c := c) (by simpa [hm] using hc)
  rw [List.length_map, hm] at this
  exact (h this).out B w0 w hI.ice
/-- .. ahead of a piece of code. -/
theorem c_iceS {ro : Option Nat} {Q : Exit → St → Prop} {c : Code} {α : Type} {f : α → List Value} {l : List α} {v : Value} {e s m : Nat} {r : List Ch} (z0 : α) (p : Nat) (hp : pick own p = some (.g v e s m (l.flatMap f), r)) (hf : ∀ a, (f a).length = s) (hm : l.length = m)
    (h : RowS (F.add (.g v e s m (l.flatMap f))) v f s z0 l → C n ro c Q ⟨x, b, ds, r, F.add (.g v e s m (l.flatMap f))⟩) : C n ro c Q ⟨x, b, ds, own, F⟩ := by
  refine c_turn (Turn.perm (pick_perm hp)) ⟨fun B w0 w hI => ?_⟩
  have h1 : Inv B w0 (.g v e s m (l.map f).flatten :: r) F w := by rw [← List.flatMap_def]; exact hI
  have h2 := rows_iceg h1 (fun us hus => by obtain ⟨a, _, rfl⟩ := List.mem_map.1 hus; exact hf a) (by simpa using hm)
  rw [← List.flatMap_def] at h2
  exact (h h2).out B w0 w hI.ice
theorem c_iceM {ro : Option Nat} {Q : Exit → St → Prop} {c : Code} {α : Type} {f : α → Value} {l : List α} {v : Value} {e m : Nat} {r : List Ch} (z0 : α) (p : Nat) (hp : pick own p = some (.g v e 1 m (l.map f), r))
    (h : RowM (F.add (.g v e 1 m (l.map f))) v f z0 l → C n ro c Q ⟨x, b, ds, r, F.add (.g v e 1 m (l.map f))⟩) : C n ro c Q ⟨x, b, ds, own, F⟩ := by
  refine c_turn (Turn.perm (pick_perm hp)) ⟨fun B w0 w hI => ?_⟩
  exact (h (row_iceg hI)).out B w0 w hI.ice
/-- A row that may grow, from nothing. -/
theorem o_nilg {e s : Nat} (h : O n ops none todo K (.g (.slice none 0 0) e s 0 [] :: own) ⟨x, b, ds, .g (.slice none 0 0) e s 0 [] :: own, F⟩) : O n ops none todo K own ⟨x, b, ds, own, F⟩ := o_turn (Turn.nil e s) h
end
end Go.Proofs.YthkoodpnepfijaaGreatDoor
/- X7: WALKS: the program that interpolates, made. -/
namespace Go.Proofs.YthkoodpnepfijaaGreatDoor
open Go.RowKit
set_option linter.unusedVariables false
set_option linter.unusedSimpArgs false
set_option maxRecDepth 100000
set_option maxHeartbeats 2000000
abbrev z4 : List Value := [.int .i64 0, .int .i64 0, .slice none 0 0, .slice none 0 0]
abbrev whC (wv : Value) (W : List Pnt) : Ch := .g wv 75 2 W.length (W.flatMap vPt)
theorem PtsR.le' {F G : Fz} {v : Value} {l : List Pnt} (h : PtsR F v l) (hl : Fle F G) : PtsR G v l := RowS.le h hl
theorem made80 {lv ov : Value} {l : List Pnt} {F : Fz} (hl : PtsR F lv l) (ho : NatsR F ov (List.range l.length)) (hr : RightP l) :
    Pu 80 [lv, ov] F fun v F' => ∃ cv ov', v = vPr (madeP l) cv ov' ∧ PrR F' cv ov' (madeP l) := fun own => by
  have hlen := hr.len
  have hlen15 := hr.len15
  have hcl := madeC_len hlen15
  obtain ⟨Al, cl, rfl⟩ := hl.dest
  obtain ⟨Ao, co, rfl⟩ := ho.dest
  have hrl : (List.range l.length).length = l.length := List.length_range
  have hgr : ∀ i, i < l.length → (List.range l.length).getD i 0 = i := fun i hi => by simp [List.getD_eq_getElem?_getD, hi]
  rw [hrl] at ho ⊢
  refine n_fun Tryz.func80 Tryz.ntmps80 rfl rfl rfl ?_
  refine go ?_
  intro r4 rs
  refine goT ?_
  refine c_loopT (fun mm X o G => ∃ (k : Nat) (cv wv : Value), mm = l.length - k ∧ X = [(0, .slice Al l.length cl), (1, .slice Ao l.length co), (4, .pointer (some ⟨r4, 0, none⟩)), (5, .int .i64 (l.length : Nat)), (6, .pointer (some ⟨rs, 0, none⟩)), (23, .slice Al l.length cl), (24, .int .i64 (l.length : Nat)), (25, .int .i64 (k : Nat))] ∧ smC rs l.length cv wv :: coC cv ((List.range k).flatMap (preI l.length l)) :: whC wv ((List.range k).map (whole l)) :: .c r4 z4 :: own = o ∧ F = G ∧ k ≤ l.length)
    ⟨_, _, _, _, ⟨0, .slice none 0 0, .slice none 0 0, rfl, rfl, rfl, rfl, by omega⟩, ⟨rfl, rfl, rfl, rfl, rfl, rfl, rfl, rfl, trivial⟩, ((Turn.nil 75 2).trans (Turn.nil 119 5)).trans (Turn.perm (pick_perm (p := 2) rfl))⟩ ?_
  rintro _ _ _ _ b ⟨k, cv, wv, rfl, rfl, rfl, rfl, hk⟩
  by_cases hkl : k < l.length
  · have hb := hr.bz hkl
    have hpq : (-16 ≤ (l.getD k z0P).A ∧ (l.getD k z0P).A ≤ 16 ∧ -16 ≤ (l.getD k z0P).B ∧ (l.getD k z0P).B ≤ 16) ∧ ¬ NotP (l.getD k z0P) := ⟨hr.inp _ (getD_mem hkl), hr.notp _ (getD_mem hkl)⟩
    have hg0 : gcdP (l.getD k z0P) ≠ 0 := by
      have h0 : 0 < gcdP (l.getD k z0P) := hb.g0
      omega
    have hcode : (List.range (k + 1)).flatMap (preI l.length l) = (List.range k).flatMap (preI l.length l) ++ preI l.length l k := by rw [List.range_succ, List.flatMap_append]; simp
    have hcl2 : ((List.range k).flatMap (preI l.length l)).length + (preI l.length l k).length ≤ 1000000 := by
      have := flatMap_take_len (preI l.length l) (List.range l.length) (k + 1)
      rw [List.take_range, Nat.min_eq_left (by omega), hcode, List.length_append] at this
      have h2 : ((List.range l.length).flatMap (preI l.length l)).length ≤ (madeC l).length := by unfold madeC; rw [List.length_append]; omega
      omega
    have hpre : preI l.length l k = (List.replicate (l.length - 1) (ov (k : Nat) (gcdP (l.getD k z0P)))).flatten := rfl
    have hW : (List.range (k + 1)).map (whole l) = (List.range k).map (whole l) ++ [prim (l.getD k z0P)] := by rw [List.range_succ, List.map_append]; rfl
    generalize hcd : (List.range k).flatMap (preI l.length l) = cd at *
    refine goT ?_
    intro r8
    refine goT ?_
    refine c_loopT (fun mm X o G => ∃ (i : Nat) (cv : Value), mm = l.length - 1 - i ∧ X = [(0, .slice Al l.length cl), (1, .slice Ao l.length co), (4, .pointer (some ⟨r4, 0, none⟩)), (5, .int .i64 (l.length : Nat)), (6, .pointer (some ⟨rs, 0, none⟩)), (7, .int .i64 (k : Nat)), (8, .pointer (some ⟨r8, 0, none⟩)), (9, .int .i64 (gcdP (l.getD k z0P))), (23, .slice Al l.length cl), (24, .int .i64 (l.length : Nat)), (25, .int .i64 (k : Nat)), (38, .int .i64 ((l.length - 1 : Nat) : Int)), (39, .int .i64 (i : Nat))] ∧ .c r8 (vPt (l.getD k z0P)) :: smC rs l.length cv wv :: coC cv (cd ++ (List.replicate i (ov (k : Nat) (gcdP (l.getD k z0P)))).flatten) :: whC wv ((List.range k).map (whole l)) :: .c r4 z4 :: own = o ∧ F = G ∧ i ≤ l.length - 1)
      ⟨_, _, _, _, ⟨0, cv, rfl, rfl, rfl, rfl, by omega⟩, ⟨rfl, rfl, rfl, rfl, rfl, rfl, rfl, rfl, rfl, rfl, rfl, eqI (by omega), rfl, trivial⟩, by rw [List.replicate_zero, List.flatten_nil, List.append_nil]; exact Turn.refl _ _⟩ ?_
    rintro _ _ _ _ b ⟨i, cv, rfl, rfl, rfl, rfl, hi⟩
    by_cases hil : i < l.length - 1
    · have hnx : (List.replicate (i + 1) (ov (k : Nat) (gcdP (l.getD k z0P)))).flatten = (List.replicate i (ov (k : Nat) (gcdP (l.getD k z0P)))).flatten ++ ov (k : Nat) (gcdP (l.getD k z0P)) := by rw [List.replicate_succ', List.flatten_append]; simp
      have hlx : ((List.replicate (i + 1) (ov (k : Nat) (gcdP (l.getD k z0P)))).flatten).length ≤ (preI l.length l k).length := by
        rw [hpre]
        simp only [List.length_flatten, List.map_replicate, List.sum_replicate_nat]
        exact Nat.mul_le_mul_right _ (by omega)
      rw [hnx, List.length_append] at hlx
      refine goT ?_
      refine o_em 1 2 (over121 (k : Nat) (gcdP (l.getD k z0P))) rfl rfl rfl rfl (by rw [List.length_append]; omega) (fun _ => rfl) (fun _ cv2 => ?_)
      refine goT ?_
      exact ⟨_, _, _, _, ⟨i + 1, cv2, rfl, rfl, rfl, rfl, by omega⟩, ⟨rfl, rfl, rfl, rfl, rfl, rfl, rfl, rfl, rfl, rfl, rfl, rfl, eqI (by omega), trivial⟩, by rw [hnx, ← List.append_assoc]; exact Turn.refl _ _, rfl, by omega⟩
    · obtain rfl : i = l.length - 1 := by omega
      rw [← hpre, ← hcode]
      refine goT ?_
      refine c_drww [.c r8 (vPt (l.getD k z0P)), smC rs l.length cv wv] sl rfl (by decide +kernel) ?_
      refine go ?_
      refine o_lit rfl rfl rfl rfl rfl (fun r60 => ?_) sl (fun _ => Wk.keep sl (Fle.refl _))
      refine o_appW 3 rfl rfl rfl rfl rfl rfl rfl (by simp; omega) (by simp; omega) (fun _ => rfl) (fun _ => sl) sl (fun A' c' => ?_)
      refine go ?_
      refine ⟨_, _, _, _, ⟨k + 1, cv, .slice A' (((List.range k).map (whole l)).length + 1) c', rfl, rfl, rfl, rfl, by omega⟩, ⟨rfl, rfl, rfl, rfl, rfl, rfl, rfl, eqI (by omega), trivial⟩, ?_, rfl, by omega⟩
      rw [hW]
      simp only [whC, List.length_append, List.length_singleton, List.flatMap_append, List.flatMap_cons, List.flatMap_nil, List.append_nil]
      exact Turn.drop
  · obtain rfl : k = l.length := by omega
    refine goT ?_
    refine c_iceS z0P 2 rfl (fun _ => rfl) rfl (fun hWh => ?_)
    have hwl := wholes_len l
    have hwi := wholes_in hr
    have hwa := fun k hk => wholes_at (l := l) (k := k) hk
    have hWh' : PtsR _ wv (wholes l) := hWh
    clear hWh
    generalize hF1 : F.add (whC wv ((List.range l.length).map (whole l))) = F1 at *
    have hFF : Fle F F1 := by rw [← hF1]; exact Fz.add_le _ _
    have ho1 := RowM.le ho hFF
    have hsol := solve_eq l (l.length - 1) 0 (by omega)
    rw [show l.length - 1 + 1 = l.length by omega] at hsol
    have hmade : madeC l = (List.range l.length).flatMap (preI l.length l) ++ ((List.range' 0 l.length).flatMap (aws l) ++ tm (l.length : Nat) (l.length - 1 : Nat) 1 ++ (List.range' 0 (l.length - 1)).reverse.flatMap (bks l)) := by rw [← hsol]; rfl
    rw [← List.range_eq_range'] at hmade
    have hml := congrArg List.length hmade
    simp only [List.length_append] at hml
    generalize hP0 : (List.range l.length).flatMap (preI l.length l) = P0 at *
    refine goT ?_
    refine c_loopT (fun mm X o G => ∃ (t : Nat) (cv : Value), mm = l.length - t ∧ X = [(0, .slice Al l.length cl), (1, .slice Ao l.length co), (4, .pointer (some ⟨r4, 0, none⟩)), (5, .int .i64 (l.length : Nat)), (6, .pointer (some ⟨rs, 0, none⟩)), (65, .slice Ao l.length co), (66, .int .i64 (l.length : Nat)), (67, .int .i64 (t : Nat))] ∧ smC rs l.length cv wv :: coC cv (P0 ++ (List.range t).flatMap (aws l)) :: .c r4 z4 :: own = o ∧ F1 = G ∧ t ≤ l.length)
      ⟨_, _, _, _, ⟨0, cv, rfl, rfl, rfl, rfl, by omega⟩, ⟨rfl, rfl, rfl, rfl, rfl, rfl, rfl, rfl, trivial⟩, by rw [List.range_zero, List.flatMap_nil, List.append_nil]; exact Turn.refl _ _⟩ ?_
    rintro _ _ _ _ b ⟨t, cv, rfl, rfl, rfl, rfl, ht⟩
    by_cases htl : t < l.length
    · have hdr : (List.range l.length).drop (t + 1) = (List.range (l.length - 1 - t)).map (fun i => t + 1 + i) := by
        apply List.ext_getElem?
        intro i
        rw [List.getElem?_drop, List.getElem?_map]
        by_cases hi : i < l.length - 1 - t
        · rw [List.getElem?_range (by omega), List.getElem?_range hi]; rfl
        · rw [List.getElem?_eq_none (by rw [List.length_range]; omega), List.getElem?_eq_none (by rw [List.length_range]; omega)]; rfl
      have hnx : (List.range (t + 1)).flatMap (aws l) = (List.range t).flatMap (aws l) ++ aws l t := by rw [List.range_succ, List.flatMap_append]; simp
      have hlx : ((List.range (t + 1)).flatMap (aws l)).length ≤ ((List.range l.length).flatMap (aws l)).length := by
        have := flatMap_take_len (aws l) (List.range l.length) (t + 1)
        rwa [List.take_range, Nat.min_eq_left (by omega)] at this
      rw [hnx, List.length_append] at hlx
      have haw : (((List.range l.length).drop (t + 1)).flatMap fun i => awI l.length (ptAt (wholes l) t) (ptAt (wholes l) i) (bezP (ptAt (wholes l) t)).1 (bezP (ptAt (wholes l) t)).2 t i (l.length - 1 - t)) = aws l t := by
        rw [hdr, List.flatMap_map, hwa t htl]
        unfold aws
        rw [List.flatMap_def, List.flatMap_def]
        congr 1
        refine List.map_congr_left fun i hi => ?_
        have := List.mem_range.1 hi
        show awI l.length (whole l t) (ptAt (wholes l) (t + 1 + i)) _ _ t (t + 1 + i) _ = _
        rw [hwa (t + 1 + i) (by omega)]; rfl
      have hgt : (List.range l.length).getD t 0 = t := hgr t htl
      have hrl' : t < (List.range l.length).length := by omega
      refine goT ?_
      refine o_sllM (t + 1) rfl ho1 rfl (by omega) (by omega) (fun v1 hv1 => ?_)
      refine goT ?_
      rw [hgt]
      refine o_val (.int .i64 ((l.length - 1 - t : Nat) : Int)) (congrArg (Value.int .i64) (by omega)) ?_
      have haw1 := away122 (n := l.length) (k := t) (e := l.length - 1 - t) hWh' hv1 (by omega) (by omega) (by omega) (by omega) (by rw [List.length_drop]; omega) (fun i hi => by rw [hdr] at hi; obtain ⟨q, hq, rfl⟩ := List.mem_map.1 hi; have := List.mem_range.1 hq; omega) hwi
      rw [haw] at haw1
      refine o_em 0 1 haw1 rfl rfl rfl rfl (by rw [List.length_append]; omega) (fun _ => rfl) (fun _ cv2 => ?_)
      refine goT ?_
      exact ⟨_, _, _, _, ⟨t + 1, cv2, rfl, rfl, rfl, rfl, by omega⟩, ⟨rfl, rfl, rfl, rfl, rfl, rfl, rfl, eqI (by omega), trivial⟩, by rw [hnx, ← List.append_assoc]; exact Turn.refl _ _, rfl, by omega⟩
    · obtain rfl : t = l.length := by omega
      generalize hAW : (List.range l.length).flatMap (aws l) = AW at *
      have hgl : (List.range l.length).getD (l.length - 1) 0 = l.length - 1 := hgr _ (by omega)
      have hrl' : l.length - 1 < (List.range l.length).length := by omega
      refine goT ?_
      refine c_drwoW [0, 1, 3, 4, 5, 6, 7, 2, 8] [] (by kernel_rfl) (by simp only [List.map_cons, List.map_nil, getD_lit, List.getD_cons_zero, List.getD_cons_succ]; exact rfl) ?_
      refine go ?_
      refine o_rdn rfl (poly124 0 0 rfl (by omega) (by omega)) ?_
      refine go ?_
      rw [hgl]
      refine o_em 0 1 (times123 (l.length + 0 : Nat) (l.length - 1 : Nat) 1) rfl rfl rfl rfl (by rw [List.length_append]; simp only [Nat.add_zero]; omega) (fun _ => rfl) (fun _ cv2 => ?_)
      rw [Nat.add_zero]
      generalize hTM : tm (l.length : Nat) (l.length - 1 : Nat) 1 = TM at *
      refine go ?_
      refine c_loopT (fun mm X o G => ∃ (j : Nat) (z : Int) (cv : Value) (dn : List Ins), mm = j + 1 ∧ X = [(0, .slice Al l.length cl), (1, .slice Ao l.length co), (4, .pointer (some ⟨r4, 0, none⟩)), (5, .int .i64 (l.length : Nat)), (6, .pointer (some ⟨rs, 0, none⟩)), (15, .int .i64 z)] ∧ smC rs l.length cv wv :: coC cv (P0 ++ AW ++ TM ++ dn) :: .c r4 z4 :: own = o ∧ Fle F1 G ∧ z = (j : Int) - 1 ∧ j ≤ l.length - 1 ∧ dn ++ (List.range' 0 j).reverse.flatMap (bks l) = (List.range' 0 (l.length - 1)).reverse.flatMap (bks l))
        ⟨_, _, _, _, ⟨l.length - 1, (l.length : Int) - 2, cv2, [], rfl, rfl, rfl, Fle.refl _, by omega, by omega, rfl⟩, ⟨rfl, rfl, rfl, rfl, rfl, rfl, trivial⟩, by rw [List.append_nil]; exact Turn.refl _ _⟩ ?_
      rintro _ _ _ G b ⟨j, z, cv, dn, rfl, rfl, rfl, hFG, hz, hj, hdn⟩
      have hL := congrArg List.length hdn
      by_cases hj0 : j = 0
      · subst hj0
        subst hz
        simp only [List.range'_zero, List.reverse_nil, List.flatMap_nil, List.append_nil] at hdn
        subst hdn
        have hmade2 : madeC l = P0 ++ AW ++ TM ++ (List.range' 0 (l.length - 1)).reverse.flatMap (bks l) := by rw [hmade]; simp only [List.append_assoc]
        rw [← hmade2]
        have hFG2 := hFF.trans hFG
        clear hmade hmade2 hml hsol hwa hWh' hAW hTM hP0 hF1 hrl' hgl
        generalize hCD : madeC l = CD at *
        refine goT ?_
        refine o_gslW 1 rfl sl (fun Ac cc hcv => ?_)
        subst hcv
        refine goT ?_
        intro r16
        refine goT ?_
        refine c_loopT (fun mm X o G' => ∃ (i : Nat) (ov : Value), mm = l.length - i ∧ X = [(0, .slice Al l.length cl), (1, .slice Ao l.length co), (4, .pointer (some ⟨r4, 0, none⟩)), (5, .int .i64 (l.length : Nat)), (6, .pointer (some ⟨rs, 0, none⟩)), (16, .pointer (some ⟨r16, 0, none⟩)), (118, .int .i64 (l.length : Nat)), (119, .int .i64 (i : Nat))] ∧ .c r16 [.int .i64 (l.length : Nat), .int .i64 (3 * l.length + 1), .slice Ac CD.length cc, ov] :: .g ov 3 1 i (((List.range i).map fun j => ((l.length + j : Nat) : Int)).map vi) :: smC rs l.length (.slice Ac CD.length cc) wv :: coC (.slice Ac CD.length cc) CD :: .c r4 z4 :: own = o ∧ G = G' ∧ i ≤ l.length)
          ⟨_, _, _, _, ⟨0, .slice none 0 0, rfl, rfl, rfl, rfl, by omega⟩, ⟨rfl, rfl, rfl, rfl, rfl, rfl, rfl, rfl, trivial⟩, (Turn.nil 3 1).trans (Turn.perm (pick_perm (p := 1) rfl))⟩ ?_
        rintro _ _ _ _ b ⟨i, ov, rfl, rfl, rfl, rfl, hi⟩
        have hml : ((List.range i).map fun j => ((l.length + j : Nat) : Int)).length = i := by simp
        have hnx : (List.range (i + 1)).map (fun j => ((l.length + j : Nat) : Int)) = (List.range i).map (fun j => ((l.length + j : Nat) : Int)) ++ [((l.length + i : Nat) : Int)] := by rw [List.range_succ, List.map_append]; rfl
        by_cases hil : i < l.length
        · refine goT ?_
          refine c_drww [.c r16 [.int .i64 (l.length : Nat), .int .i64 (3 * l.length + 1), .slice Ac CD.length cc, ov]] sl rfl (by decide +kernel) ?_
          refine go ?_
          refine o_rdn rfl (poly124 2 i rfl (by omega) (by omega)) ?_
          refine go ?_
          refine o_lit rfl rfl rfl rfl rfl (fun r60 => ?_) sl (fun _ => Wk.keep sl (Fle.refl _))
          refine o_appW 1 rfl rfl rfl rfl rfl rfl rfl (by omega) (by omega) (fun _ => rfl) (fun _ => sl) sl (fun A' c' => ?_)
          refine go ?_
          refine ⟨_, _, _, _, ⟨i + 1, .slice A' (i + 1) c', rfl, rfl, rfl, rfl, by omega⟩, ⟨rfl, rfl, rfl, rfl, rfl, rfl, rfl, eqI (by omega), trivial⟩, ?_, rfl, by omega⟩
          rw [hnx, List.map_append]
          exact Turn.refl _ _
        · obtain rfl : i = l.length := by omega
          refine goT ?_
          refine o_gslW 1 rfl sl (fun Av cv' hov => ?_)
          subst hov
          refine o_iceM (l := (List.range l.length).map fun j => ((l.length + j : Nat) : Int)) (f := vi) 0 1 rfl (fun hO => ?_)
          refine o_iceS (l := CD) (f := vIn) z0I 2 rfl (fun _ => rfl) rfl (fun hC => ?_)
          have hO2 := RowM.le hO (Fz.add_le _ (coC (.slice Ac CD.length cc) CD))
          refine go ?_
          refine b_ret rfl (.cons (.cella rfl rfl (rdsW 2 rfl)) .nil) (Turn.skip (Turn.skip Turn.drop)) ⟨rfl, hFG2.trans ((Fz.add_le _ _).trans (Fz.add_le _ _)), .slice Ac CD.length cc, .slice Av l.length cv', ?_, ?_, ?_⟩
          · show Value.agg _ = _
            unfold vPr madeP
            simp
          · show CodR _ _ (madeC l)
            rw [hCD]
            exact hC
          · exact hO2
      · obtain ⟨j, rfl⟩ : ∃ i, j = i + 1 := ⟨j - 1, by omega⟩
        obtain rfl : z = (j : Int) := by omega
        rw [List.range'_concat, List.reverse_append] at hdn hL
        simp only [List.reverse_cons, List.reverse_nil, List.nil_append, List.flatMap_append, List.flatMap_cons, List.flatMap_nil, List.append_nil, Nat.zero_add, Nat.mul_one, Nat.one_mul, List.length_append] at hdn hL
        have hgt : (List.range l.length).getD j 0 = j := hgr _ (by omega)
        have hrl' : j < (List.range l.length).length := by omega
        have ho2 := RowM.le ho1 hFG
        have hWj := PtsR.le' hWh' hFG
        refine goT ?_
        rw [hgt]
        refine o_val (.int .i64 ((l.length - 1 - j : Nat) : Int)) (congrArg (Value.int .i64) (by omega)) ?_
        have hbk1 := back125 (n := l.length) (k := j) (e := l.length - 1 - j) hWj (by omega) (by omega) (by omega) (by omega) (by omega) hwi
        have hbb : back l.length (ptAt (wholes l) j) (bezP (ptAt (wholes l) j)).1 (bezP (ptAt (wholes l) j)).2 j (l.length - 1 - j) = bks l j := by rw [hwa j (by omega)]; rfl
        rw [hbb] at hbk1
        refine o_emv 0 1 hbk1 rfl rfl rfl rfl (by simp only [List.length_append]; omega) (fun _ => rfl) (fun _ cv3 F2 hF2 _ => ?_)
        refine goT ?_
        exact ⟨_, _, _, _, ⟨j, (j : Int) - 1, cv3, dn ++ bks l j, rfl, rfl, rfl, hFG.trans hF2, rfl, by omega, by rw [List.append_assoc]; exact hdn⟩, ⟨rfl, rfl, rfl, rfl, rfl, rfl, trivial⟩, by rw [← List.append_assoc]; exact Turn.refl _ _, rfl, by omega⟩
end Go.Proofs.YthkoodpnepfijaaGreatDoor
