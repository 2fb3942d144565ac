/-
  THE WALKS: what Do's loop asks of 'take'; a function value against nil.
-/
import Derived.Test.YtofohjbcgchhoaaG4
namespace Go.Proofs.Ytofohjbcgchhoaa
open Go.Conc
open Go.RowKit
open Go.ConcN (sumTo sumTo_congr le_sumTo)
set_option maxRecDepth 100000
set_option linter.unusedSimpArgs false
set_option linter.unusedVariables false

/-- A function value against nil. -/
theorem u_isnil {E : En} {e : Nat} {fn : FuncId} {a : Act} {l : Lo} {K : Act → Lo → Prop} {ops : Array Oper} {j : Nat} {o : Oper} {x : Operand} {v : Value} (he : 1 ≤ e) (ho : ops[j]? = some o) (hw : Region.wanted o (yielded ops a.tmps) = true) (hop : o.op = .binOp .eql 34 x (.const .nilFunc) 34) (hx : a.eval x = v)
    (h1 : v = .nilFunc → K (a.put o.dst (.bool true)) l) (h2 : ∀ f first capv, v = .func f first capv → K (a.put o.dst (.bool false)) l) (hv : v = .nilFunc ∨ ∃ f first capv, v = .func f first capv) : E.U e fn ops j K a l := by
  have hcn : a.eval (Operand.const Value.nilFunc) = .nilFunc := rfl
  rcases hv with rfl | ⟨f, first, capv, rfl⟩
  · have hg : eqGuard BinOp.eql 34 x (Operand.const Value.nilFunc) Value.nilFunc Value.nilFunc = pure () := rfl
    have hn := fun w => (eql_func (P := Try.prog) (w := w) Try.underlying34 (.func 0) #[] #[]).2
    refine u_pure he ho hw (.bool true) (fun w => ?_) (fun w => ?_) (h1 rfl)
    · unfold execOp
      simp [hop, hx, hcn, hg, (hn w).1, Result.andThen]
    · unfold execOp
      simp [hop, hx, hcn, hg, (hn w).2]
  · have hg : eqGuard BinOp.eql 34 x (Operand.const Value.nilFunc) (Value.func f first capv) Value.nilFunc = pure () := rfl
    have hn := fun w => (eql_func (P := Try.prog) (w := w) Try.underlying34 f first capv).1
    refine u_pure he ho hw (.bool false) (fun w => ?_) (fun w => ?_) (h2 f first capv rfl)
    · unfold execOp
      simp [hop, hx, hcn, hg, (hn w).1, Result.andThen]
    · unfold execOp
      simp [hop, hx, hcn, hg, (hn w).2]

set_option maxHeartbeats 4000000 in
theorem take_nil : ∃ n, ∀ (E : En) (l : Lo) (Post : Value → Lo → Prop), l.md = .act → Post (.bool false) l → E.N 22 #[.pointer none] n l Post := by
  refine ⟨_, fun E l Post hact h1 => n_of_b (b_of (e := 2) (L := 17) Try.func22 (by rfl) rfl ?_)⟩
  simp only [act0, Try.ntmps22, List.size_toArray, List.length_cons, List.length_nil, Nat.reduceAdd, Nat.reduceSub, Array.replicate_succ, Array.replicate_zero, List.push_toArray, List.append_toArray, List.nil_append, List.cons_append]
  repeat (first
    | (refine c_seq ?_)
    | (refine c_region ?_
       simp only [List.size_toArray, List.length_cons, List.length_nil, Nat.reduceAdd, Nat.zero_add, List.range, List.range.loop])
    | (refine o_nil ?_
       simp only [Thn, Inb, if_true, if_false, reduceIte, Nat.reduceEqDiff])
    | (refine c_skip ?_
       simp only [Thn, Inb, if_true, if_false, reduceIte, Nat.reduceEqDiff])
    | (refine c_cond true (by rfl) (fun _ => ?_) (fun e => by cases e))
    | (refine c_cond false (by rfl) (fun e => by cases e) (fun _ => ?_))
    | (refine c_block ?_)
    | (refine c_label ?_)
    | (refine o_cons (u_read (by omega) hact rfl (by rfl) fun w hF K' hK' => ?_)
       go_simp
       refine hK' _ ⟨?_, ?_⟩
       focus
         rw [listed_nil]
         · simp
         · (simp [go_sem]; done)
       clear hK' K' hF w
       try walk_nrm)
    | (refine o_cons (u_unwanted (by omega) rfl (by rfl) ?_)
       try walk_nrm))
  refine c_ret ?_
  refine ⟨rfl, _, resultsC_tmp (by rfl) _, ?_⟩
  exact h1

/-- What 'take' does for the loop. -/
theorem takeOk : ∃ n, ∀ (E : En) (D : DoPar) (i : Nat) (l : Lo) (ws : List (Nat × (Res → Prop))) (hi : Nat) (fk : List Nat) (xs : Nat → Int), DoPre D (E.i = 0) → DoAt D (E.i = 0) i l ws hi fk xs → i < D.n → (∀ p, l.res.tk (.alive p) ≤ l.res.tk (.slot p)) →
    E.N 22 #[.pointer D.pa] n l fun v l' => (v = .bool false ∧ l' = l ∧ (∀ c, D.gc = some c → i + 1 = D.n) ∧ (D.pool = true → E.i = 0 → D.l0.solo → D.l0.res.tk (.slot D.p) = 0 → 1 ≤ l.pk D.p)) ∨
      (v = .bool true ∧ D.pool = true ∧ ∃ q, l' = l.took D.p q ∧ 1 ≤ q ∧ l.pk D.p ≤ q ∧ ∀ c, D.gc = some c → fk.length + 1 ≤ q) := by
  obtain ⟨n1, h1⟩ := take_nil
  obtain ⟨n2, h2⟩ := take22
  refine ⟨n1 + n2, fun E D i l ws hi fk xs P h hin hsl => ?_⟩
  cases hp : D.pool with
  | false =>
    have e : D.pa = none := by unfold DoPar.pa; rw [hp]; rfl
    rw [e]
    refine En.N.more (h1 E l _ h.ext.md (.inl ⟨rfl, rfl, fun c hc => ?_, fun e => by cases e⟩)) (by omega)
    rw [P.nop hp] at hc; cases hc
  | true =>
    have e : D.pa = some ⟨D.p, 0, none⟩ := by unfold DoPar.pa; rw [hp]; rfl
    obtain ⟨p1, p2, p3⟩ := P.isp hp
    rw [e]
    refine En.N.more (h2 E D.p D.ch D.cap D.so l _ h.ext.md (by rw [h.ext.pl]; exact p1) (h.ext.ro _ _ p2) (fun hso => ?_) (hsl _) (fun q q1 q2 q3 => .inr ⟨rfl, rfl, q, rfl, q1, q2, fun c hc => ?_⟩) (fun f1 f2 => .inl ⟨rfl, rfl, fun c hc => ?_, fun _ h0 hs hz => ?_⟩)) (by omega)
    · cases hg : D.gc with
      | none => have := (P.free hg).1; rw [this] at hso; cases hso
      | some c => exact (P.gate c hg).2.1
    · obtain ⟨_, _, _, _, _, ⟨bg, m, g1⟩, _, _, _, g2, _⟩ := P.gate c hc
      obtain ⟨k1, _, _, k4, _⟩ := h.gate c hc
      refine q3 c bg m fk.length (by rw [h.ext.gl]; exact g1) k1 ?_
      have t1 := h.tk (.tr c) (by simp)
      have t2 := P.tr c
      have t3 : sumTo i (fun j => (D.ts j).T (.tr c)) + (D.ts i).T (.tr c) ≤ sumTo D.n fun j => (D.ts j).T (.tr c) := by
        have : ∀ m, i < m → sumTo i (fun j => (D.ts j).T (.tr c)) + (D.ts i).T (.tr c) ≤ sumTo m fun j => (D.ts j).T (.tr c) := by
          intro m
          induction m with
          | zero => intro h; omega
          | succ m ih =>
            intro h
            show _ ≤ sumTo m _ + _
            by_cases e : i = m
            · subst e; exact Nat.le_refl _
            · have := ih (by omega); omega
        exact this _ hin
      have t4 := g2 i hin
      omega
    · obtain ⟨g1, g2, _, g4, _⟩ := P.gate c hc
      have := f1 g1
      have := (h.gate c hc).2.2.1
      omega
    · cases hfk : fk with
      | cons j js =>
        have := h.fkl j (by rw [hfk]; exact List.mem_cons_self ..)
        exact h.pk1 hp h0 hs hz ⟨j, this⟩
      | nil =>
        exfalso
        have hl : l.solo := fun x B hB => by
          by_cases ex : x = D.u
          · subst ex
            rw [h.wsu] at hB
            cases hB
            have := h.js
            rw [hfk] at this
            simpa using this
          · rw [h.wsx x ex] at hB; exact hs x B hB
        have := f2 h0 hl
        have t1 := h.tk (.slot D.p) (by simp)
        have t2 : sumTo i (fun j => (D.ts j).T (.slot D.p)) = 0 := sumTo_zero fun j hj => (((P.ok j (by omega)).slot D.p).1)
        have t3 : sumTo i (fun j => if j ∈ fk then 0 else (D.ts j).T' (.slot D.p)) = 0 := sumTo_zero fun j hj => by
          have := ((P.ok j (by omega)).slot D.p).2
          simp [this]
        omega
end Go.Proofs.Ytofohjbcgchhoaa
