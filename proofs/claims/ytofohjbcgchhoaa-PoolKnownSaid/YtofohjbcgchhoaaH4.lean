/-
  THE WALKS: Together.
-/
import Derived.Test.YtofohjbcgchhoaaH3
namespace Go.Proofs.Ytofohjbcgchhoaa
open Go.Conc
open Go.RowKit
open Go.ConcN (sumTo sumTo_congr le_sumTo)
set_option maxRecDepth 100000
set_option linter.unusedSimpArgs false
set_option linter.unusedVariables false

/-! The task: it begins, it opens the gate if it is the last, it waits at the gate. -/
def tb1 (c : Nat) (k : Tk) : Nat := if k = .tb c then 1 else 0
def tr1 (c : Nat) (k : Tk) : Nat := if k = .tr c then 1 else 0

def Inv33 (bg bn ba n c : Nat) (l : Lo) (S : Nat → Bool) (a : Act) (lx : Lo) : Prop :=
  ∃ x4 x5 x6 : Value, a = ⟨#[.pointer (some ⟨bg, 0, none⟩), .pointer (some ⟨bn, 0, none⟩), .pointer (some ⟨ba, 0, none⟩), .int .i64 0, x4, x5, x6, undef, undef, undef], []⟩ ∧ (S 1 = true → x5 = .int .i64 (n : Nat)) ∧
    ((S 0 = false ∧ S 2 = false ∧ lx = l) ∨ (S 0 = true ∧ ((x4 = .int .i64 (n : Nat) ∧ lx = (l.tok (.tb c) 1).ald c ∧ (S 2 = true → x6 = .bool true)) ∨ ∃ k : Nat, k + 1 < n ∧ x4 = .int .i64 (k + 1 : Nat) ∧ lx = (l.tok (.tb c) 1).tok (.tr c) 0 ∧ (S 2 = true → x6 = .bool false))))

set_option maxHeartbeats 4000000 in
theorem task33 : ∃ N, ∀ (E : En) (bg bn ba n c p : Nat) (l : Lo) (Post : Value → Lo → Prop), l.md = .act → l.gl c = some (bg, n, p) → l.ro ⟨bn, 0, none⟩ (.int .i64 (n : Nat)) → l.ro ⟨ba, 0, none⟩ (.chan (some c)) → l.res.tk (.tr c) = 1 → l.res.tk (.tb c) = 0 → (∀ c', c' ≠ c → l.res.tk (.tr c') = 0) →
    (∀ (al' cl' : Nat → Prop), (∀ x, l.cl x → cl' x) → cl' c → Post (.int .i64 0) { (l.tok (.tb c) 1).tok (.tr c) 0 with al := al', cl := cl' }) → E.N 33 #[.pointer (some ⟨bg, 0, none⟩), .pointer (some ⟨bn, 0, none⟩), .pointer (some ⟨ba, 0, none⟩)] N l Post := by
  obtain ⟨n34, h34⟩ := add34
  refine ⟨_, fun E bg bn ba n c p l Post hact hgl hbn hba htr htb hoth h => n_of_b (b_of (e := n34 + 2) (L := 0) Try.func33 (by rfl) rfl ?_)⟩
  simp only [act0, Try.ntmps33, List.size_toArray, List.length_cons, List.length_nil, Nat.reduceAdd, Nat.reduceSub, Array.replicate_succ, Array.replicate_zero, List.push_toArray, List.append_toArray, List.nil_append, List.cons_append]
  repeat (first
    | (refine c_seq ?_)
    | (refine c_region ?_
       simp only [List.size_toArray, List.length_cons, List.length_nil, Nat.reduceAdd, Nat.zero_add, List.range, List.range.loop])
    | (refine o_nil ?_
       simp only [Thn, Inb, if_true, if_false, reduceIte, Nat.reduceEqDiff])
    | (refine c_skip ?_
       simp only [Thn, Inb, if_true, if_false, reduceIte, Nat.reduceEqDiff])
    | (refine c_cond true (by rfl) (fun _ => ?_) (fun e => by cases e))
    | (refine c_cond false (by rfl) (fun e => by cases e) (fun _ => ?_))
    | (refine c_block ?_)
    | (refine c_label ?_
       simp only [Thn, Inb, if_true, if_false, reduceIte, Nat.reduceEqDiff])
    | (refine c_scope ?_)
    | (refine o_cons (u_read (by omega) hact rfl (by rfl) fun w hF K' hK' => ?_)
       go_simp
       refine hK' _ ⟨?_, ?_⟩
       focus
         rw [listed_nil]
         · simp
         · (simp [go_sem]; done)
       clear hK' K' hF w
       try walk_nrm)
    | (refine o_cons (u_unwanted (by omega) rfl (by rfl) ?_)
       try walk_nrm))
  refine c_draw hact (Inv33 bg bn ba n c l) (back_of (by rfl)) ⟨_, _, _, rfl, by simp, .inl ⟨rfl, rfl, rfl⟩⟩ ?_ ?_
  · intro S a lx i o hI ho hSi hdep
    obtain ⟨x4, x5, x6, rfl, k1, kst⟩ := hI
    have hactx : lx.md = .act := by
      rcases kst with ⟨_, _, rfl⟩ | ⟨_, ⟨_, rfl, _⟩ | ⟨k, _, _, rfl, _⟩⟩ <;> exact hact
    have hrox : lx.ro ⟨bn, 0, none⟩ (.int .i64 (n : Nat)) := by
      rcases kst with ⟨_, _, rfl⟩ | ⟨_, ⟨_, rfl, _⟩ | ⟨k, _, _, rfl, _⟩⟩ <;> exact hbn
    rcases i with _ | _ | _ | i
    · simp only [List.getElem?_toArray, List.getElem?_cons_zero, List.getElem?_cons_succ, Option.some.injEq] at ho
      subst ho
      obtain ⟨hS2, hll⟩ : S 2 = false ∧ lx = l := by
        rcases kst with ⟨_, e⟩ | ⟨e, _⟩
        · exact e
        · rw [e] at hSi; cases hSi
      subst hll
      refine u_callx (n := n34) #[.pointer (some ⟨bg, 0, none⟩), .int .i64 1] (by omega) rfl (by rfl) rfl (by walk_nrm) ?_
      refine h34 E bg 0 1 lx _ (quit_act hact) (at_begin (x := 0) hact hgl htr htb (fun _ => ?_) (fun k hk hn => ?_))
      · refine ⟨_, _, _, rfl, ?_, .inr ⟨rfl, .inl ⟨rfl, rfl, ?_⟩⟩⟩
        · simpa using k1
        · simp [hS2]
      · refine ⟨_, _, _, rfl, ?_, .inr ⟨rfl, .inr ⟨k, hk, rfl, rfl, ?_⟩⟩⟩
        · simpa using k1
        · simp [hS2]
    · simp only [List.getElem?_toArray, List.getElem?_cons_zero, List.getElem?_cons_succ, Option.some.injEq] at ho
      subst ho
      refine u_load (.int .i64 (n : Nat)) (by omega) hactx rfl (by rfl) rfl Try.underlying3 rfl rfl (.inr hrox) ?_
      refine ⟨_, _, _, rfl, fun _ => rfl, ?_⟩
      simpa using kst
    · simp only [List.getElem?_toArray, List.getElem?_cons_zero, List.getElem?_cons_succ, Option.some.injEq] at ho
      subst ho
      have s0 : S 0 = true := hdep ⟨0, .data⟩ (by simp) rfl
      have s1 : S 1 = true := hdep ⟨1, .data⟩ (by simp) rfl
      obtain rfl := k1 s1
      rcases kst with ⟨e, _⟩ | ⟨_, ⟨rfl, rfl, _⟩ | ⟨k, hk, rfl, rfl, _⟩⟩
      · rw [s0] at e; cases e
      · refine u_read (by omega) hactx rfl (by rfl) fun w hF K' hK' => ?_
        go_simp
        refine hK' _ ⟨?_, ?_⟩
        focus
          rw [listed_nil]
          · simp
          · (simp [go_sem]; done)
        refine ⟨_, _, _, rfl, by simp, .inr ⟨by simpa using s0, .inl ⟨rfl, rfl, fun _ => by simp⟩⟩⟩
      · have hkn : ((k : Int) + 1 == (n : Int)) = false := by simp only [beq_eq_false_iff_ne, ne_eq]; omega
        refine u_read (by omega) hactx rfl (by rfl) fun w hF K' hK' => ?_
        go_simp
        refine hK' _ ⟨?_, ?_⟩
        focus
          rw [listed_nil]
          · simp
          · (simp [go_sem]; done)
        refine ⟨_, _, _, rfl, by simp, .inr ⟨by simpa using s0, .inr ⟨k, hk, by simp, rfl, fun _ => by simp [hkn]⟩⟩⟩
    · simp at ho
  · intro S a lx hI hall
    obtain ⟨x4, x5, x6, rfl, k1, kst⟩ := hI
    rcases kst with ⟨e, _⟩ | ⟨_, ⟨rfl, hlx, k6⟩ | ⟨k, hk, rfl, hlx, k6⟩⟩
    · rw [hall 0 (by decide)] at e; cases e
    · obtain rfl := k6 (hall 2 (by decide))
      have hactx : lx.md = .act := by rw [hlx]; exact hact
      simp only [Thn]
      repeat (first
        | (refine c_seq ?_)
        | (refine c_region ?_
           simp only [List.size_toArray, List.length_cons, List.length_nil, Nat.reduceAdd, Nat.zero_add, List.range, List.range.loop])
        | (refine o_nil ?_
           simp only [Thn, Inb, if_true, if_false, reduceIte, Nat.reduceEqDiff])
        | (refine c_skip ?_
           simp only [Thn, Inb, if_true, if_false, reduceIte, Nat.reduceEqDiff])
        | (refine c_cond true (by rfl) (fun _ => ?_) (fun e => by cases e))
        | (refine c_cond false (by rfl) (fun e => by cases e) (fun _ => ?_))
        | (refine c_block ?_)
        | (refine c_label ?_
           simp only [Thn, Inb, if_true, if_false, reduceIte, Nat.reduceEqDiff])
        | (refine c_scope ?_)
        | (refine o_cons (u_read (by omega) hactx rfl (by rfl) fun w hF K' hK' => ?_)
           go_simp
           refine hK' _ ⟨?_, ?_⟩
           focus
             rw [listed_nil]
             · simp
             · (simp [go_sem]; done)
           clear hK' K' hF w
           try walk_nrm)
        | (refine o_cons (u_unwanted (by omega) rfl (by rfl) ?_)
           try walk_nrm))
      refine o_cons (u_load (.chan (some c)) (by omega) hactx rfl (by rfl) rfl Try.underlying46 rfl rfl (.inr (by rw [hlx]; exact hba)) ?_)
      try walk_nrm
      refine o_cons (u_shut (by omega) hactx rfl (by rfl) rfl rfl (c := c) (bg := bg) (n := n) (p := p) (by rw [hlx]; exact hgl) (by rw [hlx]; exact .inr rfl) (by rw [hlx]; simpa [Lo.tok, Lo.ald] using htr) ?_)
      obtain ⟨l2, hl2⟩ : ∃ l2, l2 = (lx.tok (.tr c) 0).cld c := ⟨_, rfl⟩
      rw [← hl2]
      have hact2 : l2.md = .act := by rw [hl2]; exact hactx
      try walk_nrm
      repeat (first
        | (refine c_seq ?_)
        | (refine c_region ?_
           simp only [List.size_toArray, List.length_cons, List.length_nil, Nat.reduceAdd, Nat.zero_add, List.range, List.range.loop])
        | (refine o_nil ?_
           simp only [Thn, Inb, if_true, if_false, reduceIte, Nat.reduceEqDiff])
        | (refine c_skip ?_
           simp only [Thn, Inb, if_true, if_false, reduceIte, Nat.reduceEqDiff])
        | (refine c_cond true (by rfl) (fun _ => ?_) (fun e => by cases e))
        | (refine c_cond false (by rfl) (fun e => by cases e) (fun _ => ?_))
        | (refine c_block ?_)
        | (refine c_label ?_
           simp only [Thn, Inb, if_true, if_false, reduceIte, Nat.reduceEqDiff])
        | (refine c_scope ?_)
        | (refine o_cons (u_read (by omega) hact2 rfl (by rfl) fun w hF K' hK' => ?_)
           go_simp
           refine hK' _ ⟨?_, ?_⟩
           focus
             rw [listed_nil]
             · simp
             · (simp [go_sem]; done)
           clear hK' K' hF w
           try walk_nrm)
        | (refine o_cons (u_unwanted (by omega) rfl (by rfl) ?_)
           try walk_nrm))
      refine o_cons (u_load (.chan (some c)) (by omega) hact2 rfl (by rfl) rfl Try.underlying46 rfl rfl (.inr (by rw [hl2, hlx]; exact hba)) ?_)
      try walk_nrm
      refine o_cons (u_pass (z := .agg #[]) (c := c) (bg := bg) (n := n) (p := p) (by omega) hact2 rfl (by rfl) rfl rfl Try.underlying46 (fun w => by simp [go_sem]) (by rw [hl2, hlx]; exact hgl) (fun c' => ?_) ?_)
      · rw [hl2, hlx]
        by_cases e : c' = c
        · simp [Lo.tok, Lo.ald, Lo.cld, e]
        · simpa [Lo.tok, Lo.ald, Lo.cld, e] using hoth c' e
      obtain ⟨l3, hl3⟩ : ∃ l3, l3 = l2.cld c := ⟨_, rfl⟩
      rw [← hl3]
      have hact3 : l3.md = .act := by rw [hl3]; exact hact2
      try walk_nrm
      repeat (first
        | (refine c_seq ?_)
        | (refine c_region ?_
           simp only [List.size_toArray, List.length_cons, List.length_nil, Nat.reduceAdd, Nat.zero_add, List.range, List.range.loop])
        | (refine o_nil ?_
           simp only [Thn, Inb, if_true, if_false, reduceIte, Nat.reduceEqDiff])
        | (refine c_skip ?_
           simp only [Thn, Inb, if_true, if_false, reduceIte, Nat.reduceEqDiff])
        | (refine c_cond true (by rfl) (fun _ => ?_) (fun e => by cases e))
        | (refine c_cond false (by rfl) (fun e => by cases e) (fun _ => ?_))
        | (refine c_block ?_)
        | (refine c_label ?_
           simp only [Thn, Inb, if_true, if_false, reduceIte, Nat.reduceEqDiff])
        | (refine c_scope ?_)
        | (refine o_cons (u_read (by omega) hact3 rfl (by rfl) fun w hF K' hK' => ?_)
           go_simp
           refine hK' _ ⟨?_, ?_⟩
           focus
             rw [listed_nil]
             · simp
             · (simp [go_sem]; done)
           clear hK' K' hF w
           try walk_nrm)
        | (refine o_cons (u_unwanted (by omega) rfl (by rfl) ?_)
           try walk_nrm))
      refine c_ret ?_
      refine ⟨rfl, _, resultsC_tmp (by rfl) _, ?_⟩
      rw [hl3, hl2, hlx]
      exact h (fun x => l.al x ∨ x = c) (fun x => (l.cl x ∨ x = c) ∨ x = c) (fun x hx => .inl (.inl hx)) (.inr rfl)
    · obtain rfl := k6 (hall 2 (by decide))
      have hactx : lx.md = .act := by rw [hlx]; exact hact
      simp only [Thn]
      repeat (first
        | (refine c_seq ?_)
        | (refine c_region ?_
           simp only [List.size_toArray, List.length_cons, List.length_nil, Nat.reduceAdd, Nat.zero_add, List.range, List.range.loop])
        | (refine o_nil ?_
           simp only [Thn, Inb, if_true, if_false, reduceIte, Nat.reduceEqDiff])
        | (refine c_skip ?_
           simp only [Thn, Inb, if_true, if_false, reduceIte, Nat.reduceEqDiff])
        | (refine c_cond true (by rfl) (fun _ => ?_) (fun e => by cases e))
        | (refine c_cond false (by rfl) (fun e => by cases e) (fun _ => ?_))
        | (refine c_block ?_)
        | (refine c_label ?_
           simp only [Thn, Inb, if_true, if_false, reduceIte, Nat.reduceEqDiff])
        | (refine c_scope ?_)
        | (refine o_cons (u_read (by omega) hactx rfl (by rfl) fun w hF K' hK' => ?_)
           go_simp
           refine hK' _ ⟨?_, ?_⟩
           focus
             rw [listed_nil]
             · simp
             · (simp [go_sem]; done)
           clear hK' K' hF w
           try walk_nrm)
        | (refine o_cons (u_unwanted (by omega) rfl (by rfl) ?_)
           try walk_nrm))
      refine o_cons (u_load (.chan (some c)) (by omega) hactx rfl (by rfl) rfl Try.underlying46 rfl rfl (.inr (by rw [hlx]; exact hba)) ?_)
      try walk_nrm
      refine o_cons (u_pass (z := .agg #[]) (c := c) (bg := bg) (n := n) (p := p) (by omega) hactx rfl (by rfl) rfl rfl Try.underlying46 (fun w => by simp [go_sem]) (by rw [hlx]; exact hgl) (fun c' => ?_) ?_)
      · rw [hlx]
        by_cases e : c' = c
        · simp [Lo.tok, e]
        · simpa [Lo.tok, e] using hoth c' e
      obtain ⟨l3, hl3⟩ : ∃ l3, l3 = lx.cld c := ⟨_, rfl⟩
      rw [← hl3]
      have hact3 : l3.md = .act := by rw [hl3]; exact hactx
      try walk_nrm
      repeat (first
        | (refine c_seq ?_)
        | (refine c_region ?_
           simp only [List.size_toArray, List.length_cons, List.length_nil, Nat.reduceAdd, Nat.zero_add, List.range, List.range.loop])
        | (refine o_nil ?_
           simp only [Thn, Inb, if_true, if_false, reduceIte, Nat.reduceEqDiff])
        | (refine c_skip ?_
           simp only [Thn, Inb, if_true, if_false, reduceIte, Nat.reduceEqDiff])
        | (refine c_cond true (by rfl) (fun _ => ?_) (fun e => by cases e))
        | (refine c_cond false (by rfl) (fun e => by cases e) (fun _ => ?_))
        | (refine c_block ?_)
        | (refine c_label ?_
           simp only [Thn, Inb, if_true, if_false, reduceIte, Nat.reduceEqDiff])
        | (refine c_scope ?_)
        | (refine o_cons (u_read (by omega) hact3 rfl (by rfl) fun w hF K' hK' => ?_)
           go_simp
           refine hK' _ ⟨?_, ?_⟩
           focus
             rw [listed_nil]
             · simp
             · (simp [go_sem]; done)
           clear hK' K' hF w
           try walk_nrm)
        | (refine o_cons (u_unwanted (by omega) rfl (by rfl) ?_)
           try walk_nrm))
      refine c_ret ?_
      refine ⟨rfl, _, resultsC_tmp (by rfl) _, ?_⟩
      rw [hl3, hlx]
      exact h l.al (fun x => l.cl x ∨ x = c) (fun x hx => .inl hx) (.inr rfl)

def gateTask (bg bn ba c p : Nat) : Task :=
  ⟨.func (.func 33) #[] #[.pointer (some ⟨bg, 0, none⟩), .pointer (some ⟨bn, 0, none⟩), .pointer (some ⟨ba, 0, none⟩)], fun _ => False, tr1 c, fun k => tb1 c k + bg1 p k, fun x _ => x = 0⟩
theorem gateOk (bg bn ba c p : Nat) : (gateTask bg bn ba c p).Ok where
  loc x C C' _ h := h
  own x C h a ha := ha.elim
  slot q := by simp [gateTask, tr1, tb1, bg1]
  alive q := by simp [gateTask, tr1, tb1, bg1]
  gm q := by simp [gateTask, tr1, tb1, bg1]
  tr q := by simp [gateTask, tb1, bg1]
theorem gate_run : ∃ nr, ∀ (l0 : Lo) (bg bn ba n c p ch cap : Nat) (so : Bool), l0.pl p = some (ch, cap, so) → l0.gl c = some (bg, n, p) → l0.ro ⟨bn, 0, none⟩ (.int .i64 (n : Nat)) → l0.ro ⟨ba, 0, none⟩ (.chan (some c)) → RunOk l0 (.pointer (some ⟨p, 0, none⟩)) nr (some c) (gateTask bg bn ba c p) := by
  obtain ⟨nt, ht⟩ := task33
  obtain ⟨nr, hr⟩ := runOk_pool nt
  refine ⟨nr, fun l0 bg bn ba n c p ch cap so hpl hgl hbn hba => ?_⟩
  refine hr l0 p ch cap so (some c) 33 #[] #[.pointer (some ⟨bg, 0, none⟩), .pointer (some ⟨bn, 0, none⟩), .pointer (some ⟨ba, 0, none⟩)] _ _ _ _ hpl (fun a ha => ha.elim) (gateOk bg bn ba c p).loc ?_
  intro E l e1 e2 e3 e4 e5 e6 e7
  have t1 : ∀ c', l.res.tk (.tr c') = if c' = c then 1 else 0 := fun c' => by rw [e4]; simp [gateTask, tr1]
  refine ht E bg bn ba n c p l _ e1.md (by rw [e1.gl]; exact hgl) (e1.ro _ _ hbn) (e1.ro _ _ hba) (by rw [t1]; simp) (e5 c rfl) (fun c' hne => by rw [t1]; simp [hne]) fun al' cl' h1 h2 => ?_
  refine ⟨0, rfl, rfl, ?_, fun c' hc => by cases hc; exact h2⟩
  exact {
    ext := ⟨e1.md, e1.df, fun _ _ h => h, rfl, rfl, fun _ => Nat.le_refl _, h1⟩
    cell := fun _ _ _ => rfl
    tk := fun k => by
      have ttr := t1 c
      have ttb := e5 c rfl
      simp only [if_true] at ttr
      show (if k = .tr c then 0 else (if k = .tb c then 1 else l.res.tk k)) + tr1 c k = l.res.tk k + tb1 c k
      unfold tr1 tb1
      by_cases a1 : k = .tr c
      · subst a1; simp [ttr]
      · by_cases a2 : k = .tb c
        · subst a2; simp [ttb]
        · simp [a1, a2]
    wg := rfl
    wk := rfl
    ws := rfl
    gk := rfl
    ob := rfl
    sk := fun _ _ => rfl }

theorem bound_n {P : Nat → Nat → Prop} (hm : ∀ n N N', N ≤ N' → P n N → P n N') (h : ∀ n, ∃ N, P n N) (m : Nat) : ∃ N, ∀ n, n < m → P n N := by
  induction m with
  | zero => exact ⟨0, fun n hn => by omega⟩
  | succ m ih =>
    obtain ⟨N1, h1⟩ := ih
    obtain ⟨N2, h2⟩ := h m
    refine ⟨N1 + N2, fun n hn => ?_⟩
    by_cases e : n = m
    · subst e; exact hm _ _ _ (by omega) h2
    · exact hm _ _ _ (by omega) (h1 n (by omega))
theorem do11_upto (m nr : Nat) : ∃ N, ∀ n, n < m → ∀ (E : En) (D : DoPar) (c : Nat), D.n = n → n ≤ 1048576 → DoPre D (E.i = 0) → (∀ j, j < n → (D.ts j).v = .nilFunc ∨ ((∃ f first capv, (D.ts j).v = .func f first capv) ∧ RunOk D.l0 D.pv nr D.gc (D.ts j))) →
    E.N 11 #[D.pv, .slice (some D.A) n c] N D.l0 fun v l' => ∃ O u bp bo xs, v = .slice (some ⟨O, 0, none⟩) n n ∧ (∀ k, D.l0.res.cells ⟨O, k, none⟩ = none) ∧ DoPost { D with O := O, u := u, bp := bp, bo := bo } (E.i = 0) xs l' :=
  bound_n (P := fun n N => ∀ (E : En) (D : DoPar) (c : Nat), D.n = n → n ≤ 1048576 → DoPre D (E.i = 0) → (∀ j, j < n → (D.ts j).v = .nilFunc ∨ ((∃ f first capv, (D.ts j).v = .func f first capv) ∧ RunOk D.l0 D.pv nr D.gc (D.ts j))) →
    E.N 11 #[D.pv, .slice (some D.A) n c] N D.l0 fun v l' => ∃ O u bp bo xs, v = .slice (some ⟨O, 0, none⟩) n n ∧ (∀ k, D.l0.res.cells ⟨O, k, none⟩ = none) ∧ DoPost { D with O := O, u := u, bp := bp, bo := bo } (E.i = 0) xs l')
    (fun n N N' hN h E D c h1 h2 h3 h4 => (h E D c h1 h2 h3 h4).more hN) (fun n => do11 n nr) m

theorem Grow.opc {l l1 : Lo} (h : Grow l l1) (c cap : Nat) : Grow l (l1.opc c cap) := ⟨h.md, h.df, h.pl, h.gl, h.pk, h.cl, h.wg, h.wk, h.ws, h.gk, h.ob, h.sk, h.tk, h.ro, h.cell⟩

def Fr19b (v0 : Value) (v3 : Value) (y15 : Value) (y16 : Value) (y17 : Value) (y18 : Value) (y19 : Value) (y20 : Value) (y21 : Value) (y22 : Value) (y23 : Value) (ds : List Deferred) (a : Act) : Prop := ∃ x1 x2 x4 x5 x6 x7 x8 x9 x10 x11 x12 x13 x14 x24 x25 x26 x27 x28 x29 x30 x31 x32 x33 x34 x35 x36 x37 x38 x39 x40 x41 x42 x43 x44 x45 x46 x47 x48 x49 : Value, a = ⟨#[v0, x1, x2, v3, x4, x5, x6, x7, x8, x9, x10, x11, x12, x13, x14, y15, y16, y17, y18, y19, y20, y21, y22, y23, x24, x25, x26, x27, x28, x29, x30, x31, x32, x33, x34, x35, x36, x37, x38, x39, x40, x41, x42, x43, x44, x45, x46, x47, x48, x49], ds⟩

theorem sum_const (n k : Nat) : sumTo n (fun _ => k) = n * k := by
  induction n with
  | zero => simp [sumTo]
  | succ n ih => show sumTo n _ + k = _; rw [ih, Nat.succ_mul]

def Fr19c (v0 : Value) (v8 : Value) (v9 : Value) (v29 : Value) (v30 : Value) (ds : List Deferred) (a : Act) : Prop := ∃ x1 x2 x3 x4 x5 x6 x7 x10 x11 x12 x13 x14 x15 x16 x17 x18 x19 x20 x21 x22 x23 x24 x25 x26 x27 x31 x32 x33 x34 x35 x36 x37 x38 x39 x40 x41 x42 x43 x44 x45 x46 x47 x48 x49 : Value, a = ⟨#[v0, x1, x2, x3, x4, x5, x6, x7, v8, v9, x10, x11, x12, x13, x14, x15, x16, x17, x18, x19, x20, x21, x22, x23, x24, x25, x26, x27, v9, v29, v30, x31, x32, x33, x34, x35, x36, x37, x38, x39, x40, x41, x42, x43, x44, x45, x46, x47, x48, x49], ds⟩
def Fr19d (v40 : Value) (v41 : Value) (v42 : Value) (ds : List Deferred) (a : Act) : Prop := ∃ x0 x1 x2 x3 x4 x5 x6 x7 x8 x9 x10 x11 x12 x13 x14 x15 x16 x17 x18 x19 x20 x21 x22 x23 x24 x25 x26 x27 x28 x29 x30 x31 x32 x33 x34 x35 x36 x37 x38 x39 x43 x44 x45 x46 x47 x48 x49 : Value, a = ⟨#[x0, x1, x2, x3, x4, x5, x6, x7, x8, x9, x10, x11, x12, x13, x14, x15, x16, x17, x18, x19, x20, x21, x22, x23, x24, x25, x26, x27, x28, x29, x30, x31, x32, x33, x34, x35, x36, x37, x38, x39, v40, v41, v42, x43, x44, x45, x46, x47, x48, x49], ds⟩
def mu19 (n k : Nat) (a : Act) : Nat := match (a.tmps[k]? : Option Value) with | some (.int _ x) => n - x.toNat | _ => 0

def Inv19 (m : Int) (p bn : Nat) (b1 b2 : Bool) (v3 v4 v5 v6 v7 : Value) (S : Nat → Bool) (a : Act) : Prop :=
  ∃ y15 y16 y17 y18 y19 y20 y21 y22 y23 : Value, Fr19b (.pointer (some ⟨p, 0, none⟩)) (.pointer (some ⟨bn, 0, none⟩)) y15 y16 y17 y18 y19 y20 y21 y22 y23 [] a ∧
    (S 0 = true → y15 = .int .i64 m) ∧ (S 1 = true → y16 = .bool b1) ∧ (S 2 = true → y17 = .bool b1) ∧ (S 3 = true → y18 = v3) ∧ (S 4 = true → y19 = v4) ∧ (S 5 = true → y20 = v5) ∧ (S 6 = true → y21 = v6) ∧ (S 7 = true → y22 = v7) ∧ (S 8 = true → y23 = .bool b2)

set_option maxHeartbeats 8000000 in
theorem together19 : ∃ N, ∀ (E : En) (l : Lo) (p ch cap : Nat) (m : Int) (Post : Value → Lo → Prop), E.i = 0 → Calm l → l.pl p = some (ch, cap, true) → l.ro ⟨p, 0, none⟩ (.chan (some ch)) → 1 ≤ cap → cap ≤ 16 →
    (m < 1 ∨ (cap : Int) + 1 < m → ∀ l', Calm l' → Later l l' → l'.res.tk = l.res.tk → l'.pk = l.pk → Post (.tuple #[.bool false, .int .i64 2]) l') →
    (∀ n : Nat, 1 ≤ n → n ≤ cap + 1 → m = n → ∀ l', Calm l' → Later l l' → l'.res.tk (.begun p) = l.res.tk (.begun p) + n → n ≤ l'.pk p + 1 → l.pk p ≤ l'.pk p → Post (.tuple #[.bool true, .int .i64 0]) l') →
    E.N 19 #[.pointer (some ⟨p, 0, none⟩), .int .i64 m] N l Post := by
  obtain ⟨n17, h17⟩ := workers17
  obtain ⟨nr, hr⟩ := gate_run
  obtain ⟨n11, h11⟩ := do11_upto 18 nr
  refine ⟨_, fun E l p ch cap m Post h0 hC hpl0 hro0 hcap1 hcap2 hno hyes => n_of_b (b_of (e := n17 + n11 + 2) (L := 20) Try.func19 (by rfl) rfl ?_)⟩
  have hact0 := hC.md
  simp only [act0, Try.ntmps19, List.size_toArray, List.length_cons, List.length_nil, Nat.reduceAdd, Nat.reduceSub, Array.replicate_succ, Array.replicate_zero, List.push_toArray, List.append_toArray, List.nil_append, List.cons_append]
  repeat (first
    | (refine c_seq ?_)
    | (refine c_region ?_
       simp only [List.size_toArray, List.length_cons, List.length_nil, Nat.reduceAdd, Nat.zero_add, List.range, List.range.loop])
    | (refine o_nil ?_
       simp only [Thn, Inb, if_true, if_false, reduceIte, Nat.reduceEqDiff])
    | (refine c_skip ?_
       simp only [Thn, Inb, if_true, if_false, reduceIte, Nat.reduceEqDiff])
    | (refine c_cond true (by rfl) (fun _ => ?_) (fun e => by cases e))
    | (refine c_cond false (by rfl) (fun e => by cases e) (fun _ => ?_))
    | (refine c_block ?_)
    | (refine c_label ?_
       simp only [Thn, Inb, if_true, if_false, reduceIte, Nat.reduceEqDiff])
    | (refine c_scope ?_)
    | (refine o_cons (u_read (by omega) hact0 rfl (by rfl) fun w hF K' hK' => ?_)
       go_simp
       refine hK' _ ⟨?_, ?_⟩
       focus
         rw [listed_nil]
         · simp
         · (simp [go_sem]; done)
       clear hK' K' hF w
       try walk_nrm)
    | (refine o_cons (u_unwanted (by omega) rfl (by rfl) ?_)
       try walk_nrm))
  refine o_cons (u_new (by omega) hact0 rfl (by rfl) (.cells #[.int .i64 m] 3) (fun r => .pointer (some ⟨r, 0, none⟩)) (fun r => l.addc r #[.int .i64 m]) (fun w => by simp [go_sem]) (fun w => by simp [go_sem]) (new_cells hact0 _ _) fun bn hbn => ?_)
  obtain ⟨l2, hl2⟩ : ∃ l2, l2 = l.addc bn #[.int .i64 m] := ⟨_, rfl⟩
  rw [← hl2]
  have g2 : Grow l l2 := by rw [hl2]; exact (Grow.refl _).addc hbn _
  have hact : l2.md = .act := g2.md.trans hact0
  have hcn : l2.res.cells ⟨bn, 0, none⟩ = some (.int .i64 m) := by rw [hl2, addc_new]; rfl
  have hpl : l2.pl p = some (ch, cap, true) := by rw [g2.pl]; exact hpl0
  have hro : l2.ro ⟨p, 0, none⟩ (.chan (some ch)) := g2.ro _ _ hro0
  have hC2 := hC.grow g2
  have hbn0 : l.res.cells ⟨bn, 0, none⟩ = none := hbn.cell _ rfl
  clear hl2 hbn
  try walk_nrm
  repeat (first
    | (refine c_seq ?_)
    | (refine c_region ?_
       simp only [List.size_toArray, List.length_cons, List.length_nil, Nat.reduceAdd, Nat.zero_add, List.range, List.range.loop])
    | (refine o_nil ?_
       simp only [Thn, Inb, if_true, if_false, reduceIte, Nat.reduceEqDiff])
    | (refine c_skip ?_
       simp only [Thn, Inb, if_true, if_false, reduceIte, Nat.reduceEqDiff])
    | (refine c_cond true (by rfl) (fun _ => ?_) (fun e => by cases e))
    | (refine c_cond false (by rfl) (fun e => by cases e) (fun _ => ?_))
    | (refine c_block ?_)
    | (refine c_label ?_
       simp only [Thn, Inb, if_true, if_false, reduceIte, Nat.reduceEqDiff])
    | (refine c_scope ?_)
    | (refine o_cons (u_read (by omega) hact rfl (by rfl) fun w hF K' hK' => ?_)
       go_simp
       refine hK' _ ⟨?_, ?_⟩
       focus
         rw [listed_nil]
         · simp
         · (simp [go_sem]; done)
       clear hK' K' hF w
       try walk_nrm)
    | (refine o_cons (u_unwanted (by omega) rfl (by rfl) ?_)
       try walk_nrm))
  have hw1 : IntKind.i64.wrap ((cap : Int) + 1) = (cap : Int) + 1 := by rw [IntKind.wrap_i64]; omega
  by_cases hm1 : m < 1
  · have hd1 : decide (m < 1) = true := by simpa using hm1

    refine c_draw hact (fun S a lx => lx = l2 ∧ Inv19 m p bn true true (undef) (undef) (undef) (undef) (undef) S a) (back_of (by rfl)) ⟨rfl, _, _, _, _, _, _, _, _, _, ⟨_, _, _, _, _, _, _, _, _, _, _, _, _, _, _, _, _, _, _, _, _, _, _, _, _, _, _, _, _, _, _, _, _, _, _, _, _, _, _, rfl⟩, by simp, by simp, by simp, by simp, by simp, by simp, by simp, by simp, by simp⟩ ?_ ?_
    · intro S a lx y o hI ho hSi hdep
      obtain ⟨rfl, y15, y16, y17, y18, y19, y20, y21, y22, y23, hfr, k0, k1, k2, k3, k4, k5, k6, k7, k8⟩ := hI
      obtain ⟨x1, x2, x4, x5, x6, x7, x8, x9, x10, x11, x12, x13, x14, x24, x25, x26, x27, x28, x29, x30, x31, x32, x33, x34, x35, x36, x37, x38, x39, x40, x41, x42, x43, x44, x45, x46, x47, x48, x49, rfl⟩ := hfr
      rcases y with _ | _ | _ | _ | _ | _ | _ | _ | _ | y
      · -- 0
        simp only [List.getElem?_toArray, List.getElem?_cons_zero, List.getElem?_cons_succ, Option.some.injEq] at ho
        subst ho
        refine u_load (.int .i64 m) (by omega) hact rfl (by rfl) rfl Try.underlying3 rfl rfl (.inl hcn) ?_
        unfold Inv19
        refine ⟨(by first | rfl | trivial), _, _, _, _, _, _, _, _, _, ⟨_, _, _, _, _, _, _, _, _, _, _, _, _, _, _, _, _, _, _, _, _, _, _, _, _, _, _, _, _, _, _, _, _, _, _, _, _, _, _, rfl⟩, ?_, ?_, ?_, ?_, ?_, ?_, ?_, ?_, ?_⟩
        all_goals simp only [Nat.reduceEqDiff, reduceIte, if_true, if_false]
        all_goals first | exact fun _ => rfl | exact fun _ => trivial | exact k0 | exact k1 | exact k2 | exact k3 | exact k4 | exact k5 | exact k6 | exact k7 | exact k8
      · -- 1
        simp only [List.getElem?_toArray, List.getElem?_cons_zero, List.getElem?_cons_succ, Option.some.injEq] at ho
        subst ho
        have s0 : S 0 = true := hdep ⟨0, .data⟩ (by simp) rfl
        obtain rfl := k0 s0
        refine u_read (by omega) hact rfl (by rfl) fun w hF K' hK' => ?_
        go_simp
        refine hK' _ ⟨?_, ?_⟩
        focus
          rw [listed_nil]
          · simp
          · (simp [go_sem]; done)
        clear hK' K' hF w
        unfold Inv19
        refine ⟨(by first | rfl | trivial), _, _, _, _, _, _, _, _, _, ⟨_, _, _, _, _, _, _, _, _, _, _, _, _, _, _, _, _, _, _, _, _, _, _, _, _, _, _, _, _, _, _, _, _, _, _, _, _, _, _, rfl⟩, ?_, ?_, ?_, ?_, ?_, ?_, ?_, ?_, ?_⟩
        all_goals simp only [Nat.reduceEqDiff, reduceIte, if_true, if_false]
        all_goals first | exact fun _ => rfl | exact fun _ => trivial | exact k0 | exact k1 | exact k2 | exact k3 | exact k4 | exact k5 | exact k6 | exact k7 | exact k8
      · -- 2
        simp only [List.getElem?_toArray, List.getElem?_cons_zero, List.getElem?_cons_succ, Option.some.injEq] at ho
        subst ho
        have s1 : S 1 = true := hdep ⟨1, .data⟩ (by simp) rfl
        obtain rfl := k1 s1
        refine u_read (by omega) hact rfl (by rfl) fun w hF K' hK' => ?_
        go_simp
        refine hK' _ ⟨?_, ?_⟩
        focus
          rw [listed_nil]
          · simp
          · (simp [go_sem]; done)
        clear hK' K' hF w
        unfold Inv19
        refine ⟨(by first | rfl | trivial), _, _, _, _, _, _, _, _, _, ⟨_, _, _, _, _, _, _, _, _, _, _, _, _, _, _, _, _, _, _, _, _, _, _, _, _, _, _, _, _, _, _, _, _, _, _, _, _, _, _, rfl⟩, ?_, ?_, ?_, ?_, ?_, ?_, ?_, ?_, ?_⟩
        all_goals simp only [Nat.reduceEqDiff, reduceIte, if_true, if_false]
        all_goals first | exact fun _ => rfl | exact fun _ => trivial | exact k0 | exact k1 | exact k2 | exact k3 | exact k4 | exact k5 | exact k6 | exact k7 | exact k8
      · -- 3
        simp only [List.getElem?_toArray, List.getElem?_cons_zero, List.getElem?_cons_succ, Option.some.injEq] at ho
        subst ho
        have s2 : S 2 = true := hdep ⟨2, .guard⟩ (by simp) rfl
        obtain rfl := k2 s2
        refine u_unwanted (by omega) rfl (by rfl) ?_
        unfold Inv19
        refine ⟨(by first | rfl | trivial), _, _, _, _, _, _, _, _, _, ⟨_, _, _, _, _, _, _, _, _, _, _, _, _, _, _, _, _, _, _, _, _, _, _, _, _, _, _, _, _, _, _, _, _, _, _, _, _, _, _, rfl⟩, ?_, ?_, ?_, ?_, ?_, ?_, ?_, ?_, ?_⟩
        all_goals simp only [Nat.reduceEqDiff, reduceIte, if_true, if_false]
        all_goals first | exact fun _ => rfl | exact fun _ => trivial | exact k0 | exact k1 | exact k2 | exact k3 | exact k4 | exact k5 | exact k6 | exact k7 | exact k8
      · -- 4
        simp only [List.getElem?_toArray, List.getElem?_cons_zero, List.getElem?_cons_succ, Option.some.injEq] at ho
        subst ho
        have s2 : S 2 = true := hdep ⟨2, .guard⟩ (by simp) rfl
        obtain rfl := k2 s2
        refine u_unwanted (by omega) rfl (by rfl) ?_
        unfold Inv19
        refine ⟨(by first | rfl | trivial), _, _, _, _, _, _, _, _, _, ⟨_, _, _, _, _, _, _, _, _, _, _, _, _, _, _, _, _, _, _, _, _, _, _, _, _, _, _, _, _, _, _, _, _, _, _, _, _, _, _, rfl⟩, ?_, ?_, ?_, ?_, ?_, ?_, ?_, ?_, ?_⟩
        all_goals simp only [Nat.reduceEqDiff, reduceIte, if_true, if_false]
        all_goals first | exact fun _ => rfl | exact fun _ => trivial | exact k0 | exact k1 | exact k2 | exact k3 | exact k4 | exact k5 | exact k6 | exact k7 | exact k8
      · -- 5
        simp only [List.getElem?_toArray, List.getElem?_cons_zero, List.getElem?_cons_succ, Option.some.injEq] at ho
        subst ho
        have s2 : S 2 = true := hdep ⟨2, .guard⟩ (by simp) rfl
        obtain rfl := k2 s2
        refine u_unwanted (by omega) rfl (by rfl) ?_
        unfold Inv19
        refine ⟨(by first | rfl | trivial), _, _, _, _, _, _, _, _, _, ⟨_, _, _, _, _, _, _, _, _, _, _, _, _, _, _, _, _, _, _, _, _, _, _, _, _, _, _, _, _, _, _, _, _, _, _, _, _, _, _, rfl⟩, ?_, ?_, ?_, ?_, ?_, ?_, ?_, ?_, ?_⟩
        all_goals simp only [Nat.reduceEqDiff, reduceIte, if_true, if_false]
        all_goals first | exact fun _ => rfl | exact fun _ => trivial | exact k0 | exact k1 | exact k2 | exact k3 | exact k4 | exact k5 | exact k6 | exact k7 | exact k8
      · -- 6
        simp only [List.getElem?_toArray, List.getElem?_cons_zero, List.getElem?_cons_succ, Option.some.injEq] at ho
        subst ho
        have s2 : S 2 = true := hdep ⟨2, .guard⟩ (by simp) rfl
        obtain rfl := k2 s2
        refine u_unwanted (by omega) rfl (by rfl) ?_
        unfold Inv19
        refine ⟨(by first | rfl | trivial), _, _, _, _, _, _, _, _, _, ⟨_, _, _, _, _, _, _, _, _, _, _, _, _, _, _, _, _, _, _, _, _, _, _, _, _, _, _, _, _, _, _, _, _, _, _, _, _, _, _, rfl⟩, ?_, ?_, ?_, ?_, ?_, ?_, ?_, ?_, ?_⟩
        all_goals simp only [Nat.reduceEqDiff, reduceIte, if_true, if_false]
        all_goals first | exact fun _ => rfl | exact fun _ => trivial | exact k0 | exact k1 | exact k2 | exact k3 | exact k4 | exact k5 | exact k6 | exact k7 | exact k8
      · -- 7
        simp only [List.getElem?_toArray, List.getElem?_cons_zero, List.getElem?_cons_succ, Option.some.injEq] at ho
        subst ho
        have s2 : S 2 = true := hdep ⟨2, .guard⟩ (by simp) rfl
        obtain rfl := k2 s2
        refine u_unwanted (by omega) rfl (by rfl) ?_
        unfold Inv19
        refine ⟨(by first | rfl | trivial), _, _, _, _, _, _, _, _, _, ⟨_, _, _, _, _, _, _, _, _, _, _, _, _, _, _, _, _, _, _, _, _, _, _, _, _, _, _, _, _, _, _, _, _, _, _, _, _, _, _, rfl⟩, ?_, ?_, ?_, ?_, ?_, ?_, ?_, ?_, ?_⟩
        all_goals simp only [Nat.reduceEqDiff, reduceIte, if_true, if_false]
        all_goals first | exact fun _ => rfl | exact fun _ => trivial | exact k0 | exact k1 | exact k2 | exact k3 | exact k4 | exact k5 | exact k6 | exact k7 | exact k8
      · -- 8
        simp only [List.getElem?_toArray, List.getElem?_cons_zero, List.getElem?_cons_succ, Option.some.injEq] at ho
        subst ho
        have s2 : S 2 = true := hdep ⟨2, .data⟩ (by simp) rfl
        obtain rfl := k2 s2
        have s7 : S 7 = true := hdep ⟨7, .data⟩ (by simp) rfl
        obtain rfl := k7 s7
        refine u_read (by omega) hact rfl (by rfl) fun w hF K' hK' => ?_
        go_simp
        refine hK' _ ⟨?_, ?_⟩
        focus
          rw [listed_nil]
          · simp
          · (simp [go_sem]; done)
        clear hK' K' hF w
        unfold Inv19
        refine ⟨(by first | rfl | trivial), _, _, _, _, _, _, _, _, _, ⟨_, _, _, _, _, _, _, _, _, _, _, _, _, _, _, _, _, _, _, _, _, _, _, _, _, _, _, _, _, _, _, _, _, _, _, _, _, _, _, rfl⟩, ?_, ?_, ?_, ?_, ?_, ?_, ?_, ?_, ?_⟩
        all_goals simp only [Nat.reduceEqDiff, reduceIte, if_true, if_false]
        all_goals first | exact fun _ => rfl | exact fun _ => trivial | exact k0 | exact k1 | exact k2 | exact k3 | exact k4 | exact k5 | exact k6 | exact k7 | exact k8
      · simp at ho
    intro S a lx hI hall
    obtain ⟨rfl, y15, y16, y17, y18, y19, y20, y21, y22, y23, hfr, k0, k1, k2, k3, k4, k5, k6, k7, k8⟩ := hI
    obtain ⟨x1, x2, x4, x5, x6, x7, x8, x9, x10, x11, x12, x13, x14, x24, x25, x26, x27, x28, x29, x30, x31, x32, x33, x34, x35, x36, x37, x38, x39, x40, x41, x42, x43, x44, x45, x46, x47, x48, x49, rfl⟩ := hfr
    obtain rfl := k8 (hall 8 (by decide))
    simp only [Thn]
    repeat (first
      | (refine c_seq ?_)
      | (refine c_region ?_
         simp only [List.size_toArray, List.length_cons, List.length_nil, Nat.reduceAdd, Nat.zero_add, List.range, List.range.loop])
      | (refine o_nil ?_
         simp only [Thn, Inb, if_true, if_false, reduceIte, Nat.reduceEqDiff])
      | (refine c_skip ?_
         simp only [Thn, Inb, if_true, if_false, reduceIte, Nat.reduceEqDiff])
      | (refine c_cond true (by rfl) (fun _ => ?_) (fun e => by cases e))
      | (refine c_cond false (by rfl) (fun e => by cases e) (fun _ => ?_))
      | (refine c_block ?_)
      | (refine c_label ?_
         simp only [Thn, Inb, if_true, if_false, reduceIte, Nat.reduceEqDiff])
      | (refine c_scope ?_)
      | (refine o_cons (u_read (by omega) hact rfl (by rfl) fun w hF K' hK' => ?_)
         go_simp
         refine hK' _ ⟨?_, ?_⟩
         focus
           rw [listed_nil]
           · simp
           · (simp [go_sem]; done)
         clear hK' K' hF w
         try walk_nrm)
      | (refine o_cons (u_unwanted (by omega) rfl (by rfl) ?_)
         try walk_nrm))
    refine c_ret ?_
    refine ⟨rfl, _, resultsC_tmp2 (by rfl) _, ?_⟩
    exact hno (.inl hm1) lx hC2 (Later.grow g2) g2.tk g2.pk
  · have hd1 : decide (m < 1) = false := by simpa using hm1

    refine c_draw hact (fun S a lx => lx = l2 ∧ Inv19 m p bn false (decide ((cap : Int) + 1 < m)) (.int .i64 m) (.pointer (some ⟨p, 0, none⟩)) (.int .i64 (cap : Nat)) (.int .i64 ((cap : Int) + 1)) (.bool (decide ((cap : Int) + 1 < m))) S a) (back_of (by rfl)) ⟨rfl, _, _, _, _, _, _, _, _, _, ⟨_, _, _, _, _, _, _, _, _, _, _, _, _, _, _, _, _, _, _, _, _, _, _, _, _, _, _, _, _, _, _, _, _, _, _, _, _, _, _, rfl⟩, by simp, by simp, by simp, by simp, by simp, by simp, by simp, by simp, by simp⟩ ?_ ?_
    · intro S a lx y o hI ho hSi hdep
      obtain ⟨rfl, y15, y16, y17, y18, y19, y20, y21, y22, y23, hfr, k0, k1, k2, k3, k4, k5, k6, k7, k8⟩ := hI
      obtain ⟨x1, x2, x4, x5, x6, x7, x8, x9, x10, x11, x12, x13, x14, x24, x25, x26, x27, x28, x29, x30, x31, x32, x33, x34, x35, x36, x37, x38, x39, x40, x41, x42, x43, x44, x45, x46, x47, x48, x49, rfl⟩ := hfr
      rcases y with _ | _ | _ | _ | _ | _ | _ | _ | _ | y
      · -- 0
        simp only [List.getElem?_toArray, List.getElem?_cons_zero, List.getElem?_cons_succ, Option.some.injEq] at ho
        subst ho
        refine u_load (.int .i64 m) (by omega) hact rfl (by rfl) rfl Try.underlying3 rfl rfl (.inl hcn) ?_
        unfold Inv19
        refine ⟨(by first | rfl | trivial), _, _, _, _, _, _, _, _, _, ⟨_, _, _, _, _, _, _, _, _, _, _, _, _, _, _, _, _, _, _, _, _, _, _, _, _, _, _, _, _, _, _, _, _, _, _, _, _, _, _, rfl⟩, ?_, ?_, ?_, ?_, ?_, ?_, ?_, ?_, ?_⟩
        all_goals simp only [Nat.reduceEqDiff, reduceIte, if_true, if_false]
        all_goals first | exact fun _ => rfl | exact fun _ => trivial | exact k0 | exact k1 | exact k2 | exact k3 | exact k4 | exact k5 | exact k6 | exact k7 | exact k8
      · -- 1
        simp only [List.getElem?_toArray, List.getElem?_cons_zero, List.getElem?_cons_succ, Option.some.injEq] at ho
        subst ho
        have s0 : S 0 = true := hdep ⟨0, .data⟩ (by simp) rfl
        obtain rfl := k0 s0
        refine u_read (by omega) hact rfl (by rfl) fun w hF K' hK' => ?_
        go_simp
        refine hK' _ ⟨?_, ?_⟩
        focus
          rw [listed_nil]
          · simp
          · (simp [go_sem]; done)
        clear hK' K' hF w
        unfold Inv19
        refine ⟨(by first | rfl | trivial), _, _, _, _, _, _, _, _, _, ⟨_, _, _, _, _, _, _, _, _, _, _, _, _, _, _, _, _, _, _, _, _, _, _, _, _, _, _, _, _, _, _, _, _, _, _, _, _, _, _, rfl⟩, ?_, ?_, ?_, ?_, ?_, ?_, ?_, ?_, ?_⟩
        all_goals simp only [Nat.reduceEqDiff, reduceIte, if_true, if_false]
        all_goals first | exact fun _ => rfl | exact fun _ => trivial | exact k0 | exact k1 | exact k2 | exact k3 | exact k4 | exact k5 | exact k6 | exact k7 | exact k8
      · -- 2
        simp only [List.getElem?_toArray, List.getElem?_cons_zero, List.getElem?_cons_succ, Option.some.injEq] at ho
        subst ho
        have s1 : S 1 = true := hdep ⟨1, .data⟩ (by simp) rfl
        obtain rfl := k1 s1
        refine u_read (by omega) hact rfl (by rfl) fun w hF K' hK' => ?_
        go_simp
        refine hK' _ ⟨?_, ?_⟩
        focus
          rw [listed_nil]
          · simp
          · (simp [go_sem]; done)
        clear hK' K' hF w
        unfold Inv19
        refine ⟨(by first | rfl | trivial), _, _, _, _, _, _, _, _, _, ⟨_, _, _, _, _, _, _, _, _, _, _, _, _, _, _, _, _, _, _, _, _, _, _, _, _, _, _, _, _, _, _, _, _, _, _, _, _, _, _, rfl⟩, ?_, ?_, ?_, ?_, ?_, ?_, ?_, ?_, ?_⟩
        all_goals simp only [Nat.reduceEqDiff, reduceIte, if_true, if_false]
        all_goals first | exact fun _ => rfl | exact fun _ => trivial | exact k0 | exact k1 | exact k2 | exact k3 | exact k4 | exact k5 | exact k6 | exact k7 | exact k8
      · -- 3
        simp only [List.getElem?_toArray, List.getElem?_cons_zero, List.getElem?_cons_succ, Option.some.injEq] at ho
        subst ho
        have s2 : S 2 = true := hdep ⟨2, .guard⟩ (by simp) rfl
        obtain rfl := k2 s2
        refine u_load (.int .i64 m) (by omega) hact rfl (by rfl) rfl Try.underlying3 rfl rfl (.inl hcn) ?_
        unfold Inv19
        refine ⟨(by first | rfl | trivial), _, _, _, _, _, _, _, _, _, ⟨_, _, _, _, _, _, _, _, _, _, _, _, _, _, _, _, _, _, _, _, _, _, _, _, _, _, _, _, _, _, _, _, _, _, _, _, _, _, _, rfl⟩, ?_, ?_, ?_, ?_, ?_, ?_, ?_, ?_, ?_⟩
        all_goals simp only [Nat.reduceEqDiff, reduceIte, if_true, if_false]
        all_goals first | exact fun _ => rfl | exact fun _ => trivial | exact k0 | exact k1 | exact k2 | exact k3 | exact k4 | exact k5 | exact k6 | exact k7 | exact k8
      · -- 4
        simp only [List.getElem?_toArray, List.getElem?_cons_zero, List.getElem?_cons_succ, Option.some.injEq] at ho
        subst ho
        have s2 : S 2 = true := hdep ⟨2, .guard⟩ (by simp) rfl
        obtain rfl := k2 s2
        refine u_read (by omega) hact rfl (by rfl) fun w hF K' hK' => ?_
        go_simp
        refine hK' _ ⟨?_, ?_⟩
        focus
          rw [listed_nil]
          · simp
          · (simp [go_sem]; done)
        clear hK' K' hF w
        unfold Inv19
        refine ⟨(by first | rfl | trivial), _, _, _, _, _, _, _, _, _, ⟨_, _, _, _, _, _, _, _, _, _, _, _, _, _, _, _, _, _, _, _, _, _, _, _, _, _, _, _, _, _, _, _, _, _, _, _, _, _, _, rfl⟩, ?_, ?_, ?_, ?_, ?_, ?_, ?_, ?_, ?_⟩
        all_goals simp only [Nat.reduceEqDiff, reduceIte, if_true, if_false]
        all_goals first | exact fun _ => rfl | exact fun _ => trivial | exact k0 | exact k1 | exact k2 | exact k3 | exact k4 | exact k5 | exact k6 | exact k7 | exact k8
      · -- 5
        simp only [List.getElem?_toArray, List.getElem?_cons_zero, List.getElem?_cons_succ, Option.some.injEq] at ho
        subst ho
        have s4 : S 4 = true := hdep ⟨4, .data⟩ (by simp) rfl
        obtain rfl := k4 s4
        have s2 : S 2 = true := hdep ⟨2, .guard⟩ (by simp) rfl
        obtain rfl := k2 s2
        refine u_callx (n := n17) #[.pointer (some ⟨p, 0, none⟩)] (by omega) rfl (by rfl) rfl (by walk_nrm) ?_
        refine h17 E p ch cap true _ _ hact hpl hro ?_
        unfold Inv19
        refine ⟨(by first | rfl | trivial), _, _, _, _, _, _, _, _, _, ⟨_, _, _, _, _, _, _, _, _, _, _, _, _, _, _, _, _, _, _, _, _, _, _, _, _, _, _, _, _, _, _, _, _, _, _, _, _, _, _, rfl⟩, ?_, ?_, ?_, ?_, ?_, ?_, ?_, ?_, ?_⟩
        all_goals simp only [Nat.reduceEqDiff, reduceIte, if_true, if_false]
        all_goals first | exact fun _ => rfl | exact fun _ => trivial | exact k0 | exact k1 | exact k2 | exact k3 | exact k4 | exact k5 | exact k6 | exact k7 | exact k8
      · -- 6
        simp only [List.getElem?_toArray, List.getElem?_cons_zero, List.getElem?_cons_succ, Option.some.injEq] at ho
        subst ho
        have s5 : S 5 = true := hdep ⟨5, .data⟩ (by simp) rfl
        obtain rfl := k5 s5
        have s2 : S 2 = true := hdep ⟨2, .guard⟩ (by simp) rfl
        obtain rfl := k2 s2
        refine u_read (by omega) hact rfl (by rfl) fun w hF K' hK' => ?_
        go_simp
        refine hK' _ ⟨?_, ?_⟩
        focus
          rw [listed_nil]
          · simp
          · (simp [go_sem]; done)
        clear hK' K' hF w
        unfold Inv19
        refine ⟨(by first | rfl | trivial), _, _, _, _, _, _, _, _, _, ⟨_, _, _, _, _, _, _, _, _, _, _, _, _, _, _, _, _, _, _, _, _, _, _, _, _, _, _, _, _, _, _, _, _, _, _, _, _, _, _, rfl⟩, ?_, ?_, ?_, ?_, ?_, ?_, ?_, ?_, ?_⟩
        all_goals simp only [Nat.reduceEqDiff, reduceIte, if_true, if_false]
        all_goals first | exact fun _ => rfl | exact fun _ => trivial | exact k0 | exact k1 | exact k2 | exact k3 | exact k4 | exact k5 | exact k6 | exact k7 | exact k8
      · -- 7
        simp only [List.getElem?_toArray, List.getElem?_cons_zero, List.getElem?_cons_succ, Option.some.injEq] at ho
        subst ho
        have s3 : S 3 = true := hdep ⟨3, .data⟩ (by simp) rfl
        obtain rfl := k3 s3
        have s6 : S 6 = true := hdep ⟨6, .data⟩ (by simp) rfl
        obtain rfl := k6 s6
        have s2 : S 2 = true := hdep ⟨2, .guard⟩ (by simp) rfl
        obtain rfl := k2 s2
        refine u_read (by omega) hact rfl (by rfl) fun w hF K' hK' => ?_
        go_simp
        refine hK' _ ⟨?_, ?_⟩
        focus
          rw [listed_nil]
          · simp
          · (simp [go_sem]; done)
        clear hK' K' hF w
        unfold Inv19
        refine ⟨(by first | rfl | trivial), _, _, _, _, _, _, _, _, _, ⟨_, _, _, _, _, _, _, _, _, _, _, _, _, _, _, _, _, _, _, _, _, _, _, _, _, _, _, _, _, _, _, _, _, _, _, _, _, _, _, rfl⟩, ?_, ?_, ?_, ?_, ?_, ?_, ?_, ?_, ?_⟩
        all_goals simp only [Nat.reduceEqDiff, reduceIte, if_true, if_false]
        all_goals first | exact fun _ => rfl | exact fun _ => trivial | exact k0 | exact k1 | exact k2 | exact k3 | exact k4 | exact k5 | exact k6 | exact k7 | exact k8
      · -- 8
        simp only [List.getElem?_toArray, List.getElem?_cons_zero, List.getElem?_cons_succ, Option.some.injEq] at ho
        subst ho
        have s2 : S 2 = true := hdep ⟨2, .data⟩ (by simp) rfl
        obtain rfl := k2 s2
        have s7 : S 7 = true := hdep ⟨7, .data⟩ (by simp) rfl
        obtain rfl := k7 s7
        refine u_read (by omega) hact rfl (by rfl) fun w hF K' hK' => ?_
        go_simp
        refine hK' _ ⟨?_, ?_⟩
        focus
          rw [listed_nil]
          · simp
          · (simp [go_sem]; done)
        clear hK' K' hF w
        unfold Inv19
        refine ⟨(by first | rfl | trivial), _, _, _, _, _, _, _, _, _, ⟨_, _, _, _, _, _, _, _, _, _, _, _, _, _, _, _, _, _, _, _, _, _, _, _, _, _, _, _, _, _, _, _, _, _, _, _, _, _, _, rfl⟩, ?_, ?_, ?_, ?_, ?_, ?_, ?_, ?_, ?_⟩
        all_goals simp only [Nat.reduceEqDiff, reduceIte, if_true, if_false]
        all_goals first | exact fun _ => rfl | exact fun _ => trivial | exact k0 | exact k1 | exact k2 | exact k3 | exact k4 | exact k5 | exact k6 | exact k7 | exact k8
      · simp at ho
    intro S a lx hI hall
    obtain ⟨rfl, y15, y16, y17, y18, y19, y20, y21, y22, y23, hfr, k0, k1, k2, k3, k4, k5, k6, k7, k8⟩ := hI
    obtain ⟨x1, x2, x4, x5, x6, x7, x8, x9, x10, x11, x12, x13, x14, x24, x25, x26, x27, x28, x29, x30, x31, x32, x33, x34, x35, x36, x37, x38, x39, x40, x41, x42, x43, x44, x45, x46, x47, x48, x49, rfl⟩ := hfr
    obtain rfl := k8 (hall 8 (by decide))
    simp only [Thn]
    clear k0 k1 k2 k3 k4 k5 k6 k7 k8 hall
    by_cases hm2 : (cap : Int) + 1 < m
    · have hd2 : decide ((cap : Int) + 1 < m) = true := by simpa using hm2
      rw [hd2]
      repeat (first
        | (refine c_seq ?_)
        | (refine c_region ?_
           simp only [List.size_toArray, List.length_cons, List.length_nil, Nat.reduceAdd, Nat.zero_add, List.range, List.range.loop])
        | (refine o_nil ?_
           simp only [Thn, Inb, if_true, if_false, reduceIte, Nat.reduceEqDiff])
        | (refine c_skip ?_
           simp only [Thn, Inb, if_true, if_false, reduceIte, Nat.reduceEqDiff])
        | (refine c_cond true (by rfl) (fun _ => ?_) (fun e => by cases e))
        | (refine c_cond false (by rfl) (fun e => by cases e) (fun _ => ?_))
        | (refine c_block ?_)
        | (refine c_label ?_
           simp only [Thn, Inb, if_true, if_false, reduceIte, Nat.reduceEqDiff])
        | (refine c_scope ?_)
        | (refine o_cons (u_read (by omega) hact rfl (by rfl) fun w hF K' hK' => ?_)
           go_simp
           refine hK' _ ⟨?_, ?_⟩
           focus
             rw [listed_nil]
             · simp
             · (simp [go_sem]; done)
           clear hK' K' hF w
           try walk_nrm)
        | (refine o_cons (u_unwanted (by omega) rfl (by rfl) ?_)
           try walk_nrm))
      refine c_ret ?_
      refine ⟨rfl, _, resultsC_tmp2 (by rfl) _, ?_⟩
      exact hno (.inr hm2) lx hC2 (Later.grow g2) g2.tk g2.pk
    have hd2 : decide ((cap : Int) + 1 < m) = false := by simpa using hm2
    obtain ⟨n, hn⟩ : ∃ n : Nat, m = n := ⟨m.toNat, by omega⟩
    subst hn
    have hn1 : 1 ≤ n := by omega
    have hn2 : n ≤ cap + 1 := by omega
    rw [hd2]
    repeat (first
      | (refine c_seq ?_)
      | (refine c_region ?_
         simp only [List.size_toArray, List.length_cons, List.length_nil, Nat.reduceAdd, Nat.zero_add, List.range, List.range.loop])
      | (refine o_nil ?_
         simp only [Thn, Inb, if_true, if_false, reduceIte, Nat.reduceEqDiff])
      | (refine c_skip ?_
         simp only [Thn, Inb, if_true, if_false, reduceIte, Nat.reduceEqDiff])
      | (refine c_cond true (by rfl) (fun _ => ?_) (fun e => by cases e))
      | (refine c_cond false (by rfl) (fun e => by cases e) (fun _ => ?_))
      | (refine c_block ?_)
      | (refine c_label ?_
         simp only [Thn, Inb, if_true, if_false, reduceIte, Nat.reduceEqDiff])
      | (refine c_scope ?_)
      | (refine o_cons (u_read (by omega) hact rfl (by rfl) fun w hF K' hK' => ?_)
         go_simp
         refine hK' _ ⟨?_, ?_⟩
         focus
           rw [listed_nil]
           · simp
           · (simp [go_sem]; done)
         clear hK' K' hF w
         try walk_nrm)
      | (refine o_cons (u_unwanted (by omega) rfl (by rfl) ?_)
         try walk_nrm))
    -- the gate
    refine o_cons (u_new (by omega) hact rfl (by rfl) (.chan 0 #[] false 0 0 false) (fun r => .chan (some r)) (fun r => lx.opc r 0) (fun w' => ?_) (fun w' => ?_) (new_chan hact _) fun c hc => ?_)
    · have := run_makeChan (P := Try.prog) (w := w') Try.underlying46 Try.type47 .i64 0 (by omega) (by show (0 : Int) * _ ≤ _; omega)
      unfold execOp
      simp only [Int.ofNat_zero] at this
      simp [Act.eval, this, Result.andThen]
    · have := events_makeChan (P := Try.prog) (w := w') Try.underlying46 Try.type47 .i64 0 (by omega) (by show (0 : Int) * _ ≤ _; omega) #[]
      unfold execOp
      simp only [Int.ofNat_zero] at this
      simp [Act.eval, this]
    obtain ⟨l3, hl3⟩ : ∃ l3, l3 = lx.opc c 0 := ⟨_, rfl⟩
    rw [← hl3]
    have g3 : Grow l l3 := by rw [hl3]; exact g2.opc c 0
    have hact3 : l3.md = .act := g3.md.trans hact0
    have hoc3 : l3.oc c = some 0 := by rw [hl3]; simp [Lo.opc]
    try walk_nrm
    refine o_cons (u_new (by omega) hact3 rfl (by rfl) (.cells #[.chan none] 46) (fun r => .pointer (some ⟨r, 0, none⟩)) (fun r => l3.addc r #[.chan none]) (fun w => by simp [go_sem]) (fun w => by simp [go_sem]) (new_cells hact3 _ _) fun ba hba => ?_)
    obtain ⟨l4, hl4⟩ : ∃ l4, l4 = l3.addc ba #[.chan none] := ⟨_, rfl⟩
    rw [← hl4]
    have g4 : Grow l l4 := by rw [hl4]; exact g3.addc hba _
    have hact4 : l4.md = .act := g4.md.trans hact0
    have cba4 : l4.res.cells ⟨ba, 0, none⟩ = some (.chan none) := by rw [hl4, addc_new]; rfl
    have hbnba : bn ≠ ba := fun e => by have := hba.cell ⟨bn, 0, none⟩ e; rw [hl3] at this; rw [show (lx.opc c 0).res.cells = lx.res.cells from rfl, hcn] at this; cases this
    have hba0 : l.res.cells ⟨ba, 0, none⟩ = none := by
      cases e : l.res.cells ⟨ba, 0, none⟩ with
      | none => rfl
      | some v =>
        have := g3.cell ⟨ba, 0, none⟩ (by rw [e]; simp)
        rw [hba.cell _ rfl, e] at this
        cases this
    try walk_nrm
    refine o_cons (u_store1 (ad := ⟨ba, 0, none⟩) (.chan (some c)) (by omega) hact4 rfl (by rfl) rfl (by rfl) rfl rfl rfl (by rw [cba4]; simp) ?_)
    obtain ⟨l5, hl5⟩ : ∃ l5, l5 = l4.setc ⟨ba, 0, none⟩ (.chan (some c)) := ⟨_, rfl⟩
    rw [← hl5]
    have g5 : Grow l l5 := by rw [hl5]; exact g4.setc hba0 _
    have hact5 : l5.md = .act := g5.md.trans hact0
    have cba5 : l5.res.cells ⟨ba, 0, none⟩ = some (.chan (some c)) := by rw [hl5]; show (if _ = _ then _ else _) = _; rw [if_pos rfl]
    have cbn5 : l5.res.cells ⟨bn, 0, none⟩ = some (.int .i64 (n : Nat)) := by rw [hl5]; show (if _ = _ then _ else _) = _; rw [if_neg (by simp [hbnba]), hl4, addc_old hbnba, hl3]; exact hcn
    have hoc5 : l5.oc c = some 0 := by rw [hl5, hl4]; exact hoc3
    have htk5 : l5.res.tk (.tb c) = 0 ∧ l5.res.tk (.gm c) = 0 := by rw [g5.tk, ← g2.tk]; exact ⟨hc.tk.2.2.2.2.1, hc.tk.2.2.2.2.2⟩
    try walk_nrm
    repeat (first
      | (refine c_seq ?_)
      | (refine c_region ?_
         simp only [List.size_toArray, List.length_cons, List.length_nil, Nat.reduceAdd, Nat.zero_add, List.range, List.range.loop])
      | (refine o_nil ?_
         simp only [Thn, Inb, if_true, if_false, reduceIte, Nat.reduceEqDiff])
      | (refine c_skip ?_
         simp only [Thn, Inb, if_true, if_false, reduceIte, Nat.reduceEqDiff])
      | (refine c_cond true (by rfl) (fun _ => ?_) (fun e => by cases e))
      | (refine c_cond false (by rfl) (fun e => by cases e) (fun _ => ?_))
      | (refine c_block ?_)
      | (refine c_label ?_
         simp only [Thn, Inb, if_true, if_false, reduceIte, Nat.reduceEqDiff])
      | (refine c_scope ?_)
      | (refine o_cons (u_read (by omega) hact5 rfl (by rfl) fun w hF K' hK' => ?_)
         go_simp
         refine hK' _ ⟨?_, ?_⟩
         focus
           rw [listed_nil]
           · simp
           · (simp [go_sem]; done)
         clear hK' K' hF w
         try walk_nrm)
      | (refine o_cons (u_unwanted (by omega) rfl (by rfl) ?_)
         try walk_nrm))
    refine o_cons (u_new (by omega) hact5 rfl (by rfl) (.cells #[.int .i64 0] 51) (fun r => .pointer (some ⟨r, 0, none⟩)) (fun r => l5.opg c r n p) (fun w => by simp [go_sem]) (fun w => by simp [go_sem]) (new_gate hact5 51 n p hoc5 ⟨hn1, by omega⟩) fun bg hbg => ?_)
    obtain ⟨l6, hl6⟩ : ∃ l6, l6 = l5.opg c bg n p := ⟨_, rfl⟩
    rw [← hl6]
    have hact6 : l6.md = .act := by rw [hl6]; exact hact5
    try walk_nrm
    repeat (first
      | (refine o_nil ?_
         simp only [Thn, Inb, if_true, if_false, reduceIte, Nat.reduceEqDiff])
      | (refine c_skip ?_
         simp only [Thn, Inb, if_true, if_false, reduceIte, Nat.reduceEqDiff])
      | (refine c_cond true (by rfl) (fun _ => ?_) (fun e => by cases e))
      | (refine c_cond false (by rfl) (fun e => by cases e) (fun _ => ?_))
      | (refine c_block ?_)
      | (refine c_label ?_
         simp only [Thn, Inb, if_true, if_false, reduceIte, Nat.reduceEqDiff])
      | (refine c_scope ?_)
      | (refine o_cons (u_read (by omega) hact6 rfl (by rfl) fun w hF K' hK' => ?_)
         go_simp
         refine hK' _ ⟨?_, ?_⟩
         focus
           rw [listed_nil]
           · simp
           · (simp [go_sem]; done)
         clear hK' K' hF w
         try walk_nrm)
      | (refine o_cons (u_unwanted (by omega) rfl (by rfl) ?_)
         try walk_nrm))
    -- n and the gate are read only from now on; nobody holds a slot
    obtain ⟨C', hC'⟩ : ∃ C' : Addr → Option Value, C' = fun a => if a = ⟨bn, 0, none⟩ ∨ a = ⟨ba, 0, none⟩ then none else l6.res.cells a := ⟨_, rfl⟩
    obtain ⟨R', hR'⟩ : ∃ R' : Addr → Value → Prop, R' = fun a v => l6.ro a v ∨ (a = ⟨bn, 0, none⟩ ∧ v = .int .i64 (n : Nat)) ∨ (a = ⟨ba, 0, none⟩ ∧ v = .chan (some c)) := ⟨_, rfl⟩
    obtain ⟨l7, hl7⟩ : ∃ l7 : Lo, l7 = { l6 with res := ⟨C', l6.res.tk⟩, ro := R' } := ⟨_, rfl⟩
    have hact7 : l7.md = .act := by rw [hl7]; exact hact6
    have hturn : E.Turn l6 l7 := by
      rw [hl7]
      refine turn_cells hact6 C' R' (fun a v e => ?_) (fun a v e => ?_)
      · rw [hC'] at e
        simp only at e
        split at e
        · cases e
        · exact e
      · rw [hR'] at e
        rcases e with e | ⟨rfl, rfl⟩ | ⟨rfl, rfl⟩
        · exact .inl e
        · exact .inr ⟨by rw [hC']; simp, by rw [hl6]; exact cbn5⟩
        · exact .inr ⟨by rw [hC']; simp, by rw [hl6]; exact cba5⟩
    obtain ⟨l8, hl8⟩ : ∃ l8 : Lo, l8 = { l7 with sk := fun q => l7.res.tk (.slot q) } := ⟨_, rfl⟩
    have hws7 : l7.ws = l.ws := by rw [hl7, hl6]; exact g5.ws
    have hturn2 : E.Turn l7 l8 := turn_sk h0 hact7 (fun u B hB => hC.solo u B (by rw [← hws7]; exact hB)) hl8
    have hact8 : l8.md = .act := by rw [hl8]; exact hact7
    refine c_turn (hturn.trans hturn2) (quit_act hact8) ?_
    have tk8 : ∀ k, l8.res.tk k = if k = .tr c then n else l.res.tk k := fun k => by
      rw [hl8, hl7, hl6]
      show (if k = .tr c then n else l5.res.tk k) = _
      rw [g5.tk]
    have c8 : ∀ a, l.res.cells a ≠ none → l8.res.cells a = l.res.cells a := fun a ha => by
      have e1 : a ≠ ⟨bn, 0, none⟩ := fun e => ha (e ▸ hbn0)
      have e2 : a ≠ ⟨ba, 0, none⟩ := fun e => ha (e ▸ hba0)
      rw [hl8, hl7]
      show C' a = _
      rw [hC']
      simp only [e1, e2, or_self, if_false]
      rw [hl6]
      exact g5.cell a ha
    have ro8 : ∀ a v, l.ro a v → l8.ro a v := fun a v x => by rw [hl8, hl7]; show R' a v; rw [hR']; exact .inl (by rw [hl6]; exact g5.ro a v x)
    have hbn8 : l8.ro ⟨bn, 0, none⟩ (.int .i64 (n : Nat)) := by rw [hl8, hl7]; show R' _ _; rw [hR']; exact .inr (.inl ⟨rfl, rfl⟩)
    have hba8 : l8.ro ⟨ba, 0, none⟩ (.chan (some c)) := by rw [hl8, hl7]; show R' _ _; rw [hR']; exact .inr (.inr ⟨rfl, rfl⟩)
    have hgl8 : l8.gl c = some (bg, n, p) := by rw [hl8, hl7, hl6]; simp [Lo.opg]
    have hgk8 : l8.gk c = some 0 := by rw [hl8, hl7, hl6]; simp [Lo.opg]
    have hpl8 : l8.pl = l.pl := by rw [hl8, hl7, hl6]; exact g5.pl
    have hpk8 : l8.pk = l.pk := by rw [hl8, hl7, hl6]; exact g5.pk
    have hcl8 : l8.cl = l.cl := by rw [hl8, hl7, hl6]; exact g5.cl
    have hdf8 : l8.df = 0 := by rw [hl8, hl7, hl6]; exact g5.df.trans hC.df
    have hws8 : l8.ws = l.ws := by rw [hl8]; exact hws7
    have hsk8 : ∀ q, l8.sk q = 0 := fun q => by
      rw [hl8]
      show l7.res.tk (.slot q) = 0
      have := tk8 (.slot q)
      rw [hl8] at this
      rw [show l7.res.tk (.slot q) = _ from this]
      simp only [reduceCtorEq, if_false]
      exact (hC.slot0 q).1
    have htb8 : l8.res.tk (.tb c) = 0 := by rw [tk8]; simp only [reduceCtorEq, if_false]; rw [← g5.tk]; exact htk5.1
    have hgm8 : l8.res.tk (.gm c) = 0 := by rw [tk8]; simp only [reduceCtorEq, if_false]; rw [← g5.tk]; exact htk5.2
    clear hC' hR' hl8 hl7 hl6 hl5 hl4 hl3 g3 g4 g5 cba5 cbn5 cba4 hoc3 hoc5 hba hbg hturn hturn2 hws7 htk5 hact3 hact4 hact5 hact6 hact7
    repeat (first
      | (refine c_seq ?_)
      | (refine c_region ?_
         simp only [List.size_toArray, List.length_cons, List.length_nil, Nat.reduceAdd, Nat.zero_add, List.range, List.range.loop])
      | (refine o_nil ?_
         simp only [Thn, Inb, if_true, if_false, reduceIte, Nat.reduceEqDiff])
      | (refine c_skip ?_
         simp only [Thn, Inb, if_true, if_false, reduceIte, Nat.reduceEqDiff])
      | (refine c_cond true (by rfl) (fun _ => ?_) (fun e => by cases e))
      | (refine c_cond false (by rfl) (fun e => by cases e) (fun _ => ?_))
      | (refine c_block ?_)
      | (refine c_label ?_
         simp only [Thn, Inb, if_true, if_false, reduceIte, Nat.reduceEqDiff])
      | (refine c_scope ?_)
      | (refine o_cons (u_read (by omega) hact8 rfl (by rfl) fun w hF K' hK' => ?_)
         go_simp
         refine hK' _ ⟨?_, ?_⟩
         focus
           rw [listed_nil]
           · simp
           · (simp [go_sem]; done)
         clear hK' K' hF w
         try walk_nrm)
      | (refine o_cons (u_unwanted (by omega) rfl (by rfl) ?_)
         try walk_nrm))
    refine o_cons (u_load (.int .i64 (n : Nat)) (by omega) hact8 rfl (by rfl) rfl Try.underlying3 rfl rfl (.inr hbn8) ?_)
    try walk_nrm
    refine o_cons (u_make n (by omega) hact8 rfl (by rfl) rfl Try.underlying33 Try.type34 rfl rfl (by decide) rfl (by omega) rfl rfl fun A hA => ?_)
    obtain ⟨l9, hl9⟩ : ∃ l9, l9 = l8.addc A (Array.replicate n .nilFunc) := ⟨_, rfl⟩
    rw [← hl9]
    have g9 : Grow l8 l9 := by rw [hl9]; exact (Grow.refl _).addc hA _
    have hact9 : l9.md = .act := g9.md.trans hact8
    have cA9 : ∀ j, j < n → l9.res.cells ⟨A, j, none⟩ = some .nilFunc := fun j hj => by rw [hl9, addc_new]; simp [hj]
    have cA0 : ∀ j, l8.res.cells ⟨A, j, none⟩ = none := fun j => hA.cell _ rfl
    clear hl9
    try walk_nrm
    repeat (first
      | (refine c_seq ?_)
      | (refine c_region ?_
         simp only [List.size_toArray, List.length_cons, List.length_nil, Nat.reduceAdd, Nat.zero_add, List.range, List.range.loop])
      | (refine o_nil ?_
         simp only [Thn, Inb, if_true, if_false, reduceIte, Nat.reduceEqDiff])
      | (refine c_skip ?_
         simp only [Thn, Inb, if_true, if_false, reduceIte, Nat.reduceEqDiff])
      | (refine c_cond true (by rfl) (fun _ => ?_) (fun e => by cases e))
      | (refine c_cond false (by rfl) (fun e => by cases e) (fun _ => ?_))
      | (refine c_block ?_)
      | (refine c_label ?_
         simp only [Thn, Inb, if_true, if_false, reduceIte, Nat.reduceEqDiff])
      | (refine c_scope ?_)
      | (refine o_cons (u_read (by omega) hact9 rfl (by rfl) fun w hF K' hK' => ?_)
         go_simp
         refine hK' _ ⟨?_, ?_⟩
         focus
           rw [listed_nil]
           · simp
           · (simp [go_sem]; done)
         clear hK' K' hF w
         try walk_nrm)
      | (refine o_cons (u_unwanted (by omega) rfl (by rfl) ?_)
         try walk_nrm))
    obtain ⟨tv, htv⟩ : ∃ tv : Value, tv = .func (.func 33) #[] #[.pointer (some ⟨bg, 0, none⟩), .pointer (some ⟨bn, 0, none⟩), .pointer (some ⟨ba, 0, none⟩)] := ⟨_, rfl⟩
    rw [← htv]
    have hvo : tv.oneCell' = true := by rw [htv]; rfl
    have htvH : Hid (tv = .func (.func 33) #[] #[.pointer (some ⟨bg, 0, none⟩), .pointer (some ⟨bn, 0, none⟩), .pointer (some ⟨ba, 0, none⟩)]) := htv
    clear htv
    -- the tasks are laid into their row
    refine c_loop (fun a' l' => ∃ i, i ≤ n ∧ Grow l8 l' ∧ (∀ j, j < n → l'.res.cells ⟨A, j, none⟩ = some (if j < i then tv else .nilFunc)) ∧ Fr19c (.pointer (some ⟨p, 0, none⟩)) tv (.slice (some ⟨A, 0, none⟩) n n) (.int .i64 (n : Nat)) (.int .i64 (i : Nat)) [] a') (fun a' _ => mu19 n 30 a') ⟨0, Nat.zero_le _, g9, fun j hj => by simpa using cA9 j hj, ?_⟩ ?_ ?_
    focus
      exact ⟨_, _, _, _, _, _, _, _, _, _, _, _, _, _, _, _, _, _, _, _, _, _, _, _, _, _, _, _, _, _, _, _, _, _, _, _, _, _, _, _, _, _, _, _, rfl⟩
    focus
      show n - 0 ≤ _
      omega
    clear cA9 g9 hact9
    intro a' l' hI
    obtain ⟨i, hin, g9, cA9, hfr⟩ := hI
    obtain ⟨x1, x2, x3, x4, x5, x6, x7, x10, x11, x12, x13, x14, x15, x16, x17, x18, x19, x20, x21, x22, x23, x24, x25, x26, x27, x31, x32, x33, x34, x35, x36, x37, x38, x39, x40, x41, x42, x43, x44, x45, x46, x47, x48, x49, rfl⟩ := hfr
    rw [show mu19 n 30 _ = n - i from rfl]
    have hact9 : l'.md = .act := g9.md.trans hact8
    have hw2 : IntKind.i64.wrap ((i : Int) + 1) = (i : Int) + 1 := by rw [IntKind.wrap_i64]; omega
    by_cases hlt : i < n
    · have hd3 : decide ((i : Int) < (n : Int)) = true := by simp; omega
      repeat (first
        | (refine c_seq ?_)
        | (refine c_region ?_
           simp only [List.size_toArray, List.length_cons, List.length_nil, Nat.reduceAdd, Nat.zero_add, List.range, List.range.loop])
        | (refine o_nil ?_
           simp only [Thn, Inb, if_true, if_false, reduceIte, Nat.reduceEqDiff])
        | (refine c_skip ?_
           simp only [Thn, Inb, if_true, if_false, reduceIte, Nat.reduceEqDiff])
        | (refine c_cond true (by rfl) (fun _ => ?_) (fun e => by cases e))
        | (refine c_cond false (by rfl) (fun e => by cases e) (fun _ => ?_))
        | (refine c_block ?_)
        | (refine c_label ?_
           simp only [Thn, Inb, if_true, if_false, reduceIte, Nat.reduceEqDiff])
        | (refine c_scope ?_)
        | (refine o_cons (u_read (by omega) hact9 rfl (by rfl) fun w hF K' hK' => ?_)
           go_simp
           refine hK' _ ⟨?_, ?_⟩
           focus
             rw [listed_nil]
             · simp
             · (simp [go_sem]; done)
           clear hK' K' hF w
           try walk_nrm)
        | (refine o_cons (u_unwanted (by omega) rfl (by rfl) ?_)
           try walk_nrm))
      refine o_cons (u_index (A := ⟨A, 0, none⟩) (n := n) (c := n) (k := .i64) (m := i) (by omega) rfl (by rfl) rfl Try.underlying33 (by rfl) rfl rfl hlt ?_)
      try walk_nrm
      rw [Addr.add_lit, Nat.zero_add]
      refine o_cons (u_store1 (ad := ⟨A, i, none⟩) tv (by omega) hact9 rfl (by rfl) rfl (by rfl) rfl rfl hvo (by rw [cA9 i hlt]; simp) ?_)
      obtain ⟨l10, hl10⟩ : ∃ l10, l10 = l'.setc ⟨A, i, none⟩ tv := ⟨_, rfl⟩
      rw [← hl10]
      have g10 : Grow l8 l10 := by rw [hl10]; exact g9.setc (cA0 i) _
      have hact10 : l10.md = .act := g10.md.trans hact8
      try walk_nrm
      repeat (first
        | (refine c_seq ?_)
        | (refine c_region ?_
           simp only [List.size_toArray, List.length_cons, List.length_nil, Nat.reduceAdd, Nat.zero_add, List.range, List.range.loop])
        | (refine o_nil ?_
           simp only [Thn, Inb, if_true, if_false, reduceIte, Nat.reduceEqDiff])
        | (refine c_skip ?_
           simp only [Thn, Inb, if_true, if_false, reduceIte, Nat.reduceEqDiff])
        | (refine c_cond true (by rfl) (fun _ => ?_) (fun e => by cases e))
        | (refine c_cond false (by rfl) (fun e => by cases e) (fun _ => ?_))
        | (refine c_block ?_)
        | (refine c_label ?_
           simp only [Thn, Inb, if_true, if_false, reduceIte, Nat.reduceEqDiff])
        | (refine c_scope ?_)
        | (refine o_cons (u_read (by omega) hact10 rfl (by rfl) fun w hF K' hK' => ?_)
           go_simp
           refine hK' _ ⟨?_, ?_⟩
           focus
             rw [listed_nil]
             · simp
             · (simp [go_sem]; done)
           clear hK' K' hF w
           try walk_nrm)
        | (refine o_cons (u_unwanted (by omega) rfl (by rfl) ?_)
           try walk_nrm))
      refine ⟨⟨i + 1, by omega, g10, fun j hj => ?_, ?_⟩, ?_⟩
      · rw [hl10]
        show (if _ = _ then _ else _) = _
        by_cases e : j = i
        · subst e; simp
        · rw [if_neg (by simp [e]), cA9 j hj]
          by_cases e2 : j < i
          · rw [if_pos e2, if_pos (by omega)]
          · rw [if_neg e2, if_neg (by omega)]
      · exact ⟨_, _, _, _, _, _, _, _, _, _, _, _, _, _, _, _, _, _, _, _, _, _, _, _, _, _, _, _, _, _, _, _, _, _, _, _, _, _, _, _, _, _, _, _, rfl⟩
      · show n - (i + 1) < n - i
        omega
    have hd3 : decide ((i : Int) < (n : Int)) = false := by simp; omega
    obtain rfl : i = n := by omega
    repeat (first
      | (refine c_seq ?_)
      | (refine c_region ?_
         simp only [List.size_toArray, List.length_cons, List.length_nil, Nat.reduceAdd, Nat.zero_add, List.range, List.range.loop])
      | (refine o_nil ?_
         simp only [Thn, Inb, if_true, if_false, reduceIte, Nat.reduceEqDiff])
      | (refine c_skip ?_
         simp only [Thn, Inb, if_true, if_false, reduceIte, Nat.reduceEqDiff])
      | (refine c_cond true (by rfl) (fun _ => ?_) (fun e => by cases e))
      | (refine c_cond false (by rfl) (fun e => by cases e) (fun _ => ?_))
      | (refine c_block ?_)
      | (refine c_label ?_
         simp only [Thn, Inb, if_true, if_false, reduceIte, Nat.reduceEqDiff])
      | (refine c_scope ?_)
      | (refine o_cons (u_read (by omega) hact9 rfl (by rfl) fun w hF K' hK' => ?_)
         go_simp
         refine hK' _ ⟨?_, ?_⟩
         focus
           rw [listed_nil]
           · simp
           · (simp [go_sem]; done)
         clear hK' K' hF w
         try walk_nrm)
      | (refine o_cons (u_unwanted (by omega) rfl (by rfl) ?_)
         try walk_nrm))
    refine c_exit ?_
    simp only [Thn, Inb, if_true, reduceIte]
    repeat (first
      | (refine c_seq ?_)
      | (refine c_region ?_
         simp only [List.size_toArray, List.length_cons, List.length_nil, Nat.reduceAdd, Nat.zero_add, List.range, List.range.loop])
      | (refine o_nil ?_
         simp only [Thn, Inb, if_true, if_false, reduceIte, Nat.reduceEqDiff])
      | (refine c_skip ?_
         simp only [Thn, Inb, if_true, if_false, reduceIte, Nat.reduceEqDiff])
      | (refine c_cond true (by rfl) (fun _ => ?_) (fun e => by cases e))
      | (refine c_cond false (by rfl) (fun e => by cases e) (fun _ => ?_))
      | (refine c_block ?_)
      | (refine c_label ?_
         simp only [Thn, Inb, if_true, if_false, reduceIte, Nat.reduceEqDiff])
      | (refine c_scope ?_)
      | (refine o_cons (u_read (by omega) hact9 rfl (by rfl) fun w hF K' hK' => ?_)
         go_simp
         refine hK' _ ⟨?_, ?_⟩
         focus
           rw [listed_nil]
           · simp
           · (simp [go_sem]; done)
         clear hK' K' hF w
         try walk_nrm)
      | (refine o_cons (u_unwanted (by omega) rfl (by rfl) ?_)
         try walk_nrm))
    obtain ⟨D, hD⟩ : ∃ D : DoPar, D = { n := i, ts := fun _ => gateTask bg bn ba c p, A := ⟨A, 0, none⟩, l0 := l', pool := true, p := p, ch := ch, cap := cap, so := true, gc := some c, O := 0, u := 0, bp := 0, bo := 0 } := ⟨_, rfl⟩
    have tk9 : ∀ k, l'.res.tk k = if k = .tr c then i else l.res.tk k := fun k => by rw [g9.tk]; exact tk8 k
    have hpl9 : l'.pl p = some (ch, cap, true) := by rw [g9.pl, hpl8]; exact hpl0
    have P : DoPre D (E.i = 0) := by
      rw [hD]
      exact {
        pos := hn1
        act := hact9
        df := g9.df.trans hdf8
        cellA := fun j hj => ⟨by
          show l'.res.cells ((⟨A, 0, none⟩ : Addr).add j) = _
          rw [Addr.add_lit, Nat.zero_add, cA9 j hj, if_pos hj, htvH.out]; rfl, fun _ _ h => h⟩
        ok := fun _ _ => gateOk bg bn ba c p
        nil := fun _ _ hv => by cases hv
        own := fun _ _ a ha => ha.elim
        disj := fun _ _ _ _ _ a ha => ha.elim
        slots := fun q => by show l'.res.tk _ ≤ l'.res.tk _; rw [tk9, tk9]; simp only [reduceCtorEq, if_false]; exact hC.slots q
        gm := fun c' => by
          show l'.cl c' ∨ l'.res.tk _ = 0
          rw [tk9, g9.cl, hcl8]
          simp only [reduceCtorEq, if_false]
          exact hC.gm c'
        tr := fun c' => by
          show l'.res.tk _ = sumTo i (fun _ => tr1 c (.tr c'))
          rw [tk9, sum_const]
          unfold tr1
          by_cases e : c' = c
          · subst e; simp
          · simp [e, hC.tr c']
        T := fun k => by
          show sumTo i (fun _ => tr1 c k) ≤ l'.res.tk k
          rw [tk9, sum_const]
          unfold tr1
          by_cases e : k = .tr c
          · simp [e]
          · simp [e]
        nop := fun h => by cases h
        isp := fun _ => ⟨hpl9, g9.ro _ _ (ro8 _ _ hro0), hcap1⟩
        free := fun h => by cases h
        gate := fun c' hc' => by
          cases hc'
          refine ⟨rfl, h0, by show l'.sk p = 0; rw [g9.sk]; exact hsk8 p, hn2, fun _ _ hv => (by cases hv), ⟨bg, i, by show l'.gl c = _; rw [g9.gl]; exact hgl8⟩, by show l'.gk c = _; rw [g9.gk]; exact hgk8, by show l'.res.tk _ = 0; rw [g9.tk]; exact hgm8, by show l'.res.tk _ = 0; rw [g9.tk]; exact htb8, fun _ _ => ?_, fun _ _ => ?_, fun c' hne _ _ => ?_⟩
          · show 1 ≤ tr1 c (.tr c); simp [tr1]
          · show tr1 c (.tb c) = 0; simp [tr1]
          · show tr1 c (.tr c') = 0; simp [tr1, hne] }
    have hrun : ∀ j, j < i → (D.ts j).v = .nilFunc ∨ ((∃ f first capv, (D.ts j).v = .func f first capv) ∧ RunOk D.l0 D.pv nr D.gc (D.ts j)) := fun j _ => by
      rw [hD]
      exact .inr ⟨⟨_, _, _, rfl⟩, hr l' bg bn ba i c p ch cap true hpl9 (by rw [g9.gl]; exact hgl8) (g9.ro _ _ hbn8) (g9.ro _ _ hba8)⟩
    have key := h11 i (by omega) E D i (by rw [hD]) (by omega) P hrun
    have ePv : D.pv = .pointer (some ⟨p, 0, none⟩) := by rw [hD]; rfl
    have eA : D.A = ⟨A, 0, none⟩ := by rw [hD]
    have el : D.l0 = l' := by rw [hD]
    have eg : D.gc = some c := by rw [hD]
    have en : D.n = i := by rw [hD]
    have et : D.ts = fun _ => gateTask bg bn ba c p := by rw [hD]
    have ep : D.p = p := by rw [hD]
    have epool : D.pool = true := by rw [hD]
    rw [ePv, eA, el] at key
    refine o_cons (u_callx (n := n11) #[.pointer (some ⟨p, 0, none⟩), .slice (some ⟨A, 0, none⟩) i i] (by omega) rfl (by rfl) rfl (by walk_nrm) ?_)
    refine key.mono fun v l10 hp => ?_
    obtain ⟨O, u, bp, bo, xs, rfl, hO, K⟩ := hp
    have hact10 : l10.md = .act := K.ext.md
    have hout : ∀ j, j < i → l10.res.cells ⟨O, j, none⟩ = some (.int .i64 0) := fun j hj => by
      have h := K.out j (by show j < D.n; rw [en]; exact hj)
      have h3 := h.2.2 (by show (D.ts j).v ≠ _; rw [et]; simp [gateTask])
      have h3 : (D.ts j).post (xs j) l10.res.cells := h3
      rw [et] at h3
      have h3 : xs j = 0 := h3
      have h1 : l10.res.cells ⟨O, j, none⟩ = some (.int .i64 (xs j)) := h.1
      rw [h1, h3]
    have Kext : Ext l' l10 := K.ext
    have Ktk : ∀ k, (∀ c, k ≠ .gm c) → l10.res.tk k + i * tr1 c k = l'.res.tk k + i * (tb1 c k + bg1 p k) := fun k hk => by
      have h1 := K.tk k hk
      have e1 : sumTo D.n (fun j => (D.ts j).T k) = i * tr1 c k := by rw [et, en]; exact sum_const i (tr1 c k)
      have e2 : sumTo D.n (fun j => (D.ts j).T' k) = i * (tb1 c k + bg1 p k) := by rw [et, en]; exact sum_const i _
      have h1 : l10.res.tk k + sumTo D.n (fun j => (D.ts j).T k) = l'.res.tk k + sumTo D.n (fun j => (D.ts j).T' k) := h1
      rw [e1, e2] at h1
      exact h1
    have Kws : l10.ws = l.ws := by have := K.ws; rw [this]; show l'.ws = _; rw [g9.ws, hws8]
    have Kgm : ∀ x, x ≠ c → l10.res.tk (.gm x) = l.res.tk (.gm x) := fun x hx => by
      have h1 : l10.res.tk (.gm x) = l'.res.tk (.gm x) := K.gm x (by show D.gc ≠ _; rw [eg]; simpa using fun e => hx e.symm)
      rw [h1, tk9]; simp
    have Ksk : ∀ q, l.pl q = none → l10.sk q = 0 := fun q hq => by
      have h1 : l10.sk q = l'.sk q := K.sk q (fun ch' cap' e => by
        have e : l'.pl q = _ := e
        rw [g9.pl, hpl8, hq] at e; cases e) (fun _ e => by
        have e : q = D.p := e
        rw [e, ep, hpl0] at hq; cases hq)
      rw [h1, g9.sk]; exact hsk8 q
    have Kpk : i ≤ l10.pk p + 1 := by
      have h1 : D.n ≤ l10.pk D.p + 1 := K.gate c eg
      rw [en, ep] at h1; exact h1
    have Kcell : ∀ a, l.res.cells a ≠ none → l10.res.cells a = l.res.cells a := fun a ha => by
      have e1 := c8 a ha
      have e2 := g9.cell a (by rw [e1]; exact ha)
      have h1 : l10.res.cells a = l'.res.cells a := K.rest a (fun j _ hf => by
        have hf : (D.ts j).foot a := hf
        rw [et] at hf; exact hf) (by show l'.res.cells a ≠ none; rw [e2, e1]; exact ha)
      rw [h1, e2, e1]
    clear K hD P hrun key
    try walk_nrm
    repeat (first
      | (refine c_seq ?_)
      | (refine c_region ?_
         simp only [List.size_toArray, List.length_cons, List.length_nil, Nat.reduceAdd, Nat.zero_add, List.range, List.range.loop])
      | (refine o_nil ?_
         simp only [Thn, Inb, if_true, if_false, reduceIte, Nat.reduceEqDiff])
      | (refine c_skip ?_
         simp only [Thn, Inb, if_true, if_false, reduceIte, Nat.reduceEqDiff])
      | (refine c_cond true (by rfl) (fun _ => ?_) (fun e => by cases e))
      | (refine c_cond false (by rfl) (fun e => by cases e) (fun _ => ?_))
      | (refine c_block ?_)
      | (refine c_label ?_
         simp only [Thn, Inb, if_true, if_false, reduceIte, Nat.reduceEqDiff])
      | (refine c_scope ?_)
      | (refine o_cons (u_read (by omega) hact10 rfl (by rfl) fun w hF K' hK' => ?_)
         go_simp
         refine hK' _ ⟨?_, ?_⟩
         focus
           rw [listed_nil]
           · simp
           · (simp [go_sem]; done)
         clear hK' K' hF w
         try walk_nrm)
      | (refine o_cons (u_unwanted (by omega) rfl (by rfl) ?_)
         try walk_nrm))
    refine c_loop (fun a' lx => lx = l10 ∧ ∃ j, j ≤ i ∧ Fr19d (.slice (some ⟨O, 0, none⟩) i i) (.int .i64 (i : Nat)) (.int .i64 (j : Nat)) [] a') (fun a' _ => mu19 i 42 a') ⟨rfl, 0, Nat.zero_le _, ?_⟩ ?_ ?_
    focus
      exact ⟨_, _, _, _, _, _, _, _, _, _, _, _, _, _, _, _, _, _, _, _, _, _, _, _, _, _, _, _, _, _, _, _, _, _, _, _, _, _, _, _, _, _, _, _, _, _, _, rfl⟩
    focus
      show i - 0 ≤ _
      omega
    intro a' lx hI
    obtain ⟨rfl, j, hjn, hfr⟩ := hI
    obtain ⟨x0, x1, x2, x3, x4, x5, x6, x7, x8, x9, x10, x11, x12, x13, x14, x15, x16, x17, x18, x19, x20, x21, x22, x23, x24, x25, x26, x27, x28, x29, x30, x31, x32, x33, x34, x35, x36, x37, x38, x39, x43, x44, x45, x46, x47, x48, x49, rfl⟩ := hfr
    rw [show mu19 i 42 _ = i - j from rfl]
    have hw3 : IntKind.i64.wrap ((j : Int) + 1) = (j : Int) + 1 := by rw [IntKind.wrap_i64]; omega
    by_cases hlt2 : j < i
    · have hd4 : decide ((j : Int) < (i : Int)) = true := by simp; omega
      repeat (first
        | (refine c_seq ?_)
        | (refine c_region ?_
           simp only [List.size_toArray, List.length_cons, List.length_nil, Nat.reduceAdd, Nat.zero_add, List.range, List.range.loop])
        | (refine o_nil ?_
           simp only [Thn, Inb, if_true, if_false, reduceIte, Nat.reduceEqDiff])
        | (refine c_skip ?_
           simp only [Thn, Inb, if_true, if_false, reduceIte, Nat.reduceEqDiff])
        | (refine c_cond true (by rfl) (fun _ => ?_) (fun e => by cases e))
        | (refine c_cond false (by rfl) (fun e => by cases e) (fun _ => ?_))
        | (refine c_block ?_)
        | (refine c_label ?_
           simp only [Thn, Inb, if_true, if_false, reduceIte, Nat.reduceEqDiff])
        | (refine c_scope ?_)
        | (refine o_cons (u_read (by omega) hact10 rfl (by rfl) fun w hF K' hK' => ?_)
           go_simp
           refine hK' _ ⟨?_, ?_⟩
           focus
             rw [listed_nil]
             · simp
             · (simp [go_sem]; done)
           clear hK' K' hF w
           try walk_nrm)
        | (refine o_cons (u_unwanted (by omega) rfl (by rfl) ?_)
           try walk_nrm))
      refine o_cons (u_index (A := ⟨O, 0, none⟩) (n := i) (c := i) (k := .i64) (m := j) (by omega) rfl (by rfl) rfl Try.underlying35 (by rfl) rfl rfl hlt2 ?_)
      try walk_nrm
      rw [Addr.add_lit, Nat.zero_add]
      refine o_cons (u_load (.int .i64 0) (by omega) hact10 rfl (by rfl) rfl Try.underlying32 rfl rfl (.inl (hout j hlt2)) ?_)
      try walk_nrm
      repeat (first
        | (refine c_seq ?_)
        | (refine c_region ?_
           simp only [List.size_toArray, List.length_cons, List.length_nil, Nat.reduceAdd, Nat.zero_add, List.range, List.range.loop])
        | (refine o_nil ?_
           simp only [Thn, Inb, if_true, if_false, reduceIte, Nat.reduceEqDiff])
        | (refine c_skip ?_
           simp only [Thn, Inb, if_true, if_false, reduceIte, Nat.reduceEqDiff])
        | (refine c_cond true (by rfl) (fun _ => ?_) (fun e => by cases e))
        | (refine c_cond false (by rfl) (fun e => by cases e) (fun _ => ?_))
        | (refine c_block ?_)
        | (refine c_label ?_
           simp only [Thn, Inb, if_true, if_false, reduceIte, Nat.reduceEqDiff])
        | (refine c_scope ?_)
        | (refine o_cons (u_read (by omega) hact10 rfl (by rfl) fun w hF K' hK' => ?_)
           go_simp
           refine hK' _ ⟨?_, ?_⟩
           focus
             rw [listed_nil]
             · simp
             · (simp [go_sem]; done)
           clear hK' K' hF w
           try walk_nrm)
        | (refine o_cons (u_unwanted (by omega) rfl (by rfl) ?_)
           try walk_nrm))
      refine ⟨⟨(by first | rfl | trivial), j + 1, by omega, ?_⟩, ?_⟩
      · exact ⟨_, _, _, _, _, _, _, _, _, _, _, _, _, _, _, _, _, _, _, _, _, _, _, _, _, _, _, _, _, _, _, _, _, _, _, _, _, _, _, _, _, _, _, _, _, _, _, rfl⟩
      · show i - (j + 1) < i - j
        omega
    have hd4 : decide ((j : Int) < (i : Int)) = false := by simp; omega
    repeat (first
      | (refine c_seq ?_)
      | (refine c_region ?_
         simp only [List.size_toArray, List.length_cons, List.length_nil, Nat.reduceAdd, Nat.zero_add, List.range, List.range.loop])
      | (refine o_nil ?_
         simp only [Thn, Inb, if_true, if_false, reduceIte, Nat.reduceEqDiff])
      | (refine c_skip ?_
         simp only [Thn, Inb, if_true, if_false, reduceIte, Nat.reduceEqDiff])
      | (refine c_cond true (by rfl) (fun _ => ?_) (fun e => by cases e))
      | (refine c_cond false (by rfl) (fun e => by cases e) (fun _ => ?_))
      | (refine c_block ?_)
      | (refine c_label ?_
         simp only [Thn, Inb, if_true, if_false, reduceIte, Nat.reduceEqDiff])
      | (refine c_scope ?_)
      | (refine o_cons (u_read (by omega) hact10 rfl (by rfl) fun w hF K' hK' => ?_)
         go_simp
         refine hK' _ ⟨?_, ?_⟩
         focus
           rw [listed_nil]
           · simp
           · (simp [go_sem]; done)
         clear hK' K' hF w
         try walk_nrm)
      | (refine o_cons (u_unwanted (by omega) rfl (by rfl) ?_)
         try walk_nrm))
    refine c_exit ?_
    simp only [Thn, Inb, if_true, reduceIte]
    repeat (first
      | (refine o_nil ?_
         simp only [Thn, Inb, if_true, if_false, reduceIte, Nat.reduceEqDiff])
      | (refine c_skip ?_
         simp only [Thn, Inb, if_true, if_false, reduceIte, Nat.reduceEqDiff])
      | (refine c_cond true (by rfl) (fun _ => ?_) (fun e => by cases e))
      | (refine c_cond false (by rfl) (fun e => by cases e) (fun _ => ?_))
      | (refine c_block ?_)
      | (refine c_label ?_
         simp only [Thn, Inb, if_true, if_false, reduceIte, Nat.reduceEqDiff])
      | (refine c_scope ?_)
      | (refine o_cons (u_read (by omega) hact10 rfl (by rfl) fun w hF K' hK' => ?_)
         go_simp
         refine hK' _ ⟨?_, ?_⟩
         focus
           rw [listed_nil]
           · simp
           · (simp [go_sem]; done)
         clear hK' K' hF w
         try walk_nrm)
      | (refine o_cons (u_unwanted (by omega) rfl (by rfl) ?_)
         try walk_nrm))
    have htr10 : lx.res.tk (.tr c) = 0 := by
      have h1 := Ktk (.tr c) (by simp)
      rw [tk9] at h1
      simp [tr1, tb1, bg1] at h1
      omega
    have hsolo10 : lx.solo := fun u B hB => hC.solo u B (by rw [← Kws]; exact hB)
    have hsh : E.Turn lx (lx.cld c) := turn_shut (bg := bg) (n := i) (p := p) h0 hact10 hsolo10 (by rw [Kext.gl, g9.gl]; exact hgl8) htr10
    refine c_turn hsh (quit_act hact10) ?_
    obtain ⟨l11, hl11⟩ : ∃ l11, l11 = lx.cld c := ⟨_, rfl⟩
    rw [← hl11]
    have hact11 : l11.md = .act := by rw [hl11]; exact hact10
    have hC11 : Calm l11 := by
      rw [hl11]
      exact {
        md := hact10
        df := Kext.df
        solo := hsolo10
        tr := fun c' => by
          by_cases e : c' = c
          · rw [e]; exact htr10
          · have h1 := Ktk (.tr c') (by simp)
            rw [tk9] at h1
            simp [tr1, tb1, bg1, e, hC.tr c'] at h1
            exact h1
        gm := fun c' => by
          by_cases e : c' = c
          · exact .inl (.inr e)
          · rcases hC.gm c' with h | h
            · exact .inl (.inl (Kext.cl c' (by rw [g9.cl, hcl8]; exact h)))
            · exact .inr ((Kgm c' e).trans h)
        slot0 := fun q => by
          have h1 := Ktk (.slot q) (by simp)
          have h2 := Ktk (.alive q) (by simp)
          rw [tk9] at h1 h2
          simp [tr1, tb1, bg1] at h1 h2
          have := hC.slot0 q
          exact ⟨h1.trans this.1, h2.trans this.2⟩
        sk := fun q hq => by
          have hq : lx.pl q = none := hq
          rw [Kext.pl, g9.pl, hpl8] at hq
          exact Ksk q hq }
    have hL11 : Later l l11 := by
      rw [hl11]
      exact ⟨fun a v x => Kext.ro a v (g9.ro a v (ro8 a v x)), fun q x e => by show lx.pl q = _; rw [Kext.pl, g9.pl, hpl8]; exact e, Kcell⟩
    have hb11 : l11.res.tk (.begun p) = l.res.tk (.begun p) + i := by
      rw [hl11]
      have h1 := Ktk (.begun p) (by simp)
      rw [tk9] at h1
      simp [tr1, tb1, bg1] at h1
      exact h1
    repeat (first
      | (refine c_seq ?_)
      | (refine c_region ?_
         simp only [List.size_toArray, List.length_cons, List.length_nil, Nat.reduceAdd, Nat.zero_add, List.range, List.range.loop])
      | (refine o_nil ?_
         simp only [Thn, Inb, if_true, if_false, reduceIte, Nat.reduceEqDiff])
      | (refine c_skip ?_
         simp only [Thn, Inb, if_true, if_false, reduceIte, Nat.reduceEqDiff])
      | (refine c_cond true (by rfl) (fun _ => ?_) (fun e => by cases e))
      | (refine c_cond false (by rfl) (fun e => by cases e) (fun _ => ?_))
      | (refine c_block ?_)
      | (refine c_label ?_
         simp only [Thn, Inb, if_true, if_false, reduceIte, Nat.reduceEqDiff])
      | (refine c_scope ?_)
      | (refine o_cons (u_read (by omega) hact11 rfl (by rfl) fun w hF K' hK' => ?_)
         go_simp
         refine hK' _ ⟨?_, ?_⟩
         focus
           rw [listed_nil]
           · simp
           · (simp [go_sem]; done)
         clear hK' K' hF w
         try walk_nrm)
      | (refine o_cons (u_unwanted (by omega) rfl (by rfl) ?_)
         try walk_nrm))
    refine c_ret ?_
    refine ⟨rfl, _, resultsC_tmp2 (by rfl) _, ?_⟩
    refine hyes i hn1 hn2 rfl l11 hC11 hL11 hb11 (by rw [hl11]; exact Kpk) ?_
    rw [hl11]
    have h1 := Kext.pk p
    rw [g9.pk, hpk8] at h1
    exact h1
end Go.Proofs.Ytofohjbcgchhoaa
