/-
  THE WALKS: sync.WaitGroup.Add(-1), Done.
-/
import Derived.Test.YtofohjbcgchhoaaF
import Derived.Test.YtofohjbcgchhoaaE7
namespace Go.Proofs.Ytofohjbcgchhoaa
open Go.Conc
open Go.RowKit
set_option maxRecDepth 100000
set_option linter.unusedSimpArgs false
set_option linter.unusedVariables false

/-- A loop of two rounds at most. -/
theorem c_loop2 {E : En} {e L : Nat} {fn : FuncId} {Q : Exit → Act → Lo → Prop} {a : Act} {l : Lo} {c : Code} (hL : 1 ≤ L) (h : E.C e L fn c (Thn (fun a' l' => E.C e L fn c (Thn (fun _ _ => False) Q) a' l') Q) a l) : E.C e L fn (.loop c) Q a l := by
  classical
  refine c_loop (fun a' l' => (a' = a ∧ l' = l) ∨ E.C e L fn c (Thn (fun _ _ => False) Q) a' l') (fun a' l' => if E.C e L fn c (Thn (fun _ _ => False) Q) a' l' then 0 else 1) (.inl ⟨rfl, rfl⟩) (by split <;> omega) fun a' l' hI => ?_
  by_cases hr : E.C e L fn c (Thn (fun _ _ => False) Q) a' l'
  · exact c_mono hr fun ex a'' l'' q => by cases ex <;> first | exact False.elim q | exact q
  · obtain ⟨rfl, rfl⟩ := hI.resolve_right hr
    refine c_mono h fun ex a'' l'' q => ?_
    cases ex with
    | normal =>
      refine ⟨.inr q, ?_⟩
      simp only [if_neg hr]
      rw [if_pos (show E.C e L fn c (Thn (fun _ _ => False) Q) a'' l'' from q)]
      omega
    | _ => exact q

set_option maxHeartbeats 16000000 in
theorem wg_down : ∃ n, ∀ (E : En) (u : Nat) (l : Lo), l.md = .act → l.df = 0 → l.wg = some u → l.wk u = 1 → l.ob l.res → (∀ x, l.ws x = none) → (∀ c, l.res.tk (.tr c) = 0) →
    E.N 24 #[.pointer (some ⟨u, 0, none⟩), .int .i64 (-1)] n l fun _ l' => l'.quit = some 0 := by
  obtain ⟨n46, h46⟩ := add46
  obtain ⟨n48, h48⟩ := load48
  obtain ⟨n49, h49⟩ := store49
  refine ⟨_, fun E u l hact hdf hwg hwk hob hws htr => n_of_enable (e := n46 + n48 + n49 + 2) (L := 1) Try.func24 (by rfl) rfl ?_⟩
  have hq := quit_act hact
  simp only [act0, Try.ntmps24, List.size_toArray, List.length_cons, List.length_nil, Nat.reduceAdd, Nat.reduceSub, Array.replicate_succ, Array.replicate_zero, List.push_toArray, List.append_toArray, List.nil_append, List.cons_append]
  repeat (first
    | (refine c_seq ?_)
    | (refine c_region ?_
       simp only [List.size_toArray, List.length_cons, List.length_nil, Nat.reduceAdd, Nat.zero_add, List.range, List.range.loop])
    | (refine o_nil ?_
       simp only [Thn, Inb, if_true, if_false, reduceIte, Nat.reduceEqDiff])
    | (refine c_skip ?_
       simp only [Thn, Inb, if_true, if_false, reduceIte, Nat.reduceEqDiff])
    | (refine c_cond true (by rfl) (fun _ => ?_) (fun e => by cases e))
    | (refine c_cond false (by rfl) (fun e => by cases e) (fun _ => ?_))
    | (refine c_block ?_)
    | (refine c_label ?_)
    | (refine o_cons (u_read (by omega) hact rfl (by rfl) fun w hF K' hK' => ?_)
       go_simp
       refine hK' _ ⟨?_, ?_⟩
       focus
         rw [listed_nil]
         · simp
         · (simp [go_sem]; done)
       clear hK' K' hF w
       try walk_nrm)
    | (refine o_cons (u_unwanted (by omega) rfl (by rfl) ?_)
       try walk_nrm))
  refine o_cons (u_conv (ad := ⟨u, 0, none⟩) (by omega) hq rfl (by rfl) rfl rfl Try.underlying69 Try.underlying71 (by rfl) (work_cell hwg (by rw [hact]; simp) (by omega)) ?_)
  try walk_nrm
  refine o_cons (u_markAt (ad := ⟨u, 0, none⟩) (by omega) hq rfl (by rfl) Try.func39 (by rfl) (by rfl) (by rfl) .releaseMerge (by simp) rfl rfl (by walk_nrm) (at_release hact hdf hwg hob hws htr fun p => ?_))
  try walk_nrm
  obtain ⟨l1, hl1⟩ : ∃ l1, l1 = l.mdd (.rel p ⟨u, 0, none⟩ 0) := ⟨_, rfl⟩
  rw [← hl1]
  have hq1 : l1.quit = none := by rw [hl1]; rfl
  repeat (first
    | (refine c_seq ?_)
    | (refine c_region ?_
       simp only [List.size_toArray, List.length_cons, List.length_nil, Nat.reduceAdd, Nat.zero_add, List.range, List.range.loop])
    | (refine o_nil ?_
       simp only [Thn, Inb, if_true, if_false, reduceIte, Nat.reduceEqDiff])
    | (refine c_skip ?_
       simp only [Thn, Inb, if_true, if_false, reduceIte, Nat.reduceEqDiff])
    | (refine c_cond true (by rfl) (fun _ => ?_) (fun e => by cases e))
    | (refine c_cond false (by rfl) (fun e => by cases e) (fun _ => ?_))
    | (refine c_block ?_)
    | (refine c_label ?_)
    | (refine o_cons ?_
       co_apply u_pure (by omega) rfl (by rfl)
       focus
         intro w
         co_apply run_eq_of
         intro K hK
         go_simp
         exact hK
       focus
         intro w
         (simp [go_sem]; done)
       try walk_nrm)
    | (refine o_cons (u_unwanted (by omega) rfl (by rfl) ?_)
       try walk_nrm))
  refine o_cons (u_mark0 (by omega) hq1 rfl (by rfl) Try.func40 (by rfl) (by rfl) (by rfl) .disable (by simp) rfl rfl (at_disable ?_))
  try walk_nrm
  obtain ⟨l2, hl2⟩ : ∃ l2, l2 = l1.dfd (l1.df + 1) := ⟨_, rfl⟩
  rw [← hl2]
  have hq2 : l2.quit = none := by rw [hl2, hl1]; rfl
  have hdf2 : l2.df = 1 := by rw [hl2, hl1]; show l.df + 1 = 1; rw [hdf]
  have hwg2 : l2.wg = some u := by rw [hl2, hl1]; exact hwg
  have hmd2 : l2.md = .rel p ⟨u, 0, none⟩ 0 := by rw [hl2, hl1]; rfl
  have hwk2 : l2.wk u = 1 := by rw [hl2, hl1]; exact hwk
  repeat (first
    | (refine c_seq ?_)
    | (refine c_region ?_
       simp only [List.size_toArray, List.length_cons, List.length_nil, Nat.reduceAdd, Nat.zero_add, List.range, List.range.loop])
    | (refine o_nil ?_
       simp only [Thn, Inb, if_true, if_false, reduceIte, Nat.reduceEqDiff])
    | (refine c_skip ?_
       simp only [Thn, Inb, if_true, if_false, reduceIte, Nat.reduceEqDiff])
    | (refine c_cond true (by rfl) (fun _ => ?_) (fun e => by cases e))
    | (refine c_cond false (by rfl) (fun e => by cases e) (fun _ => ?_))
    | (refine c_block ?_)
    | (refine c_label ?_)
    | (refine o_cons ?_
       co_apply u_pure (by omega) rfl (by rfl)
       focus
         intro w
         co_apply run_eq_of
         intro K hK
         go_simp
         exact hK
       focus
         intro w
         (simp [go_sem]; done)
       try walk_nrm)
    | (refine o_cons (u_unwanted (by omega) rfl (by rfl) ?_)
       try walk_nrm))
  refine o_cons (u_defer (by omega) rfl (by rfl) rfl rfl ?_)
  try walk_nrm
  repeat (first
    | (refine c_seq ?_)
    | (refine c_region ?_
       simp only [List.size_toArray, List.length_cons, List.length_nil, Nat.reduceAdd, Nat.zero_add, List.range, List.range.loop])
    | (refine o_nil ?_
       simp only [Thn, Inb, if_true, if_false, reduceIte, Nat.reduceEqDiff])
    | (refine c_skip ?_
       simp only [Thn, Inb, if_true, if_false, reduceIte, Nat.reduceEqDiff])
    | (refine c_cond true (by rfl) (fun _ => ?_) (fun e => by cases e))
    | (refine c_cond false (by rfl) (fun e => by cases e) (fun _ => ?_))
    | (refine c_block ?_)
    | (refine c_label ?_)
    | (refine o_cons ?_
       co_apply u_pure (by omega) rfl (by rfl)
       focus
         intro w
         co_apply run_eq_of
         intro K hK
         go_simp
         exact hK
       focus
         intro w
         (simp [go_sem]; done)
       try walk_nrm)
    | (refine o_cons (u_unwanted (by omega) rfl (by rfl) ?_)
       try walk_nrm))
  refine o_cons (u_entry0 (.bool false) (by omega) rfl (by rfl) rfl Try.func42 (by rfl) (by rfl) (by rfl) rfl (fun w => rfl) (fun w es => rfl) ?_)
  try walk_nrm
  repeat (first
    | (refine c_seq ?_)
    | (refine c_region ?_
       simp only [List.size_toArray, List.length_cons, List.length_nil, Nat.reduceAdd, Nat.zero_add, List.range, List.range.loop])
    | (refine o_nil ?_
       simp only [Thn, Inb, if_true, if_false, reduceIte, Nat.reduceEqDiff])
    | (refine c_skip ?_
       simp only [Thn, Inb, if_true, if_false, reduceIte, Nat.reduceEqDiff])
    | (refine c_cond true (by rfl) (fun _ => ?_) (fun e => by cases e))
    | (refine c_cond false (by rfl) (fun e => by cases e) (fun _ => ?_))
    | (refine c_block ?_)
    | (refine c_label ?_)
    | (refine o_cons ?_
       co_apply u_pure (by omega) rfl (by rfl)
       focus
         intro w
         co_apply run_eq_of
         intro K hK
         go_simp
         exact hK
       focus
         intro w
         (simp [go_sem]; done)
       try walk_nrm)
    | (refine o_cons (u_unwanted (by omega) rfl (by rfl) ?_)
       try walk_nrm))
  have e1 : IntKind.u64.wrap (IntKind.u64.wrap (-1) * 4294967296) = 18446744069414584320 := by decide
  simp only [e1]
  refine o_cons (u_callx (n := n46) #[.pointer (some ⟨u, 0, none⟩), .int .u64 18446744069414584320] (by omega) rfl (by rfl) rfl (by walk_nrm) ?_)
  refine h46 E u 0 18446744069414584320 _ _ hq2 ?_
  refine at_add_down hwg2 hmd2 hwk2 (by rw [hdf2]; decide) fun n wt hwt hn => ?_
  obtain ⟨x, hx⟩ : ∃ x : Int, x = ((n * 4294967296 + wt : Nat) : Int) := ⟨_, rfl⟩
  have hxf : bits .and .u64 x 2147483648 = 0 := by
    have := Go.ConcN.st_flag n wt (by omega) hwt
    rw [hx]
    simpa using this
  have hxw : bits .and .u64 x 2147483647 = wt := by
    have := Go.ConcN.st_waiters n wt (by omega) hwt
    rw [hx]
    simpa using this
  rw [← hx]
  have hx1 : Hid (x = ((n * 4294967296 + wt : Nat) : Int)) := hx
  have hxv : IntKind.i32.wrap (x / 4294967296) = (n : Int) := by
    rw [hx, IntKind.wrap_i32]
    omega
  have hu0 : IntKind.u32.wrap (wt : Int) = wt := by rw [IntKind.wrap_u32]; omega
  have hi1 : IntKind.i32.wrap (-1) = -1 := by decide
  obtain ⟨y, hy⟩ : ∃ y : Int, y = (n : Int) := ⟨_, rfl⟩
  obtain ⟨z, hz⟩ : ∃ z : Int, z = (wt : Int) := ⟨_, rfl⟩
  rw [← hy] at hxv
  rw [← hz] at hxw hu0
  have hyn : decide (y < 0) = false := by simp; omega
  clear hx e1
  by_cases hn0 : n = 0
  · subst hn0
    obtain rfl : y = 0 := by simpa using hy
    by_cases hw0 : wt = 0
    · subst hw0
      obtain rfl : z = 0 := by simpa using hz
      simp only [Nat.zero_ne_one, and_false, if_false, reduceIte]
      obtain ⟨l3, hl3⟩ : ∃ l3, l3 = (l2.wkd u 0).mdd (.quit p ⟨u, 0, none⟩) := ⟨_, rfl⟩
      rw [← hl3]
      clear hy hz
      repeat (first
        | (refine c_seq ?_)
        | (refine c_region ?_
           simp only [List.size_toArray, List.length_cons, List.length_nil, Nat.reduceAdd, Nat.zero_add, List.range, List.range.loop])
        | (refine o_nil ?_
           simp only [Thn, Inb, if_true, if_false, reduceIte, Nat.reduceEqDiff])
        | (refine c_skip ?_
           simp only [Thn, Inb, if_true, if_false, reduceIte, Nat.reduceEqDiff])
        | (refine c_cond true (by rfl) (fun _ => ?_) (fun e => by cases e))
        | (refine c_cond false (by rfl) (fun e => by cases e) (fun _ => ?_))
        | (refine c_block ?_)
        | (refine c_label ?_)
        | (refine o_cons ?_
           co_apply u_pure (by omega) rfl (by rfl)
           focus
             intro w
             co_apply run_eq_of
             intro K hK
             go_simp
             exact hK
           focus
             intro w
             (simp [go_sem]; done)
           try walk_nrm)
        | (refine o_cons (u_unwanted (by omega) rfl (by rfl) ?_)
           try walk_nrm))
      refine c_ret ?_
      refine ⟨.inr rfl, rfl, _, resultsC_none (by rfl) _, ?_⟩
      rw [hl3]
      show some (l2.df - 1) = _
      rw [hdf2]
    · obtain rfl : wt = 1 := by omega
      obtain rfl : z = 1 := by simpa using hz
      obtain rfl : x = 1 := by simpa using hx1.out
      simp only [and_self, if_true, reduceIte]
      obtain ⟨l3, hl3⟩ : ∃ l3, l3 = (l2.wkd u 0).mdd (.rel p ⟨u, 0, none⟩ 2) := ⟨_, rfl⟩
      rw [← hl3]
      have hq3 : l3.quit = none := by rw [hl3]; rfl
      have hdf3 : l3.df ≠ 0 := by rw [hl3]; show l2.df ≠ 0; rw [hdf2]; decide
      have hwg3 : l3.wg = some u := by rw [hl3]; exact hwg2
      have hmd3 : l3.md = .rel p ⟨u, 0, none⟩ 2 := by rw [hl3]; rfl
      have hwk3 : l3.wk u = 0 := by rw [hl3]; simp [Lo.mdd, Lo.wkd]
      have hdf3' : l3.df = 1 := by rw [hl3]; exact hdf2
      clear hy hz
      repeat (first
        | (refine c_seq ?_)
        | (refine c_region ?_
           simp only [List.size_toArray, List.length_cons, List.length_nil, Nat.reduceAdd, Nat.zero_add, List.range, List.range.loop])
        | (refine o_nil ?_
           simp only [Thn, Inb, if_true, if_false, reduceIte, Nat.reduceEqDiff])
        | (refine c_skip ?_
           simp only [Thn, Inb, if_true, if_false, reduceIte, Nat.reduceEqDiff])
        | (refine c_cond true (by rfl) (fun _ => ?_) (fun e => by cases e))
        | (refine c_cond false (by rfl) (fun e => by cases e) (fun _ => ?_))
        | (refine c_block ?_)
        | (refine c_label ?_)
        | (refine o_cons ?_
           co_apply u_pure (by omega) rfl (by rfl)
           focus
             intro w
             co_apply run_eq_of
             intro K hK
             go_simp
             exact hK
           focus
             intro w
             (simp [go_sem]; done)
           try walk_nrm)
        | (refine o_cons (u_unwanted (by omega) rfl (by rfl) ?_)
           try walk_nrm))
      refine o_cons (u_callx (n := n48) #[.pointer (some ⟨u, 0, none⟩)] (by omega) rfl (by rfl) rfl (by walk_nrm) ?_)
      refine h48 E u 0 _ _ hq3 ?_
      refine at_duty_load hwg3 hmd3 hdf3 ?_
      try walk_nrm
      repeat (first
        | (refine c_seq ?_)
        | (refine c_region ?_
           simp only [List.size_toArray, List.length_cons, List.length_nil, Nat.reduceAdd, Nat.zero_add, List.range, List.range.loop])
        | (refine o_nil ?_
           simp only [Thn, Inb, if_true, if_false, reduceIte, Nat.reduceEqDiff])
        | (refine c_skip ?_
           simp only [Thn, Inb, if_true, if_false, reduceIte, Nat.reduceEqDiff])
        | (refine c_cond true (by rfl) (fun _ => ?_) (fun e => by cases e))
        | (refine c_cond false (by rfl) (fun e => by cases e) (fun _ => ?_))
        | (refine c_block ?_)
        | (refine c_label ?_)
        | (refine o_cons ?_
           co_apply u_pure (by omega) rfl (by rfl)
           focus
             intro w
             co_apply run_eq_of
             intro K hK
             go_simp
             exact hK
           focus
             intro w
             (simp [go_sem]; done)
           try walk_nrm)
        | (refine o_cons (u_unwanted (by omega) rfl (by rfl) ?_)
           try walk_nrm))
      refine o_cons (u_callx (n := n49) #[.pointer (some ⟨u, 0, none⟩), .int .u64 0] (by omega) rfl (by rfl) rfl (by walk_nrm) ?_)
      refine h49 E u 0 _ _ _ hq3 ?_
      refine at_duty_store hwg3 hmd3 hwk3 hdf3 ?_
      obtain ⟨l4, hl4⟩ : ∃ l4, l4 = l3.mdd (.rel p ⟨u, 0, none⟩ 3) := ⟨_, rfl⟩
      rw [← hl4]
      have hq4 : l4.quit = none := by rw [hl4]; rfl
      have hwg4 : l4.wg = some u := by rw [hl4]; exact hwg3
      have hmd4 : l4.md = .rel p ⟨u, 0, none⟩ 3 := by rw [hl4]; rfl
      have hwk4 : l4.wk u = 0 := by rw [hl4]; exact hwk3
      have hdf4 : l4.df = 1 := by rw [hl4]; exact hdf3'
      try walk_nrm
      repeat (first
        | (refine c_seq ?_)
        | (refine c_region ?_
           simp only [List.size_toArray, List.length_cons, List.length_nil, Nat.reduceAdd, Nat.zero_add, List.range, List.range.loop])
        | (refine o_nil ?_
           simp only [Thn, Inb, if_true, if_false, reduceIte, Nat.reduceEqDiff])
        | (refine c_skip ?_
           simp only [Thn, Inb, if_true, if_false, reduceIte, Nat.reduceEqDiff])
        | (refine c_cond true (by rfl) (fun _ => ?_) (fun e => by cases e))
        | (refine c_cond false (by rfl) (fun e => by cases e) (fun _ => ?_))
        | (refine c_block ?_)
        | (refine c_label ?_)
        | (refine o_cons ?_
           co_apply u_pure (by omega) rfl (by rfl)
           focus
             intro w
             co_apply run_eq_of
             intro K hK
             go_simp
             exact hK
           focus
             intro w
             (simp [go_sem]; done)
           try walk_nrm)
        | (refine o_cons (u_unwanted (by omega) rfl (by rfl) ?_)
           try walk_nrm))
      refine c_loop2 (by omega) ?_
      repeat (first
        | (refine c_seq ?_)
        | (refine c_region ?_
           simp only [List.size_toArray, List.length_cons, List.length_nil, Nat.reduceAdd, Nat.zero_add, List.range, List.range.loop])
        | (refine o_nil ?_
           simp only [Thn, Inb, if_true, if_false, reduceIte, Nat.reduceEqDiff])
        | (refine c_skip ?_
           simp only [Thn, Inb, if_true, if_false, reduceIte, Nat.reduceEqDiff])
        | (refine c_cond true (by rfl) (fun _ => ?_) (fun e => by cases e))
        | (refine c_cond false (by rfl) (fun e => by cases e) (fun _ => ?_))
        | (refine c_block ?_)
        | (refine c_label ?_)
        | (refine o_cons ?_
           co_apply u_pure (by omega) rfl (by rfl)
           focus
             intro w
             co_apply run_eq_of
             intro K hK
             go_simp
             exact hK
           focus
             intro w
             (simp [go_sem]; done)
           try walk_nrm)
        | (refine o_cons (u_unwanted (by omega) rfl (by rfl) ?_)
           try walk_nrm))
      refine o_cons (u_semrel (ad := ⟨u, 1, none⟩) (by omega) hq4 rfl (by rfl) Try.func51 (by rfl) (by rfl) (by rfl) rfl rfl (by walk_nrm) (at_duty_wake hwg4 hmd4 hwk4 ?_))
      obtain ⟨l5, hl5⟩ : ∃ l5, l5 = l4.mdd (.quit p ⟨u, 0, none⟩) := ⟨_, rfl⟩
      rw [← hl5]
      try walk_nrm
      repeat (first
        | (refine c_seq ?_)
        | (refine c_region ?_
           simp only [List.size_toArray, List.length_cons, List.length_nil, Nat.reduceAdd, Nat.zero_add, List.range, List.range.loop])
        | (refine o_nil ?_
           simp only [Thn, Inb, if_true, if_false, reduceIte, Nat.reduceEqDiff])
        | (refine c_skip ?_
           simp only [Thn, Inb, if_true, if_false, reduceIte, Nat.reduceEqDiff])
        | (refine c_cond true (by rfl) (fun _ => ?_) (fun e => by cases e))
        | (refine c_cond false (by rfl) (fun e => by cases e) (fun _ => ?_))
        | (refine c_block ?_)
        | (refine c_label ?_)
        | (refine o_cons ?_
           co_apply u_pure (by omega) rfl (by rfl)
           focus
             intro w
             co_apply run_eq_of
             intro K hK
             go_simp
             exact hK
           focus
             intro w
             (simp [go_sem]; done)
           try walk_nrm)
        | (refine o_cons (u_unwanted (by omega) rfl (by rfl) ?_)
           try walk_nrm))
      refine c_exit ?_
      simp only [Thn, Inb, if_true, reduceIte]
      refine ⟨.inl trivial, rfl, _, resultsC_none (by rfl) _, ?_⟩
      rw [hl5]
      show some (l4.df - 1) = _
      rw [hdf4]
  · simp only [hn0, false_and, if_false, reduceIte]
    obtain ⟨l3, hl3⟩ : ∃ l3, l3 = (l2.wkd u 0).mdd (.quit p ⟨u, 0, none⟩) := ⟨_, rfl⟩
    rw [← hl3]
    have hyp : decide (0 < y) = true := by simp; omega
    clear hy
    have hz01 : z = 0 ∨ z = 1 := by omega
    clear hz
    rcases hz01 with rfl | rfl
    · repeat (first
        | (refine c_seq ?_)
        | (refine c_region ?_
           simp only [List.size_toArray, List.length_cons, List.length_nil, Nat.reduceAdd, Nat.zero_add, List.range, List.range.loop])
        | (refine o_nil ?_
           simp only [Thn, Inb, if_true, if_false, reduceIte, Nat.reduceEqDiff])
        | (refine c_skip ?_
           simp only [Thn, Inb, if_true, if_false, reduceIte, Nat.reduceEqDiff])
        | (refine c_cond true (by rfl) (fun _ => ?_) (fun e => by cases e))
        | (refine c_cond false (by rfl) (fun e => by cases e) (fun _ => ?_))
        | (refine c_block ?_)
        | (refine c_label ?_)
        | (refine o_cons ?_
           co_apply u_pure (by omega) rfl (by rfl)
           focus
             intro w
             co_apply run_eq_of
             intro K hK
             go_simp
             exact hK
           focus
             intro w
             (simp [go_sem]; done)
           try walk_nrm)
        | (refine o_cons (u_unwanted (by omega) rfl (by rfl) ?_)
           try walk_nrm))
      refine c_ret ?_
      refine ⟨.inr rfl, rfl, _, resultsC_none (by rfl) _, ?_⟩
      rw [hl3]
      show some (l2.df - 1) = _
      rw [hdf2]
    · repeat (first
        | (refine c_seq ?_)
        | (refine c_region ?_
           simp only [List.size_toArray, List.length_cons, List.length_nil, Nat.reduceAdd, Nat.zero_add, List.range, List.range.loop])
        | (refine o_nil ?_
           simp only [Thn, Inb, if_true, if_false, reduceIte, Nat.reduceEqDiff])
        | (refine c_skip ?_
           simp only [Thn, Inb, if_true, if_false, reduceIte, Nat.reduceEqDiff])
        | (refine c_cond true (by rfl) (fun _ => ?_) (fun e => by cases e))
        | (refine c_cond false (by rfl) (fun e => by cases e) (fun _ => ?_))
        | (refine c_block ?_)
        | (refine c_label ?_)
        | (refine o_cons ?_
           co_apply u_pure (by omega) rfl (by rfl)
           focus
             intro w
             co_apply run_eq_of
             intro K hK
             go_simp
             exact hK
           focus
             intro w
             (simp [go_sem]; done)
           try walk_nrm)
        | (refine o_cons (u_unwanted (by omega) rfl (by rfl) ?_)
           try walk_nrm))
      refine c_ret ?_
      refine ⟨.inr rfl, rfl, _, resultsC_none (by rfl) _, ?_⟩
      rw [hl3]
      show some (l2.df - 1) = _
      rw [hdf2]
theorem done26 : ∃ n, ∀ (E : En) (u : Nat) (l : Lo), l.md = .act → l.df = 0 → l.wg = some u → l.wk u = 1 → l.ob l.res → (∀ x, l.ws x = none) → (∀ c, l.res.tk (.tr c) = 0) →
    E.B 26 #[.pointer (some ⟨u, 0, none⟩)] n l fun _ l' => l'.quit = some 0 := by
  obtain ⟨n24, h24⟩ := wg_down
  refine ⟨_, fun E u l hact hdf hwg hwk hob hws htr => b_of (e := n24 + 2) (L := 0) Try.func26 (by rfl) rfl ?_⟩
  have hq := quit_act hact
  simp only [act0, Try.ntmps26, List.size_toArray, List.length_cons, List.length_nil, Nat.reduceAdd, Nat.reduceSub, Array.replicate_succ, Array.replicate_zero, List.push_toArray, List.append_toArray, List.nil_append, List.cons_append]
  repeat (first
    | (refine c_seq ?_)
    | (refine c_region ?_
       simp only [List.size_toArray, List.length_cons, List.length_nil, Nat.reduceAdd, Nat.zero_add, List.range, List.range.loop])
    | (refine o_nil ?_
       simp only [Thn, Inb, if_true, if_false, reduceIte, Nat.reduceEqDiff])
    | (refine c_skip ?_
       simp only [Thn, Inb, if_true, if_false, reduceIte, Nat.reduceEqDiff])
    | (refine c_cond true (by rfl) (fun _ => ?_) (fun e => by cases e))
    | (refine c_cond false (by rfl) (fun e => by cases e) (fun _ => ?_))
    | (refine c_block ?_)
    | (refine c_label ?_)
    | (refine o_cons (u_read (by omega) hact rfl (by rfl) fun w hF K' hK' => ?_)
       go_simp
       refine hK' _ ⟨?_, ?_⟩
       focus
         rw [listed_nil]
         · simp
         · (simp [go_sem]; done)
       clear hK' K' hF w
       try walk_nrm)
    | (refine o_cons (u_unwanted (by omega) rfl (by rfl) ?_)
       try walk_nrm))
  refine o_cons (u_callx (n := n24) #[.pointer (some ⟨u, 0, none⟩), .int .i64 (-1)] (by omega) rfl (by rfl) rfl (by walk_nrm) ?_)
  refine (h24 E u l hact hdf hwg hwk hob hws htr).mono fun v l' hp => ?_
  try walk_nrm
  refine o_nil ?_
  exact ⟨rfl, _, resultsC_none (by rfl) _, hp⟩
end Go.Proofs.Ytofohjbcgchhoaa
