/-
  THE WALKS: sync.WaitGroup.
-/
import Derived.Test.YtofohjbcgchhoaaF
import Derived.Test.YtofohjbcgchhoaaE7
namespace Go.Proofs.Ytofohjbcgchhoaa
open Go.Conc
open Go.RowKit
set_option maxRecDepth 100000
set_option linter.unusedSimpArgs false
set_option linter.unusedVariables false

set_option maxHeartbeats 8000000 in
theorem wg_up : ∃ n, ∀ (E : En) (u hi : Nat) (ws : List (Nat × (Res → Prop))) (l : Lo), l.md = .act → l.df = 0 → l.ws u = some ⟨ws, hi, 0⟩ → hi < 2147483646 →
    E.N 24 #[.pointer (some ⟨u, 0, none⟩), .int .i64 1] n l fun _ l' => l' = (l.wkd u (l.wk u + 1)).wsd u (some ⟨ws, hi + 1, 0⟩) := by
  obtain ⟨n46, h46⟩ := add46
  refine ⟨_, fun E u hi ws l hact hdf hB hhi => n_of_enable (e := n46 + 2) (L := 0) Try.func24 (by rfl) rfl ?_⟩
  have hq := quit_act hact
  simp only [act0, Try.ntmps24, List.size_toArray, List.length_cons, List.length_nil, Nat.reduceAdd, Nat.reduceSub, Array.replicate_succ, Array.replicate_zero, List.push_toArray, List.append_toArray, List.nil_append, List.cons_append]
  repeat (first
    | (refine c_seq ?_)
    | (refine c_region ?_
       simp only [List.size_toArray, List.length_cons, List.length_nil, Nat.reduceAdd, Nat.zero_add, List.range, List.range.loop])
    | (refine o_nil ?_
       simp only [Thn, Inb, if_true, if_false, reduceIte, Nat.reduceEqDiff])
    | (refine c_skip ?_
       simp only [Thn, Inb, if_true, if_false, reduceIte, Nat.reduceEqDiff])
    | (refine c_cond true (by rfl) (fun _ => ?_) (fun e => by cases e))
    | (refine c_cond false (by rfl) (fun e => by cases e) (fun _ => ?_))
    | (refine c_block ?_)
    | (refine c_label ?_)
    | (refine o_cons (u_read (by omega) hact rfl (by rfl) fun w hF K' hK' => ?_)
       go_simp
       refine hK' _ ⟨?_, ?_⟩
       focus
         rw [listed_nil]
         · simp
         · (simp [go_sem]; done)
       clear hK' K' hF w
       try walk_nrm)
    | (refine o_cons (u_unwanted (by omega) rfl (by rfl) ?_)
       try walk_nrm))
  -- Disable
  refine o_cons (u_mark0 (by omega) hq rfl (by rfl) Try.func40 (by rfl) (by rfl) (by rfl) .disable (by simp) rfl rfl (at_disable ?_))
  try walk_nrm
  repeat (first
    | (refine c_seq ?_)
    | (refine c_region ?_
       simp only [List.size_toArray, List.length_cons, List.length_nil, Nat.reduceAdd, Nat.zero_add, List.range, List.range.loop])
    | (refine o_nil ?_
       simp only [Thn, Inb, if_true, if_false, reduceIte, Nat.reduceEqDiff])
    | (refine c_skip ?_
       simp only [Thn, Inb, if_true, if_false, reduceIte, Nat.reduceEqDiff])
    | (refine c_cond true (by rfl) (fun _ => ?_) (fun e => by cases e))
    | (refine c_cond false (by rfl) (fun e => by cases e) (fun _ => ?_))
    | (refine c_block ?_)
    | (refine c_label ?_)
    | (refine o_cons (u_read (by omega) hact rfl (by rfl) fun w hF K' hK' => ?_)
       go_simp
       refine hK' _ ⟨?_, ?_⟩
       focus
         rw [listed_nil]
         · simp
         · (simp [go_sem]; done)
       clear hK' K' hF w
       try walk_nrm)
    | (refine o_cons (u_unwanted (by omega) rfl (by rfl) ?_)
       try walk_nrm))
  -- defer Enable
  refine o_cons (u_defer (by omega) rfl (by rfl) rfl rfl ?_)
  try walk_nrm
  have hact1 : (l.dfd (l.df + 1)).md = .act := hact
  repeat (first
    | (refine c_seq ?_)
    | (refine c_region ?_
       simp only [List.size_toArray, List.length_cons, List.length_nil, Nat.reduceAdd, Nat.zero_add, List.range, List.range.loop])
    | (refine o_nil ?_
       simp only [Thn, Inb, if_true, if_false, reduceIte, Nat.reduceEqDiff])
    | (refine c_skip ?_
       simp only [Thn, Inb, if_true, if_false, reduceIte, Nat.reduceEqDiff])
    | (refine c_cond true (by rfl) (fun _ => ?_) (fun e => by cases e))
    | (refine c_cond false (by rfl) (fun e => by cases e) (fun _ => ?_))
    | (refine c_block ?_)
    | (refine c_label ?_)
    | (refine o_cons (u_read (by omega) hact1 rfl (by rfl) fun w hF K' hK' => ?_)
       go_simp
       refine hK' _ ⟨?_, ?_⟩
       focus
         rw [listed_nil]
         · simp
         · (simp [go_sem]; done)
       clear hK' K' hF w
       try walk_nrm)
    | (refine o_cons (u_unwanted (by omega) rfl (by rfl) ?_)
       try walk_nrm))
  refine o_cons (u_entry0 (.bool false) (by omega) rfl (by rfl) rfl Try.func42 (by rfl) (by rfl) (by rfl) rfl (fun w => rfl) (fun w es => rfl) ?_)
  try walk_nrm
  repeat (first
    | (refine c_seq ?_)
    | (refine c_region ?_
       simp only [List.size_toArray, List.length_cons, List.length_nil, Nat.reduceAdd, Nat.zero_add, List.range, List.range.loop])
    | (refine o_nil ?_
       simp only [Thn, Inb, if_true, if_false, reduceIte, Nat.reduceEqDiff])
    | (refine c_skip ?_
       simp only [Thn, Inb, if_true, if_false, reduceIte, Nat.reduceEqDiff])
    | (refine c_cond true (by rfl) (fun _ => ?_) (fun e => by cases e))
    | (refine c_cond false (by rfl) (fun e => by cases e) (fun _ => ?_))
    | (refine c_block ?_)
    | (refine c_label ?_)
    | (refine o_cons (u_read (by omega) hact1 rfl (by rfl) fun w hF K' hK' => ?_)
       go_simp
       refine hK' _ ⟨?_, ?_⟩
       focus
         rw [listed_nil]
         · simp
         · (simp [go_sem]; done)
       clear hK' K' hF w
       try walk_nrm)
    | (refine o_cons (u_unwanted (by omega) rfl (by rfl) ?_)
       try walk_nrm))
  have e1 : IntKind.u64.wrap (IntKind.u64.wrap 1 * 4294967296) = 4294967296 := by decide
  simp only [e1]
  have hq1 : (l.dfd (l.df + 1)).quit = none := quit_act hact1
  have hB1 : (l.dfd (l.df + 1)).ws u = some ⟨ws, hi, 0⟩ := hB
  refine o_cons (u_callx (n := n46) #[.pointer (some ⟨u, 0, none⟩), .int .u64 4294967296] (by omega) rfl (by rfl) rfl (by walk_nrm) ?_)
  refine h46 E u 0 4294967296 _ _ hq1 ?_
  refine at_add_up hB1 (by omega) fun n hn => ?_
  obtain ⟨l2, hl2⟩ : ∃ l2, l2 = ((l.dfd (l.df + 1)).wkd u ((l.dfd (l.df + 1)).wk u + 1)).wsd u (some ⟨ws, hi + 1, 0⟩) := ⟨_, rfl⟩
  rw [← hl2]
  have hact2 : l2.md = .act := by rw [hl2]; exact hact
  try walk_nrm
  obtain ⟨x, hx⟩ : ∃ x : Int, x = (((n + 1) * 4294967296 : Nat) : Int) := ⟨_, rfl⟩
  have hxf : bits .and .u64 x 2147483648 = 0 := by
    have := Go.ConcN.st_flag (n + 1) 0 (by omega) (by omega)
    rw [hx]
    simpa using this
  have hxw : bits .and .u64 x 2147483647 = 0 := by
    have := Go.ConcN.st_waiters (n + 1) 0 (by omega) (by omega)
    rw [hx]
    simpa using this
  rw [← hx]
  have hx1 : Hid (x = (((n + 1) * 4294967296 : Nat) : Int)) := hx
  clear hx e1
  have hxv : IntKind.i32.wrap (x / 4294967296) = ((n + 1 : Nat) : Int) := by
    have := hx1.out
    rw [IntKind.wrap_i32]
    omega
  have hu0 : IntKind.u32.wrap 0 = 0 := by decide
  have hi1 : IntKind.i32.wrap 1 = 1 := by decide
  have hy0 : (0 : Int) < ((n + 1 : Nat) : Int) := by omega
  obtain ⟨y, hy⟩ : ∃ y : Int, y = ((n + 1 : Nat) : Int) := ⟨_, rfl⟩
  rw [← hy] at hxv hy0
  have hyn : decide (y < 0) = false := by simp; omega
  have hyp : decide (0 < y) = true := by simp; omega
  clear hy
  have hB2 : l2.ws u = some ⟨ws, hi + 1, 0⟩ := by rw [hl2]; simp [Lo.wsd]
  by_cases hn0 : y = 1
  · subst hn0
    repeat (first
      | (refine c_seq ?_)
      | (refine c_region ?_
         simp only [List.size_toArray, List.length_cons, List.length_nil, Nat.reduceAdd, Nat.zero_add, List.range, List.range.loop])
      | (refine o_nil ?_
         simp only [Thn, Inb, if_true, if_false, reduceIte, Nat.reduceEqDiff])
      | (refine c_skip ?_
         simp only [Thn, Inb, if_true, if_false, reduceIte, Nat.reduceEqDiff])
      | (refine c_cond true (by rfl) (fun _ => ?_) (fun e => by cases e))
      | (refine c_cond false (by rfl) (fun e => by cases e) (fun _ => ?_))
      | (refine c_block ?_)
      | (refine c_label ?_)
      | (refine o_cons (u_read (by omega) hact2 rfl (by rfl) fun w hF K' hK' => ?_)
         go_simp
         refine hK' _ ⟨?_, ?_⟩
         focus
           rw [listed_nil]
           · simp
           · (simp [go_sem]; done)
         clear hK' K' hF w
         try walk_nrm)
      | (refine o_cons (u_unwanted (by omega) rfl (by rfl) ?_)
         try walk_nrm))
    refine o_cons (u_conv (ad := ⟨u, 1, none⟩) (by omega) (quit_act hact2) rfl (by rfl) rfl rfl Try.underlying77 Try.underlying71 (by rfl) (lead_cell hB2 (by omega)) ?_)
    try walk_nrm
    refine o_cons (u_markAt (ad := ⟨u, 1, none⟩) (by omega) (quit_act hact2) rfl (by rfl) Try.func47 (by rfl) (by rfl) (by rfl) .read (by simp) rfl rfl (by walk_nrm) (at_said hB2 _ (.inl rfl) ?_))
    try walk_nrm
    repeat (first
      | (refine c_seq ?_)
      | (refine c_region ?_
         simp only [List.size_toArray, List.length_cons, List.length_nil, Nat.reduceAdd, Nat.zero_add, List.range, List.range.loop])
      | (refine o_nil ?_
         simp only [Thn, Inb, if_true, if_false, reduceIte, Nat.reduceEqDiff])
      | (refine c_skip ?_
         simp only [Thn, Inb, if_true, if_false, reduceIte, Nat.reduceEqDiff])
      | (refine c_cond true (by rfl) (fun _ => ?_) (fun e => by cases e))
      | (refine c_cond false (by rfl) (fun e => by cases e) (fun _ => ?_))
      | (refine c_block ?_)
      | (refine c_label ?_)
      | (refine o_cons (u_read (by omega) hact2 rfl (by rfl) fun w hF K' hK' => ?_)
         go_simp
         refine hK' _ ⟨?_, ?_⟩
         focus
           rw [listed_nil]
           · simp
           · (simp [go_sem]; done)
         clear hK' K' hF w
         try walk_nrm)
      | (refine o_cons (u_unwanted (by omega) rfl (by rfl) ?_)
         try walk_nrm))
    refine c_ret ?_
    refine ⟨.inr rfl, rfl, _, resultsC_none (by rfl) _, ?_⟩
    rw [hl2]
    simp [Lo.dfd, Lo.wkd, Lo.wsd]
  · have hd : decide (y = 1) = false := by simp [hn0]
    repeat (first
      | (refine c_seq ?_)
      | (refine c_region ?_
         simp only [List.size_toArray, List.length_cons, List.length_nil, Nat.reduceAdd, Nat.zero_add, List.range, List.range.loop])
      | (refine o_nil ?_
         simp only [Thn, Inb, if_true, if_false, reduceIte, Nat.reduceEqDiff])
      | (refine c_skip ?_
         simp only [Thn, Inb, if_true, if_false, reduceIte, Nat.reduceEqDiff])
      | (refine c_cond true (by rfl) (fun _ => ?_) (fun e => by cases e))
      | (refine c_cond false (by rfl) (fun e => by cases e) (fun _ => ?_))
      | (refine c_block ?_)
      | (refine c_label ?_)
      | (refine o_cons (u_read (by omega) hact2 rfl (by rfl) fun w hF K' hK' => ?_)
         go_simp
         refine hK' _ ⟨?_, ?_⟩
         focus
           rw [listed_nil]
           · simp
           · (simp [go_sem]; done)
         clear hK' K' hF w
         try walk_nrm)
      | (refine o_cons (u_unwanted (by omega) rfl (by rfl) ?_)
         try walk_nrm))
    refine c_cond false (by simp [Act.eval, hn0]) (fun e => by cases e) (fun _ => ?_)
    repeat (first
      | (refine c_seq ?_)
      | (refine c_region ?_
         simp only [List.size_toArray, List.length_cons, List.length_nil, Nat.reduceAdd, Nat.zero_add, List.range, List.range.loop])
      | (refine o_nil ?_
         simp only [Thn, Inb, if_true, if_false, reduceIte, Nat.reduceEqDiff])
      | (refine c_skip ?_
         simp only [Thn, Inb, if_true, if_false, reduceIte, Nat.reduceEqDiff])
      | (refine c_cond true (by rfl) (fun _ => ?_) (fun e => by cases e))
      | (refine c_cond false (by rfl) (fun e => by cases e) (fun _ => ?_))
      | (refine c_block ?_)
      | (refine c_label ?_)
      | (refine o_cons (u_read (by omega) hact2 rfl (by rfl) fun w hF K' hK' => ?_)
         go_simp
         refine hK' _ ⟨?_, ?_⟩
         focus
           rw [listed_nil]
           · simp
           · (simp [go_sem]; done)
         clear hK' K' hF w
         try walk_nrm)
      | (refine o_cons (u_unwanted (by omega) rfl (by rfl) ?_)
         try walk_nrm))
    refine c_ret ?_
    refine ⟨.inr rfl, rfl, _, resultsC_none (by rfl) _, ?_⟩
    rw [hl2]
    simp [Lo.dfd, Lo.wkd, Lo.wsd]
end Go.Proofs.Ytofohjbcgchhoaa
