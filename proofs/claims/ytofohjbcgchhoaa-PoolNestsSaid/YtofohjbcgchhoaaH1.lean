/-
  THE WALKS: a pool's numbers; New.
-/
import Derived.Test.YtofohjbcgchhoaaF
import Derived.Conc.LoneSelectN
import Derived.Test.YtofohjbcgchhoaaE12
import Derived.Test.YtofohjbcgchhoaaG1
namespace Go.Proofs.Ytofohjbcgchhoaa
open Go.Conc
open Go.RowKit
set_option maxRecDepth 100000
set_option linter.unusedSimpArgs false
set_option linter.unusedVariables false

theorem field30 : ∃ n, ∀ (E : En) (p : Nat) (l : Lo), l.md = .act → E.N 30 #[.pointer (some ⟨p, 0, none⟩)] n l fun v l' => v = .pointer (some ⟨p, 1, none⟩) ∧ l' = l := by
  refine ⟨_, fun E p l hact => n_of_b (b_of (e := 2) (L := 0) Try.func30 (by rfl) rfl ?_)⟩
  simp only [act0, Try.ntmps30, List.size_toArray, List.length_cons, List.length_nil, Nat.reduceAdd, Nat.reduceSub, Array.replicate_succ, Array.replicate_zero, List.push_toArray, List.append_toArray, List.nil_append, List.cons_append]
  repeat (first
    | (refine c_seq ?_)
    | (refine c_region ?_
       simp only [List.size_toArray, List.length_cons, List.length_nil, Nat.reduceAdd, Nat.zero_add, List.range, List.range.loop])
    | (refine o_nil ?_
       simp only [Thn, Inb, if_true, if_false, reduceIte, Nat.reduceEqDiff])
    | (refine c_skip ?_
       simp only [Thn, Inb, if_true, if_false, reduceIte, Nat.reduceEqDiff])
    | (refine c_cond true (by rfl) (fun _ => ?_) (fun e => by cases e))
    | (refine c_cond false (by rfl) (fun e => by cases e) (fun _ => ?_))
    | (refine c_block ?_)
    | (refine c_label ?_
       simp only [Thn, Inb, if_true, if_false, reduceIte, Nat.reduceEqDiff])
    | (refine c_scope ?_)
    | (refine o_cons (u_read (by omega) hact rfl (by rfl) fun w hF K' hK' => ?_)
       go_simp
       refine hK' _ ⟨?_, ?_⟩
       focus
         rw [listed_nil]
         · simp
         · (simp [go_sem]; done)
       clear hK' K' hF w
       try walk_nrm)
    | (refine o_cons (u_unwanted (by omega) rfl (by rfl) ?_)
       try walk_nrm))
  refine c_ret ?_
  refine ⟨rfl, _, resultsC_tmp (by rfl) _, ?_⟩
  exact ⟨rfl, rfl⟩
theorem field31 : ∃ n, ∀ (E : En) (p : Nat) (l : Lo), l.md = .act → E.N 31 #[.pointer (some ⟨p, 0, none⟩)] n l fun v l' => v = .pointer (some ⟨p, 3, none⟩) ∧ l' = l := by
  refine ⟨_, fun E p l hact => n_of_b (b_of (e := 2) (L := 0) Try.func31 (by rfl) rfl ?_)⟩
  simp only [act0, Try.ntmps31, List.size_toArray, List.length_cons, List.length_nil, Nat.reduceAdd, Nat.reduceSub, Array.replicate_succ, Array.replicate_zero, List.push_toArray, List.append_toArray, List.nil_append, List.cons_append]
  repeat (first
    | (refine c_seq ?_)
    | (refine c_region ?_
       simp only [List.size_toArray, List.length_cons, List.length_nil, Nat.reduceAdd, Nat.zero_add, List.range, List.range.loop])
    | (refine o_nil ?_
       simp only [Thn, Inb, if_true, if_false, reduceIte, Nat.reduceEqDiff])
    | (refine c_skip ?_
       simp only [Thn, Inb, if_true, if_false, reduceIte, Nat.reduceEqDiff])
    | (refine c_cond true (by rfl) (fun _ => ?_) (fun e => by cases e))
    | (refine c_cond false (by rfl) (fun e => by cases e) (fun _ => ?_))
    | (refine c_block ?_)
    | (refine c_label ?_
       simp only [Thn, Inb, if_true, if_false, reduceIte, Nat.reduceEqDiff])
    | (refine c_scope ?_)
    | (refine o_cons (u_read (by omega) hact rfl (by rfl) fun w hF K' hK' => ?_)
       go_simp
       refine hK' _ ⟨?_, ?_⟩
       focus
         rw [listed_nil]
         · simp
         · (simp [go_sem]; done)
       clear hK' K' hF w
       try walk_nrm)
    | (refine o_cons (u_unwanted (by omega) rfl (by rfl) ?_)
       try walk_nrm))
  refine c_ret ?_
  refine ⟨rfl, _, resultsC_tmp (by rfl) _, ?_⟩
  exact ⟨rfl, rfl⟩
theorem field32 : ∃ n, ∀ (E : En) (p : Nat) (l : Lo), l.md = .act → E.N 32 #[.pointer (some ⟨p, 0, none⟩)] n l fun v l' => v = .pointer (some ⟨p, 2, none⟩) ∧ l' = l := by
  refine ⟨_, fun E p l hact => n_of_b (b_of (e := 2) (L := 0) Try.func32 (by rfl) rfl ?_)⟩
  simp only [act0, Try.ntmps32, List.size_toArray, List.length_cons, List.length_nil, Nat.reduceAdd, Nat.reduceSub, Array.replicate_succ, Array.replicate_zero, List.push_toArray, List.append_toArray, List.nil_append, List.cons_append]
  repeat (first
    | (refine c_seq ?_)
    | (refine c_region ?_
       simp only [List.size_toArray, List.length_cons, List.length_nil, Nat.reduceAdd, Nat.zero_add, List.range, List.range.loop])
    | (refine o_nil ?_
       simp only [Thn, Inb, if_true, if_false, reduceIte, Nat.reduceEqDiff])
    | (refine c_skip ?_
       simp only [Thn, Inb, if_true, if_false, reduceIte, Nat.reduceEqDiff])
    | (refine c_cond true (by rfl) (fun _ => ?_) (fun e => by cases e))
    | (refine c_cond false (by rfl) (fun e => by cases e) (fun _ => ?_))
    | (refine c_block ?_)
    | (refine c_label ?_
       simp only [Thn, Inb, if_true, if_false, reduceIte, Nat.reduceEqDiff])
    | (refine c_scope ?_)
    | (refine o_cons (u_read (by omega) hact rfl (by rfl) fun w hF K' hK' => ?_)
       go_simp
       refine hK' _ ⟨?_, ?_⟩
       focus
         rw [listed_nil]
         · simp
         · (simp [go_sem]; done)
       clear hK' K' hF w
       try walk_nrm)
    | (refine o_cons (u_unwanted (by omega) rfl (by rfl) ?_)
       try walk_nrm))
  refine c_ret ?_
  refine ⟨rfl, _, resultsC_tmp (by rfl) _, ?_⟩
  exact ⟨rfl, rfl⟩

theorem count29 (nf : Nat) : ∃ n, ∀ (E : En) (f : FuncId) (p o : Nat) (l : Lo) (Post : Value → Lo → Prop), l.md = .act → E.N f #[.pointer (some ⟨p, 0, none⟩)] nf l (fun v l' => v = .pointer (some ⟨p, o, none⟩) ∧ l' = l) →
    E.LoadAt l 36 ⟨p, o, none⟩ .i64 Post → E.N 29 #[.pointer (some ⟨p, 0, none⟩), .func (.func f) #[] #[]] n l Post := by
  obtain ⟨n36, h36⟩ := load36
  refine ⟨_, fun E f p o l Post hact hf hl => n_of_b (b_of (e := nf + n36 + 2) (L := 0) Try.func29 (by rfl) rfl ?_)⟩
  simp only [act0, Try.ntmps29, List.size_toArray, List.length_cons, List.length_nil, Nat.reduceAdd, Nat.reduceSub, Array.replicate_succ, Array.replicate_zero, List.push_toArray, List.append_toArray, List.nil_append, List.cons_append]
  repeat (first
    | (refine c_seq ?_)
    | (refine c_region ?_
       simp only [List.size_toArray, List.length_cons, List.length_nil, Nat.reduceAdd, Nat.zero_add, List.range, List.range.loop])
    | (refine o_nil ?_
       simp only [Thn, Inb, if_true, if_false, reduceIte, Nat.reduceEqDiff])
    | (refine c_skip ?_
       simp only [Thn, Inb, if_true, if_false, reduceIte, Nat.reduceEqDiff])
    | (refine c_cond true (by rfl) (fun _ => ?_) (fun e => by cases e))
    | (refine c_cond false (by rfl) (fun e => by cases e) (fun _ => ?_))
    | (refine c_block ?_)
    | (refine c_label ?_
       simp only [Thn, Inb, if_true, if_false, reduceIte, Nat.reduceEqDiff])
    | (refine c_scope ?_)
    | (refine o_cons (u_read (by omega) hact rfl (by rfl) fun w hF K' hK' => ?_)
       go_simp
       refine hK' _ ⟨?_, ?_⟩
       focus
         rw [listed_nil]
         · simp
         · (simp [go_sem]; done)
       clear hK' K' hF w
       try walk_nrm)
    | (refine o_cons (u_unwanted (by omega) rfl (by rfl) ?_)
       try walk_nrm))
  refine o_cons (u_callv (n := nf) (by omega) rfl (by rfl) rfl rfl ?_)
  simp only [List.map_toArray, List.map_cons, List.map_nil, Array.append_empty, Array.empty_append]
  refine hf.mono fun v l' hp => ?_
  obtain ⟨rfl, rfl⟩ := hp
  try walk_nrm
  refine o_cons (u_callx (n := n36) #[.pointer (some ⟨p, o, none⟩)] (by omega) rfl (by rfl) rfl (by walk_nrm) ?_)
  refine h36 E p o _ _ (quit_act hact) ?_
  intro γ w t pos hI hl' hi
  obtain ⟨x, l2, g1, g2, g3⟩ := hl γ w t pos hI hl' hi
  refine ⟨x, l2, g1, g2, ?_⟩
  try walk_nrm
  refine o_cons ?_
  co_apply u_pure (by omega) rfl (by rfl)
  focus
    intro w
    co_apply run_eq_of
    intro K hK
    go_simp
    exact hK
  focus
    intro w
    (simp [go_sem]; done)
  try walk_nrm
  refine o_nil ?_
  simp only [Thn]
  refine c_ret ?_
  refine ⟨rfl, _, resultsC_tmp (by rfl) _, ?_⟩
  exact g3
theorem count29n : ∃ n, ∀ (E : En) (fv : Value) (l : Lo) (Post : Value → Lo → Prop), l.md = .act → Post (.int .i64 0) l → E.N 29 #[.pointer none, fv] n l Post := by
  refine ⟨_, fun E fv l Post hact h => n_of_b (b_of (e := 2) (L := 0) Try.func29 (by rfl) rfl ?_)⟩
  simp only [act0, Try.ntmps29, List.size_toArray, List.length_cons, List.length_nil, Nat.reduceAdd, Nat.reduceSub, Array.replicate_succ, Array.replicate_zero, List.push_toArray, List.append_toArray, List.nil_append, List.cons_append]
  repeat (first
    | (refine c_seq ?_)
    | (refine c_region ?_
       simp only [List.size_toArray, List.length_cons, List.length_nil, Nat.reduceAdd, Nat.zero_add, List.range, List.range.loop])
    | (refine o_nil ?_
       simp only [Thn, Inb, if_true, if_false, reduceIte, Nat.reduceEqDiff])
    | (refine c_skip ?_
       simp only [Thn, Inb, if_true, if_false, reduceIte, Nat.reduceEqDiff])
    | (refine c_cond true (by rfl) (fun _ => ?_) (fun e => by cases e))
    | (refine c_cond false (by rfl) (fun e => by cases e) (fun _ => ?_))
    | (refine c_block ?_)
    | (refine c_label ?_
       simp only [Thn, Inb, if_true, if_false, reduceIte, Nat.reduceEqDiff])
    | (refine c_scope ?_)
    | (refine o_cons (u_read (by omega) hact rfl (by rfl) fun w hF K' hK' => ?_)
       go_simp
       refine hK' _ ⟨?_, ?_⟩
       focus
         rw [listed_nil]
         · simp
         · (simp [go_sem]; done)
       clear hK' K' hF w
       try walk_nrm)
    | (refine o_cons (u_unwanted (by omega) rfl (by rfl) ?_)
       try walk_nrm))
  refine c_ret ?_
  refine ⟨rfl, _, resultsC_tmp (by rfl) _, ?_⟩
  exact h

theorem alive14 : ∃ n, ∀ (E : En) (p ch cap : Nat) (so : Bool) (l : Lo) (Post : Value → Lo → Prop), E.i = 0 → l.md = .act → l.pl p = some (ch, cap, so) → l.solo → l.res.tk (.alive p) < 4611686018427387904 → Post (.int .i64 (l.res.tk (.alive p) : Nat)) l → E.N 14 #[.pointer (some ⟨p, 0, none⟩)] n l Post := by
  obtain ⟨nf, hf⟩ := field30
  obtain ⟨n29, h29⟩ := count29 nf
  refine ⟨_, fun E p ch cap so l Post h0 hact hpl hso hsm h => n_of_b (b_of (e := n29 + 2) (L := 0) Try.func14 (by rfl) rfl ?_)⟩
  simp only [act0, Try.ntmps14, List.size_toArray, List.length_cons, List.length_nil, Nat.reduceAdd, Nat.reduceSub, Array.replicate_succ, Array.replicate_zero, List.push_toArray, List.append_toArray, List.nil_append, List.cons_append]
  repeat (first
    | (refine c_seq ?_)
    | (refine c_region ?_
       simp only [List.size_toArray, List.length_cons, List.length_nil, Nat.reduceAdd, Nat.zero_add, List.range, List.range.loop])
    | (refine o_nil ?_
       simp only [Thn, Inb, if_true, if_false, reduceIte, Nat.reduceEqDiff])
    | (refine c_skip ?_
       simp only [Thn, Inb, if_true, if_false, reduceIte, Nat.reduceEqDiff])
    | (refine c_cond true (by rfl) (fun _ => ?_) (fun e => by cases e))
    | (refine c_cond false (by rfl) (fun e => by cases e) (fun _ => ?_))
    | (refine c_block ?_)
    | (refine c_label ?_
       simp only [Thn, Inb, if_true, if_false, reduceIte, Nat.reduceEqDiff])
    | (refine c_scope ?_)
    | (refine o_cons (u_read (by omega) hact rfl (by rfl) fun w hF K' hK' => ?_)
       go_simp
       refine hK' _ ⟨?_, ?_⟩
       focus
         rw [listed_nil]
         · simp
         · (simp [go_sem]; done)
       clear hK' K' hF w
       try walk_nrm)
    | (refine o_cons (u_unwanted (by omega) rfl (by rfl) ?_)
       try walk_nrm))
  refine o_cons (u_callx (n := n29) #[.pointer (some ⟨p, 0, none⟩), .func (.func 30) #[] #[]] (by omega) rfl (by rfl) rfl (by walk_nrm) ?_)
  refine h29 E 30 p 1 l _ hact (hf E p l hact) (at_alone h0 hact hpl hso (.alive p) (.inl ⟨rfl, rfl⟩) hsm ?_)
  try walk_nrm
  repeat (first
    | (refine c_seq ?_)
    | (refine c_region ?_
       simp only [List.size_toArray, List.length_cons, List.length_nil, Nat.reduceAdd, Nat.zero_add, List.range, List.range.loop])
    | (refine o_nil ?_
       simp only [Thn, Inb, if_true, if_false, reduceIte, Nat.reduceEqDiff])
    | (refine c_skip ?_
       simp only [Thn, Inb, if_true, if_false, reduceIte, Nat.reduceEqDiff])
    | (refine c_cond true (by rfl) (fun _ => ?_) (fun e => by cases e))
    | (refine c_cond false (by rfl) (fun e => by cases e) (fun _ => ?_))
    | (refine c_block ?_)
    | (refine c_label ?_
       simp only [Thn, Inb, if_true, if_false, reduceIte, Nat.reduceEqDiff])
    | (refine c_scope ?_)
    | (refine o_cons (u_read (by omega) hact rfl (by rfl) fun w hF K' hK' => ?_)
       go_simp
       refine hK' _ ⟨?_, ?_⟩
       focus
         rw [listed_nil]
         · simp
         · (simp [go_sem]; done)
       clear hK' K' hF w
       try walk_nrm)
    | (refine o_cons (u_unwanted (by omega) rfl (by rfl) ?_)
       try walk_nrm))
  refine c_ret ?_
  refine ⟨rfl, _, resultsC_tmp (by rfl) _, ?_⟩
  exact h
theorem begun15 : ∃ n, ∀ (E : En) (p ch cap : Nat) (so : Bool) (l : Lo) (Post : Value → Lo → Prop), E.i = 0 → l.md = .act → l.pl p = some (ch, cap, so) → l.solo → l.res.tk (.begun p) < 4611686018427387904 → Post (.int .i64 (l.res.tk (.begun p) : Nat)) l → E.N 15 #[.pointer (some ⟨p, 0, none⟩)] n l Post := by
  obtain ⟨nf, hf⟩ := field31
  obtain ⟨n29, h29⟩ := count29 nf
  refine ⟨_, fun E p ch cap so l Post h0 hact hpl hso hsm h => n_of_b (b_of (e := n29 + 2) (L := 0) Try.func15 (by rfl) rfl ?_)⟩
  simp only [act0, Try.ntmps15, List.size_toArray, List.length_cons, List.length_nil, Nat.reduceAdd, Nat.reduceSub, Array.replicate_succ, Array.replicate_zero, List.push_toArray, List.append_toArray, List.nil_append, List.cons_append]
  repeat (first
    | (refine c_seq ?_)
    | (refine c_region ?_
       simp only [List.size_toArray, List.length_cons, List.length_nil, Nat.reduceAdd, Nat.zero_add, List.range, List.range.loop])
    | (refine o_nil ?_
       simp only [Thn, Inb, if_true, if_false, reduceIte, Nat.reduceEqDiff])
    | (refine c_skip ?_
       simp only [Thn, Inb, if_true, if_false, reduceIte, Nat.reduceEqDiff])
    | (refine c_cond true (by rfl) (fun _ => ?_) (fun e => by cases e))
    | (refine c_cond false (by rfl) (fun e => by cases e) (fun _ => ?_))
    | (refine c_block ?_)
    | (refine c_label ?_
       simp only [Thn, Inb, if_true, if_false, reduceIte, Nat.reduceEqDiff])
    | (refine c_scope ?_)
    | (refine o_cons (u_read (by omega) hact rfl (by rfl) fun w hF K' hK' => ?_)
       go_simp
       refine hK' _ ⟨?_, ?_⟩
       focus
         rw [listed_nil]
         · simp
         · (simp [go_sem]; done)
       clear hK' K' hF w
       try walk_nrm)
    | (refine o_cons (u_unwanted (by omega) rfl (by rfl) ?_)
       try walk_nrm))
  refine o_cons (u_callx (n := n29) #[.pointer (some ⟨p, 0, none⟩), .func (.func 31) #[] #[]] (by omega) rfl (by rfl) rfl (by walk_nrm) ?_)
  refine h29 E 31 p 3 l _ hact (hf E p l hact) (at_alone h0 hact hpl hso (.begun p) (.inr ⟨rfl, rfl⟩) hsm ?_)
  try walk_nrm
  repeat (first
    | (refine c_seq ?_)
    | (refine c_region ?_
       simp only [List.size_toArray, List.length_cons, List.length_nil, Nat.reduceAdd, Nat.zero_add, List.range, List.range.loop])
    | (refine o_nil ?_
       simp only [Thn, Inb, if_true, if_false, reduceIte, Nat.reduceEqDiff])
    | (refine c_skip ?_
       simp only [Thn, Inb, if_true, if_false, reduceIte, Nat.reduceEqDiff])
    | (refine c_cond true (by rfl) (fun _ => ?_) (fun e => by cases e))
    | (refine c_cond false (by rfl) (fun e => by cases e) (fun _ => ?_))
    | (refine c_block ?_)
    | (refine c_label ?_
       simp only [Thn, Inb, if_true, if_false, reduceIte, Nat.reduceEqDiff])
    | (refine c_scope ?_)
    | (refine o_cons (u_read (by omega) hact rfl (by rfl) fun w hF K' hK' => ?_)
       go_simp
       refine hK' _ ⟨?_, ?_⟩
       focus
         rw [listed_nil]
         · simp
         · (simp [go_sem]; done)
       clear hK' K' hF w
       try walk_nrm)
    | (refine o_cons (u_unwanted (by omega) rfl (by rfl) ?_)
       try walk_nrm))
  refine c_ret ?_
  refine ⟨rfl, _, resultsC_tmp (by rfl) _, ?_⟩
  exact h
theorem peak16 : ∃ n, ∀ (E : En) (p ch cap : Nat) (so : Bool) (l : Lo) (Post : Value → Lo → Prop), l.md = .act → l.pl p = some (ch, cap, so) → (∀ m : Nat, l.pk p ≤ m → m ≤ cap → Post (.int .i64 (m : Nat)) (l.pkd p m)) → E.N 16 #[.pointer (some ⟨p, 0, none⟩)] n l Post := by
  obtain ⟨nf, hf⟩ := field32
  obtain ⟨n29, h29⟩ := count29 nf
  refine ⟨_, fun E p ch cap so l Post hact hpl h => n_of_b (b_of (e := n29 + 2) (L := 0) Try.func16 (by rfl) rfl ?_)⟩
  simp only [act0, Try.ntmps16, List.size_toArray, List.length_cons, List.length_nil, Nat.reduceAdd, Nat.reduceSub, Array.replicate_succ, Array.replicate_zero, List.push_toArray, List.append_toArray, List.nil_append, List.cons_append]
  repeat (first
    | (refine c_seq ?_)
    | (refine c_region ?_
       simp only [List.size_toArray, List.length_cons, List.length_nil, Nat.reduceAdd, Nat.zero_add, List.range, List.range.loop])
    | (refine o_nil ?_
       simp only [Thn, Inb, if_true, if_false, reduceIte, Nat.reduceEqDiff])
    | (refine c_skip ?_
       simp only [Thn, Inb, if_true, if_false, reduceIte, Nat.reduceEqDiff])
    | (refine c_cond true (by rfl) (fun _ => ?_) (fun e => by cases e))
    | (refine c_cond false (by rfl) (fun e => by cases e) (fun _ => ?_))
    | (refine c_block ?_)
    | (refine c_label ?_
       simp only [Thn, Inb, if_true, if_false, reduceIte, Nat.reduceEqDiff])
    | (refine c_scope ?_)
    | (refine o_cons (u_read (by omega) hact rfl (by rfl) fun w hF K' hK' => ?_)
       go_simp
       refine hK' _ ⟨?_, ?_⟩
       focus
         rw [listed_nil]
         · simp
         · (simp [go_sem]; done)
       clear hK' K' hF w
       try walk_nrm)
    | (refine o_cons (u_unwanted (by omega) rfl (by rfl) ?_)
       try walk_nrm))
  refine o_cons (u_callx (n := n29) #[.pointer (some ⟨p, 0, none⟩), .func (.func 32) #[] #[]] (by omega) rfl (by rfl) rfl (by walk_nrm) ?_)
  refine h29 E 32 p 2 l _ hact (hf E p l hact) (at_peak hact hpl fun m h1 h2 => ?_)
  have hact' : (l.pkd p m).md = .act := hact
  obtain ⟨l2, hl2⟩ : ∃ l2, l2 = l.pkd p m := ⟨_, rfl⟩
  rw [← hl2] at hact'
  rw [← hl2]
  try walk_nrm
  repeat (first
    | (refine c_seq ?_)
    | (refine c_region ?_
       simp only [List.size_toArray, List.length_cons, List.length_nil, Nat.reduceAdd, Nat.zero_add, List.range, List.range.loop])
    | (refine o_nil ?_
       simp only [Thn, Inb, if_true, if_false, reduceIte, Nat.reduceEqDiff])
    | (refine c_skip ?_
       simp only [Thn, Inb, if_true, if_false, reduceIte, Nat.reduceEqDiff])
    | (refine c_cond true (by rfl) (fun _ => ?_) (fun e => by cases e))
    | (refine c_cond false (by rfl) (fun e => by cases e) (fun _ => ?_))
    | (refine c_block ?_)
    | (refine c_label ?_
       simp only [Thn, Inb, if_true, if_false, reduceIte, Nat.reduceEqDiff])
    | (refine c_scope ?_)
    | (refine o_cons (u_read (by omega) hact' rfl (by rfl) fun w hF K' hK' => ?_)
       go_simp
       refine hK' _ ⟨?_, ?_⟩
       focus
         rw [listed_nil]
         · simp
         · (simp [go_sem]; done)
       clear hK' K' hF w
       try walk_nrm)
    | (refine o_cons (u_unwanted (by omega) rfl (by rfl) ?_)
       try walk_nrm))
  refine c_ret ?_
  refine ⟨rfl, _, resultsC_tmp (by rfl) _, ?_⟩
  rw [hl2]
  exact h m h1 h2
theorem alive_nil : ∃ n, ∀ (E : En) (l : Lo) (Post : Value → Lo → Prop), l.md = .act → Post (.int .i64 0) l → E.N 14 #[.pointer none] n l Post := by
  obtain ⟨n29, h29⟩ := count29n
  refine ⟨_, fun E l Post hact h => n_of_b (b_of (e := n29 + 2) (L := 0) Try.func14 (by rfl) rfl ?_)⟩
  simp only [act0, Try.ntmps14, List.size_toArray, List.length_cons, List.length_nil, Nat.reduceAdd, Nat.reduceSub, Array.replicate_succ, Array.replicate_zero, List.push_toArray, List.append_toArray, List.nil_append, List.cons_append]
  repeat (first
    | (refine c_seq ?_)
    | (refine c_region ?_
       simp only [List.size_toArray, List.length_cons, List.length_nil, Nat.reduceAdd, Nat.zero_add, List.range, List.range.loop])
    | (refine o_nil ?_
       simp only [Thn, Inb, if_true, if_false, reduceIte, Nat.reduceEqDiff])
    | (refine c_skip ?_
       simp only [Thn, Inb, if_true, if_false, reduceIte, Nat.reduceEqDiff])
    | (refine c_cond true (by rfl) (fun _ => ?_) (fun e => by cases e))
    | (refine c_cond false (by rfl) (fun e => by cases e) (fun _ => ?_))
    | (refine c_block ?_)
    | (refine c_label ?_
       simp only [Thn, Inb, if_true, if_false, reduceIte, Nat.reduceEqDiff])
    | (refine c_scope ?_)
    | (refine o_cons (u_read (by omega) hact rfl (by rfl) fun w hF K' hK' => ?_)
       go_simp
       refine hK' _ ⟨?_, ?_⟩
       focus
         rw [listed_nil]
         · simp
         · (simp [go_sem]; done)
       clear hK' K' hF w
       try walk_nrm)
    | (refine o_cons (u_unwanted (by omega) rfl (by rfl) ?_)
       try walk_nrm))
  refine o_cons (u_callx (n := n29) #[.pointer none, .func (.func 30) #[] #[]] (by omega) rfl (by rfl) rfl (by walk_nrm) ?_)
  refine h29 E _ l _ hact ?_
  try walk_nrm
  repeat (first
    | (refine c_seq ?_)
    | (refine c_region ?_
       simp only [List.size_toArray, List.length_cons, List.length_nil, Nat.reduceAdd, Nat.zero_add, List.range, List.range.loop])
    | (refine o_nil ?_
       simp only [Thn, Inb, if_true, if_false, reduceIte, Nat.reduceEqDiff])
    | (refine c_skip ?_
       simp only [Thn, Inb, if_true, if_false, reduceIte, Nat.reduceEqDiff])
    | (refine c_cond true (by rfl) (fun _ => ?_) (fun e => by cases e))
    | (refine c_cond false (by rfl) (fun e => by cases e) (fun _ => ?_))
    | (refine c_block ?_)
    | (refine c_label ?_
       simp only [Thn, Inb, if_true, if_false, reduceIte, Nat.reduceEqDiff])
    | (refine c_scope ?_)
    | (refine o_cons (u_read (by omega) hact rfl (by rfl) fun w hF K' hK' => ?_)
       go_simp
       refine hK' _ ⟨?_, ?_⟩
       focus
         rw [listed_nil]
         · simp
         · (simp [go_sem]; done)
       clear hK' K' hF w
       try walk_nrm)
    | (refine o_cons (u_unwanted (by omega) rfl (by rfl) ?_)
       try walk_nrm))
  refine c_ret ?_
  refine ⟨rfl, _, resultsC_tmp (by rfl) _, ?_⟩
  exact h
theorem begun_nil : ∃ n, ∀ (E : En) (l : Lo) (Post : Value → Lo → Prop), l.md = .act → Post (.int .i64 0) l → E.N 15 #[.pointer none] n l Post := by
  obtain ⟨n29, h29⟩ := count29n
  refine ⟨_, fun E l Post hact h => n_of_b (b_of (e := n29 + 2) (L := 0) Try.func15 (by rfl) rfl ?_)⟩
  simp only [act0, Try.ntmps15, List.size_toArray, List.length_cons, List.length_nil, Nat.reduceAdd, Nat.reduceSub, Array.replicate_succ, Array.replicate_zero, List.push_toArray, List.append_toArray, List.nil_append, List.cons_append]
  repeat (first
    | (refine c_seq ?_)
    | (refine c_region ?_
       simp only [List.size_toArray, List.length_cons, List.length_nil, Nat.reduceAdd, Nat.zero_add, List.range, List.range.loop])
    | (refine o_nil ?_
       simp only [Thn, Inb, if_true, if_false, reduceIte, Nat.reduceEqDiff])
    | (refine c_skip ?_
       simp only [Thn, Inb, if_true, if_false, reduceIte, Nat.reduceEqDiff])
    | (refine c_cond true (by rfl) (fun _ => ?_) (fun e => by cases e))
    | (refine c_cond false (by rfl) (fun e => by cases e) (fun _ => ?_))
    | (refine c_block ?_)
    | (refine c_label ?_
       simp only [Thn, Inb, if_true, if_false, reduceIte, Nat.reduceEqDiff])
    | (refine c_scope ?_)
    | (refine o_cons (u_read (by omega) hact rfl (by rfl) fun w hF K' hK' => ?_)
       go_simp
       refine hK' _ ⟨?_, ?_⟩
       focus
         rw [listed_nil]
         · simp
         · (simp [go_sem]; done)
       clear hK' K' hF w
       try walk_nrm)
    | (refine o_cons (u_unwanted (by omega) rfl (by rfl) ?_)
       try walk_nrm))
  refine o_cons (u_callx (n := n29) #[.pointer none, .func (.func 31) #[] #[]] (by omega) rfl (by rfl) rfl (by walk_nrm) ?_)
  refine h29 E _ l _ hact ?_
  try walk_nrm
  repeat (first
    | (refine c_seq ?_)
    | (refine c_region ?_
       simp only [List.size_toArray, List.length_cons, List.length_nil, Nat.reduceAdd, Nat.zero_add, List.range, List.range.loop])
    | (refine o_nil ?_
       simp only [Thn, Inb, if_true, if_false, reduceIte, Nat.reduceEqDiff])
    | (refine c_skip ?_
       simp only [Thn, Inb, if_true, if_false, reduceIte, Nat.reduceEqDiff])
    | (refine c_cond true (by rfl) (fun _ => ?_) (fun e => by cases e))
    | (refine c_cond false (by rfl) (fun e => by cases e) (fun _ => ?_))
    | (refine c_block ?_)
    | (refine c_label ?_
       simp only [Thn, Inb, if_true, if_false, reduceIte, Nat.reduceEqDiff])
    | (refine c_scope ?_)
    | (refine o_cons (u_read (by omega) hact rfl (by rfl) fun w hF K' hK' => ?_)
       go_simp
       refine hK' _ ⟨?_, ?_⟩
       focus
         rw [listed_nil]
         · simp
         · (simp [go_sem]; done)
       clear hK' K' hF w
       try walk_nrm)
    | (refine o_cons (u_unwanted (by omega) rfl (by rfl) ?_)
       try walk_nrm))
  refine c_ret ?_
  refine ⟨rfl, _, resultsC_tmp (by rfl) _, ?_⟩
  exact h
theorem peak_nil : ∃ n, ∀ (E : En) (l : Lo) (Post : Value → Lo → Prop), l.md = .act → Post (.int .i64 0) l → E.N 16 #[.pointer none] n l Post := by
  obtain ⟨n29, h29⟩ := count29n
  refine ⟨_, fun E l Post hact h => n_of_b (b_of (e := n29 + 2) (L := 0) Try.func16 (by rfl) rfl ?_)⟩
  simp only [act0, Try.ntmps16, List.size_toArray, List.length_cons, List.length_nil, Nat.reduceAdd, Nat.reduceSub, Array.replicate_succ, Array.replicate_zero, List.push_toArray, List.append_toArray, List.nil_append, List.cons_append]
  repeat (first
    | (refine c_seq ?_)
    | (refine c_region ?_
       simp only [List.size_toArray, List.length_cons, List.length_nil, Nat.reduceAdd, Nat.zero_add, List.range, List.range.loop])
    | (refine o_nil ?_
       simp only [Thn, Inb, if_true, if_false, reduceIte, Nat.reduceEqDiff])
    | (refine c_skip ?_
       simp only [Thn, Inb, if_true, if_false, reduceIte, Nat.reduceEqDiff])
    | (refine c_cond true (by rfl) (fun _ => ?_) (fun e => by cases e))
    | (refine c_cond false (by rfl) (fun e => by cases e) (fun _ => ?_))
    | (refine c_block ?_)
    | (refine c_label ?_
       simp only [Thn, Inb, if_true, if_false, reduceIte, Nat.reduceEqDiff])
    | (refine c_scope ?_)
    | (refine o_cons (u_read (by omega) hact rfl (by rfl) fun w hF K' hK' => ?_)
       go_simp
       refine hK' _ ⟨?_, ?_⟩
       focus
         rw [listed_nil]
         · simp
         · (simp [go_sem]; done)
       clear hK' K' hF w
       try walk_nrm)
    | (refine o_cons (u_unwanted (by omega) rfl (by rfl) ?_)
       try walk_nrm))
  refine o_cons (u_callx (n := n29) #[.pointer none, .func (.func 32) #[] #[]] (by omega) rfl (by rfl) rfl (by walk_nrm) ?_)
  refine h29 E _ l _ hact ?_
  try walk_nrm
  repeat (first
    | (refine c_seq ?_)
    | (refine c_region ?_
       simp only [List.size_toArray, List.length_cons, List.length_nil, Nat.reduceAdd, Nat.zero_add, List.range, List.range.loop])
    | (refine o_nil ?_
       simp only [Thn, Inb, if_true, if_false, reduceIte, Nat.reduceEqDiff])
    | (refine c_skip ?_
       simp only [Thn, Inb, if_true, if_false, reduceIte, Nat.reduceEqDiff])
    | (refine c_cond true (by rfl) (fun _ => ?_) (fun e => by cases e))
    | (refine c_cond false (by rfl) (fun e => by cases e) (fun _ => ?_))
    | (refine c_block ?_)
    | (refine c_label ?_
       simp only [Thn, Inb, if_true, if_false, reduceIte, Nat.reduceEqDiff])
    | (refine c_scope ?_)
    | (refine o_cons (u_read (by omega) hact rfl (by rfl) fun w hF K' hK' => ?_)
       go_simp
       refine hK' _ ⟨?_, ?_⟩
       focus
         rw [listed_nil]
         · simp
         · (simp [go_sem]; done)
       clear hK' K' hF w
       try walk_nrm)
    | (refine o_cons (u_unwanted (by omega) rfl (by rfl) ?_)
       try walk_nrm))
  refine c_ret ?_
  refine ⟨rfl, _, resultsC_tmp (by rfl) _, ?_⟩
  exact h

/-- cap(c) of a pool's channel. -/
theorem u_capchan {E : En} {e : Nat} {fn : FuncId} {a : Act} {l : Lo} {K : Act → Lo → Prop} {ops : Array Oper} {j : Nat} {o : Oper} {x : Operand} {ty : TypeId} {dir : ChanDir} {el : TypeId} {p ch cap : Nat} {so : Bool} (he : 1 ≤ e) (hact : l.md = .act) (ho : ops[j]? = some o) (hw : Region.wanted o (yielded ops a.tmps) = true) (hop : o.op = .call { callee := .builtin .cap, args := #[x], argTypes := #[ty] })
    (hx : a.eval x = .chan (some ch)) (hu : Try.prog.underlying ty = some (.chan dir el)) (hpl : l.pl p = some (ch, cap, so)) (h : K (a.put o.dst (.int .i64 (cap : Nat))) l) : E.U e fn ops j K a l :=
  u_step he (quit_act hact) ho hw fun γ w t hI hl hi pos K' hK' => by
    subst hl
    obtain ⟨k, buf, s, r, _, _, hc, _⟩ := Whole.slot_chan hI hi hpl
    have hr : (execOp a.eval o).run Try.prog w = .ok (.value (.int .i64 (cap : Nat))) w := by
      unfold execOp
      have := run_cap_chan (P := Try.prog) (w := w) ty o.type hu hc
      simp [hop, resolve, invoke, hx, builtin, this, Result.andThen, goInt]
    have hev : (execOp a.eval o).events Try.prog w #[] = #[⟨.obj ch, false, true⟩] := by
      unfold execOp
      simp [hop, resolve, invoke, hx, builtin, Builtin.cap_, run_underlying hu, run_getObj_chan _ _ hc, events_getObj_chan _ _ _ hc]
    have hls : listed Try.prog fn a o w = #[⟨.obj ch, false, true⟩] := by
      unfold listed
      rw [hev, seen_def, seen_fold_sync _ _ _ _ (fun x hx => by
        simp only [List.mem_cons, List.not_mem_nil, or_false] at hx
        subst hx
        exact ⟨rfl, fun g hg => by cases hg⟩)]
      simp
    rw [hr]
    have key := Whole.marks (PP := E.PP) hI hi fn pos (es := #[⟨.obj ch, false, true⟩]) (fun e he => by
      simp only [List.mem_toArray, List.mem_cons, List.not_mem_nil, or_false] at he
      subst he
      exact lt_of_heap hc) (.inl hact)
    have e1 : (γ.lo E.i).dfd (deafBehind (γ.lo E.i).df #[⟨.obj ch, false, true⟩]) = γ.lo E.i := rfl
    rw [e1] at key
    exact hK' _ _ ⟨γ.set E.i (γ.lo E.i), by rw [hls]; exact key.1, rfl, key.2, by rw [set_same]; exact h⟩

theorem workers17 : ∃ n, ∀ (E : En) (p ch cap : Nat) (so : Bool) (l : Lo) (Post : Value → Lo → Prop), l.md = .act → l.pl p = some (ch, cap, so) → l.ro ⟨p, 0, none⟩ (.chan (some ch)) → Post (.int .i64 (cap : Nat)) l → E.N 17 #[.pointer (some ⟨p, 0, none⟩)] n l Post := by
  refine ⟨_, fun E p ch cap so l Post hact hpl hro h => n_of_b (b_of (e := 2) (L := 0) Try.func17 (by rfl) rfl ?_)⟩
  simp only [act0, Try.ntmps17, List.size_toArray, List.length_cons, List.length_nil, Nat.reduceAdd, Nat.reduceSub, Array.replicate_succ, Array.replicate_zero, List.push_toArray, List.append_toArray, List.nil_append, List.cons_append]
  repeat (first
    | (refine c_seq ?_)
    | (refine c_region ?_
       simp only [List.size_toArray, List.length_cons, List.length_nil, Nat.reduceAdd, Nat.zero_add, List.range, List.range.loop])
    | (refine o_nil ?_
       simp only [Thn, Inb, if_true, if_false, reduceIte, Nat.reduceEqDiff])
    | (refine c_skip ?_
       simp only [Thn, Inb, if_true, if_false, reduceIte, Nat.reduceEqDiff])
    | (refine c_cond true (by rfl) (fun _ => ?_) (fun e => by cases e))
    | (refine c_cond false (by rfl) (fun e => by cases e) (fun _ => ?_))
    | (refine c_block ?_)
    | (refine c_label ?_
       simp only [Thn, Inb, if_true, if_false, reduceIte, Nat.reduceEqDiff])
    | (refine c_scope ?_)
    | (refine o_cons (u_read (by omega) hact rfl (by rfl) fun w hF K' hK' => ?_)
       go_simp
       refine hK' _ ⟨?_, ?_⟩
       focus
         rw [listed_nil]
         · simp
         · (simp [go_sem]; done)
       clear hK' K' hF w
       try walk_nrm)
    | (refine o_cons (u_unwanted (by omega) rfl (by rfl) ?_)
       try walk_nrm))
  refine o_cons (u_load (.chan (some ch)) (by omega) hact rfl (by rfl) rfl Try.underlying46 rfl rfl (.inr hro) ?_)
  try walk_nrm
  refine o_cons (u_capchan (by omega) hact rfl (by rfl) rfl rfl Try.underlying46 hpl ?_)
  try walk_nrm
  repeat (first
    | (refine c_seq ?_)
    | (refine c_region ?_
       simp only [List.size_toArray, List.length_cons, List.length_nil, Nat.reduceAdd, Nat.zero_add, List.range, List.range.loop])
    | (refine o_nil ?_
       simp only [Thn, Inb, if_true, if_false, reduceIte, Nat.reduceEqDiff])
    | (refine c_skip ?_
       simp only [Thn, Inb, if_true, if_false, reduceIte, Nat.reduceEqDiff])
    | (refine c_cond true (by rfl) (fun _ => ?_) (fun e => by cases e))
    | (refine c_cond false (by rfl) (fun e => by cases e) (fun _ => ?_))
    | (refine c_block ?_)
    | (refine c_label ?_
       simp only [Thn, Inb, if_true, if_false, reduceIte, Nat.reduceEqDiff])
    | (refine c_scope ?_)
    | (refine o_cons (u_read (by omega) hact rfl (by rfl) fun w hF K' hK' => ?_)
       go_simp
       refine hK' _ ⟨?_, ?_⟩
       focus
         rw [listed_nil]
         · simp
         · (simp [go_sem]; done)
       clear hK' K' hF w
       try walk_nrm)
    | (refine o_cons (u_unwanted (by omega) rfl (by rfl) ?_)
       try walk_nrm))
  refine c_ret ?_
  refine ⟨rfl, _, resultsC_tmp (by rfl) _, ?_⟩
  exact h
theorem workers_nil : ∃ n, ∀ (E : En) (l : Lo) (Post : Value → Lo → Prop), l.md = .act → Post (.int .i64 0) l → E.N 17 #[.pointer none] n l Post := by
  refine ⟨_, fun E l Post hact h => n_of_b (b_of (e := 2) (L := 0) Try.func17 (by rfl) rfl ?_)⟩
  simp only [act0, Try.ntmps17, List.size_toArray, List.length_cons, List.length_nil, Nat.reduceAdd, Nat.reduceSub, Array.replicate_succ, Array.replicate_zero, List.push_toArray, List.append_toArray, List.nil_append, List.cons_append]
  repeat (first
    | (refine c_seq ?_)
    | (refine c_region ?_
       simp only [List.size_toArray, List.length_cons, List.length_nil, Nat.reduceAdd, Nat.zero_add, List.range, List.range.loop])
    | (refine o_nil ?_
       simp only [Thn, Inb, if_true, if_false, reduceIte, Nat.reduceEqDiff])
    | (refine c_skip ?_
       simp only [Thn, Inb, if_true, if_false, reduceIte, Nat.reduceEqDiff])
    | (refine c_cond true (by rfl) (fun _ => ?_) (fun e => by cases e))
    | (refine c_cond false (by rfl) (fun e => by cases e) (fun _ => ?_))
    | (refine c_block ?_)
    | (refine c_label ?_
       simp only [Thn, Inb, if_true, if_false, reduceIte, Nat.reduceEqDiff])
    | (refine c_scope ?_)
    | (refine o_cons (u_read (by omega) hact rfl (by rfl) fun w hF K' hK' => ?_)
       go_simp
       refine hK' _ ⟨?_, ?_⟩
       focus
         rw [listed_nil]
         · simp
         · (simp [go_sem]; done)
       clear hK' K' hF w
       try walk_nrm)
    | (refine o_cons (u_unwanted (by omega) rfl (by rfl) ?_)
       try walk_nrm))
  refine c_ret ?_
  refine ⟨rfl, _, resultsC_tmp (by rfl) _, ?_⟩
  exact h

@[go_sem] theorem events_max_int2 {P : Program} {w : World} {es : Array Event} (ts : Array TypeId) (t : TypeId) (k k' : IntKind) (x y : Int) : (Builtin.max_ ts t #[.int k x, .int k' y]).events P w es = es := by
  simp [Builtin.max_, Builtin.max2]
@[go_sem] theorem events_min_int2 {P : Program} {w : World} {es : Array Event} (ts : Array TypeId) (t : TypeId) (k k' : IntKind) (x y : Int) : (Builtin.min_ ts t #[.int k x, .int k' y]).events P w es = es := by
  simp [Builtin.min_, Builtin.min2]

/-- How many workers a pool has. -/
def capOf (w : Int) : Nat := (if 16 < if w < 1 then 1 else w then 16 else if w < 1 then 1 else w).toNat
theorem capOf_int (w : Int) : (if 16 < if w < 1 then 1 else w then 16 else if w < 1 then 1 else w) = ((capOf w : Nat) : Int) := by
  unfold capOf
  by_cases h1 : w < 1
  · simp [h1]
  · by_cases h2 : 16 < w
    · simp [h1, h2]
    · simp only [h1, h2, if_false]; omega
theorem capOf_le (w : Int) : 1 ≤ capOf w ∧ capOf w ≤ 16 := by
  unfold capOf
  by_cases h1 : w < 1
  · simp [h1]
  · by_cases h2 : 16 < w
    · simp [h1, h2]
    · simp only [h1, h2, if_false]; omega

theorem new8 : ∃ n, ∀ (E : En) (w : Int) (so : Bool) (l : Lo) (Post : Value → Lo → Prop), l.md = .act →
    (∀ ch p, Fresh l ch → Fresh (l.opc ch (capOf w)) p → Post (.pointer (some ⟨p, 0, none⟩)) ((l.opc ch (capOf w)).opp p ch (capOf w) so)) → E.N 8 #[.int .i64 w] n l Post := by
  refine ⟨_, fun E w so l Post hact h => n_of_b (b_of (e := 2) (L := 0) Try.func8 (by rfl) rfl ?_)⟩
  simp only [act0, Try.ntmps8, List.size_toArray, List.length_cons, List.length_nil, Nat.reduceAdd, Nat.reduceSub, Array.replicate_succ, Array.replicate_zero, List.push_toArray, List.append_toArray, List.nil_append, List.cons_append]
  repeat (first
    | (refine c_seq ?_)
    | (refine c_region ?_
       simp only [List.size_toArray, List.length_cons, List.length_nil, Nat.reduceAdd, Nat.zero_add, List.range, List.range.loop])
    | (refine o_nil ?_
       simp only [Thn, Inb, if_true, if_false, reduceIte, Nat.reduceEqDiff])
    | (refine c_skip ?_
       simp only [Thn, Inb, if_true, if_false, reduceIte, Nat.reduceEqDiff])
    | (refine c_cond true (by rfl) (fun _ => ?_) (fun e => by cases e))
    | (refine c_cond false (by rfl) (fun e => by cases e) (fun _ => ?_))
    | (refine c_block ?_)
    | (refine c_label ?_
       simp only [Thn, Inb, if_true, if_false, reduceIte, Nat.reduceEqDiff])
    | (refine c_scope ?_)
    | (refine o_cons (u_read (by omega) hact rfl (by rfl) fun w hF K' hK' => ?_)
       go_simp
       refine hK' _ ⟨?_, ?_⟩
       focus
         rw [listed_nil]
         · simp
         · (simp [go_sem]; done)
       clear hK' K' hF w
       try walk_nrm)
    | (refine o_cons (u_unwanted (by omega) rfl (by rfl) ?_)
       try walk_nrm))
  rw [capOf_int]
  obtain ⟨hc1, hc2⟩ := capOf_le w
  refine o_cons (u_new (by omega) hact rfl (by rfl) (.chan (capOf w) #[] false 0 0 false) (fun r => .chan (some r)) (fun r => l.opc r (capOf w)) (fun w' => ?_) (fun w' => ?_) (new_chan hact _) fun ch hch => ?_)
  · have := run_makeChan (P := Try.prog) (w := w') Try.underlying46 Try.type47 .i64 (capOf w) (by omega) (by show (0 : Int) * _ ≤ _; omega)
    unfold execOp
    simp [Act.eval, this, Result.andThen]
  · have := events_makeChan (P := Try.prog) (w := w') Try.underlying46 Try.type47 .i64 (capOf w) (by omega) (by show (0 : Int) * _ ≤ _; omega) #[]
    unfold execOp
    simp [Act.eval, this]
  obtain ⟨l1, hl1⟩ : ∃ l1, l1 = l.opc ch (capOf w) := ⟨_, rfl⟩
  have h := h ch
  rw [← hl1] at h
  rw [← hl1]
  have hact1 : l1.md = .act := by rw [hl1]; exact hact
  have hoc1 : l1.oc ch = some (capOf w) := by rw [hl1]; simp [Lo.opc]
  try walk_nrm
  repeat (first
    | (refine c_seq ?_)
    | (refine c_region ?_
       simp only [List.size_toArray, List.length_cons, List.length_nil, Nat.reduceAdd, Nat.zero_add, List.range, List.range.loop])
    | (refine o_nil ?_
       simp only [Thn, Inb, if_true, if_false, reduceIte, Nat.reduceEqDiff])
    | (refine c_skip ?_
       simp only [Thn, Inb, if_true, if_false, reduceIte, Nat.reduceEqDiff])
    | (refine c_cond true (by rfl) (fun _ => ?_) (fun e => by cases e))
    | (refine c_cond false (by rfl) (fun e => by cases e) (fun _ => ?_))
    | (refine c_block ?_)
    | (refine c_label ?_
       simp only [Thn, Inb, if_true, if_false, reduceIte, Nat.reduceEqDiff])
    | (refine c_scope ?_)
    | (refine o_cons (u_read (by omega) hact1 rfl (by rfl) fun w hF K' hK' => ?_)
       go_simp
       refine hK' _ ⟨?_, ?_⟩
       focus
         rw [listed_nil]
         · simp
         · (simp [go_sem]; done)
       clear hK' K' hF w
       try walk_nrm)
    | (refine o_cons (u_unwanted (by omega) rfl (by rfl) ?_)
       try walk_nrm))
  refine o_cons (u_new (by omega) hact1 rfl (by rfl) (.cells #[.chan (some ch), .int .i64 0, .int .i64 0, .int .i64 0] 53) (fun r => .pointer (some ⟨r, 0, none⟩)) (fun r => l1.opp r ch (capOf w) so) (fun w => by simp [go_sem]) (fun w => by simp [go_sem]) (new_pool hact1 53 so hoc1 ⟨hc1, hc2⟩) fun p hp => ?_)
  have h := h p hch hp
  obtain ⟨l2, hl2⟩ : ∃ l2, l2 = l1.opp p ch (capOf w) so := ⟨_, rfl⟩
  rw [← hl2] at h
  rw [← hl2]
  have hact2 : l2.md = .act := by rw [hl2]; exact hact1
  try walk_nrm
  repeat (first
    | (refine c_seq ?_)
    | (refine c_region ?_
       simp only [List.size_toArray, List.length_cons, List.length_nil, Nat.reduceAdd, Nat.zero_add, List.range, List.range.loop])
    | (refine o_nil ?_
       simp only [Thn, Inb, if_true, if_false, reduceIte, Nat.reduceEqDiff])
    | (refine c_skip ?_
       simp only [Thn, Inb, if_true, if_false, reduceIte, Nat.reduceEqDiff])
    | (refine c_cond true (by rfl) (fun _ => ?_) (fun e => by cases e))
    | (refine c_cond false (by rfl) (fun e => by cases e) (fun _ => ?_))
    | (refine c_block ?_)
    | (refine c_label ?_
       simp only [Thn, Inb, if_true, if_false, reduceIte, Nat.reduceEqDiff])
    | (refine c_scope ?_)
    | (refine o_cons (u_read (by omega) hact2 rfl (by rfl) fun w hF K' hK' => ?_)
       go_simp
       refine hK' _ ⟨?_, ?_⟩
       focus
         rw [listed_nil]
         · simp
         · (simp [go_sem]; done)
       clear hK' K' hF w
       try walk_nrm)
    | (refine o_cons (u_unwanted (by omega) rfl (by rfl) ?_)
       try walk_nrm))
  refine c_ret ?_
  refine ⟨rfl, _, resultsC_tmp (by rfl) _, ?_⟩
  exact h
end Go.Proofs.Ytofohjbcgchhoaa
