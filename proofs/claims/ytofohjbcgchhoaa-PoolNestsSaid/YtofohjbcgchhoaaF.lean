/-
  THE WALKS: sync/atomic's methods.
-/
import Derived.Test.YtofohjbcgchhoaaE5
import Derived.WalkKit
import Derived.WalkSpells
import Derived.Conc.CompanyMem
namespace Go.Proofs.Ytofohjbcgchhoaa
open Go.Conc
open Go.RowKit
set_option maxRecDepth 100000

theorem add34 : ∃ n, ∀ (E : En) (p o : Nat) (d : Int) (l : Lo) (K : Value → Lo → Prop), l.quit = none → E.AddAt l 34 ⟨p, o, none⟩ .i64 d K → E.N 34 #[.pointer (some ⟨p, o, none⟩), .int .i64 d] n l K := by
  refine ⟨_, fun E p o d l K hq h => n_of_b (b_of (e := 1) (L := 0) Try.func34 (by rfl) rfl ?_)⟩
  simp only [act0, Try.ntmps34, List.size_toArray, List.length_cons, List.length_nil, Nat.reduceAdd, Nat.reduceSub, Array.replicate_succ, Array.replicate_zero, List.push_toArray, List.append_toArray, List.nil_append, List.cons_append]
  refine c_seq ?_
  refine c_region ?_
  simp only [List.size_toArray, List.length_cons, List.length_nil, Nat.zero_add, List.range, List.range.loop]
  refine o_cons (u_pure (by omega) rfl (by rfl) _ (fun w => run_eq_of fun K hK => by go_simp; exact hK) (fun w => by simp [go_sem]) ?_)
  try walk_nrm
  refine o_nil ?_
  simp only [Thn]
  refine c_seq ?_
  refine c_region ?_
  simp only [List.size_toArray, List.length_cons, List.length_nil, Nat.reduceAdd, Nat.zero_add, List.range, List.range.loop]
  refine o_cons (u_pure (by omega) rfl (by rfl) _ (fun w => run_eq_of fun K hK => by go_simp; exact hK) (fun w => by simp [go_sem]) ?_)
  try walk_nrm
  refine o_cons (u_pure (by omega) rfl (by rfl) _ (fun w => run_eq_of fun K hK => by go_simp; exact hK) (fun w => by simp [go_sem]) ?_)
  try walk_nrm
  refine o_cons (u_pure (by omega) rfl (by rfl) _ (fun w => run_eq_of fun K hK => by go_simp; exact hK) (fun w => by simp [go_sem]) ?_)
  try walk_nrm
  refine o_cons (u_pure (by omega) rfl (by rfl) _ (fun w => run_eq_of fun K hK => by go_simp; exact hK) (fun w => by simp [go_sem]) ?_)
  try walk_nrm
  refine o_cons (u_add (by omega) hq rfl (by rfl) Try.func57 (by rfl) (by rfl) (by rfl) rfl (by rfl) rfl rfl ?_)
  intro γ w t pos hI hl hi
  obtain ⟨x, l', h1, h2, h3, h4⟩ := h γ w t pos hI hl hi
  refine ⟨x, l', h1, h2, h3, ?_⟩
  clear h1 h2 h3
  try walk_nrm
  refine o_cons (u_pure (by omega) rfl (by rfl) _ (fun w => run_eq_of fun K hK => by go_simp; exact hK) (fun w => by simp [go_sem]) ?_)
  try walk_nrm
  refine o_nil ?_
  simp only [Thn]
  refine c_ret ?_
  refine ⟨rfl, _, resultsC_tmp (by rfl) _, ?_⟩
  exact h4

theorem load36 : ∃ n, ∀ (E : En) (p o : Nat) (l : Lo) (K : Value → Lo → Prop), l.quit = none → E.LoadAt l 36 ⟨p, o, none⟩ .i64 K → E.N 36 #[.pointer (some ⟨p, o, none⟩)] n l K := by
  refine ⟨_, fun E p o l K hq h => n_of_b (b_of (e := 1) (L := 0) Try.func36 (by rfl) rfl ?_)⟩
  simp only [act0, Try.ntmps36, List.size_toArray, List.length_cons, List.length_nil, Nat.reduceAdd, Nat.reduceSub, Array.replicate_succ, Array.replicate_zero, List.push_toArray, List.append_toArray, List.nil_append, List.cons_append]
  refine c_seq ?_
  refine c_region ?_
  simp only [List.size_toArray, List.length_cons, List.length_nil, Nat.zero_add, List.range, List.range.loop]
  refine o_cons (u_pure (by omega) rfl (by rfl) _ (fun w => run_eq_of fun K hK => by go_simp; exact hK) (fun w => by simp [go_sem]) ?_)
  try walk_nrm
  refine o_nil ?_
  simp only [Thn]
  refine c_seq ?_
  refine c_region ?_
  simp only [List.size_toArray, List.length_cons, List.length_nil, Nat.reduceAdd, Nat.zero_add, List.range, List.range.loop]
  refine o_cons (u_pure (by omega) rfl (by rfl) _ (fun w => run_eq_of fun K hK => by go_simp; exact hK) (fun w => by simp [go_sem]) ?_)
  try walk_nrm
  refine o_cons (u_pure (by omega) rfl (by rfl) _ (fun w => run_eq_of fun K hK => by go_simp; exact hK) (fun w => by simp [go_sem]) ?_)
  try walk_nrm
  refine o_cons (u_pure (by omega) rfl (by rfl) _ (fun w => run_eq_of fun K hK => by go_simp; exact hK) (fun w => by simp [go_sem]) ?_)
  try walk_nrm
  refine o_cons (u_loadA (by omega) hq rfl (by rfl) Try.func58 (by rfl) (by rfl) (by rfl) rfl (by rfl) rfl ?_)
  intro γ w t pos hI hl hi
  obtain ⟨x, l', h1, h3, h4⟩ := h γ w t pos hI hl hi
  refine ⟨x, l', h1, h3, ?_⟩
  clear h1 h3
  try walk_nrm
  refine o_cons (u_pure (by omega) rfl (by rfl) _ (fun w => run_eq_of fun K hK => by go_simp; exact hK) (fun w => by simp [go_sem]) ?_)
  try walk_nrm
  refine o_nil ?_
  simp only [Thn]
  refine c_ret ?_
  refine ⟨rfl, _, resultsC_tmp (by rfl) _, ?_⟩
  exact h4

theorem cas37 : ∃ n, ∀ (E : En) (p o : Nat) (old new : Int) (l : Lo) (K : Value → Lo → Prop), l.quit = none → E.CasAt l 37 ⟨p, o, none⟩ .i64 old new K → E.N 37 #[.pointer (some ⟨p, o, none⟩), .int .i64 old, .int .i64 new] n l K := by
  refine ⟨_, fun E p o old new l K hq h => n_of_b (b_of (e := 1) (L := 0) Try.func37 (by rfl) rfl ?_)⟩
  simp only [act0, Try.ntmps37, List.size_toArray, List.length_cons, List.length_nil, Nat.reduceAdd, Nat.reduceSub, Array.replicate_succ, Array.replicate_zero, List.push_toArray, List.append_toArray, List.nil_append, List.cons_append]
  refine c_seq ?_
  refine c_region ?_
  simp only [List.size_toArray, List.length_cons, List.length_nil, Nat.zero_add, List.range, List.range.loop]
  refine o_cons (u_pure (by omega) rfl (by rfl) _ (fun w => run_eq_of fun K hK => by go_simp; exact hK) (fun w => by simp [go_sem]) ?_)
  try walk_nrm
  refine o_nil ?_
  simp only [Thn]
  refine c_seq ?_
  refine c_region ?_
  simp only [List.size_toArray, List.length_cons, List.length_nil, Nat.reduceAdd, Nat.zero_add, List.range, List.range.loop]
  refine o_cons (u_pure (by omega) rfl (by rfl) _ (fun w => run_eq_of fun K hK => by go_simp; exact hK) (fun w => by simp [go_sem]) ?_)
  try walk_nrm
  refine o_cons (u_pure (by omega) rfl (by rfl) _ (fun w => run_eq_of fun K hK => by go_simp; exact hK) (fun w => by simp [go_sem]) ?_)
  try walk_nrm
  refine o_cons (u_pure (by omega) rfl (by rfl) _ (fun w => run_eq_of fun K hK => by go_simp; exact hK) (fun w => by simp [go_sem]) ?_)
  try walk_nrm
  refine o_cons (u_pure (by omega) rfl (by rfl) _ (fun w => run_eq_of fun K hK => by go_simp; exact hK) (fun w => by simp [go_sem]) ?_)
  try walk_nrm
  refine o_cons (u_pure (by omega) rfl (by rfl) _ (fun w => run_eq_of fun K hK => by go_simp; exact hK) (fun w => by simp [go_sem]) ?_)
  try walk_nrm
  refine o_cons (u_cas (by omega) hq rfl (by rfl) Try.func59 (by rfl) (by rfl) (by rfl) rfl (by rfl) rfl rfl rfl ?_)
  intro γ w t pos hI hl hi
  obtain ⟨x, h1, h2, h3, h4⟩ := h γ w t pos hI hl hi
  refine ⟨x, h1, h2, fun e => ?_, fun e => ?_⟩
  · obtain ⟨l', g1, g2⟩ := h3 e
    refine ⟨l', g1, ?_⟩
    try walk_nrm
    refine o_cons (u_pure (by omega) rfl (by rfl) _ (fun w => run_eq_of fun K hK => by go_simp; exact hK) (fun w => by simp [go_sem]) ?_)
    try walk_nrm
    refine o_nil ?_
    simp only [Thn]
    refine c_ret ?_
    refine ⟨rfl, _, resultsC_tmp (by rfl) _, ?_⟩
    exact g2
  · obtain ⟨l', g1, g2⟩ := h4 e
    refine ⟨l', g1, ?_⟩
    try walk_nrm
    refine o_cons (u_pure (by omega) rfl (by rfl) _ (fun w => run_eq_of fun K hK => by go_simp; exact hK) (fun w => by simp [go_sem]) ?_)
    try walk_nrm
    refine o_nil ?_
    simp only [Thn]
    refine c_ret ?_
    refine ⟨rfl, _, resultsC_tmp (by rfl) _, ?_⟩
    exact g2

theorem add46 : ∃ n, ∀ (E : En) (p o : Nat) (d : Int) (l : Lo) (K : Value → Lo → Prop), l.quit = none → E.AddAt l 46 ⟨p, o, none⟩ .u64 d K → E.N 46 #[.pointer (some ⟨p, o, none⟩), .int .u64 d] n l K := by
  refine ⟨_, fun E p o d l K hq h => n_of_b (b_of (e := 1) (L := 0) Try.func46 (by rfl) rfl ?_)⟩
  simp only [act0, Try.ntmps46, List.size_toArray, List.length_cons, List.length_nil, Nat.reduceAdd, Nat.reduceSub, Array.replicate_succ, Array.replicate_zero, List.push_toArray, List.append_toArray, List.nil_append, List.cons_append]
  refine c_seq ?_
  refine c_region ?_
  simp only [List.size_toArray, List.length_cons, List.length_nil, Nat.zero_add, List.range, List.range.loop]
  refine o_cons (u_pure (by omega) rfl (by rfl) _ (fun w => run_eq_of fun K hK => by go_simp; exact hK) (fun w => by simp [go_sem]) ?_)
  try walk_nrm
  refine o_nil ?_
  simp only [Thn]
  refine c_seq ?_
  refine c_region ?_
  simp only [List.size_toArray, List.length_cons, List.length_nil, Nat.reduceAdd, Nat.zero_add, List.range, List.range.loop]
  refine o_cons (u_pure (by omega) rfl (by rfl) _ (fun w => run_eq_of fun K hK => by go_simp; exact hK) (fun w => by simp [go_sem]) ?_)
  try walk_nrm
  refine o_cons (u_pure (by omega) rfl (by rfl) _ (fun w => run_eq_of fun K hK => by go_simp; exact hK) (fun w => by simp [go_sem]) ?_)
  try walk_nrm
  refine o_cons (u_pure (by omega) rfl (by rfl) _ (fun w => run_eq_of fun K hK => by go_simp; exact hK) (fun w => by simp [go_sem]) ?_)
  try walk_nrm
  refine o_cons (u_pure (by omega) rfl (by rfl) _ (fun w => run_eq_of fun K hK => by go_simp; exact hK) (fun w => by simp [go_sem]) ?_)
  try walk_nrm
  refine o_cons (u_add (by omega) hq rfl (by rfl) Try.func61 (by rfl) (by rfl) (by rfl) rfl (by rfl) rfl rfl ?_)
  intro γ w t pos hI hl hi
  obtain ⟨x, l', h1, h2, h3, h4⟩ := h γ w t pos hI hl hi
  refine ⟨x, l', h1, h2, h3, ?_⟩
  clear h1 h2 h3
  try walk_nrm
  refine o_cons (u_pure (by omega) rfl (by rfl) _ (fun w => run_eq_of fun K hK => by go_simp; exact hK) (fun w => by simp [go_sem]) ?_)
  try walk_nrm
  refine o_nil ?_
  simp only [Thn]
  refine c_ret ?_
  refine ⟨rfl, _, resultsC_tmp (by rfl) _, ?_⟩
  exact h4

theorem load48 : ∃ n, ∀ (E : En) (p o : Nat) (l : Lo) (K : Value → Lo → Prop), l.quit = none → E.LoadAt l 48 ⟨p, o, none⟩ .u64 K → E.N 48 #[.pointer (some ⟨p, o, none⟩)] n l K := by
  refine ⟨_, fun E p o l K hq h => n_of_b (b_of (e := 1) (L := 0) Try.func48 (by rfl) rfl ?_)⟩
  simp only [act0, Try.ntmps48, List.size_toArray, List.length_cons, List.length_nil, Nat.reduceAdd, Nat.reduceSub, Array.replicate_succ, Array.replicate_zero, List.push_toArray, List.append_toArray, List.nil_append, List.cons_append]
  refine c_seq ?_
  refine c_region ?_
  simp only [List.size_toArray, List.length_cons, List.length_nil, Nat.zero_add, List.range, List.range.loop]
  refine o_cons (u_pure (by omega) rfl (by rfl) _ (fun w => run_eq_of fun K hK => by go_simp; exact hK) (fun w => by simp [go_sem]) ?_)
  try walk_nrm
  refine o_nil ?_
  simp only [Thn]
  refine c_seq ?_
  refine c_region ?_
  simp only [List.size_toArray, List.length_cons, List.length_nil, Nat.reduceAdd, Nat.zero_add, List.range, List.range.loop]
  refine o_cons (u_pure (by omega) rfl (by rfl) _ (fun w => run_eq_of fun K hK => by go_simp; exact hK) (fun w => by simp [go_sem]) ?_)
  try walk_nrm
  refine o_cons (u_pure (by omega) rfl (by rfl) _ (fun w => run_eq_of fun K hK => by go_simp; exact hK) (fun w => by simp [go_sem]) ?_)
  try walk_nrm
  refine o_cons (u_pure (by omega) rfl (by rfl) _ (fun w => run_eq_of fun K hK => by go_simp; exact hK) (fun w => by simp [go_sem]) ?_)
  try walk_nrm
  refine o_cons (u_loadA (by omega) hq rfl (by rfl) Try.func62 (by rfl) (by rfl) (by rfl) rfl (by rfl) rfl ?_)
  intro γ w t pos hI hl hi
  obtain ⟨x, l', h1, h3, h4⟩ := h γ w t pos hI hl hi
  refine ⟨x, l', h1, h3, ?_⟩
  clear h1 h3
  try walk_nrm
  refine o_cons (u_pure (by omega) rfl (by rfl) _ (fun w => run_eq_of fun K hK => by go_simp; exact hK) (fun w => by simp [go_sem]) ?_)
  try walk_nrm
  refine o_nil ?_
  simp only [Thn]
  refine c_ret ?_
  refine ⟨rfl, _, resultsC_tmp (by rfl) _, ?_⟩
  exact h4

theorem store49 : ∃ n, ∀ (E : En) (p o : Nat) (v : Int) (l : Lo) (K : Value → Lo → Prop), l.quit = none → E.StoreAt l 49 ⟨p, o, none⟩ .u64 v K → E.N 49 #[.pointer (some ⟨p, o, none⟩), .int .u64 v] n l K := by
  refine ⟨_, fun E p o v l K hq h => n_of_b (b_of (e := 1) (L := 0) Try.func49 (by rfl) rfl ?_)⟩
  simp only [act0, Try.ntmps49, List.size_toArray, List.length_cons, List.length_nil, Nat.reduceAdd, Nat.reduceSub, Array.replicate_succ, Array.replicate_zero, List.push_toArray, List.append_toArray, List.nil_append, List.cons_append]
  refine c_region ?_
  simp only [List.size_toArray, List.length_cons, List.length_nil, Nat.reduceAdd, Nat.zero_add, List.range, List.range.loop]
  refine o_cons (u_pure (by omega) rfl (by rfl) _ (fun w => run_eq_of fun K hK => by go_simp; exact hK) (fun w => by simp [go_sem]) ?_)
  try walk_nrm
  refine o_cons (u_pure (by omega) rfl (by rfl) _ (fun w => run_eq_of fun K hK => by go_simp; exact hK) (fun w => by simp [go_sem]) ?_)
  try walk_nrm
  refine o_cons (u_pure (by omega) rfl (by rfl) _ (fun w => run_eq_of fun K hK => by go_simp; exact hK) (fun w => by simp [go_sem]) ?_)
  try walk_nrm
  refine o_cons (u_pure (by omega) rfl (by rfl) _ (fun w => run_eq_of fun K hK => by go_simp; exact hK) (fun w => by simp [go_sem]) ?_)
  try walk_nrm
  refine o_cons (u_storeA (by omega) hq rfl (by rfl) Try.func63 (by rfl) (by rfl) (by rfl) rfl (by rfl) rfl rfl ?_)
  intro γ w t pos hI hl hi
  obtain ⟨x, l', h1, h2, h3, h4⟩ := h γ w t pos hI hl hi
  refine ⟨x, l', h1, h2, h3, ?_⟩
  clear h1 h2 h3
  try walk_nrm
  refine o_nil ?_
  refine ⟨rfl, _, resultsC_none (by rfl) _, ?_⟩
  exact h4

theorem cas54 : ∃ n, ∀ (E : En) (p o : Nat) (old new : Int) (l : Lo) (K : Value → Lo → Prop), l.quit = none → E.CasAt l 54 ⟨p, o, none⟩ .u64 old new K → E.N 54 #[.pointer (some ⟨p, o, none⟩), .int .u64 old, .int .u64 new] n l K := by
  refine ⟨_, fun E p o old new l K hq h => n_of_b (b_of (e := 1) (L := 0) Try.func54 (by rfl) rfl ?_)⟩
  simp only [act0, Try.ntmps54, List.size_toArray, List.length_cons, List.length_nil, Nat.reduceAdd, Nat.reduceSub, Array.replicate_succ, Array.replicate_zero, List.push_toArray, List.append_toArray, List.nil_append, List.cons_append]
  refine c_seq ?_
  refine c_region ?_
  simp only [List.size_toArray, List.length_cons, List.length_nil, Nat.zero_add, List.range, List.range.loop]
  refine o_cons (u_pure (by omega) rfl (by rfl) _ (fun w => run_eq_of fun K hK => by go_simp; exact hK) (fun w => by simp [go_sem]) ?_)
  try walk_nrm
  refine o_nil ?_
  simp only [Thn]
  refine c_seq ?_
  refine c_region ?_
  simp only [List.size_toArray, List.length_cons, List.length_nil, Nat.reduceAdd, Nat.zero_add, List.range, List.range.loop]
  refine o_cons (u_pure (by omega) rfl (by rfl) _ (fun w => run_eq_of fun K hK => by go_simp; exact hK) (fun w => by simp [go_sem]) ?_)
  try walk_nrm
  refine o_cons (u_pure (by omega) rfl (by rfl) _ (fun w => run_eq_of fun K hK => by go_simp; exact hK) (fun w => by simp [go_sem]) ?_)
  try walk_nrm
  refine o_cons (u_pure (by omega) rfl (by rfl) _ (fun w => run_eq_of fun K hK => by go_simp; exact hK) (fun w => by simp [go_sem]) ?_)
  try walk_nrm
  refine o_cons (u_pure (by omega) rfl (by rfl) _ (fun w => run_eq_of fun K hK => by go_simp; exact hK) (fun w => by simp [go_sem]) ?_)
  try walk_nrm
  refine o_cons (u_pure (by omega) rfl (by rfl) _ (fun w => run_eq_of fun K hK => by go_simp; exact hK) (fun w => by simp [go_sem]) ?_)
  try walk_nrm
  refine o_cons (u_cas (by omega) hq rfl (by rfl) Try.func64 (by rfl) (by rfl) (by rfl) rfl (by rfl) rfl rfl rfl ?_)
  intro γ w t pos hI hl hi
  obtain ⟨x, h1, h2, h3, h4⟩ := h γ w t pos hI hl hi
  refine ⟨x, h1, h2, fun e => ?_, fun e => ?_⟩
  · obtain ⟨l', g1, g2⟩ := h3 e
    refine ⟨l', g1, ?_⟩
    try walk_nrm
    refine o_cons (u_pure (by omega) rfl (by rfl) _ (fun w => run_eq_of fun K hK => by go_simp; exact hK) (fun w => by simp [go_sem]) ?_)
    try walk_nrm
    refine o_nil ?_
    simp only [Thn]
    refine c_ret ?_
    refine ⟨rfl, _, resultsC_tmp (by rfl) _, ?_⟩
    exact g2
  · obtain ⟨l', g1, g2⟩ := h4 e
    refine ⟨l', g1, ?_⟩
    try walk_nrm
    refine o_cons (u_pure (by omega) rfl (by rfl) _ (fun w => run_eq_of fun K hK => by go_simp; exact hK) (fun w => by simp [go_sem]) ?_)
    try walk_nrm
    refine o_nil ?_
    simp only [Thn]
    refine c_ret ?_
    refine ⟨rfl, _, resultsC_tmp (by rfl) _, ?_⟩
    exact g2
end Go.Proofs.Ytofohjbcgchhoaa
