/-
  THE WALKS: sync.WaitGroup.Wait.
-/
import Derived.Test.YtofohjbcgchhoaaF
import Derived.Test.YtofohjbcgchhoaaE7
namespace Go.Proofs.Ytofohjbcgchhoaa
open Go.Conc
open Go.RowKit
set_option maxRecDepth 100000
set_option linter.unusedSimpArgs false
set_option linter.unusedVariables false

theorem wsd_id {l : Lo} {u : Nat} {B : Option Boss} (h : l.ws u = B) : l.wsd u B = l := by
  subst h
  unfold Lo.wsd
  congr 1
  funext x
  by_cases e : x = u <;> simp [e]
theorem wsd_wsd (l : Lo) (u : Nat) (B B' : Option Boss) : (l.wsd u B).wsd u B' = l.wsd u B' := by
  unfold Lo.wsd
  congr 1
  funext x
  by_cases e : x = u <;> simp [e]
theorem wait_end {l : Lo} {u : Nat} {B : Option Boss} {rs : List Res} {jn' : Nat → Prop} (hdf : l.df = 0) :
    ({ ((l.dfd (l.df + 1)).wsd u B).dfd (((l.dfd (l.df + 1)).wsd u B).df - 1) with res := rs.foldl Res.add (((l.dfd (l.df + 1)).wsd u B).dfd (((l.dfd (l.df + 1)).wsd u B).df - 1)).res, jn := jn', ws := fun x => if x = u then none else (((l.dfd (l.df + 1)).wsd u B).dfd (((l.dfd (l.df + 1)).wsd u B).df - 1)).ws x } : Lo) = { l with res := rs.foldl Res.add l.res, jn := jn', ws := fun x => if x = u then none else l.ws x } := by
  unfold Lo.wsd Lo.dfd
  simp only [hdf]
  congr 1
  funext x
  by_cases e : x = u <;> simp [e]
theorem wsd_same (l : Lo) (u : Nat) (B : Option Boss) : (l.wsd u B).ws u = B := by simp [Lo.wsd]

def Fr28 (v0 : Value) (ds : List Deferred) (a : Act) : Prop := ∃ x1 x2 x3 x4 x5 x6 x7 x8 x9 x10 x11 x12 x13 x14 x15 x16 x17 x18 x19 x20 x21 x22 x23 x24 x25 x26 x27 x28 x29 x30 x31 x32 x33 x34 x35 x36 x37 x38 x39 x40 x41 x42 x43 x44 x45 x46 x47 x48 x49 x50 x51 x52 x53 x54 x55 x56 x57 x58 x59 x60 x61 x62 x63 x64 x65 x66 x67 x68 x69 x70 x71 x72 x73 x74 x75 x76 x77 x78 x79 x80 x81 x82 x83 : Value, a = ⟨#[v0, x1, x2, x3, x4, x5, x6, x7, x8, x9, x10, x11, x12, x13, x14, x15, x16, x17, x18, x19, x20, x21, x22, x23, x24, x25, x26, x27, x28, x29, x30, x31, x32, x33, x34, x35, x36, x37, x38, x39, x40, x41, x42, x43, x44, x45, x46, x47, x48, x49, x50, x51, x52, x53, x54, x55, x56, x57, x58, x59, x60, x61, x62, x63, x64, x65, x66, x67, x68, x69, x70, x71, x72, x73, x74, x75, x76, x77, x78, x79, x80, x81, x82, x83], ds⟩

set_option maxHeartbeats 16000000 in
theorem wg_wait (L : Nat) : ∃ n, ∀ (E : En) (u hi : Nat) (ws : List (Nat × (Res → Prop))) (l : Lo), hi ≤ L → l.md = .act → l.df = 0 → l.ws u = some ⟨ws, hi, 0⟩ → l.wk u = 0 → (∀ c, l.res.tk (.tr c) = 0) →
    E.N 28 #[.pointer (some ⟨u, 0, none⟩)] n l fun _ l' => ∃ rs jn', (Met ws rs ∧ Apart l.res rs) ∧ l' = { l with res := rs.foldl Res.add l.res, jn := jn', ws := fun x => if x = u then none else l.ws x } := by
  obtain ⟨n48, h48⟩ := load48
  obtain ⟨n54, h54⟩ := cas54
  refine ⟨_, fun E u hi ws l hhi hact hdf hB hwk htr => n_of_b (b_of (e := n48 + n54 + 2) (L := L) Try.func28 (by rfl) rfl ?_)⟩
  have hq := quit_act hact
  simp only [act0, Try.ntmps28, List.size_toArray, List.length_cons, List.length_nil, Nat.reduceAdd, Nat.reduceSub, Array.replicate_succ, Array.replicate_zero, List.push_toArray, List.append_toArray, List.nil_append, List.cons_append]
  repeat (first
    | (refine c_seq ?_)
    | (refine c_region ?_
       simp only [List.size_toArray, List.length_cons, List.length_nil, Nat.reduceAdd, Nat.zero_add, List.range, List.range.loop])
    | (refine o_nil ?_
       simp only [Thn, Inb, if_true, if_false, reduceIte, Nat.reduceEqDiff])
    | (refine c_skip ?_
       simp only [Thn, Inb, if_true, if_false, reduceIte, Nat.reduceEqDiff])
    | (refine c_cond true (by rfl) (fun _ => ?_) (fun e => by cases e))
    | (refine c_cond false (by rfl) (fun e => by cases e) (fun _ => ?_))
    | (refine c_block ?_)
    | (refine c_label ?_)
    | (refine o_cons (u_read (by omega) hact rfl (by rfl) fun w hF K' hK' => ?_)
       go_simp
       refine hK' _ ⟨?_, ?_⟩
       focus
         rw [listed_nil]
         · simp
         · (simp [go_sem]; done)
       clear hK' K' hF w
       try walk_nrm)
    | (refine o_cons (u_unwanted (by omega) rfl (by rfl) ?_)
       try walk_nrm))
  refine o_cons (u_mark0 (by omega) hq rfl (by rfl) Try.func40 (by rfl) (by rfl) (by rfl) .disable (by simp) rfl rfl (at_disable ?_))
  try walk_nrm
  obtain ⟨l1, hl1⟩ : ∃ l1, l1 = l.dfd (l.df + 1) := ⟨_, rfl⟩
  rw [← hl1]
  have hact1 : l1.md = .act := by rw [hl1]; exact hact
  repeat (first
    | (refine c_seq ?_)
    | (refine c_region ?_
       simp only [List.size_toArray, List.length_cons, List.length_nil, Nat.reduceAdd, Nat.zero_add, List.range, List.range.loop])
    | (refine o_nil ?_
       simp only [Thn, Inb, if_true, if_false, reduceIte, Nat.reduceEqDiff])
    | (refine c_skip ?_
       simp only [Thn, Inb, if_true, if_false, reduceIte, Nat.reduceEqDiff])
    | (refine c_cond true (by rfl) (fun _ => ?_) (fun e => by cases e))
    | (refine c_cond false (by rfl) (fun e => by cases e) (fun _ => ?_))
    | (refine c_block ?_)
    | (refine c_label ?_)
    | (refine o_cons (u_read (by omega) hact1 rfl (by rfl) fun w hF K' hK' => ?_)
       go_simp
       refine hK' _ ⟨?_, ?_⟩
       focus
         rw [listed_nil]
         · simp
         · (simp [go_sem]; done)
       clear hK' K' hF w
       try walk_nrm)
    | (refine o_cons (u_unwanted (by omega) rfl (by rfl) ?_)
       try walk_nrm))
  refine c_loop (fun a' l' => Fr28 (.pointer (some ⟨u, 0, none⟩)) [] a' ∧ ∃ hi', hi' ≤ hi ∧ l' = l1.wsd u (some ⟨ws, hi', 0⟩)) (fun _ l' => match l'.ws u with | some B => B.hi | none => 0) ⟨?_, hi, Nat.le_refl _, (wsd_id (by rw [hl1]; exact hB)).symm⟩ ?_ ?_
  focus
    exact ⟨_, _, _, _, _, _, _, _, _, _, _, _, _, _, _, _, _, _, _, _, _, _, _, _, _, _, _, _, _, _, _, _, _, _, _, _, _, _, _, _, _, _, _, _, _, _, _, _, _, _, _, _, _, _, _, _, _, _, _, _, _, _, _, _, _, _, _, _, _, _, _, _, _, _, _, _, _, _, _, _, _, _, _, rfl⟩
  focus
    have : l1.ws u = some ⟨ws, hi, 0⟩ := by rw [hl1]; exact hB
    simp only [this]
    exact hhi
  intro a' l' hI
  obtain ⟨hfr, hi', hle, hl'⟩ := hI
  obtain ⟨x1, x2, x3, x4, x5, x6, x7, x8, x9, x10, x11, x12, x13, x14, x15, x16, x17, x18, x19, x20, x21, x22, x23, x24, x25, x26, x27, x28, x29, x30, x31, x32, x33, x34, x35, x36, x37, x38, x39, x40, x41, x42, x43, x44, x45, x46, x47, x48, x49, x50, x51, x52, x53, x54, x55, x56, x57, x58, x59, x60, x61, x62, x63, x64, x65, x66, x67, x68, x69, x70, x71, x72, x73, x74, x75, x76, x77, x78, x79, x80, x81, x82, x83, rfl⟩ := hfr
  have hact' : l'.md = .act := by rw [hl']; exact hact1
  have hq' := quit_act hact'
  have hB' : l'.ws u = some ⟨ws, hi', 0⟩ := by rw [hl']; exact wsd_same _ _ _
  simp only [hB']
  repeat (first
    | (refine c_seq ?_)
    | (refine c_region ?_
       simp only [List.size_toArray, List.length_cons, List.length_nil, Nat.reduceAdd, Nat.zero_add, List.range, List.range.loop])
    | (refine o_nil ?_
       simp only [Thn, Inb, if_true, if_false, reduceIte, Nat.reduceEqDiff])
    | (refine c_skip ?_
       simp only [Thn, Inb, if_true, if_false, reduceIte, Nat.reduceEqDiff])
    | (refine c_cond true (by rfl) (fun _ => ?_) (fun e => by cases e))
    | (refine c_cond false (by rfl) (fun e => by cases e) (fun _ => ?_))
    | (refine c_block ?_)
    | (refine c_label ?_)
    | (refine o_cons (u_read (by omega) hact' rfl (by rfl) fun w hF K' hK' => ?_)
       go_simp
       refine hK' _ ⟨?_, ?_⟩
       focus
         rw [listed_nil]
         · simp
         · (simp [go_sem]; done)
       clear hK' K' hF w
       try walk_nrm)
    | (refine o_cons (u_unwanted (by omega) rfl (by rfl) ?_)
       try walk_nrm))
  refine o_cons (u_callx (n := n48) #[.pointer (some ⟨u, 0, none⟩)] (by omega) rfl (by rfl) rfl (by walk_nrm) ?_)
  refine h48 E u 0 _ _ hq' ?_
  refine at_lead_load hB' fun n hn hwkn hns => ?_
  rw [hl', wsd_wsd]
  obtain ⟨l2, hl2⟩ : ∃ l2, l2 = l1.wsd u (some ⟨ws, n, 0⟩) := ⟨_, rfl⟩
  rw [← hl2]
  have hact2 : l2.md = .act := by rw [hl2]; exact hact1
  have hq2 := quit_act hact2
  have hB2 : l2.ws u = some ⟨ws, n, 0⟩ := by rw [hl2]; exact wsd_same _ _ _
  have hdf2 : l2.df = 1 := by rw [hl2, hl1]; show l.df + 1 = 1; rw [hdf]
  try walk_nrm
  clear hl' hB' hq' hact'
  by_cases hn0 : n = 0
  · subst hn0
    simp only [Nat.zero_mul, Int.ofNat_zero]
    repeat (first
      | (refine c_seq ?_)
      | (refine c_region ?_
         simp only [List.size_toArray, List.length_cons, List.length_nil, Nat.reduceAdd, Nat.zero_add, List.range, List.range.loop])
      | (refine o_nil ?_
         simp only [Thn, Inb, if_true, if_false, reduceIte, Nat.reduceEqDiff])
      | (refine c_skip ?_
         simp only [Thn, Inb, if_true, if_false, reduceIte, Nat.reduceEqDiff])
      | (refine c_cond true (by rfl) (fun _ => ?_) (fun e => by cases e))
      | (refine c_cond false (by rfl) (fun e => by cases e) (fun _ => ?_))
      | (refine c_block ?_)
      | (refine c_label ?_)
      | (refine o_cons (u_read (by omega) hact2 rfl (by rfl) fun w hF K' hK' => ?_)
         go_simp
         refine hK' _ ⟨?_, ?_⟩
         focus
           rw [listed_nil]
           · simp
           · (simp [go_sem]; done)
         clear hK' K' hF w
         try walk_nrm)
      | (refine o_cons (u_unwanted (by omega) rfl (by rfl) ?_)
         try walk_nrm))
    refine o_cons (u_mark0 (by omega) hq2 rfl (by rfl) Try.func41 (by rfl) (by rfl) (by rfl) .enable (by simp) rfl rfl (at_enable ?_))
    try walk_nrm
    obtain ⟨l3, hl3⟩ : ∃ l3, l3 = l2.dfd (l2.df - 1) := ⟨_, rfl⟩
    rw [← hl3]
    have hact3 : l3.md = .act := by rw [hl3]; exact hact2
    have hq3 := quit_act hact3
    have hB3 : l3.ws u = some ⟨ws, 0, 0⟩ := by rw [hl3]; exact hB2
    have hdf3 : l3.df = 0 := by rw [hl3]; show l2.df - 1 = 0; rw [hdf2]
    repeat (first
      | (refine c_seq ?_)
      | (refine c_region ?_
         simp only [List.size_toArray, List.length_cons, List.length_nil, Nat.reduceAdd, Nat.zero_add, List.range, List.range.loop])
      | (refine o_nil ?_
         simp only [Thn, Inb, if_true, if_false, reduceIte, Nat.reduceEqDiff])
      | (refine c_skip ?_
         simp only [Thn, Inb, if_true, if_false, reduceIte, Nat.reduceEqDiff])
      | (refine c_cond true (by rfl) (fun _ => ?_) (fun e => by cases e))
      | (refine c_cond false (by rfl) (fun e => by cases e) (fun _ => ?_))
      | (refine c_block ?_)
      | (refine c_label ?_)
      | (refine o_cons (u_read (by omega) hact3 rfl (by rfl) fun w hF K' hK' => ?_)
         go_simp
         refine hK' _ ⟨?_, ?_⟩
         focus
           rw [listed_nil]
           · simp
           · (simp [go_sem]; done)
         clear hK' K' hF w
         try walk_nrm)
      | (refine o_cons (u_unwanted (by omega) rfl (by rfl) ?_)
         try walk_nrm))
    refine o_cons (u_conv (ad := ⟨u, 0, none⟩) (by omega) hq3 rfl (by rfl) rfl rfl Try.underlying69 Try.underlying71 (by rfl) (lead_cell hB3 (by omega)) ?_)
    try walk_nrm
    refine o_cons (u_markAt (ad := ⟨u, 0, none⟩) (by omega) hq3 rfl (by rfl) Try.func52 (by rfl) (by rfl) (by rfl) .acquire (by simp) rfl rfl (by walk_nrm) (at_acquire hdf3 hB3 fun rs jn' hM => ?_))
    try walk_nrm
    obtain ⟨l4, hl4⟩ : ∃ l4 : Lo, l4 = { l3 with res := rs.foldl Res.add l3.res, jn := jn', ws := fun x => if x = u then none else l3.ws x } := ⟨_, rfl⟩
    rw [← hl4]
    have hact4 : l4.md = .act := by rw [hl4]; exact hact3
    repeat (first
      | (refine c_seq ?_)
      | (refine c_region ?_
         simp only [List.size_toArray, List.length_cons, List.length_nil, Nat.reduceAdd, Nat.zero_add, List.range, List.range.loop])
      | (refine o_nil ?_
         simp only [Thn, Inb, if_true, if_false, reduceIte, Nat.reduceEqDiff])
      | (refine c_skip ?_
         simp only [Thn, Inb, if_true, if_false, reduceIte, Nat.reduceEqDiff])
      | (refine c_cond true (by rfl) (fun _ => ?_) (fun e => by cases e))
      | (refine c_cond false (by rfl) (fun e => by cases e) (fun _ => ?_))
      | (refine c_block ?_)
      | (refine c_label ?_)
      | (refine o_cons (u_read (by omega) hact4 rfl (by rfl) fun w hF K' hK' => ?_)
         go_simp
         refine hK' _ ⟨?_, ?_⟩
         focus
           rw [listed_nil]
           · simp
           · (simp [go_sem]; done)
         clear hK' K' hF w
         try walk_nrm)
      | (refine o_cons (u_unwanted (by omega) rfl (by rfl) ?_)
         try walk_nrm))
    refine c_ret ?_
    refine ⟨rfl, _, resultsC_none (by rfl) _, rs, jn', ⟨hM.1, ?_⟩, ?_⟩
    · have := hM.2; rw [hl3, hl2, hl1] at this; exact this
    rw [hl4, hl3, hl2, hl1]
    exact wait_end hdf
  · obtain ⟨x, hx⟩ : ∃ x : Int, x = ((n * 4294967296 : Nat) : Int) := ⟨_, rfl⟩
    have hxf : bits .and .u64 x 2147483648 = 0 := by
      have := Go.ConcN.st_flag n 0 (by omega) (by omega)
      rw [hx]
      simpa using this
    have hxw : bits .and .u64 x 2147483647 = 0 := by
      have := Go.ConcN.st_waiters n 0 (by omega) (by omega)
      rw [hx]
      simpa using this
    have hxv : IntKind.i32.wrap (x / 4294967296) = (n : Int) := by rw [hx, IntKind.wrap_i32]; omega
    obtain ⟨xp, hxp⟩ : ∃ xp : Int, xp = ((n * 4294967296 + 1 : Nat) : Int) := ⟨_, rfl⟩
    have hx1 : IntKind.u64.wrap (x + 1) = xp := by rw [hx, hxp, IntKind.wrap_u64]; omega
    have hxpp : Hid (xp = ((n * 4294967296 + 1 : Nat) : Int)) := hxp
    have hu0 : IntKind.u32.wrap 0 = 0 := by decide
    obtain ⟨y, hy⟩ : ∃ y : Int, y = (n : Int) := ⟨_, rfl⟩
    rw [← hy] at hxv
    have hy0 : decide (y = 0) = false := by simp; omega
    rw [← hx]
    have hxx : Hid (x = ((n * 4294967296 : Nat) : Int)) := hx
    have hyy : Hid (y = (n : Int)) := hy
    clear hx hy hxp
    repeat (first
      | (refine c_seq ?_)
      | (refine c_region ?_
         simp only [List.size_toArray, List.length_cons, List.length_nil, Nat.reduceAdd, Nat.zero_add, List.range, List.range.loop])
      | (refine o_nil ?_
         simp only [Thn, Inb, if_true, if_false, reduceIte, Nat.reduceEqDiff])
      | (refine c_skip ?_
         simp only [Thn, Inb, if_true, if_false, reduceIte, Nat.reduceEqDiff])
      | (refine c_cond true (by rfl) (fun _ => ?_) (fun e => by cases e))
      | (refine c_cond false (by rfl) (fun e => by cases e) (fun _ => ?_))
      | (refine c_block ?_)
      | (refine c_label ?_)
      | (refine o_cons (u_read (by omega) hact2 rfl (by rfl) fun w hF K' hK' => ?_)
         go_simp
         refine hK' _ ⟨?_, ?_⟩
         focus
           rw [listed_nil]
           · simp
           · (simp [go_sem]; done)
         clear hK' K' hF w
         try walk_nrm)
      | (refine o_cons (u_unwanted (by omega) rfl (by rfl) ?_)
         try walk_nrm))
    have hyz : (y == 0) = false := by simp only [beq_eq_false_iff_ne, ne_eq]; have := hyy.out; omega
    refine c_cond false (by simp [Act.eval, hyz]) (fun e => by cases e) (fun _ => ?_)
    repeat (first
      | (refine c_seq ?_)
      | (refine c_region ?_
         simp only [List.size_toArray, List.length_cons, List.length_nil, Nat.reduceAdd, Nat.zero_add, List.range, List.range.loop])
      | (refine o_nil ?_
         simp only [Thn, Inb, if_true, if_false, reduceIte, Nat.reduceEqDiff])
      | (refine c_skip ?_
         simp only [Thn, Inb, if_true, if_false, reduceIte, Nat.reduceEqDiff])
      | (refine c_cond true (by rfl) (fun _ => ?_) (fun e => by cases e))
      | (refine c_cond false (by rfl) (fun e => by cases e) (fun _ => ?_))
      | (refine c_block ?_)
      | (refine c_label ?_)
      | (refine o_cons (u_read (by omega) hact2 rfl (by rfl) fun w hF K' hK' => ?_)
         go_simp
         refine hK' _ ⟨?_, ?_⟩
         focus
           rw [listed_nil]
           · simp
           · (simp [go_sem]; done)
         clear hK' K' hF w
         try walk_nrm)
      | (refine o_cons (u_unwanted (by omega) rfl (by rfl) ?_)
         try walk_nrm))
    refine o_cons (u_callx (n := n54) #[.pointer (some ⟨u, 0, none⟩), .int .u64 x, .int .u64 xp] (by omega) rfl (by rfl) rfl (by walk_nrm) ?_)
    have hwk2 : l2.wk u = 0 := by rw [hl2, hl1]; exact hwk
    rw [hxx.out, hxpp.out]
    refine h54 E u 0 _ _ _ _ hq2 ?_
    refine at_lead_cas hB2 (by omega) hwk2 ?_ ?_
    focus
      rw [← hxx.out, ← hxpp.out]
      obtain ⟨l3, hl3⟩ : ∃ l3, l3 = l2.wsd u (some ⟨ws, n, 1⟩) := ⟨_, rfl⟩
      rw [← hl3]
      try walk_nrm
      have hact3 : l3.md = .act := by rw [hl3]; exact hact2
      have hq3 := quit_act hact3
      have hB3 : l3.ws u = some ⟨ws, n, 1⟩ := by rw [hl3]; exact wsd_same _ _ _
      repeat (first
        | (refine c_seq ?_)
        | (refine c_region ?_
           simp only [List.size_toArray, List.length_cons, List.length_nil, Nat.reduceAdd, Nat.zero_add, List.range, List.range.loop])
        | (refine o_nil ?_
           simp only [Thn, Inb, if_true, if_false, reduceIte, Nat.reduceEqDiff])
        | (refine c_skip ?_
           simp only [Thn, Inb, if_true, if_false, reduceIte, Nat.reduceEqDiff])
        | (refine c_cond true (by rfl) (fun _ => ?_) (fun e => by cases e))
        | (refine c_cond false (by rfl) (fun e => by cases e) (fun _ => ?_))
        | (refine c_block ?_)
        | (refine c_label ?_)
        | (refine o_cons (u_read (by omega) hact3 rfl (by rfl) fun w hF K' hK' => ?_)
           go_simp
           refine hK' _ ⟨?_, ?_⟩
           focus
             rw [listed_nil]
             · simp
             · (simp [go_sem]; done)
           clear hK' K' hF w
           try walk_nrm)
        | (refine o_cons (u_unwanted (by omega) rfl (by rfl) ?_)
           try walk_nrm))
      refine o_cons (u_conv (ad := ⟨u, 1, none⟩) (by omega) hq3 rfl (by rfl) rfl rfl Try.underlying77 Try.underlying71 (by rfl) (lead_cell hB3 (by omega)) ?_)
      try walk_nrm
      refine o_cons (u_markAt (ad := ⟨u, 1, none⟩) (by omega) hq3 rfl (by rfl) Try.func55 (by rfl) (by rfl) (by rfl) .write (by simp) rfl rfl (by walk_nrm) (at_said hB3 _ (.inr rfl) ?_))
      try walk_nrm
      repeat (first
        | (refine c_seq ?_)
        | (refine c_region ?_
           simp only [List.size_toArray, List.length_cons, List.length_nil, Nat.reduceAdd, Nat.zero_add, List.range, List.range.loop])
        | (refine o_nil ?_
           simp only [Thn, Inb, if_true, if_false, reduceIte, Nat.reduceEqDiff])
        | (refine c_skip ?_
           simp only [Thn, Inb, if_true, if_false, reduceIte, Nat.reduceEqDiff])
        | (refine c_cond true (by rfl) (fun _ => ?_) (fun e => by cases e))
        | (refine c_cond false (by rfl) (fun e => by cases e) (fun _ => ?_))
        | (refine c_block ?_)
        | (refine c_label ?_)
        | (refine o_cons (u_read (by omega) hact3 rfl (by rfl) fun w hF K' hK' => ?_)
           go_simp
           refine hK' _ ⟨?_, ?_⟩
           focus
             rw [listed_nil]
             · simp
             · (simp [go_sem]; done)
           clear hK' K' hF w
           try walk_nrm)
        | (refine o_cons (u_unwanted (by omega) rfl (by rfl) ?_)
           try walk_nrm))
      have htr3 : ∀ c, l3.res.tk (.tr c) = 0 := by rw [hl3, hl2, hl1]; exact htr
      refine o_cons (u_semacq (ad := ⟨u, 1, none⟩) (by omega) hq3 rfl (by rfl) Try.func56 (by rfl) (by rfl) (by rfl) rfl rfl (by walk_nrm) (at_lead_sem hB3 htr3 ?_))
      try walk_nrm
      rw [hl3, wsd_wsd, hl2, wsd_wsd]
      obtain ⟨l4, hl4⟩ : ∃ l4, l4 = l1.wsd u (some ⟨ws, 0, 0⟩) := ⟨_, rfl⟩
      rw [← hl4]
      have hact4 : l4.md = .act := by rw [hl4]; exact hact1
      have hq4 := quit_act hact4
      have hB4 : l4.ws u = some ⟨ws, 0, 0⟩ := by rw [hl4]; exact wsd_same _ _ _
      repeat (first
        | (refine c_seq ?_)
        | (refine c_region ?_
           simp only [List.size_toArray, List.length_cons, List.length_nil, Nat.reduceAdd, Nat.zero_add, List.range, List.range.loop])
        | (refine o_nil ?_
           simp only [Thn, Inb, if_true, if_false, reduceIte, Nat.reduceEqDiff])
        | (refine c_skip ?_
           simp only [Thn, Inb, if_true, if_false, reduceIte, Nat.reduceEqDiff])
        | (refine c_cond true (by rfl) (fun _ => ?_) (fun e => by cases e))
        | (refine c_cond false (by rfl) (fun e => by cases e) (fun _ => ?_))
        | (refine c_block ?_)
        | (refine c_label ?_)
        | (refine o_cons (u_read (by omega) hact4 rfl (by rfl) fun w hF K' hK' => ?_)
           go_simp
           refine hK' _ ⟨?_, ?_⟩
           focus
             rw [listed_nil]
             · simp
             · (simp [go_sem]; done)
           clear hK' K' hF w
           try walk_nrm)
        | (refine o_cons (u_unwanted (by omega) rfl (by rfl) ?_)
           try walk_nrm))
      refine o_cons (u_callx (n := n48) #[.pointer (some ⟨u, 0, none⟩)] (by omega) rfl (by rfl) rfl (by walk_nrm) ?_)
      refine h48 E u 0 _ _ hq4 ?_
      refine at_lead_load hB4 fun m hm _ _ => ?_
      obtain rfl : m = 0 := by omega
      rw [wsd_id hB4]
      simp only [Nat.zero_mul, Int.ofNat_zero]
      have hdf4 : l4.df = 1 := by rw [hl4, hl1]; show l.df + 1 = 1; rw [hdf]
      try walk_nrm
      repeat (first
        | (refine c_seq ?_)
        | (refine c_region ?_
           simp only [List.size_toArray, List.length_cons, List.length_nil, Nat.reduceAdd, Nat.zero_add, List.range, List.range.loop])
        | (refine o_nil ?_
           simp only [Thn, Inb, if_true, if_false, reduceIte, Nat.reduceEqDiff])
        | (refine c_skip ?_
           simp only [Thn, Inb, if_true, if_false, reduceIte, Nat.reduceEqDiff])
        | (refine c_cond true (by rfl) (fun _ => ?_) (fun e => by cases e))
        | (refine c_cond false (by rfl) (fun e => by cases e) (fun _ => ?_))
        | (refine c_block ?_)
        | (refine c_label ?_)
        | (refine o_cons (u_read (by omega) hact4 rfl (by rfl) fun w hF K' hK' => ?_)
           go_simp
           refine hK' _ ⟨?_, ?_⟩
           focus
             rw [listed_nil]
             · simp
             · (simp [go_sem]; done)
           clear hK' K' hF w
           try walk_nrm)
        | (refine o_cons (u_unwanted (by omega) rfl (by rfl) ?_)
           try walk_nrm))
      refine o_cons (u_mark0 (by omega) hq4 rfl (by rfl) Try.func41 (by rfl) (by rfl) (by rfl) .enable (by simp) rfl rfl (at_enable ?_))
      try walk_nrm
      obtain ⟨l5, hl5⟩ : ∃ l5, l5 = l4.dfd (l4.df - 1) := ⟨_, rfl⟩
      rw [← hl5]
      have hact5 : l5.md = .act := by rw [hl5]; exact hact4
      have hq5 := quit_act hact5
      have hB5 : l5.ws u = some ⟨ws, 0, 0⟩ := by rw [hl5]; exact hB4
      have hdf5 : l5.df = 0 := by rw [hl5]; show l4.df - 1 = 0; rw [hdf4]
      repeat (first
        | (refine c_seq ?_)
        | (refine c_region ?_
           simp only [List.size_toArray, List.length_cons, List.length_nil, Nat.reduceAdd, Nat.zero_add, List.range, List.range.loop])
        | (refine o_nil ?_
           simp only [Thn, Inb, if_true, if_false, reduceIte, Nat.reduceEqDiff])
        | (refine c_skip ?_
           simp only [Thn, Inb, if_true, if_false, reduceIte, Nat.reduceEqDiff])
        | (refine c_cond true (by rfl) (fun _ => ?_) (fun e => by cases e))
        | (refine c_cond false (by rfl) (fun e => by cases e) (fun _ => ?_))
        | (refine c_block ?_)
        | (refine c_label ?_)
        | (refine o_cons (u_read (by omega) hact5 rfl (by rfl) fun w hF K' hK' => ?_)
           go_simp
           refine hK' _ ⟨?_, ?_⟩
           focus
             rw [listed_nil]
             · simp
             · (simp [go_sem]; done)
           clear hK' K' hF w
           try walk_nrm)
        | (refine o_cons (u_unwanted (by omega) rfl (by rfl) ?_)
           try walk_nrm))
      refine o_cons (u_conv (ad := ⟨u, 0, none⟩) (by omega) hq5 rfl (by rfl) rfl rfl Try.underlying69 Try.underlying71 (by rfl) (lead_cell hB5 (by omega)) ?_)
      try walk_nrm
      refine o_cons (u_markAt (ad := ⟨u, 0, none⟩) (by omega) hq5 rfl (by rfl) Try.func52 (by rfl) (by rfl) (by rfl) .acquire (by simp) rfl rfl (by walk_nrm) (at_acquire hdf5 hB5 fun rs jn' hM => ?_))
      try walk_nrm
      obtain ⟨l6, hl6⟩ : ∃ l6 : Lo, l6 = { l5 with res := rs.foldl Res.add l5.res, jn := jn', ws := fun x => if x = u then none else l5.ws x } := ⟨_, rfl⟩
      rw [← hl6]
      have hact6 : l6.md = .act := by rw [hl6]; exact hact5
      repeat (first
        | (refine c_seq ?_)
        | (refine c_region ?_
           simp only [List.size_toArray, List.length_cons, List.length_nil, Nat.reduceAdd, Nat.zero_add, List.range, List.range.loop])
        | (refine o_nil ?_
           simp only [Thn, Inb, if_true, if_false, reduceIte, Nat.reduceEqDiff])
        | (refine c_skip ?_
           simp only [Thn, Inb, if_true, if_false, reduceIte, Nat.reduceEqDiff])
        | (refine c_cond true (by rfl) (fun _ => ?_) (fun e => by cases e))
        | (refine c_cond false (by rfl) (fun e => by cases e) (fun _ => ?_))
        | (refine c_block ?_)
        | (refine c_label ?_)
        | (refine o_cons (u_read (by omega) hact6 rfl (by rfl) fun w hF K' hK' => ?_)
           go_simp
           refine hK' _ ⟨?_, ?_⟩
           focus
             rw [listed_nil]
             · simp
             · (simp [go_sem]; done)
           clear hK' K' hF w
           try walk_nrm)
        | (refine o_cons (u_unwanted (by omega) rfl (by rfl) ?_)
           try walk_nrm))
      refine c_ret ?_
      refine ⟨rfl, _, resultsC_none (by rfl) _, rs, jn', ⟨hM.1, ?_⟩, ?_⟩
      · have := hM.2; rw [hl5, hl4, hl1] at this; exact this
      rw [hl6, hl5, hl4, hl1]
      exact wait_end hdf
    focus
      rw [← hxx.out, ← hxpp.out, hl2, wsd_wsd]
      obtain ⟨l3, hl3⟩ : ∃ l3, l3 = l1.wsd u (some ⟨ws, n - 1, 0⟩) := ⟨_, rfl⟩
      rw [← hl3]
      try walk_nrm
      have hact3 : l3.md = .act := by rw [hl3]; exact hact1
      repeat (first
        | (refine c_seq ?_)
        | (refine c_region ?_
           simp only [List.size_toArray, List.length_cons, List.length_nil, Nat.reduceAdd, Nat.zero_add, List.range, List.range.loop])
        | (refine o_nil ?_
           simp only [Thn, Inb, if_true, if_false, reduceIte, Nat.reduceEqDiff])
        | (refine c_skip ?_
           simp only [Thn, Inb, if_true, if_false, reduceIte, Nat.reduceEqDiff])
        | (refine c_cond true (by rfl) (fun _ => ?_) (fun e => by cases e))
        | (refine c_cond false (by rfl) (fun e => by cases e) (fun _ => ?_))
        | (refine c_block ?_)
        | (refine c_label ?_)
        | (refine o_cons (u_read (by omega) hact3 rfl (by rfl) fun w hF K' hK' => ?_)
           go_simp
           refine hK' _ ⟨?_, ?_⟩
           focus
             rw [listed_nil]
             · simp
             · (simp [go_sem]; done)
           clear hK' K' hF w
           try walk_nrm)
        | (refine o_cons (u_unwanted (by omega) rfl (by rfl) ?_)
           try walk_nrm))
      refine ⟨⟨?_, n - 1, by omega, hl3⟩, ?_⟩
      · exact ⟨_, _, _, _, _, _, _, _, _, _, _, _, _, _, _, _, _, _, _, _, _, _, _, _, _, _, _, _, _, _, _, _, _, _, _, _, _, _, _, _, _, _, _, _, _, _, _, _, _, _, _, _, _, _, _, _, _, _, _, _, _, _, _, _, _, _, _, _, _, _, _, _, _, _, _, _, _, _, _, _, _, _, _, rfl⟩
      · rw [hl3, wsd_same]
        show n - 1 < hi'
        omega
end Go.Proofs.Ytofohjbcgchhoaa
