/-
  THE WALKS: take, leave.
-/
import Derived.Test.YtofohjbcgchhoaaF
import Derived.Test.YtofohjbcgchhoaaE11
import Derived.WalkKit
import Derived.WalkSpells
namespace Go.Proofs.Ytofohjbcgchhoaa
open Go.Conc
open Go.RowKit
set_option maxRecDepth 100000
set_option linter.unusedSimpArgs false
set_option linter.unusedVariables false

/-- What a goroutine has behind a slot that it took. -/
def Lo.took (l : Lo) (p q : Nat) : Lo := (((l.tok (.slot p) (l.res.tk (.slot p) + 1)).skd p (l.sk p + 1)).tok (.alive p) (l.res.tk (.alive p) + 1)).pkd p q

theorem pkd_pkd (l : Lo) (p x y : Nat) : (l.pkd p x).pkd p y = l.pkd p y := by
  unfold Lo.pkd
  congr 1
  funext q
  by_cases e : q = p <;> simp [e]
theorem pkd_id (l : Lo) (p : Nat) : l.pkd p (l.pk p) = l := by
  unfold Lo.pkd
  congr 1
  funext q
  by_cases e : q = p <;> simp [e]
theorem pkd_same (l : Lo) (p x : Nat) : (l.pkd p x).pk p = x := by simp [Lo.pkd]

def Fr22 (v0 : Value) (v1 : Value) (v2 : Value) (v3 : Value) (ds : List Deferred) (a : Act) : Prop := ∃ x4 x5 x6 x7 x8 x9 x10 x11 x12 x13 x14 x15 x16 x17 x18 x19 x20 x21 x22 x23 x24 x25 x26 x27 x28 x29 x30 x31 x32 x33 : Value, a = ⟨#[v0, v1, v2, v3, x4, x5, x6, x7, x8, x9, x10, x11, x12, x13, x14, x15, x16, x17, x18, x19, x20, x21, x22, x23, x24, x25, x26, x27, x28, x29, x30, x31, x32, x33], ds⟩

set_option maxHeartbeats 8000000 in
theorem take22 : ∃ n, ∀ (E : En) (p ch cap : Nat) (so : Bool) (l : Lo) (Post : Value → Lo → Prop), l.md = .act → l.pl p = some (ch, cap, so) → l.ro ⟨p, 0, none⟩ (.chan (some ch)) → (so = true → E.i = 0) → l.res.tk (.alive p) ≤ l.res.tk (.slot p) →
    (∀ q, 1 ≤ q → l.pk p ≤ q → (∀ c bg m g, l.gl c = some (bg, m, p) → l.gk c = some g → 0 < l.res.tk (.tr c) → g + 1 ≤ q) → Post (.bool true) (l.took p q)) →
    ((so = true → cap ≤ l.sk p) → (E.i = 0 → l.solo → cap ≤ l.res.tk (.slot p)) → Post (.bool false) l) →
    E.N 22 #[.pointer (some ⟨p, 0, none⟩)] n l Post := by
  obtain ⟨n34, h34⟩ := add34
  obtain ⟨n36, h36⟩ := load36
  obtain ⟨n37, h37⟩ := cas37
  refine ⟨_, fun E p ch cap so l Post hact hpl hro hso hle h1 h2 => n_of_b (b_of (e := n34 + n36 + n37 + 2) (L := 17) Try.func22 (by rfl) rfl ?_)⟩
  have hq := quit_act hact
  simp only [act0, Try.ntmps22, List.size_toArray, List.length_cons, List.length_nil, Nat.reduceAdd, Nat.reduceSub, Array.replicate_succ, Array.replicate_zero, List.push_toArray, List.append_toArray, List.nil_append, List.cons_append]
  repeat (first
    | (refine c_seq ?_)
    | (refine c_region ?_
       simp only [List.size_toArray, List.length_cons, List.length_nil, Nat.reduceAdd, Nat.zero_add, List.range, List.range.loop])
    | (refine o_nil ?_
       simp only [Thn, Inb, if_true, if_false, reduceIte, Nat.reduceEqDiff])
    | (refine c_skip ?_
       simp only [Thn, Inb, if_true, if_false, reduceIte, Nat.reduceEqDiff])
    | (refine c_cond true (by rfl) (fun _ => ?_) (fun e => by cases e))
    | (refine c_cond false (by rfl) (fun e => by cases e) (fun _ => ?_))
    | (refine c_block ?_)
    | (refine c_label ?_)
    | (refine o_cons (u_read (by omega) hact rfl (by rfl) fun w hF K' hK' => ?_)
       go_simp
       refine hK' _ ⟨?_, ?_⟩
       focus
         rw [listed_nil]
         · simp
         · (simp [go_sem]; done)
       clear hK' K' hF w
       try walk_nrm)
    | (refine o_cons (u_unwanted (by omega) rfl (by rfl) ?_)
       try walk_nrm))
  refine o_cons (u_load (.chan (some ch)) (by omega) hact rfl (by rfl) rfl Try.underlying46 rfl rfl (.inr hro) ?_)
  try walk_nrm
  repeat (first
    | (refine c_seq ?_)
    | (refine c_region ?_
       simp only [List.size_toArray, List.length_cons, List.length_nil, Nat.reduceAdd, Nat.zero_add, List.range, List.range.loop])
    | (refine o_nil ?_
       simp only [Thn, Inb, if_true, if_false, reduceIte, Nat.reduceEqDiff])
    | (refine c_skip ?_
       simp only [Thn, Inb, if_true, if_false, reduceIte, Nat.reduceEqDiff])
    | (refine c_cond true (by rfl) (fun _ => ?_) (fun e => by cases e))
    | (refine c_cond false (by rfl) (fun e => by cases e) (fun _ => ?_))
    | (refine c_block ?_)
    | (refine c_label ?_)
    | (refine o_cons (u_read (by omega) hact rfl (by rfl) fun w hF K' hK' => ?_)
       go_simp
       refine hK' _ ⟨?_, ?_⟩
       focus
         rw [listed_nil]
         · simp
         · (simp [go_sem]; done)
       clear hK' K' hF w
       try walk_nrm)
    | (refine o_cons (u_unwanted (by omega) rfl (by rfl) ?_)
       try walk_nrm))
  refine o_cons (u_slot (v := .agg #[]) (z := .agg #[]) (by omega) hact rfl (by rfl) rfl rfl rfl (fun w => by simp [go_sem]) hpl hso ?_ (fun g1 g2 => ?_))
  focus
    obtain ⟨l1, hl1⟩ : ∃ l1, l1 = (l.tok (.slot p) (l.res.tk (.slot p) + 1)).skd p (l.sk p + 1) := ⟨_, rfl⟩
    rw [← hl1]
    try walk_nrm
    have hact1 : l1.md = .act := by rw [hl1]; exact hact
    have hq1 := quit_act hact1
    have hpl1 : l1.pl p = some (ch, cap, so) := by rw [hl1]; exact hpl
    have hal1 : l1.res.tk (.alive p) = l.res.tk (.alive p) := by rw [hl1]; simp [Lo.tok, Lo.skd]
    have hsl1 : l1.res.tk (.slot p) = l.res.tk (.slot p) + 1 := by rw [hl1]; simp [Lo.tok, Lo.skd]
    have htr1 : ∀ c, l1.res.tk (.tr c) = l.res.tk (.tr c) := fun c => by rw [hl1]; simp [Lo.tok, Lo.skd]
    repeat (first
      | (refine c_seq ?_)
      | (refine c_region ?_
         simp only [List.size_toArray, List.length_cons, List.length_nil, Nat.reduceAdd, Nat.zero_add, List.range, List.range.loop])
      | (refine o_nil ?_
         simp only [Thn, Inb, if_true, if_false, reduceIte, Nat.reduceEqDiff])
      | (refine c_skip ?_
         simp only [Thn, Inb, if_true, if_false, reduceIte, Nat.reduceEqDiff])
      | (refine c_cond true (by rfl) (fun _ => ?_) (fun e => by cases e))
      | (refine c_cond false (by rfl) (fun e => by cases e) (fun _ => ?_))
      | (refine c_block ?_)
      | (refine c_label ?_)
      | (refine o_cons (u_read (by omega) hact1 rfl (by rfl) fun w hF K' hK' => ?_)
         go_simp
         refine hK' _ ⟨?_, ?_⟩
         focus
           rw [listed_nil]
           · simp
           · (simp [go_sem]; done)
         clear hK' K' hF w
         try walk_nrm)
      | (refine o_cons (u_unwanted (by omega) rfl (by rfl) ?_)
         try walk_nrm))
    refine o_cons (u_callx (n := n34) #[.pointer (some ⟨p, 1, none⟩), .int .i64 1] (by omega) rfl (by rfl) rfl (by walk_nrm) ?_)
    refine h34 E p 1 1 _ _ hq1 ?_
    refine at_alive_up hact1 hpl1 (by omega) fun nn hn hcap hg => ?_
    obtain ⟨l2, hl2⟩ : ∃ l2, l2 = l1.tok (.alive p) (l1.res.tk (.alive p) + 1) := ⟨_, rfl⟩
    rw [← hl2]
    have hact2 : l2.md = .act := by rw [hl2]; exact hact1
    have hpl2 : l2.pl p = some (ch, cap, so) := by rw [hl2]; exact hpl1
    have hpk2 : l2.pk p = l.pk p := by rw [hl2, hl1]; rfl
    have htook : ∀ q, l2.pkd p q = l.took p q := fun q => by rw [hl2, hal1, hl1]; rfl
    have hfin : ∀ q, nn + 1 ≤ q → l.pk p ≤ q → Post (.bool true) (l2.pkd p q) := fun q h3 h4 => by
      rw [htook]
      refine h1 q (by omega) h4 fun c bg m g k1 k2 k3 => ?_
      have := hg c bg m g (by rw [hl1]; exact k1) (by rw [hl1]; exact k2) (by rw [htr1]; exact k3)
      omega
    try walk_nrm
    obtain ⟨x, hx⟩ : ∃ x : Int, x = ((nn + 1 : Nat) : Int) := ⟨_, rfl⟩
    rw [← hx]
    have hxx : Hid (x = ((nn + 1 : Nat) : Int)) := hx
    clear hx
    repeat (first
      | (refine c_seq ?_)
      | (refine c_region ?_
         simp only [List.size_toArray, List.length_cons, List.length_nil, Nat.reduceAdd, Nat.zero_add, List.range, List.range.loop])
      | (refine o_nil ?_
         simp only [Thn, Inb, if_true, if_false, reduceIte, Nat.reduceEqDiff])
      | (refine c_skip ?_
         simp only [Thn, Inb, if_true, if_false, reduceIte, Nat.reduceEqDiff])
      | (refine c_cond true (by rfl) (fun _ => ?_) (fun e => by cases e))
      | (refine c_cond false (by rfl) (fun e => by cases e) (fun _ => ?_))
      | (refine c_block ?_)
      | (refine c_label ?_)
      | (refine o_cons (u_read (by omega) hact2 rfl (by rfl) fun w hF K' hK' => ?_)
         go_simp
         refine hK' _ ⟨?_, ?_⟩
         focus
           rw [listed_nil]
           · simp
           · (simp [go_sem]; done)
         clear hK' K' hF w
         try walk_nrm)
      | (refine o_cons (u_unwanted (by omega) rfl (by rfl) ?_)
         try walk_nrm))
    refine c_loop (fun a' l' => Fr22 (.pointer (some ⟨p, 0, none⟩)) undef (.bool false) (.int .i64 x) [] a' ∧ ∃ q, l.pk p ≤ q ∧ l' = l2.pkd p q) (fun _ l' => cap + 1 - l'.pk p) ⟨?_, l.pk p, Nat.le_refl _, by rw [← hpk2, pkd_id]⟩ (by omega) ?_
    focus
      exact ⟨_, _, _, _, _, _, _, _, _, _, _, _, _, _, _, _, _, _, _, _, _, _, _, _, _, _, _, _, _, _, rfl⟩
    intro a' l' hI
    obtain ⟨hfr, q, hq0, hl'⟩ := hI
    obtain ⟨x4, x5, x6, x7, x8, x9, x10, x11, x12, x13, x14, x15, x16, x17, x18, x19, x20, x21, x22, x23, x24, x25, x26, x27, x28, x29, x30, x31, x32, x33, rfl⟩ := hfr
    have hact' : l'.md = .act := by rw [hl']; exact hact2
    have hq' := quit_act hact'
    have hpl' : l'.pl p = some (ch, cap, so) := by rw [hl']; exact hpl2
    have hpk' : l'.pk p = q := by rw [hl', pkd_same]
    repeat (first
      | (refine c_seq ?_)
      | (refine c_region ?_
         simp only [List.size_toArray, List.length_cons, List.length_nil, Nat.reduceAdd, Nat.zero_add, List.range, List.range.loop])
      | (refine o_nil ?_
         simp only [Thn, Inb, if_true, if_false, reduceIte, Nat.reduceEqDiff])
      | (refine c_skip ?_
         simp only [Thn, Inb, if_true, if_false, reduceIte, Nat.reduceEqDiff])
      | (refine c_cond true (by rfl) (fun _ => ?_) (fun e => by cases e))
      | (refine c_cond false (by rfl) (fun e => by cases e) (fun _ => ?_))
      | (refine c_block ?_)
      | (refine c_label ?_)
      | (refine o_cons (u_read (by omega) hact' rfl (by rfl) fun w hF K' hK' => ?_)
         go_simp
         refine hK' _ ⟨?_, ?_⟩
         focus
           rw [listed_nil]
           · simp
           · (simp [go_sem]; done)
         clear hK' K' hF w
         try walk_nrm)
      | (refine o_cons (u_unwanted (by omega) rfl (by rfl) ?_)
         try walk_nrm))
    refine o_cons (u_callx (n := n36) #[.pointer (some ⟨p, 2, none⟩)] (by omega) rfl (by rfl) rfl (by walk_nrm) ?_)
    refine h36 E p 2 _ _ hq' ?_
    refine at_peak hact' hpl' fun m hm hmc => ?_
    rw [hpk'] at hm
    rw [hl', pkd_pkd]
    obtain ⟨l3, hl3⟩ : ∃ l3, l3 = l2.pkd p m := ⟨_, rfl⟩
    rw [← hl3]
    have hact3 : l3.md = .act := by rw [hl3]; exact hact2
    have hq3 := quit_act hact3
    have hpl3 : l3.pl p = some (ch, cap, so) := by rw [hl3]; exact hpl2
    have hpk3 : l3.pk p = m := by rw [hl3, pkd_same]
    obtain ⟨y, hy⟩ : ∃ y : Int, y = (m : Int) := ⟨_, rfl⟩
    rw [← hy]
    have hyy : Hid (y = (m : Int)) := hy
    try walk_nrm
    by_cases hxy : x ≤ y
    · have hle : nn + 1 ≤ m := by have := hxx.out; omega
      have hxd : decide (x ≤ y) = true := by simpa using hxy
      clear hy
      repeat (first
        | (refine c_seq ?_)
        | (refine c_region ?_
           simp only [List.size_toArray, List.length_cons, List.length_nil, Nat.reduceAdd, Nat.zero_add, List.range, List.range.loop])
        | (refine o_nil ?_
           simp only [Thn, Inb, if_true, if_false, reduceIte, Nat.reduceEqDiff])
        | (refine c_skip ?_
           simp only [Thn, Inb, if_true, if_false, reduceIte, Nat.reduceEqDiff])
        | (refine c_cond true (by rfl) (fun _ => ?_) (fun e => by cases e))
        | (refine c_cond false (by rfl) (fun e => by cases e) (fun _ => ?_))
        | (refine c_block ?_)
        | (refine c_label ?_)
        | (refine o_cons (u_read (by omega) hact3 rfl (by rfl) fun w hF K' hK' => ?_)
           go_simp
           refine hK' _ ⟨?_, ?_⟩
           focus
             rw [listed_nil]
             · simp
             · (simp [go_sem]; done)
           clear hK' K' hF w
           try walk_nrm)
        | (refine o_cons (u_unwanted (by omega) rfl (by rfl) ?_)
           try walk_nrm))
      refine c_ret ?_
      refine ⟨rfl, _, resultsC_tmp (by rfl) _, ?_⟩
      rw [hl3]
      exact hfin m hle (by omega)
    · have hle : m < nn + 1 := by have := hxx.out; omega
      have hxd : decide (x ≤ y) = false := by simpa using hxy
      clear hy
      repeat (first
        | (refine c_seq ?_)
        | (refine c_region ?_
           simp only [List.size_toArray, List.length_cons, List.length_nil, Nat.reduceAdd, Nat.zero_add, List.range, List.range.loop])
        | (refine o_nil ?_
           simp only [Thn, Inb, if_true, if_false, reduceIte, Nat.reduceEqDiff])
        | (refine c_skip ?_
           simp only [Thn, Inb, if_true, if_false, reduceIte, Nat.reduceEqDiff])
        | (refine c_cond true (by rfl) (fun _ => ?_) (fun e => by cases e))
        | (refine c_cond false (by rfl) (fun e => by cases e) (fun _ => ?_))
        | (refine c_block ?_)
        | (refine c_label ?_)
        | (refine o_cons (u_read (by omega) hact3 rfl (by rfl) fun w hF K' hK' => ?_)
           go_simp
           refine hK' _ ⟨?_, ?_⟩
           focus
             rw [listed_nil]
             · simp
             · (simp [go_sem]; done)
           clear hK' K' hF w
           try walk_nrm)
        | (refine o_cons (u_unwanted (by omega) rfl (by rfl) ?_)
           try walk_nrm))
      refine o_cons (u_callx (n := n37) #[.pointer (some ⟨p, 2, none⟩), .int .i64 y, .int .i64 x] (by omega) rfl (by rfl) rfl (by walk_nrm) ?_)
      rw [hxx.out, hyy.out]
      refine h37 E p 2 _ _ _ _ hq3 ?_
      refine at_peak_cas hact3 hpl3 (by omega) hle hn ?_ ?_
      focus
        rw [hl3, pkd_pkd]
        obtain ⟨l4, hl4⟩ : ∃ l4, l4 = l2.pkd p (nn + 1) := ⟨_, rfl⟩
        rw [← hl4]
        have hact4 : l4.md = .act := by rw [hl4]; exact hact2
        try walk_nrm
        repeat (first
          | (refine c_seq ?_)
          | (refine c_region ?_
             simp only [List.size_toArray, List.length_cons, List.length_nil, Nat.reduceAdd, Nat.zero_add, List.range, List.range.loop])
          | (refine o_nil ?_
             simp only [Thn, Inb, if_true, if_false, reduceIte, Nat.reduceEqDiff])
          | (refine c_skip ?_
             simp only [Thn, Inb, if_true, if_false, reduceIte, Nat.reduceEqDiff])
          | (refine c_cond true (by rfl) (fun _ => ?_) (fun e => by cases e))
          | (refine c_cond false (by rfl) (fun e => by cases e) (fun _ => ?_))
          | (refine c_block ?_)
          | (refine c_label ?_)
          | (refine o_cons (u_read (by omega) hact4 rfl (by rfl) fun w hF K' hK' => ?_)
             go_simp
             refine hK' _ ⟨?_, ?_⟩
             focus
               rw [listed_nil]
               · simp
               · (simp [go_sem]; done)
             clear hK' K' hF w
             try walk_nrm)
          | (refine o_cons (u_unwanted (by omega) rfl (by rfl) ?_)
             try walk_nrm))
        refine c_ret ?_
        refine ⟨rfl, _, resultsC_tmp (by rfl) _, ?_⟩
        rw [hl4]
        exact hfin _ (Nat.le_refl _) (by omega)
      focus
        rw [← hxx.out, hl3, pkd_pkd]
        obtain ⟨l4, hl4⟩ : ∃ l4, l4 = l2.pkd p (m + 1) := ⟨_, rfl⟩
        rw [← hl4]
        have hact4 : l4.md = .act := by rw [hl4]; exact hact2
        try walk_nrm
        repeat (first
          | (refine c_seq ?_)
          | (refine c_region ?_
             simp only [List.size_toArray, List.length_cons, List.length_nil, Nat.reduceAdd, Nat.zero_add, List.range, List.range.loop])
          | (refine o_nil ?_
             simp only [Thn, Inb, if_true, if_false, reduceIte, Nat.reduceEqDiff])
          | (refine c_skip ?_
             simp only [Thn, Inb, if_true, if_false, reduceIte, Nat.reduceEqDiff])
          | (refine c_cond true (by rfl) (fun _ => ?_) (fun e => by cases e))
          | (refine c_cond false (by rfl) (fun e => by cases e) (fun _ => ?_))
          | (refine c_block ?_)
          | (refine c_label ?_)
          | (refine o_cons (u_read (by omega) hact4 rfl (by rfl) fun w hF K' hK' => ?_)
             go_simp
             refine hK' _ ⟨?_, ?_⟩
             focus
               rw [listed_nil]
               · simp
               · (simp [go_sem]; done)
             clear hK' K' hF w
             try walk_nrm)
          | (refine o_cons (u_unwanted (by omega) rfl (by rfl) ?_)
             try walk_nrm))
        refine ⟨⟨?_, m + 1, by omega, hl4⟩, ?_⟩
        · exact ⟨_, _, _, _, _, _, _, _, _, _, _, _, _, _, _, _, _, _, _, _, _, _, _, _, _, _, _, _, _, _, rfl⟩
        · rw [hl4, pkd_same, pkd_same]
          omega
  focus
    try walk_nrm
    repeat (first
      | (refine c_seq ?_)
      | (refine c_region ?_
         simp only [List.size_toArray, List.length_cons, List.length_nil, Nat.reduceAdd, Nat.zero_add, List.range, List.range.loop])
      | (refine o_nil ?_
         simp only [Thn, Inb, if_true, if_false, reduceIte, Nat.reduceEqDiff])
      | (refine c_skip ?_
         simp only [Thn, Inb, if_true, if_false, reduceIte, Nat.reduceEqDiff])
      | (refine c_cond true (by rfl) (fun _ => ?_) (fun e => by cases e))
      | (refine c_cond false (by rfl) (fun e => by cases e) (fun _ => ?_))
      | (refine c_block ?_)
      | (refine c_label ?_)
      | (refine o_cons (u_read (by omega) hact rfl (by rfl) fun w hF K' hK' => ?_)
         go_simp
         refine hK' _ ⟨?_, ?_⟩
         focus
           rw [listed_nil]
           · simp
           · (simp [go_sem]; done)
         clear hK' K' hF w
         try walk_nrm)
      | (refine o_cons (u_unwanted (by omega) rfl (by rfl) ?_)
         try walk_nrm))
    refine c_ret ?_
    refine ⟨rfl, _, resultsC_tmp (by rfl) _, ?_⟩
    exact h2 g1 g2
set_option maxHeartbeats 8000000 in
theorem leave27 : ∃ n, ∀ (E : En) (p ch cap x y : Nat) (so : Bool) (l : Lo), l.md = .act → l.pl p = some (ch, cap, so) → l.ro ⟨p, 0, none⟩ (.chan (some ch)) → l.res.tk (.slot p) = x + 1 → l.res.tk (.alive p) = y + 1 → y ≤ x → (∀ c, l.res.tk (.gm c) = 0 ∨ l.cl c) →
    E.B 27 #[.pointer (some ⟨p, 0, none⟩)] n l fun _ l' => l' = (l.tok (.alive p) y).tok (.slot p) x := by
  obtain ⟨n34, h34⟩ := add34
  refine ⟨_, fun E p ch cap x y so l hact hpl hro hx hy hyx hgm => b_of (e := n34 + 2) (L := 0) Try.func27 (by rfl) rfl ?_⟩
  have hq := quit_act hact
  simp only [act0, Try.ntmps27, List.size_toArray, List.length_cons, List.length_nil, Nat.reduceAdd, Nat.reduceSub, Array.replicate_succ, Array.replicate_zero, List.push_toArray, List.append_toArray, List.nil_append, List.cons_append]
  repeat (first
    | (refine c_seq ?_)
    | (refine c_region ?_
       simp only [List.size_toArray, List.length_cons, List.length_nil, Nat.reduceAdd, Nat.zero_add, List.range, List.range.loop])
    | (refine o_nil ?_
       simp only [Thn, Inb, if_true, if_false, reduceIte, Nat.reduceEqDiff])
    | (refine c_skip ?_
       simp only [Thn, Inb, if_true, if_false, reduceIte, Nat.reduceEqDiff])
    | (refine c_cond true (by rfl) (fun _ => ?_) (fun e => by cases e))
    | (refine c_cond false (by rfl) (fun e => by cases e) (fun _ => ?_))
    | (refine c_block ?_)
    | (refine c_label ?_)
    | (refine o_cons (u_read (by omega) hact rfl (by rfl) fun w hF K' hK' => ?_)
       go_simp
       refine hK' _ ⟨?_, ?_⟩
       focus
         rw [listed_nil]
         · simp
         · (simp [go_sem]; done)
       clear hK' K' hF w
       try walk_nrm)
    | (refine o_cons (u_unwanted (by omega) rfl (by rfl) ?_)
       try walk_nrm))
  refine o_cons (u_callx (n := n34) #[.pointer (some ⟨p, 1, none⟩), .int .i64 (-1)] (by omega) rfl (by rfl) rfl (by walk_nrm) ?_)
  refine h34 E p 1 (-1) _ _ hq ?_
  refine at_alive_down hact hpl hy hgm fun v => ?_
  obtain ⟨l1, hl1⟩ : ∃ l1, l1 = l.tok (.alive p) y := ⟨_, rfl⟩
  rw [← hl1]
  have hact1 : l1.md = .act := by rw [hl1]; exact hact
  have hpl1 : l1.pl p = some (ch, cap, so) := by rw [hl1]; exact hpl
  have hro1 : l1.ro ⟨p, 0, none⟩ (.chan (some ch)) := by rw [hl1]; exact hro
  have hx1 : l1.res.tk (.slot p) = x + 1 := by rw [hl1]; simpa [Lo.tok] using hx
  have hy1 : l1.res.tk (.alive p) ≤ x := by rw [hl1]; simpa [Lo.tok] using hyx
  try walk_nrm
  repeat (first
    | (refine c_seq ?_)
    | (refine c_region ?_
       simp only [List.size_toArray, List.length_cons, List.length_nil, Nat.reduceAdd, Nat.zero_add, List.range, List.range.loop])
    | (refine o_nil ?_
       simp only [Thn, Inb, if_true, if_false, reduceIte, Nat.reduceEqDiff])
    | (refine c_skip ?_
       simp only [Thn, Inb, if_true, if_false, reduceIte, Nat.reduceEqDiff])
    | (refine c_cond true (by rfl) (fun _ => ?_) (fun e => by cases e))
    | (refine c_cond false (by rfl) (fun e => by cases e) (fun _ => ?_))
    | (refine c_block ?_)
    | (refine c_label ?_)
    | (refine o_cons (u_read (by omega) hact1 rfl (by rfl) fun w hF K' hK' => ?_)
       go_simp
       refine hK' _ ⟨?_, ?_⟩
       focus
         rw [listed_nil]
         · simp
         · (simp [go_sem]; done)
       clear hK' K' hF w
       try walk_nrm)
    | (refine o_cons (u_unwanted (by omega) rfl (by rfl) ?_)
       try walk_nrm))
  refine o_cons (u_load (.chan (some ch)) (by omega) hact1 rfl (by rfl) rfl Try.underlying46 rfl rfl (.inr hro1) ?_)
  try walk_nrm
  refine o_cons (u_give (z := .agg #[]) (by omega) hact1 rfl (by rfl) rfl rfl Try.underlying46 (fun w => by simp [go_sem]) hpl1 hx1 hy1 fun v => ?_)
  try walk_nrm
  refine o_nil ?_
  refine ⟨rfl, _, resultsC_none (by rfl) _, ?_⟩
  rw [hl1]
end Go.Proofs.Ytofohjbcgchhoaa
