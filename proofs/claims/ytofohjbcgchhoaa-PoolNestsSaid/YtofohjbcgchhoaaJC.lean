/-
  The walk of PoolNests.
-/
import Derived.Test.YtofohjbcgchhoaaJB
namespace Go.Proofs.Ytofohjbcgchhoaa
open Go.Conc
open Go.RowKit
open Go.ConcN (sumTo sumTo_congr le_sumTo)
set_option maxRecDepth 100000
set_option linter.unusedSimpArgs false
set_option linter.unusedVariables false

theorem Later.has {l l' : Lo} (h : Later l l') {a : Addr} {v : Value} (e : l.res.cells a = some v) : l'.res.cells a = some v := by rw [h.cell a (by rw [e]; simp)]; exact e

/-- All that it owns is only read from now on. -/
def Lo.still (l : Lo) : Lo := { l with res := ⟨fun _ => none, l.res.tk⟩, ro := fun a v => l.ro a v ∨ l.res.cells a = some v }
theorem turn_still {E : En} {l : Lo} (hact : l.md = .act) : E.Turn l l.still := turn_cells hact _ _ (fun a v e => by cases e) (fun a v e => e.elim .inl fun e => .inr ⟨rfl, e⟩)
theorem Calm.still {l : Lo} (h : Calm l) : Calm l.still := ⟨h.md, h.df, h.solo, h.tr, h.gm, h.slot0, h.sk⟩

/-- A piece of code behind its first n statements. -/
def dropSeq : Nat → Code → Code
  | 0, c => c
  | n + 1, .seq _ y => dropSeq n y
  | _, c => c

theorem Grow.has {l l' : Lo} (h : Grow l l') {a : Addr} {v : Value} (e : l.res.cells a = some v) : l'.res.cells a = some v := by rw [h.cell a (by rw [e]; simp)]; exact e

section
open Classical
/-- Some of what it owns is only read from now on. -/
noncomputable def Lo.ice (l : Lo) (p : Addr → Prop) : Lo := { l with res := ⟨fun a => if p a then none else l.res.cells a, l.res.tk⟩, ro := fun a v => l.ro a v ∨ (p a ∧ l.res.cells a = some v) }
theorem turn_ice {E : En} {l : Lo} (hact : l.md = .act) (p : Addr → Prop) : E.Turn l (l.ice p) := turn_cells hact _ _ (fun a v e => by
  by_cases h : p a
  · rw [if_pos h] at e; cases e
  · rw [if_neg h] at e; exact e) (fun a v e => e.elim .inl fun e => .inr ⟨if_pos e.1, e.2⟩)
theorem ice_cell {l : Lo} {p : Addr → Prop} {a : Addr} (h : ¬ p a) : (l.ice p).res.cells a = l.res.cells a := if_neg h
end
theorem Calm.ice {l : Lo} (h : Calm l) (p : Addr → Prop) : Calm (l.ice p) := ⟨h.md, h.df, h.solo, h.tr, h.gm, h.slot0, h.sk⟩

def nthv : List Value → Nat → Value
  | x :: _, 0 => x
  | _ :: l, n + 1 => nthv l n
  | [], _ => undef
theorem fitF {F : (Nat → Value) → Act} {a : Act} (h : a = F (nthv a.tmps.toList)) : ∃ f, a = F f := ⟨_, h⟩

/-- What stays so behind the pool's call. -/
structure Mid (T : Nest) (O : Nat) (l : Lo) : Prop where
  calm : Calm l
  ro : NestRo T l
  done : T.done 0 l.res.cells
  out : l.res.cells ⟨O, 0, none⟩ = some (.int .i64 0)
  tk : l.res.tk (.begun T.p) = T.n
  pk : 1 ≤ l.pk T.p
theorem Mid.addc {T : Nest} {O : Nat} {l : Lo} (h : Mid T O l) {r : Nat} (hr : Fresh l r) (c : Array Value) : Mid T O (l.addc r c) := by
  have g : Grow l (l.addc r c) := (Grow.refl _).addc hr c
  exact ⟨h.calm.grow g, h.ro.of g.ro g.pl, h.done.of fun a ha => g.cell a (h.done.own a ha), g.has h.out, by rw [g.tk]; exact h.tk, by rw [g.pk]; exact h.pk⟩
theorem Mid.pkd {T : Nest} {O : Nat} {l : Lo} (h : Mid T O l) {m : Nat} (hm : l.pk T.p ≤ m) : Mid T O (l.pkd T.p m) :=
  ⟨⟨h.calm.md, h.calm.df, h.calm.solo, h.calm.tr, h.calm.gm, h.calm.slot0, h.calm.sk⟩, h.ro.of (fun _ _ x => x) rfl, h.done, h.out, h.tk, by rw [pkd_same]; exact Nat.le_trans h.pk hm⟩

def Fr16 (v3 : Value) (v5 : Value) (v7 : Value) (v8 : Value) (v9 : Value) (v11 : Value) (ds : List Deferred) (a : Act) : Prop := ∃ xf : Nat → Value, a = ⟨#[xf 0, xf 1, xf 2, v3, xf 4, v5, xf 6, v7, v8, v9, xf 10, v11, undef, xf 13, xf 14, xf 15, xf 16, xf 17, xf 18, xf 19, xf 20, xf 21, xf 22, xf 23, xf 24, xf 25, xf 26, xf 27, xf 28, xf 29, xf 30, xf 31, xf 32, xf 33, xf 34, xf 35, xf 36, xf 37, xf 38, xf 39, xf 40, xf 41, xf 42, xf 43, xf 44, xf 45, xf 46, xf 47, xf 48, xf 49, xf 50, xf 51, xf 52, xf 53, xf 54, xf 55, xf 56, xf 57, xf 58, undef, undef, undef, undef, undef, undef, undef, undef, undef, undef, undef, undef, undef, undef, undef, undef, undef, undef, undef, undef, undef, undef, undef, undef, undef, undef, undef, undef, undef, undef, undef, undef, undef, undef, undef, undef, undef, undef, undef, undef, undef, undef, undef, undef, undef, undef, undef, undef, undef, undef, undef, undef, undef], ds⟩

def Fr16b (v3 : Value) (v5 : Value) (v7 : Value) (v8 : Value) (v9 : Value) (v11 : Value) (y59 : Value) (y60 : Value) (y61 : Value) (y62 : Value) (y63 : Value) (y64 : Value) (y65 : Value) (y66 : Value) (y67 : Value) (y68 : Value) (y69 : Value) (y70 : Value) (y71 : Value) (y72 : Value) (y73 : Value) (y74 : Value) (y75 : Value) (y76 : Value) (y77 : Value) (y78 : Value) (y79 : Value) (y80 : Value) (y81 : Value) (y82 : Value) (y83 : Value) (y84 : Value) (y85 : Value) (y86 : Value) (y87 : Value) (ds : List Deferred) (a : Act) : Prop := ∃ xf : Nat → Value, a = ⟨#[xf 0, xf 1, xf 2, v3, xf 4, v5, xf 6, v7, v8, v9, xf 10, v11, undef, xf 13, xf 14, xf 15, xf 16, xf 17, xf 18, xf 19, xf 20, xf 21, xf 22, xf 23, xf 24, xf 25, xf 26, xf 27, xf 28, xf 29, xf 30, xf 31, xf 32, xf 33, xf 34, xf 35, xf 36, xf 37, xf 38, xf 39, xf 40, xf 41, xf 42, xf 43, xf 44, xf 45, xf 46, xf 47, xf 48, xf 49, xf 50, xf 51, xf 52, xf 53, xf 54, xf 55, xf 56, xf 57, xf 58, y59, y60, y61, y62, y63, y64, y65, y66, y67, y68, y69, y70, y71, y72, y73, y74, y75, y76, y77, y78, y79, y80, y81, y82, y83, y84, y85, y86, y87, undef, undef, undef, undef, undef, undef, undef, undef, undef, undef, undef, undef, undef, undef, undef, undef, undef, undef, undef, undef, undef, undef, undef, undef], ds⟩

def Inv16 (T : Nest) (O : Nat) (S : Nat → Bool) (a : Act) (lx : Lo) : Prop :=
  ∃ y59 y60 y61 y62 y63 y64 y65 y66 y67 y68 y69 y70 y71 y72 y73 y74 y75 y76 y77 y78 y79 y80 y81 y82 y83 y84 y85 y86 y87 : Value, Fr16b (bpt T.bT) (bpt T.bC) (bpt T.bP) (bpt T.bV) (bpt T.bR) (.slice (some ⟨O, 0, none⟩) 1 1) y59 y60 y61 y62 y63 y64 y65 y66 y67 y68 y69 y70 y71 y72 y73 y74 y75 y76 y77 y78 y79 y80 y81 y82 y83 y84 y85 y86 y87 [] a ∧ Mid T O lx ∧
    (S 0 = true → y59 = .slice (some ⟨O, 0, none⟩) 1 1) ∧ (S 1 = true → ∃ B, y60 = .slice (some ⟨B, 0, none⟩) 1 1 ∧ lx.res.cells ⟨B, 0, none⟩ = some (.int .i64 0)) ∧ (S 2 = true → y61 = .bool true) ∧ (S 3 = true → y62 = .bool false) ∧ (S 4 = true → y63 = .bool false) ∧ (S 5 = true → y64 = .pointer (some ⟨T.p, 0, none⟩)) ∧ (S 6 = true → y65 = .int .i64 0) ∧ (S 7 = true → y66 = .bool false) ∧ (S 8 = true → y67 = .bool false) ∧ (S 9 = true → y68 = .bool false) ∧ (S 10 = true → y69 = .pointer (some ⟨T.p, 0, none⟩)) ∧ (S 11 = true → y70 = .int .i64 (T.n : Nat)) ∧ (S 12 = true → y71 = .pointer (some ⟨T.bT, 1, none⟩)) ∧ (S 13 = true → y72 = .slice (some T.A) T.n T.co) ∧ (S 14 = true → y73 = .int .i64 (T.n : Nat)) ∧ (S 15 = true → y74 = .bool false) ∧ (S 16 = true → y75 = .bool false) ∧ (S 17 = true → y76 = .bool false) ∧ (S 18 = true → y77 = .pointer (some ⟨T.p, 0, none⟩)) ∧ (S 19 = true → ∃ m : Nat, 1 ≤ m ∧ m ≤ T.cap ∧ y78 = .int .i64 (m : Nat)) ∧ (S 20 = true → y79 = .bool false) ∧ (S 21 = true → y80 = .bool false) ∧ (S 22 = true → y81 = .bool false) ∧ (S 23 = true → y82 = .pointer (some ⟨T.p, 0, none⟩)) ∧ (S 24 = true → ∃ m : Nat, m ≤ T.cap ∧ y83 = .int .i64 (m : Nat)) ∧ (S 25 = true → y84 = .pointer (some ⟨T.p, 0, none⟩)) ∧ (S 26 = true → y85 = .int .i64 (T.cap : Nat)) ∧ (S 27 = true → y86 = .bool false) ∧ (S 28 = true → y87 = .bool false)

def Fr21 (v3 : Value) (v5 : Value) (v8 : Value) (v9 : Value) (v90 : Value) (v91 : Value) (ds : List Deferred) (a : Act) : Prop := ∃ xf : Nat → Value, a = ⟨#[xf 0, xf 1, xf 2, v3, xf 4, v5, xf 6, xf 7, v8, v9, xf 10, xf 11, xf 12, xf 13, xf 14, xf 15, xf 16, xf 17, xf 18, xf 19, xf 20, xf 21, xf 22, xf 23, xf 24, xf 25, xf 26, xf 27, xf 28, xf 29, xf 30, xf 31, xf 32, xf 33, xf 34, xf 35, xf 36, xf 37, xf 38, xf 39, xf 40, xf 41, xf 42, xf 43, xf 44, xf 45, xf 46, xf 47, xf 48, xf 49, xf 50, xf 51, xf 52, xf 53, xf 54, xf 55, xf 56, xf 57, xf 58, xf 59, xf 60, xf 61, xf 62, xf 63, xf 64, xf 65, xf 66, xf 67, xf 68, xf 69, xf 70, xf 71, xf 72, xf 73, xf 74, xf 75, xf 76, xf 77, xf 78, xf 79, xf 80, xf 81, xf 82, xf 83, xf 84, xf 85, xf 86, xf 87, xf 88, xf 89, v90, v91, xf 92, xf 93, xf 94, xf 95, xf 96, xf 97, xf 98, xf 99, xf 100, xf 101, xf 102, xf 103, xf 104, xf 105, xf 106, xf 107, xf 108, xf 109, xf 110, xf 111], ds⟩

def Fr21b (v3 : Value) (v5 : Value) (v8 : Value) (v9 : Value) (v12 : Value) (v90 : Value) (v91 : Value) (y94 : Value) (y95 : Value) (y96 : Value) (y97 : Value) (y98 : Value) (y99 : Value) (y100 : Value) (y101 : Value) (y102 : Value) (y103 : Value) (y104 : Value) (y105 : Value) (y106 : Value) (y107 : Value) (y108 : Value) (y109 : Value) (y110 : Value) (ds : List Deferred) (a : Act) : Prop := ∃ xf : Nat → Value, a = ⟨#[xf 0, xf 1, xf 2, v3, xf 4, v5, xf 6, xf 7, v8, v9, xf 10, xf 11, v12, xf 13, xf 14, xf 15, xf 16, xf 17, xf 18, xf 19, xf 20, xf 21, xf 22, xf 23, xf 24, xf 25, xf 26, xf 27, xf 28, xf 29, xf 30, xf 31, xf 32, xf 33, xf 34, xf 35, xf 36, xf 37, xf 38, xf 39, xf 40, xf 41, xf 42, xf 43, xf 44, xf 45, xf 46, xf 47, xf 48, xf 49, xf 50, xf 51, xf 52, xf 53, xf 54, xf 55, xf 56, xf 57, xf 58, xf 59, xf 60, xf 61, xf 62, xf 63, xf 64, xf 65, xf 66, xf 67, xf 68, xf 69, xf 70, xf 71, xf 72, xf 73, xf 74, xf 75, xf 76, xf 77, xf 78, xf 79, xf 80, xf 81, xf 82, xf 83, xf 84, xf 85, xf 86, xf 87, xf 88, xf 89, v90, v91, xf 92, xf 93, y94, y95, y96, y97, y98, y99, y100, y101, y102, y103, y104, y105, y106, y107, y108, y109, y110, xf 111], ds⟩

def Inv21 (T : Nest) (k : Nat) (v : Int) (S : Nat → Bool) (a : Act) (lx : Lo) : Prop :=
  ∃ y94 y95 y96 y97 y98 y99 y100 y101 y102 y103 y104 y105 y106 y107 y108 y109 y110 : Value, Fr21b (bpt T.bT) (bpt T.bC) (bpt T.bV) (bpt T.bR) (.int .i64 (k : Nat)) (.int .i64 (T.n : Nat)) (.int .i64 (k : Nat)) y94 y95 y96 y97 y98 y99 y100 y101 y102 y103 y104 y105 y106 y107 y108 y109 y110 [] a ∧ True ∧
    (S 0 = true → y94 = .slice (some ⟨T.R, 0, none⟩) T.n T.n) ∧ (S 1 = true → y95 = .int .i64 (k : Nat)) ∧ (S 2 = true → y96 = .pointer (some ⟨T.R, k, none⟩)) ∧ (S 3 = true → y97 = .int .i64 1) ∧ (S 4 = true → y98 = .bool false) ∧ (S 5 = true → y99 = .bool false) ∧ (S 6 = true → y100 = .slice (some ⟨T.V, 0, none⟩) T.n T.n) ∧ (S 7 = true → y101 = .int .i64 (k : Nat)) ∧ (S 8 = true → y102 = .pointer (some ⟨T.V, k, none⟩)) ∧ (S 9 = true → y103 = .int .i64 v) ∧ (S 10 = true → y104 = .slice (some ⟨T.Ch, 0, none⟩) T.n T.n) ∧ (S 11 = true → y105 = .pointer (some ⟨T.bT, 1, none⟩)) ∧ (S 12 = true → y106 = .slice (some T.A) T.n T.co) ∧ (S 13 = true → y107 = .int .i64 (k : Nat)) ∧ (S 14 = true → y108 = .int .i64 v) ∧ (S 15 = true → y109 = .bool false) ∧ (S 16 = true → y110 = .bool false)

def mu21 (m : Nat) (a : Act) : Nat := match (a.tmps[91]? : Option Value) with | some (.int _ x) => m - x.toNat | _ => 0

def Fr18x (v3 : Value) (v5 : Value) (v8 : Value) (v9 : Value) (ds : List Deferred) (a : Act) : Prop := ∃ xf : Nat → Value, a = ⟨#[xf 0, xf 1, xf 2, v3, xf 4, v5, xf 6, xf 7, v8, v9, xf 10, xf 11, undef, xf 13, xf 14, xf 15, xf 16, xf 17, xf 18, xf 19, xf 20, xf 21, xf 22, xf 23, xf 24, xf 25, xf 26, xf 27, xf 28, xf 29, xf 30, xf 31, xf 32, xf 33, xf 34, xf 35, xf 36, xf 37, xf 38, xf 39, xf 40, xf 41, xf 42, xf 43, xf 44, xf 45, xf 46, xf 47, xf 48, xf 49, xf 50, xf 51, xf 52, xf 53, xf 54, xf 55, xf 56, xf 57, xf 58, xf 59, xf 60, xf 61, xf 62, xf 63, xf 64, xf 65, xf 66, xf 67, xf 68, xf 69, xf 70, xf 71, xf 72, xf 73, xf 74, xf 75, xf 76, xf 77, xf 78, xf 79, xf 80, xf 81, xf 82, xf 83, xf 84, xf 85, xf 86, xf 87, undef, undef, undef, undef, undef, undef, undef, undef, undef, undef, undef, undef, undef, undef, undef, undef, undef, undef, undef, undef, undef, undef, undef, undef], ds⟩

set_option maxHeartbeats 16000000 in
theorem tail18 : ∃ N, ∀ (E : En) (lx : Lo) (T : Nest) (O : Nat) (a : Act) (c : Code), Try.f3.body = some c → E.i = 0 → Mid T O lx → 1 ≤ T.n → Fr18x (bpt T.bT) (bpt T.bC) (bpt T.bV) (bpt T.bR) [] a →
    ∀ Post : Value → Lo → Prop, (∀ v l', v = .bool true → Calm l' → Post v l') → ∀ e, N ≤ e → E.C e 257 3 (dropSeq 13 c) (bodyPost Try.prog Try.f3 Post) a lx := by
  obtain ⟨n18, h18⟩ := value18 256
  refine ⟨n18 + 2, fun E lx T O a c hc h0 M hn hfr Post hPost e he => ?_⟩
  obtain rfl : _ = c := Option.some.inj hc
  have hactl := M.calm.md
  obtain ⟨xf, rfl⟩ := hfr
  unfold dropSeq dropSeq dropSeq dropSeq dropSeq dropSeq dropSeq dropSeq dropSeq dropSeq dropSeq dropSeq dropSeq dropSeq
  refine c_seq ?_
  unfold bpt
  repeat (first
    | (refine c_seq ?_)
    | (refine c_region ?_
       simp only [List.size_toArray, List.length_cons, List.length_nil, Nat.reduceAdd, Nat.zero_add, List.range, List.range.loop])
    | (refine o_nil ?_
       simp only [Thn, Inb, if_true, if_false, reduceIte, Nat.reduceEqDiff])
    | (refine c_skip ?_
       simp only [Thn, Inb, if_true, if_false, reduceIte, Nat.reduceEqDiff])
    | (refine c_cond true (by rfl) (fun _ => ?_) (fun e => by cases e))
    | (refine c_cond false (by rfl) (fun e => by cases e) (fun _ => ?_))
    | (refine c_block ?_)
    | (refine c_label ?_
       simp only [Thn, Inb, if_true, if_false, reduceIte, Nat.reduceEqDiff])
    | (refine c_scope ?_)
    | (refine o_cons (u_read (by omega) hactl rfl (by rfl) fun w hF K' hK' => ?_)
       go_simp
       refine hK' _ ⟨?_, ?_⟩
       focus
         rw [listed_nil]
         · simp
         · (simp [go_sem]; done)
       clear hK' K' hF w
       try walk_nrm)
    | (refine o_cons (u_unwanted (by omega) rfl (by rfl) ?_)
       try walk_nrm))
  refine o_cons (u_load (.slice (some T.A) T.n T.co) (by omega) hactl rfl (by rfl) rfl Try.underlying22 rfl rfl (.inr M.ro.bT) ?_)
  try walk_nrm
  repeat (first
    | (refine c_seq ?_)
    | (refine c_region ?_
       simp only [List.size_toArray, List.length_cons, List.length_nil, Nat.reduceAdd, Nat.zero_add, List.range, List.range.loop])
    | (refine o_nil ?_
       simp only [Thn, Inb, if_true, if_false, reduceIte, Nat.reduceEqDiff])
    | (refine c_skip ?_
       simp only [Thn, Inb, if_true, if_false, reduceIte, Nat.reduceEqDiff])
    | (refine c_cond true (by rfl) (fun _ => ?_) (fun e => by cases e))
    | (refine c_cond false (by rfl) (fun e => by cases e) (fun _ => ?_))
    | (refine c_block ?_)
    | (refine c_label ?_
       simp only [Thn, Inb, if_true, if_false, reduceIte, Nat.reduceEqDiff])
    | (refine c_scope ?_)
    | (refine o_cons (u_read (by omega) hactl rfl (by rfl) fun w hF K' hK' => ?_)
       go_simp
       refine hK' _ ⟨?_, ?_⟩
       focus
         rw [listed_nil]
         · simp
         · (simp [go_sem]; done)
       clear hK' K' hF w
       try walk_nrm)
    | (refine o_cons (u_unwanted (by omega) rfl (by rfl) ?_)
       try walk_nrm))
  refine c_loop (fun a' l' => l' = lx ∧ ∃ k, k ≤ T.n ∧ Fr21 (bpt T.bT) (bpt T.bC) (bpt T.bV) (bpt T.bR) (.int .i64 (T.n : Nat)) (.int .i64 (k : Nat)) [] a') (fun a' _ => mu21 T.n a') ⟨rfl, 0, Nat.zero_le _, ?_⟩ ?_ ?_
  focus
    unfold bpt
    exact fitF rfl
  focus
    show T.n - 0 ≤ _
    have := M.ro.small
    omega
  intro a' l' hI
  obtain ⟨rfl, k, hkn, hfr⟩ := hI
  obtain ⟨xf, rfl⟩ := hfr
  rw [show mu21 T.n _ = T.n - k from rfl]
  have hns := M.ro.small
  have hw2 : IntKind.i64.wrap ((k : Int) + 1) = (k : Int) + 1 := by rw [IntKind.wrap_i64]; omega
  unfold bpt
  by_cases hlt : k < T.n
  · have hde : decide ((k : Int) < (T.n : Int)) = true := by simp; omega
    obtain ⟨hRk, hVk⟩ := M.done k (Sub.root M.ro.ok hlt)
    obtain ⟨v, hv⟩ : ∃ v, v = val T.n T.par T.own k := ⟨_, rfl⟩
    rw [← hv] at hVk
    have hvH : Hid (v = val T.n T.par T.own k) := hv
    clear hv
    repeat (first
      | (refine c_seq ?_)
      | (refine c_region ?_
         simp only [List.size_toArray, List.length_cons, List.length_nil, Nat.reduceAdd, Nat.zero_add, List.range, List.range.loop])
      | (refine o_nil ?_
         simp only [Thn, Inb, if_true, if_false, reduceIte, Nat.reduceEqDiff])
      | (refine c_skip ?_
         simp only [Thn, Inb, if_true, if_false, reduceIte, Nat.reduceEqDiff])
      | (refine c_cond true (by rfl) (fun _ => ?_) (fun e => by cases e))
      | (refine c_cond false (by rfl) (fun e => by cases e) (fun _ => ?_))
      | (refine c_block ?_)
      | (refine c_label ?_
         simp only [Thn, Inb, if_true, if_false, reduceIte, Nat.reduceEqDiff])
      | (refine c_scope ?_)
      | (refine o_cons (u_read (by omega) hactl rfl (by rfl) fun w hF K' hK' => ?_)
         go_simp
         refine hK' _ ⟨?_, ?_⟩
         focus
           rw [listed_nil]
           · simp
           · (simp [go_sem]; done)
         clear hK' K' hF w
         try walk_nrm)
      | (refine o_cons (u_unwanted (by omega) rfl (by rfl) ?_)
         try walk_nrm))
    refine c_draw hactl (fun S a lx => lx = l' ∧ Inv21 T k v S a lx) (back_of (by rfl)) ⟨rfl, _, _, _, _, _, _, _, _, _, _, _, _, _, _, _, _, _, (fitF rfl), trivial, by simp, by simp, by simp, by simp, by simp, by simp, by simp, by simp, by simp, by simp, by simp, by simp, by simp, by simp, by simp, by simp, by simp⟩ ?_ ?_
    · intro S a lx y o hI ho hSi hdep
      obtain ⟨rfl, y94, y95, y96, y97, y98, y99, y100, y101, y102, y103, y104, y105, y106, y107, y108, y109, y110, hfr, _, k0, k1, k2, k3, k4, k5, k6, k7, k8, k9, k10, k11, k12, k13, k14, k15, k16⟩ := hI
      obtain ⟨xf, rfl⟩ := hfr
      unfold bpt
      dsimp only
      rcases y with _ | _ | _ | _ | _ | _ | _ | _ | _ | _ | _ | _ | _ | _ | _ | _ | _ | y
      · -- 0
        simp only [List.getElem?_toArray, List.getElem?_cons_zero, List.getElem?_cons_succ, Option.some.injEq] at ho
        subst ho
        refine u_load (.slice (some ⟨T.R, 0, none⟩) T.n T.n) (by omega) hactl rfl (by rfl) rfl Try.underlying22 rfl rfl (.inr M.ro.bR) ?_
        exact ⟨(by first | rfl | trivial), _, _, _, _, _, _, _, _, _, _, _, _, _, _, _, _, _, (fitF rfl), trivial, fun _ => rfl, k1, k2, k3, k4, k5, k6, k7, k8, k9, k10, k11, k12, k13, k14, k15, k16⟩
      · -- 1
        simp only [List.getElem?_toArray, List.getElem?_cons_zero, List.getElem?_cons_succ, Option.some.injEq] at ho
        subst ho
        refine u_read (by omega) hactl rfl (by rfl) fun w hF K' hK' => ?_
        go_simp
        refine hK' _ ⟨?_, ?_⟩
        focus
          rw [listed_nil]
          · simp
          · (simp [go_sem]; done)
        clear hK' K' hF w
        exact ⟨(by first | rfl | trivial), _, _, _, _, _, _, _, _, _, _, _, _, _, _, _, _, _, (fitF rfl), trivial, k0, fun _ => rfl, k2, k3, k4, k5, k6, k7, k8, k9, k10, k11, k12, k13, k14, k15, k16⟩
      · -- 2
        simp only [List.getElem?_toArray, List.getElem?_cons_zero, List.getElem?_cons_succ, Option.some.injEq] at ho
        subst ho
        have s0 : S 0 = true := hdep ⟨0, .data⟩ (by simp) rfl
        obtain rfl := k0 s0
        have s1 : S 1 = true := hdep ⟨1, .data⟩ (by simp) rfl
        obtain rfl := k1 s1
        refine u_index (A := ⟨T.R, 0, none⟩) (n := T.n) (c := T.n) (k := .i64) (m := k) (by omega) rfl (by rfl) rfl Try.underlying22 (by rfl) rfl rfl hlt ?_
        exact ⟨(by first | rfl | trivial), _, _, _, _, _, _, _, _, _, _, _, _, _, _, _, _, _, (fitF rfl), trivial, k0, k1, fun _ => (by rw [Addr.add_lit, Nat.zero_add]), k3, k4, k5, k6, k7, k8, k9, k10, k11, k12, k13, k14, k15, k16⟩
      · -- 3
        simp only [List.getElem?_toArray, List.getElem?_cons_zero, List.getElem?_cons_succ, Option.some.injEq] at ho
        subst ho
        have s2 : S 2 = true := hdep ⟨2, .data⟩ (by simp) rfl
        obtain rfl := k2 s2
        refine u_load (.int .i64 1) (by omega) hactl rfl (by rfl) rfl Try.underlying3 rfl rfl (.inl hRk) ?_
        exact ⟨(by first | rfl | trivial), _, _, _, _, _, _, _, _, _, _, _, _, _, _, _, _, _, (fitF rfl), trivial, k0, k1, k2, fun _ => rfl, k4, k5, k6, k7, k8, k9, k10, k11, k12, k13, k14, k15, k16⟩
      · -- 4
        simp only [List.getElem?_toArray, List.getElem?_cons_zero, List.getElem?_cons_succ, Option.some.injEq] at ho
        subst ho
        have s3 : S 3 = true := hdep ⟨3, .data⟩ (by simp) rfl
        obtain rfl := k3 s3
        refine u_read (by omega) hactl rfl (by rfl) fun w hF K' hK' => ?_
        go_simp
        refine hK' _ ⟨?_, ?_⟩
        focus
          rw [listed_nil]
          · simp
          · (simp [go_sem]; done)
        clear hK' K' hF w
        exact ⟨(by first | rfl | trivial), _, _, _, _, _, _, _, _, _, _, _, _, _, _, _, _, _, (fitF rfl), trivial, k0, k1, k2, k3, fun _ => rfl, k5, k6, k7, k8, k9, k10, k11, k12, k13, k14, k15, k16⟩
      · -- 5
        simp only [List.getElem?_toArray, List.getElem?_cons_zero, List.getElem?_cons_succ, Option.some.injEq] at ho
        subst ho
        have s4 : S 4 = true := hdep ⟨4, .data⟩ (by simp) rfl
        obtain rfl := k4 s4
        refine u_read (by omega) hactl rfl (by rfl) fun w hF K' hK' => ?_
        go_simp
        refine hK' _ ⟨?_, ?_⟩
        focus
          rw [listed_nil]
          · simp
          · (simp [go_sem]; done)
        clear hK' K' hF w
        exact ⟨(by first | rfl | trivial), _, _, _, _, _, _, _, _, _, _, _, _, _, _, _, _, _, (fitF rfl), trivial, k0, k1, k2, k3, k4, fun _ => rfl, k6, k7, k8, k9, k10, k11, k12, k13, k14, k15, k16⟩
      · -- 6
        simp only [List.getElem?_toArray, List.getElem?_cons_zero, List.getElem?_cons_succ, Option.some.injEq] at ho
        subst ho
        have s5 : S 5 = true := hdep ⟨5, .guard⟩ (by simp) rfl
        obtain rfl := k5 s5
        refine u_load (.slice (some ⟨T.V, 0, none⟩) T.n T.n) (by omega) hactl rfl (by rfl) rfl Try.underlying22 rfl rfl (.inr M.ro.bV) ?_
        exact ⟨(by first | rfl | trivial), _, _, _, _, _, _, _, _, _, _, _, _, _, _, _, _, _, (fitF rfl), trivial, k0, k1, k2, k3, k4, k5, fun _ => rfl, k7, k8, k9, k10, k11, k12, k13, k14, k15, k16⟩
      · -- 7
        simp only [List.getElem?_toArray, List.getElem?_cons_zero, List.getElem?_cons_succ, Option.some.injEq] at ho
        subst ho
        have s5 : S 5 = true := hdep ⟨5, .guard⟩ (by simp) rfl
        obtain rfl := k5 s5
        refine u_read (by omega) hactl rfl (by rfl) fun w hF K' hK' => ?_
        go_simp
        refine hK' _ ⟨?_, ?_⟩
        focus
          rw [listed_nil]
          · simp
          · (simp [go_sem]; done)
        clear hK' K' hF w
        exact ⟨(by first | rfl | trivial), _, _, _, _, _, _, _, _, _, _, _, _, _, _, _, _, _, (fitF rfl), trivial, k0, k1, k2, k3, k4, k5, k6, fun _ => rfl, k8, k9, k10, k11, k12, k13, k14, k15, k16⟩
      · -- 8
        simp only [List.getElem?_toArray, List.getElem?_cons_zero, List.getElem?_cons_succ, Option.some.injEq] at ho
        subst ho
        have s6 : S 6 = true := hdep ⟨6, .data⟩ (by simp) rfl
        obtain rfl := k6 s6
        have s7 : S 7 = true := hdep ⟨7, .data⟩ (by simp) rfl
        obtain rfl := k7 s7
        have s5 : S 5 = true := hdep ⟨5, .guard⟩ (by simp) rfl
        obtain rfl := k5 s5
        refine u_index (A := ⟨T.V, 0, none⟩) (n := T.n) (c := T.n) (k := .i64) (m := k) (by omega) rfl (by rfl) rfl Try.underlying22 (by rfl) rfl rfl hlt ?_
        exact ⟨(by first | rfl | trivial), _, _, _, _, _, _, _, _, _, _, _, _, _, _, _, _, _, (fitF rfl), trivial, k0, k1, k2, k3, k4, k5, k6, k7, fun _ => (by rw [Addr.add_lit, Nat.zero_add]), k9, k10, k11, k12, k13, k14, k15, k16⟩
      · -- 9
        simp only [List.getElem?_toArray, List.getElem?_cons_zero, List.getElem?_cons_succ, Option.some.injEq] at ho
        subst ho
        have s8 : S 8 = true := hdep ⟨8, .data⟩ (by simp) rfl
        obtain rfl := k8 s8
        have s5 : S 5 = true := hdep ⟨5, .guard⟩ (by simp) rfl
        obtain rfl := k5 s5
        refine u_load (.int .i64 v) (by omega) hactl rfl (by rfl) rfl Try.underlying3 rfl rfl (.inl hVk) ?_
        exact ⟨(by first | rfl | trivial), _, _, _, _, _, _, _, _, _, _, _, _, _, _, _, _, _, (fitF rfl), trivial, k0, k1, k2, k3, k4, k5, k6, k7, k8, fun _ => rfl, k10, k11, k12, k13, k14, k15, k16⟩
      · -- 10
        simp only [List.getElem?_toArray, List.getElem?_cons_zero, List.getElem?_cons_succ, Option.some.injEq] at ho
        subst ho
        have s5 : S 5 = true := hdep ⟨5, .guard⟩ (by simp) rfl
        obtain rfl := k5 s5
        refine u_load (.slice (some ⟨T.Ch, 0, none⟩) T.n T.n) (by omega) hactl rfl (by rfl) rfl Try.underlying26 rfl rfl (.inr M.ro.bC) ?_
        exact ⟨(by first | rfl | trivial), _, _, _, _, _, _, _, _, _, _, _, _, _, _, _, _, _, (fitF rfl), trivial, k0, k1, k2, k3, k4, k5, k6, k7, k8, k9, fun _ => rfl, k11, k12, k13, k14, k15, k16⟩
      · -- 11
        simp only [List.getElem?_toArray, List.getElem?_cons_zero, List.getElem?_cons_succ, Option.some.injEq] at ho
        subst ho
        have s5 : S 5 = true := hdep ⟨5, .guard⟩ (by simp) rfl
        obtain rfl := k5 s5
        refine u_read (by omega) hactl rfl (by rfl) fun w hF K' hK' => ?_
        go_simp
        refine hK' _ ⟨?_, ?_⟩
        focus
          rw [listed_nil]
          · simp
          · (simp [go_sem]; done)
        clear hK' K' hF w
        exact ⟨(by first | rfl | trivial), _, _, _, _, _, _, _, _, _, _, _, _, _, _, _, _, _, (fitF rfl), trivial, k0, k1, k2, k3, k4, k5, k6, k7, k8, k9, k10, fun _ => rfl, k12, k13, k14, k15, k16⟩
      · -- 12
        simp only [List.getElem?_toArray, List.getElem?_cons_zero, List.getElem?_cons_succ, Option.some.injEq] at ho
        subst ho
        have s11 : S 11 = true := hdep ⟨11, .data⟩ (by simp) rfl
        obtain rfl := k11 s11
        have s5 : S 5 = true := hdep ⟨5, .guard⟩ (by simp) rfl
        obtain rfl := k5 s5
        refine u_load (.slice (some T.A) T.n T.co) (by omega) hactl rfl (by rfl) rfl Try.underlying22 rfl rfl (.inr M.ro.bT) ?_
        exact ⟨(by first | rfl | trivial), _, _, _, _, _, _, _, _, _, _, _, _, _, _, _, _, _, (fitF rfl), trivial, k0, k1, k2, k3, k4, k5, k6, k7, k8, k9, k10, k11, fun _ => rfl, k13, k14, k15, k16⟩
      · -- 13
        simp only [List.getElem?_toArray, List.getElem?_cons_zero, List.getElem?_cons_succ, Option.some.injEq] at ho
        subst ho
        have s5 : S 5 = true := hdep ⟨5, .guard⟩ (by simp) rfl
        obtain rfl := k5 s5
        refine u_read (by omega) hactl rfl (by rfl) fun w hF K' hK' => ?_
        go_simp
        refine hK' _ ⟨?_, ?_⟩
        focus
          rw [listed_nil]
          · simp
          · (simp [go_sem]; done)
        clear hK' K' hF w
        exact ⟨(by first | rfl | trivial), _, _, _, _, _, _, _, _, _, _, _, _, _, _, _, _, _, (fitF rfl), trivial, k0, k1, k2, k3, k4, k5, k6, k7, k8, k9, k10, k11, k12, fun _ => rfl, k14, k15, k16⟩
      · -- 14
        simp only [List.getElem?_toArray, List.getElem?_cons_zero, List.getElem?_cons_succ, Option.some.injEq] at ho
        subst ho
        have s10 : S 10 = true := hdep ⟨10, .data⟩ (by simp) rfl
        obtain rfl := k10 s10
        have s12 : S 12 = true := hdep ⟨12, .data⟩ (by simp) rfl
        obtain rfl := k12 s12
        have s13 : S 13 = true := hdep ⟨13, .data⟩ (by simp) rfl
        obtain rfl := k13 s13
        have s5 : S 5 = true := hdep ⟨5, .guard⟩ (by simp) rfl
        obtain rfl := k5 s5
        refine u_callx (n := n18) #[.slice (some ⟨T.Ch, 0, none⟩) T.n T.n, .slice (some T.A) T.n T.co, .int .i64 (k : Nat)] (by omega) rfl (by rfl) rfl (by walk_nrm) ?_
        refine h18 E lx T.n T.par T.own T.Ch T.n T.co T.A T.rb T.rc k _ hactl M.ro.small M.ro.ok M.ro.tree hlt (by have := M.ro.small; omega) ?_
        rw [← hvH.out]
        exact ⟨(by first | rfl | trivial), _, _, _, _, _, _, _, _, _, _, _, _, _, _, _, _, _, (fitF rfl), trivial, k0, k1, k2, k3, k4, k5, k6, k7, k8, k9, k10, k11, k12, k13, fun _ => rfl, k15, k16⟩
      · -- 15
        simp only [List.getElem?_toArray, List.getElem?_cons_zero, List.getElem?_cons_succ, Option.some.injEq] at ho
        subst ho
        have s9 : S 9 = true := hdep ⟨9, .data⟩ (by simp) rfl
        obtain rfl := k9 s9
        have s14 : S 14 = true := hdep ⟨14, .data⟩ (by simp) rfl
        obtain rfl := k14 s14
        have s5 : S 5 = true := hdep ⟨5, .guard⟩ (by simp) rfl
        obtain rfl := k5 s5
        have hd15 : (v != v) = false := by simp
        refine u_read (by omega) hactl rfl (by rfl) fun w hF K' hK' => ?_
        go_simp
        refine hK' _ ⟨?_, ?_⟩
        focus
          rw [listed_nil]
          · simp
          · (simp [go_sem]; done)
        clear hK' K' hF w
        exact ⟨(by first | rfl | trivial), _, _, _, _, _, _, _, _, _, _, _, _, _, _, _, _, _, (fitF rfl), trivial, k0, k1, k2, k3, k4, k5, k6, k7, k8, k9, k10, k11, k12, k13, k14, fun _ => rfl, k16⟩
      · -- 16
        simp only [List.getElem?_toArray, List.getElem?_cons_zero, List.getElem?_cons_succ, Option.some.injEq] at ho
        subst ho
        have s5 : S 5 = true := hdep ⟨5, .data⟩ (by simp) rfl
        obtain rfl := k5 s5
        have s15 : S 15 = true := hdep ⟨15, .data⟩ (by simp) rfl
        obtain rfl := k15 s15
        refine u_read (by omega) hactl rfl (by rfl) fun w hF K' hK' => ?_
        go_simp
        refine hK' _ ⟨?_, ?_⟩
        focus
          rw [listed_nil]
          · simp
          · (simp [go_sem]; done)
        clear hK' K' hF w
        exact ⟨(by first | rfl | trivial), _, _, _, _, _, _, _, _, _, _, _, _, _, _, _, _, _, (fitF rfl), trivial, k0, k1, k2, k3, k4, k5, k6, k7, k8, k9, k10, k11, k12, k13, k14, k15, fun _ => rfl⟩
      · simp at ho
    intro S a lx hI hall
    obtain ⟨rfl, y94, y95, y96, y97, y98, y99, y100, y101, y102, y103, y104, y105, y106, y107, y108, y109, y110, hfr, _, k0, k1, k2, k3, k4, k5, k6, k7, k8, k9, k10, k11, k12, k13, k14, k15, k16⟩ := hI
    obtain rfl := k16 (hall 16 (by decide))
    obtain ⟨xf, rfl⟩ := hfr
    clear k0 k1 k2 k3 k4 k5 k6 k7 k8 k9 k10 k11 k12 k13 k14 k15 k16 hall
    simp only [Thn]
    unfold bpt
    repeat (first
      | (refine c_seq ?_)
      | (refine c_region ?_
         simp only [List.size_toArray, List.length_cons, List.length_nil, Nat.reduceAdd, Nat.zero_add, List.range, List.range.loop])
      | (refine o_nil ?_
         simp only [Thn, Inb, if_true, if_false, reduceIte, Nat.reduceEqDiff])
      | (refine c_skip ?_
         simp only [Thn, Inb, if_true, if_false, reduceIte, Nat.reduceEqDiff])
      | (refine c_cond true (by rfl) (fun _ => ?_) (fun e => by cases e))
      | (refine c_cond false (by rfl) (fun e => by cases e) (fun _ => ?_))
      | (refine c_block ?_)
      | (refine c_label ?_
         simp only [Thn, Inb, if_true, if_false, reduceIte, Nat.reduceEqDiff])
      | (refine c_scope ?_)
      | (refine o_cons (u_read (by omega) hactl rfl (by rfl) fun w hF K' hK' => ?_)
         go_simp
         refine hK' _ ⟨?_, ?_⟩
         focus
           rw [listed_nil]
           · simp
           · (simp [go_sem]; done)
         clear hK' K' hF w
         try walk_nrm)
      | (refine o_cons (u_unwanted (by omega) rfl (by rfl) ?_)
         try walk_nrm))
    refine ⟨⟨(by first | rfl | trivial), k + 1, by omega, ?_⟩, ?_⟩
    · try unfold bpt
      exact fitF rfl
    · show T.n - (k + 1) < T.n - k
      omega
  have hde : decide ((k : Int) < (T.n : Int)) = false := by simp; omega
  repeat (first
    | (refine c_seq ?_)
    | (refine c_region ?_
       simp only [List.size_toArray, List.length_cons, List.length_nil, Nat.reduceAdd, Nat.zero_add, List.range, List.range.loop])
    | (refine o_nil ?_
       simp only [Thn, Inb, if_true, if_false, reduceIte, Nat.reduceEqDiff])
    | (refine c_skip ?_
       simp only [Thn, Inb, if_true, if_false, reduceIte, Nat.reduceEqDiff])
    | (refine c_cond true (by rfl) (fun _ => ?_) (fun e => by cases e))
    | (refine c_cond false (by rfl) (fun e => by cases e) (fun _ => ?_))
    | (refine c_block ?_)
    | (refine c_label ?_
       simp only [Thn, Inb, if_true, if_false, reduceIte, Nat.reduceEqDiff])
    | (refine c_scope ?_)
    | (refine o_cons (u_read (by omega) hactl rfl (by rfl) fun w hF K' hK' => ?_)
       go_simp
       refine hK' _ ⟨?_, ?_⟩
       focus
         rw [listed_nil]
         · simp
         · (simp [go_sem]; done)
       clear hK' K' hF w
       try walk_nrm)
    | (refine o_cons (u_unwanted (by omega) rfl (by rfl) ?_)
       try walk_nrm))
  refine c_exit ?_
  simp only [Thn, Inb, if_true, reduceIte]
  repeat (first
    | (refine c_seq ?_)
    | (refine c_region ?_
       simp only [List.size_toArray, List.length_cons, List.length_nil, Nat.reduceAdd, Nat.zero_add, List.range, List.range.loop])
    | (refine o_nil ?_
       simp only [Thn, Inb, if_true, if_false, reduceIte, Nat.reduceEqDiff])
    | (refine c_skip ?_
       simp only [Thn, Inb, if_true, if_false, reduceIte, Nat.reduceEqDiff])
    | (refine c_cond true (by rfl) (fun _ => ?_) (fun e => by cases e))
    | (refine c_cond false (by rfl) (fun e => by cases e) (fun _ => ?_))
    | (refine c_block ?_)
    | (refine c_label ?_
       simp only [Thn, Inb, if_true, if_false, reduceIte, Nat.reduceEqDiff])
    | (refine c_scope ?_)
    | (refine o_cons (u_read (by omega) hactl rfl (by rfl) fun w hF K' hK' => ?_)
       go_simp
       refine hK' _ ⟨?_, ?_⟩
       focus
         rw [listed_nil]
         · simp
         · (simp [go_sem]; done)
       clear hK' K' hF w
       try walk_nrm)
    | (refine o_cons (u_unwanted (by omega) rfl (by rfl) ?_)
       try walk_nrm))
  refine c_ret ?_
  refine ⟨rfl, _, resultsC_tmp (by rfl) _, ?_⟩
  exact hPost _ _ rfl M.calm

set_option maxHeartbeats 16000000 in
theorem tail16 : ∃ N, ∀ (E : En) (l : Lo) (T : Nest) (O : Nat) (a : Act) (c : Code), Try.f3.body = some c → E.i = 0 → Calm l → 1 ≤ T.n → NestRo T l → T.done 0 l.res.cells → l.res.cells ⟨O, 0, none⟩ = some (.int .i64 0) → l.res.tk (.begun T.p) = T.n → 1 ≤ l.pk T.p → Fr16 (bpt T.bT) (bpt T.bC) (bpt T.bP) (bpt T.bV) (bpt T.bR) (.slice (some ⟨O, 0, none⟩) 1 1) [] a →
    ∀ Post : Value → Lo → Prop, (∀ v l', v = .bool true → Calm l' → Post v l') → ∀ e, N ≤ e → E.C e 257 3 (dropSeq 12 c) (bodyPost Try.prog Try.f3 Post) a l := by
  obtain ⟨n13, h13⟩ := equal13 1
  obtain ⟨n14, h14⟩ := alive14
  obtain ⟨n15, h15⟩ := begun15
  obtain ⟨n16, h16⟩ := peak16
  obtain ⟨n17, h17⟩ := workers17
  obtain ⟨n18, h18⟩ := tail18
  refine ⟨n13 + n14 + n15 + n16 + n17 + n18 + 2, fun E l T O a c hc h0 hC hn hN hdone hO htk hpk hfr Post hPost e he => ?_⟩
  obtain rfl : _ = c := Option.some.inj hc
  have hact := hC.md
  have M0 : Mid T O l := ⟨hC, hN, hdone, hO, htk, hpk⟩
  clear hC hN hdone hO htk hpk
  obtain ⟨xf, rfl⟩ := hfr
  unfold dropSeq dropSeq dropSeq dropSeq dropSeq dropSeq dropSeq dropSeq dropSeq dropSeq dropSeq dropSeq dropSeq
  refine c_seq ?_
  refine c_seq ?_
  refine c_draw hact (Inv16 T O) (back_of (by rfl)) ⟨_, _, _, _, _, _, _, _, _, _, _, _, _, _, _, _, _, _, _, _, _, _, _, _, _, _, _, _, _, (fitF rfl), M0, by simp, by simp, by simp, by simp, by simp, by simp, by simp, by simp, by simp, by simp, by simp, by simp, by simp, by simp, by simp, by simp, by simp, by simp, by simp, by simp, by simp, by simp, by simp, by simp, by simp, by simp, by simp, by simp, by simp⟩ ?_ ?_
  · intro S a lx y o hI ho hSi hdep
    obtain ⟨y59, y60, y61, y62, y63, y64, y65, y66, y67, y68, y69, y70, y71, y72, y73, y74, y75, y76, y77, y78, y79, y80, y81, y82, y83, y84, y85, y86, y87, hfr, M, k0, k1, k2, k3, k4, k5, k6, k7, k8, k9, k10, k11, k12, k13, k14, k15, k16, k17, k18, k19, k20, k21, k22, k23, k24, k25, k26, k27, k28⟩ := hI
    have hactl := M.calm.md
    obtain ⟨xf, rfl⟩ := hfr
    unfold bpt
    dsimp only
    rcases y with _ | _ | _ | _ | _ | _ | _ | _ | _ | _ | _ | _ | _ | _ | _ | _ | _ | _ | _ | _ | _ | _ | _ | _ | _ | _ | _ | _ | _ | y
    · -- 0
      simp only [List.getElem?_toArray, List.getElem?_cons_zero, List.getElem?_cons_succ, Option.some.injEq] at ho
      subst ho
      refine u_read (by omega) hactl rfl (by rfl) fun w hF K' hK' => ?_
      go_simp
      refine hK' _ ⟨?_, ?_⟩
      focus
        rw [listed_nil]
        · simp
        · (simp [go_sem]; done)
      clear hK' K' hF w
      exact ⟨_, _, _, _, _, _, _, _, _, _, _, _, _, _, _, _, _, _, _, _, _, _, _, _, _, _, _, _, _, (fitF rfl), M, fun _ => rfl, k1, k2, k3, k4, k5, k6, k7, k8, k9, k10, k11, k12, k13, k14, k15, k16, k17, k18, k19, k20, k21, k22, k23, k24, k25, k26, k27, k28⟩
    · -- 1
      simp only [List.getElem?_toArray, List.getElem?_cons_zero, List.getElem?_cons_succ, Option.some.injEq] at ho
      subst ho
      refine u_new (by omega) hactl rfl (by rfl) (.cells #[.int .i64 0] 32) (fun r => .slice (some ⟨r, 0, none⟩) 1 1) (fun r => lx.addc r #[.int .i64 0]) (fun w => by simp [go_sem]) (fun w => by simp [go_sem]) (new_cells hactl _ _) fun B hB => ?_
      exact ⟨_, _, _, _, _, _, _, _, _, _, _, _, _, _, _, _, _, _, _, _, _, _, _, _, _, _, _, _, _, (fitF rfl), M.addc hB _, k0, fun _ => ⟨B, rfl, by rw [addc_new]; rfl⟩, k2, k3, k4, k5, k6, k7, k8, k9, k10, k11, k12, k13, k14, k15, k16, k17, k18, k19, k20, k21, k22, k23, k24, k25, k26, k27, k28⟩
    · -- 2
      simp only [List.getElem?_toArray, List.getElem?_cons_zero, List.getElem?_cons_succ, Option.some.injEq] at ho
      subst ho
      have s0 : S 0 = true := hdep ⟨0, .data⟩ (by simp) rfl
      obtain rfl := k0 s0
      have s1 : S 1 = true := hdep ⟨1, .data⟩ (by simp) rfl
      obtain ⟨B, rfl, hB⟩ := k1 s1
      refine u_callx (n := n13) #[.slice (some ⟨O, 0, none⟩) 1 1, .slice (some ⟨B, 0, none⟩) 1 1] (by omega) rfl (by rfl) rfl (by walk_nrm) ?_
      refine h13 E ⟨O, 0, none⟩ ⟨B, 0, none⟩ 1 1 (fun _ => 0) lx _ (by omega) hactl (fun j hj => ?_) (fun j hj => ?_) ?_
      · obtain rfl : j = 0 := by omega
        rw [Addr.add_lit]; exact M.out
      · obtain rfl : j = 0 := by omega
        rw [Addr.add_lit]; exact hB
      exact ⟨_, _, _, _, _, _, _, _, _, _, _, _, _, _, _, _, _, _, _, _, _, _, _, _, _, _, _, _, _, (fitF rfl), M, k0, k1, fun _ => rfl, k3, k4, k5, k6, k7, k8, k9, k10, k11, k12, k13, k14, k15, k16, k17, k18, k19, k20, k21, k22, k23, k24, k25, k26, k27, k28⟩
    · -- 3
      simp only [List.getElem?_toArray, List.getElem?_cons_zero, List.getElem?_cons_succ, Option.some.injEq] at ho
      subst ho
      have s2 : S 2 = true := hdep ⟨2, .data⟩ (by simp) rfl
      obtain rfl := k2 s2
      refine u_read (by omega) hactl rfl (by rfl) fun w hF K' hK' => ?_
      go_simp
      refine hK' _ ⟨?_, ?_⟩
      focus
        rw [listed_nil]
        · simp
        · (simp [go_sem]; done)
      clear hK' K' hF w
      exact ⟨_, _, _, _, _, _, _, _, _, _, _, _, _, _, _, _, _, _, _, _, _, _, _, _, _, _, _, _, _, (fitF rfl), M, k0, k1, k2, fun _ => rfl, k4, k5, k6, k7, k8, k9, k10, k11, k12, k13, k14, k15, k16, k17, k18, k19, k20, k21, k22, k23, k24, k25, k26, k27, k28⟩
    · -- 4
      simp only [List.getElem?_toArray, List.getElem?_cons_zero, List.getElem?_cons_succ, Option.some.injEq] at ho
      subst ho
      have s3 : S 3 = true := hdep ⟨3, .data⟩ (by simp) rfl
      obtain rfl := k3 s3
      refine u_read (by omega) hactl rfl (by rfl) fun w hF K' hK' => ?_
      go_simp
      refine hK' _ ⟨?_, ?_⟩
      focus
        rw [listed_nil]
        · simp
        · (simp [go_sem]; done)
      clear hK' K' hF w
      exact ⟨_, _, _, _, _, _, _, _, _, _, _, _, _, _, _, _, _, _, _, _, _, _, _, _, _, _, _, _, _, (fitF rfl), M, k0, k1, k2, k3, fun _ => rfl, k5, k6, k7, k8, k9, k10, k11, k12, k13, k14, k15, k16, k17, k18, k19, k20, k21, k22, k23, k24, k25, k26, k27, k28⟩
    · -- 5
      simp only [List.getElem?_toArray, List.getElem?_cons_zero, List.getElem?_cons_succ, Option.some.injEq] at ho
      subst ho
      have s4 : S 4 = true := hdep ⟨4, .guard⟩ (by simp) rfl
      obtain rfl := k4 s4
      refine u_load (.pointer (some ⟨T.p, 0, none⟩)) (by omega) hactl rfl (by rfl) rfl Try.underlying29 rfl rfl (.inr M.ro.bP) ?_
      exact ⟨_, _, _, _, _, _, _, _, _, _, _, _, _, _, _, _, _, _, _, _, _, _, _, _, _, _, _, _, _, (fitF rfl), M, k0, k1, k2, k3, k4, fun _ => rfl, k6, k7, k8, k9, k10, k11, k12, k13, k14, k15, k16, k17, k18, k19, k20, k21, k22, k23, k24, k25, k26, k27, k28⟩
    · -- 6
      simp only [List.getElem?_toArray, List.getElem?_cons_zero, List.getElem?_cons_succ, Option.some.injEq] at ho
      subst ho
      have s5 : S 5 = true := hdep ⟨5, .data⟩ (by simp) rfl
      obtain rfl := k5 s5
      have s4 : S 4 = true := hdep ⟨4, .guard⟩ (by simp) rfl
      obtain rfl := k4 s4
      refine u_callx (n := n14) #[.pointer (some ⟨T.p, 0, none⟩)] (by omega) rfl (by rfl) rfl (by walk_nrm) ?_
      have hal := (M.calm.slot0 T.p).2
      refine h14 E T.p T.ch T.cap false lx _ h0 hactl M.ro.pl M.calm.solo (by rw [hal]; omega) ?_
      rw [hal]
      exact ⟨_, _, _, _, _, _, _, _, _, _, _, _, _, _, _, _, _, _, _, _, _, _, _, _, _, _, _, _, _, (fitF rfl), M, k0, k1, k2, k3, k4, k5, fun _ => rfl, k7, k8, k9, k10, k11, k12, k13, k14, k15, k16, k17, k18, k19, k20, k21, k22, k23, k24, k25, k26, k27, k28⟩
    · -- 7
      simp only [List.getElem?_toArray, List.getElem?_cons_zero, List.getElem?_cons_succ, Option.some.injEq] at ho
      subst ho
      have s6 : S 6 = true := hdep ⟨6, .data⟩ (by simp) rfl
      obtain rfl := k6 s6
      have s4 : S 4 = true := hdep ⟨4, .guard⟩ (by simp) rfl
      obtain rfl := k4 s4
      refine u_read (by omega) hactl rfl (by rfl) fun w hF K' hK' => ?_
      go_simp
      refine hK' _ ⟨?_, ?_⟩
      focus
        rw [listed_nil]
        · simp
        · (simp [go_sem]; done)
      clear hK' K' hF w
      exact ⟨_, _, _, _, _, _, _, _, _, _, _, _, _, _, _, _, _, _, _, _, _, _, _, _, _, _, _, _, _, (fitF rfl), M, k0, k1, k2, k3, k4, k5, k6, fun _ => rfl, k8, k9, k10, k11, k12, k13, k14, k15, k16, k17, k18, k19, k20, k21, k22, k23, k24, k25, k26, k27, k28⟩
    · -- 8
      simp only [List.getElem?_toArray, List.getElem?_cons_zero, List.getElem?_cons_succ, Option.some.injEq] at ho
      subst ho
      have s4 : S 4 = true := hdep ⟨4, .data⟩ (by simp) rfl
      obtain rfl := k4 s4
      have s7 : S 7 = true := hdep ⟨7, .data⟩ (by simp) rfl
      obtain rfl := k7 s7
      refine u_read (by omega) hactl rfl (by rfl) fun w hF K' hK' => ?_
      go_simp
      refine hK' _ ⟨?_, ?_⟩
      focus
        rw [listed_nil]
        · simp
        · (simp [go_sem]; done)
      clear hK' K' hF w
      exact ⟨_, _, _, _, _, _, _, _, _, _, _, _, _, _, _, _, _, _, _, _, _, _, _, _, _, _, _, _, _, (fitF rfl), M, k0, k1, k2, k3, k4, k5, k6, k7, fun _ => rfl, k9, k10, k11, k12, k13, k14, k15, k16, k17, k18, k19, k20, k21, k22, k23, k24, k25, k26, k27, k28⟩
    · -- 9
      simp only [List.getElem?_toArray, List.getElem?_cons_zero, List.getElem?_cons_succ, Option.some.injEq] at ho
      subst ho
      have s8 : S 8 = true := hdep ⟨8, .data⟩ (by simp) rfl
      obtain rfl := k8 s8
      refine u_read (by omega) hactl rfl (by rfl) fun w hF K' hK' => ?_
      go_simp
      refine hK' _ ⟨?_, ?_⟩
      focus
        rw [listed_nil]
        · simp
        · (simp [go_sem]; done)
      clear hK' K' hF w
      exact ⟨_, _, _, _, _, _, _, _, _, _, _, _, _, _, _, _, _, _, _, _, _, _, _, _, _, _, _, _, _, (fitF rfl), M, k0, k1, k2, k3, k4, k5, k6, k7, k8, fun _ => rfl, k10, k11, k12, k13, k14, k15, k16, k17, k18, k19, k20, k21, k22, k23, k24, k25, k26, k27, k28⟩
    · -- 10
      simp only [List.getElem?_toArray, List.getElem?_cons_zero, List.getElem?_cons_succ, Option.some.injEq] at ho
      subst ho
      have s9 : S 9 = true := hdep ⟨9, .guard⟩ (by simp) rfl
      obtain rfl := k9 s9
      refine u_load (.pointer (some ⟨T.p, 0, none⟩)) (by omega) hactl rfl (by rfl) rfl Try.underlying29 rfl rfl (.inr M.ro.bP) ?_
      exact ⟨_, _, _, _, _, _, _, _, _, _, _, _, _, _, _, _, _, _, _, _, _, _, _, _, _, _, _, _, _, (fitF rfl), M, k0, k1, k2, k3, k4, k5, k6, k7, k8, k9, fun _ => rfl, k11, k12, k13, k14, k15, k16, k17, k18, k19, k20, k21, k22, k23, k24, k25, k26, k27, k28⟩
    · -- 11
      simp only [List.getElem?_toArray, List.getElem?_cons_zero, List.getElem?_cons_succ, Option.some.injEq] at ho
      subst ho
      have s10 : S 10 = true := hdep ⟨10, .data⟩ (by simp) rfl
      obtain rfl := k10 s10
      have s9 : S 9 = true := hdep ⟨9, .guard⟩ (by simp) rfl
      obtain rfl := k9 s9
      refine u_callx (n := n15) #[.pointer (some ⟨T.p, 0, none⟩)] (by omega) rfl (by rfl) rfl (by walk_nrm) ?_
      have htk := M.tk
      have hns := M.ro.small
      refine h15 E T.p T.ch T.cap false lx _ h0 hactl M.ro.pl M.calm.solo (by rw [htk]; omega) ?_
      rw [htk]
      exact ⟨_, _, _, _, _, _, _, _, _, _, _, _, _, _, _, _, _, _, _, _, _, _, _, _, _, _, _, _, _, (fitF rfl), M, k0, k1, k2, k3, k4, k5, k6, k7, k8, k9, k10, fun _ => rfl, k12, k13, k14, k15, k16, k17, k18, k19, k20, k21, k22, k23, k24, k25, k26, k27, k28⟩
    · -- 12
      simp only [List.getElem?_toArray, List.getElem?_cons_zero, List.getElem?_cons_succ, Option.some.injEq] at ho
      subst ho
      have s9 : S 9 = true := hdep ⟨9, .guard⟩ (by simp) rfl
      obtain rfl := k9 s9
      refine u_read (by omega) hactl rfl (by rfl) fun w hF K' hK' => ?_
      go_simp
      refine hK' _ ⟨?_, ?_⟩
      focus
        rw [listed_nil]
        · simp
        · (simp [go_sem]; done)
      clear hK' K' hF w
      exact ⟨_, _, _, _, _, _, _, _, _, _, _, _, _, _, _, _, _, _, _, _, _, _, _, _, _, _, _, _, _, (fitF rfl), M, k0, k1, k2, k3, k4, k5, k6, k7, k8, k9, k10, k11, fun _ => rfl, k13, k14, k15, k16, k17, k18, k19, k20, k21, k22, k23, k24, k25, k26, k27, k28⟩
    · -- 13
      simp only [List.getElem?_toArray, List.getElem?_cons_zero, List.getElem?_cons_succ, Option.some.injEq] at ho
      subst ho
      have s12 : S 12 = true := hdep ⟨12, .data⟩ (by simp) rfl
      obtain rfl := k12 s12
      have s9 : S 9 = true := hdep ⟨9, .guard⟩ (by simp) rfl
      obtain rfl := k9 s9
      refine u_load (.slice (some T.A) T.n T.co) (by omega) hactl rfl (by rfl) rfl Try.underlying22 rfl rfl (.inr M.ro.bT) ?_
      exact ⟨_, _, _, _, _, _, _, _, _, _, _, _, _, _, _, _, _, _, _, _, _, _, _, _, _, _, _, _, _, (fitF rfl), M, k0, k1, k2, k3, k4, k5, k6, k7, k8, k9, k10, k11, k12, fun _ => rfl, k14, k15, k16, k17, k18, k19, k20, k21, k22, k23, k24, k25, k26, k27, k28⟩
    · -- 14
      simp only [List.getElem?_toArray, List.getElem?_cons_zero, List.getElem?_cons_succ, Option.some.injEq] at ho
      subst ho
      have s13 : S 13 = true := hdep ⟨13, .data⟩ (by simp) rfl
      obtain rfl := k13 s13
      have s9 : S 9 = true := hdep ⟨9, .guard⟩ (by simp) rfl
      obtain rfl := k9 s9
      refine u_read (by omega) hactl rfl (by rfl) fun w hF K' hK' => ?_
      go_simp
      refine hK' _ ⟨?_, ?_⟩
      focus
        rw [listed_nil]
        · simp
        · (simp [go_sem]; done)
      clear hK' K' hF w
      exact ⟨_, _, _, _, _, _, _, _, _, _, _, _, _, _, _, _, _, _, _, _, _, _, _, _, _, _, _, _, _, (fitF rfl), M, k0, k1, k2, k3, k4, k5, k6, k7, k8, k9, k10, k11, k12, k13, fun _ => rfl, k15, k16, k17, k18, k19, k20, k21, k22, k23, k24, k25, k26, k27, k28⟩
    · -- 15
      simp only [List.getElem?_toArray, List.getElem?_cons_zero, List.getElem?_cons_succ, Option.some.injEq] at ho
      subst ho
      have s11 : S 11 = true := hdep ⟨11, .data⟩ (by simp) rfl
      obtain rfl := k11 s11
      have s14 : S 14 = true := hdep ⟨14, .data⟩ (by simp) rfl
      obtain rfl := k14 s14
      have s9 : S 9 = true := hdep ⟨9, .guard⟩ (by simp) rfl
      obtain rfl := k9 s9
      have hd15 : ((T.n : Int) != (T.n : Int)) = false := by simp
      refine u_read (by omega) hactl rfl (by rfl) fun w hF K' hK' => ?_
      go_simp
      refine hK' _ ⟨?_, ?_⟩
      focus
        rw [listed_nil]
        · simp
        · (simp [go_sem]; done)
      clear hK' K' hF w
      exact ⟨_, _, _, _, _, _, _, _, _, _, _, _, _, _, _, _, _, _, _, _, _, _, _, _, _, _, _, _, _, (fitF rfl), M, k0, k1, k2, k3, k4, k5, k6, k7, k8, k9, k10, k11, k12, k13, k14, fun _ => rfl, k16, k17, k18, k19, k20, k21, k22, k23, k24, k25, k26, k27, k28⟩
    · -- 16
      simp only [List.getElem?_toArray, List.getElem?_cons_zero, List.getElem?_cons_succ, Option.some.injEq] at ho
      subst ho
      have s9 : S 9 = true := hdep ⟨9, .data⟩ (by simp) rfl
      obtain rfl := k9 s9
      have s15 : S 15 = true := hdep ⟨15, .data⟩ (by simp) rfl
      obtain rfl := k15 s15
      refine u_read (by omega) hactl rfl (by rfl) fun w hF K' hK' => ?_
      go_simp
      refine hK' _ ⟨?_, ?_⟩
      focus
        rw [listed_nil]
        · simp
        · (simp [go_sem]; done)
      clear hK' K' hF w
      exact ⟨_, _, _, _, _, _, _, _, _, _, _, _, _, _, _, _, _, _, _, _, _, _, _, _, _, _, _, _, _, (fitF rfl), M, k0, k1, k2, k3, k4, k5, k6, k7, k8, k9, k10, k11, k12, k13, k14, k15, fun _ => rfl, k17, k18, k19, k20, k21, k22, k23, k24, k25, k26, k27, k28⟩
    · -- 17
      simp only [List.getElem?_toArray, List.getElem?_cons_zero, List.getElem?_cons_succ, Option.some.injEq] at ho
      subst ho
      have s16 : S 16 = true := hdep ⟨16, .data⟩ (by simp) rfl
      obtain rfl := k16 s16
      refine u_read (by omega) hactl rfl (by rfl) fun w hF K' hK' => ?_
      go_simp
      refine hK' _ ⟨?_, ?_⟩
      focus
        rw [listed_nil]
        · simp
        · (simp [go_sem]; done)
      clear hK' K' hF w
      exact ⟨_, _, _, _, _, _, _, _, _, _, _, _, _, _, _, _, _, _, _, _, _, _, _, _, _, _, _, _, _, (fitF rfl), M, k0, k1, k2, k3, k4, k5, k6, k7, k8, k9, k10, k11, k12, k13, k14, k15, k16, fun _ => rfl, k18, k19, k20, k21, k22, k23, k24, k25, k26, k27, k28⟩
    · -- 18
      simp only [List.getElem?_toArray, List.getElem?_cons_zero, List.getElem?_cons_succ, Option.some.injEq] at ho
      subst ho
      have s17 : S 17 = true := hdep ⟨17, .guard⟩ (by simp) rfl
      obtain rfl := k17 s17
      refine u_load (.pointer (some ⟨T.p, 0, none⟩)) (by omega) hactl rfl (by rfl) rfl Try.underlying29 rfl rfl (.inr M.ro.bP) ?_
      exact ⟨_, _, _, _, _, _, _, _, _, _, _, _, _, _, _, _, _, _, _, _, _, _, _, _, _, _, _, _, _, (fitF rfl), M, k0, k1, k2, k3, k4, k5, k6, k7, k8, k9, k10, k11, k12, k13, k14, k15, k16, k17, fun _ => rfl, k19, k20, k21, k22, k23, k24, k25, k26, k27, k28⟩
    · -- 19
      simp only [List.getElem?_toArray, List.getElem?_cons_zero, List.getElem?_cons_succ, Option.some.injEq] at ho
      subst ho
      have s18 : S 18 = true := hdep ⟨18, .data⟩ (by simp) rfl
      obtain rfl := k18 s18
      have s17 : S 17 = true := hdep ⟨17, .guard⟩ (by simp) rfl
      obtain rfl := k17 s17
      refine u_callx (n := n16) #[.pointer (some ⟨T.p, 0, none⟩)] (by omega) rfl (by rfl) rfl (by walk_nrm) ?_
      refine h16 E T.p T.ch T.cap false lx _ hactl M.ro.pl fun m hm1 hm2 => ?_
      exact ⟨_, _, _, _, _, _, _, _, _, _, _, _, _, _, _, _, _, _, _, _, _, _, _, _, _, _, _, _, _, (fitF rfl), M.pkd hm1, k0, k1, k2, k3, k4, k5, k6, k7, k8, k9, k10, k11, k12, k13, k14, k15, k16, k17, k18, fun _ => ⟨m, Nat.le_trans M.pk hm1, hm2, rfl⟩, k20, k21, k22, k23, k24, k25, k26, k27, k28⟩
    · -- 20
      simp only [List.getElem?_toArray, List.getElem?_cons_zero, List.getElem?_cons_succ, Option.some.injEq] at ho
      subst ho
      have s19 : S 19 = true := hdep ⟨19, .data⟩ (by simp) rfl
      obtain ⟨m1, hm1, hm1', rfl⟩ := k19 s19
      have s17 : S 17 = true := hdep ⟨17, .guard⟩ (by simp) rfl
      obtain rfl := k17 s17
      have hd20 : decide ((m1 : Int) < 1) = false := by simp; omega
      refine u_read (by omega) hactl rfl (by rfl) fun w hF K' hK' => ?_
      go_simp
      refine hK' _ ⟨?_, ?_⟩
      focus
        rw [listed_nil]
        · simp
        · (simp [go_sem]; done)
      clear hK' K' hF w
      exact ⟨_, _, _, _, _, _, _, _, _, _, _, _, _, _, _, _, _, _, _, _, _, _, _, _, _, _, _, _, _, (fitF rfl), M, k0, k1, k2, k3, k4, k5, k6, k7, k8, k9, k10, k11, k12, k13, k14, k15, k16, k17, k18, k19, fun _ => rfl, k21, k22, k23, k24, k25, k26, k27, k28⟩
    · -- 21
      simp only [List.getElem?_toArray, List.getElem?_cons_zero, List.getElem?_cons_succ, Option.some.injEq] at ho
      subst ho
      have s17 : S 17 = true := hdep ⟨17, .data⟩ (by simp) rfl
      obtain rfl := k17 s17
      have s20 : S 20 = true := hdep ⟨20, .data⟩ (by simp) rfl
      obtain rfl := k20 s20
      refine u_read (by omega) hactl rfl (by rfl) fun w hF K' hK' => ?_
      go_simp
      refine hK' _ ⟨?_, ?_⟩
      focus
        rw [listed_nil]
        · simp
        · (simp [go_sem]; done)
      clear hK' K' hF w
      exact ⟨_, _, _, _, _, _, _, _, _, _, _, _, _, _, _, _, _, _, _, _, _, _, _, _, _, _, _, _, _, (fitF rfl), M, k0, k1, k2, k3, k4, k5, k6, k7, k8, k9, k10, k11, k12, k13, k14, k15, k16, k17, k18, k19, k20, fun _ => rfl, k22, k23, k24, k25, k26, k27, k28⟩
    · -- 22
      simp only [List.getElem?_toArray, List.getElem?_cons_zero, List.getElem?_cons_succ, Option.some.injEq] at ho
      subst ho
      have s21 : S 21 = true := hdep ⟨21, .data⟩ (by simp) rfl
      obtain rfl := k21 s21
      refine u_read (by omega) hactl rfl (by rfl) fun w hF K' hK' => ?_
      go_simp
      refine hK' _ ⟨?_, ?_⟩
      focus
        rw [listed_nil]
        · simp
        · (simp [go_sem]; done)
      clear hK' K' hF w
      exact ⟨_, _, _, _, _, _, _, _, _, _, _, _, _, _, _, _, _, _, _, _, _, _, _, _, _, _, _, _, _, (fitF rfl), M, k0, k1, k2, k3, k4, k5, k6, k7, k8, k9, k10, k11, k12, k13, k14, k15, k16, k17, k18, k19, k20, k21, fun _ => rfl, k23, k24, k25, k26, k27, k28⟩
    · -- 23
      simp only [List.getElem?_toArray, List.getElem?_cons_zero, List.getElem?_cons_succ, Option.some.injEq] at ho
      subst ho
      have s22 : S 22 = true := hdep ⟨22, .guard⟩ (by simp) rfl
      obtain rfl := k22 s22
      refine u_load (.pointer (some ⟨T.p, 0, none⟩)) (by omega) hactl rfl (by rfl) rfl Try.underlying29 rfl rfl (.inr M.ro.bP) ?_
      exact ⟨_, _, _, _, _, _, _, _, _, _, _, _, _, _, _, _, _, _, _, _, _, _, _, _, _, _, _, _, _, (fitF rfl), M, k0, k1, k2, k3, k4, k5, k6, k7, k8, k9, k10, k11, k12, k13, k14, k15, k16, k17, k18, k19, k20, k21, k22, fun _ => rfl, k24, k25, k26, k27, k28⟩
    · -- 24
      simp only [List.getElem?_toArray, List.getElem?_cons_zero, List.getElem?_cons_succ, Option.some.injEq] at ho
      subst ho
      have s23 : S 23 = true := hdep ⟨23, .data⟩ (by simp) rfl
      obtain rfl := k23 s23
      have s22 : S 22 = true := hdep ⟨22, .guard⟩ (by simp) rfl
      obtain rfl := k22 s22
      refine u_callx (n := n16) #[.pointer (some ⟨T.p, 0, none⟩)] (by omega) rfl (by rfl) rfl (by walk_nrm) ?_
      refine h16 E T.p T.ch T.cap false lx _ hactl M.ro.pl fun m hm1 hm2 => ?_
      exact ⟨_, _, _, _, _, _, _, _, _, _, _, _, _, _, _, _, _, _, _, _, _, _, _, _, _, _, _, _, _, (fitF rfl), M.pkd hm1, k0, k1, k2, k3, k4, k5, k6, k7, k8, k9, k10, k11, k12, k13, k14, k15, k16, k17, k18, k19, k20, k21, k22, k23, fun _ => ⟨m, hm2, rfl⟩, k25, k26, k27, k28⟩
    · -- 25
      simp only [List.getElem?_toArray, List.getElem?_cons_zero, List.getElem?_cons_succ, Option.some.injEq] at ho
      subst ho
      have s22 : S 22 = true := hdep ⟨22, .guard⟩ (by simp) rfl
      obtain rfl := k22 s22
      refine u_load (.pointer (some ⟨T.p, 0, none⟩)) (by omega) hactl rfl (by rfl) rfl Try.underlying29 rfl rfl (.inr M.ro.bP) ?_
      exact ⟨_, _, _, _, _, _, _, _, _, _, _, _, _, _, _, _, _, _, _, _, _, _, _, _, _, _, _, _, _, (fitF rfl), M, k0, k1, k2, k3, k4, k5, k6, k7, k8, k9, k10, k11, k12, k13, k14, k15, k16, k17, k18, k19, k20, k21, k22, k23, k24, fun _ => rfl, k26, k27, k28⟩
    · -- 26
      simp only [List.getElem?_toArray, List.getElem?_cons_zero, List.getElem?_cons_succ, Option.some.injEq] at ho
      subst ho
      have s25 : S 25 = true := hdep ⟨25, .data⟩ (by simp) rfl
      obtain rfl := k25 s25
      have s22 : S 22 = true := hdep ⟨22, .guard⟩ (by simp) rfl
      obtain rfl := k22 s22
      refine u_callx (n := n17) #[.pointer (some ⟨T.p, 0, none⟩)] (by omega) rfl (by rfl) rfl (by walk_nrm) ?_
      refine h17 E T.p T.ch T.cap false lx _ hactl M.ro.pl M.ro.pch ?_
      exact ⟨_, _, _, _, _, _, _, _, _, _, _, _, _, _, _, _, _, _, _, _, _, _, _, _, _, _, _, _, _, (fitF rfl), M, k0, k1, k2, k3, k4, k5, k6, k7, k8, k9, k10, k11, k12, k13, k14, k15, k16, k17, k18, k19, k20, k21, k22, k23, k24, k25, fun _ => rfl, k27, k28⟩
    · -- 27
      simp only [List.getElem?_toArray, List.getElem?_cons_zero, List.getElem?_cons_succ, Option.some.injEq] at ho
      subst ho
      have s24 : S 24 = true := hdep ⟨24, .data⟩ (by simp) rfl
      obtain ⟨m2, hm2, rfl⟩ := k24 s24
      have s26 : S 26 = true := hdep ⟨26, .data⟩ (by simp) rfl
      obtain rfl := k26 s26
      have s22 : S 22 = true := hdep ⟨22, .guard⟩ (by simp) rfl
      obtain rfl := k22 s22
      have hd27 : decide ((T.cap : Int) < (m2 : Int)) = false := by simp; omega
      refine u_read (by omega) hactl rfl (by rfl) fun w hF K' hK' => ?_
      go_simp
      refine hK' _ ⟨?_, ?_⟩
      focus
        rw [listed_nil]
        · simp
        · (simp [go_sem]; done)
      clear hK' K' hF w
      exact ⟨_, _, _, _, _, _, _, _, _, _, _, _, _, _, _, _, _, _, _, _, _, _, _, _, _, _, _, _, _, (fitF rfl), M, k0, k1, k2, k3, k4, k5, k6, k7, k8, k9, k10, k11, k12, k13, k14, k15, k16, k17, k18, k19, k20, k21, k22, k23, k24, k25, k26, fun _ => (by simp; omega), k28⟩
    · -- 28
      simp only [List.getElem?_toArray, List.getElem?_cons_zero, List.getElem?_cons_succ, Option.some.injEq] at ho
      subst ho
      have s22 : S 22 = true := hdep ⟨22, .data⟩ (by simp) rfl
      obtain rfl := k22 s22
      have s27 : S 27 = true := hdep ⟨27, .data⟩ (by simp) rfl
      obtain rfl := k27 s27
      refine u_read (by omega) hactl rfl (by rfl) fun w hF K' hK' => ?_
      go_simp
      refine hK' _ ⟨?_, ?_⟩
      focus
        rw [listed_nil]
        · simp
        · (simp [go_sem]; done)
      clear hK' K' hF w
      exact ⟨_, _, _, _, _, _, _, _, _, _, _, _, _, _, _, _, _, _, _, _, _, _, _, _, _, _, _, _, _, (fitF rfl), M, k0, k1, k2, k3, k4, k5, k6, k7, k8, k9, k10, k11, k12, k13, k14, k15, k16, k17, k18, k19, k20, k21, k22, k23, k24, k25, k26, k27, fun _ => rfl⟩
    · simp at ho
  intro S a lx hI hall
  obtain ⟨y59, y60, y61, y62, y63, y64, y65, y66, y67, y68, y69, y70, y71, y72, y73, y74, y75, y76, y77, y78, y79, y80, y81, y82, y83, y84, y85, y86, y87, hfr, M, k0, k1, k2, k3, k4, k5, k6, k7, k8, k9, k10, k11, k12, k13, k14, k15, k16, k17, k18, k19, k20, k21, k22, k23, k24, k25, k26, k27, k28⟩ := hI
  obtain rfl := k28 (hall 28 (by decide))
  have hactl := M.calm.md
  obtain ⟨xf, rfl⟩ := hfr
  clear k0 k1 k2 k3 k4 k5 k6 k7 k8 k9 k10 k11 k12 k13 k14 k15 k16 k17 k18 k19 k20 k21 k22 k23 k24 k25 k26 k27 k28 hall
  simp only [Thn]
  unfold bpt
  repeat (first
    | (refine o_nil ?_
       simp only [Thn, Inb, if_true, if_false, reduceIte, Nat.reduceEqDiff])
    | (refine c_skip ?_
       simp only [Thn, Inb, if_true, if_false, reduceIte, Nat.reduceEqDiff])
    | (refine c_cond true (by rfl) (fun _ => ?_) (fun e => by cases e))
    | (refine c_cond false (by rfl) (fun e => by cases e) (fun _ => ?_))
    | (refine c_block ?_)
    | (refine c_label ?_
       simp only [Thn, Inb, if_true, if_false, reduceIte, Nat.reduceEqDiff])
    | (refine c_scope ?_)
    | (refine o_cons (u_read (by omega) hactl rfl (by rfl) fun w hF K' hK' => ?_)
       go_simp
       refine hK' _ ⟨?_, ?_⟩
       focus
         rw [listed_nil]
         · simp
         · (simp [go_sem]; done)
       clear hK' K' hF w
       try walk_nrm)
    | (refine o_cons (u_unwanted (by omega) rfl (by rfl) ?_)
       try walk_nrm))
  refine h18 E lx T O _ _ rfl h0 M hn ?_ Post hPost e (by omega)
  unfold bpt
  exact fitF rfl

def Fr3 (v0 : Value) (v3 : Value) (ds : List Deferred) (a : Act) : Prop := ∃ xf : Nat → Value, a = ⟨#[v0, xf 1, xf 2, v3, xf 4, undef, undef, undef, undef, undef, undef, undef, undef, xf 13, xf 14, xf 15, xf 16, xf 17, xf 18, xf 19, xf 20, xf 21, xf 22, xf 23, xf 24, xf 25, xf 26, xf 27, xf 28, xf 29, xf 30, xf 31, xf 32, xf 33, undef, undef, undef, undef, undef, undef, undef, undef, undef, undef, undef, undef, undef, undef, undef, undef, undef, undef, undef, undef, undef, undef, undef, undef, undef, undef, undef, undef, undef, undef, undef, undef, undef, undef, undef, undef, undef, undef, undef, undef, undef, undef, undef, undef, undef, undef, undef, undef, undef, undef, undef, undef, undef, undef, undef, undef, undef, undef, undef, undef, undef, undef, undef, undef, undef, undef, undef, undef, undef, undef, undef, undef, undef, undef, undef, undef, undef, undef], ds⟩

set_option maxHeartbeats 16000000 in
theorem tail3 : ∃ N, ∀ (E : En) (w : Int) (l2 : Lo) (A1 A2 : Option Addr) (n c1 c2 bT : Nat) (ps os : Nat → Int) (a : Act) (c : Code), Try.f3.body = some c → E.i = 0 → Calm l2 → 1 ≤ n → n ≤ 256 → (∀ i, i < n → ∃ A, A1 = some A ∧ l2.ro (A.add i) (.int .i64 (ps i))) → (∀ i, i < n → ∃ A, A2 = some A ∧ l2.ro (A.add i) (.int .i64 (os i))) →
    l2.res.cells ⟨bT, 0, none⟩ = some (.slice A1 n c1) → l2.res.cells ⟨bT, 1, none⟩ = some (.slice A2 n c2) → Fr3 (.int .i64 w) (.pointer (some ⟨bT, 0, none⟩)) [] a →
    ∀ e, N ≤ e → E.C e 257 3 (dropSeq 3 c) (bodyPost Try.prog Try.f3 fun v l' => v = .bool true ∧ Calm l') a l2 := by
  obtain ⟨n7, h7⟩ := children7
  obtain ⟨n8, h8⟩ := new8
  obtain ⟨nr, hr⟩ := do_root
  obtain ⟨n16, h16⟩ := tail16
  refine ⟨n7 + n8 + nr + n16 + 2, fun E w l2 A1 A2 n c1 c2 bT ps os a c hc h0 hC2 hn1 hn2 hP hO t1 t2 hfr e he => ?_⟩
  obtain rfl : _ = c := Option.some.inj hc
  have hact2 := hC2.md
  obtain ⟨xf, rfl⟩ := hfr
  obtain ⟨A, rfl, _⟩ := hP 0 (by omega)
  obtain ⟨B, rfl, _⟩ := hO 0 (by omega)
  have hPA : ∀ i, i < n → l2.ro (A.add i) (.int .i64 (ps i)) := fun i hi => by obtain ⟨_, h1, h2⟩ := hP i hi; cases h1; exact h2
  have hOB : ∀ i, i < n → l2.ro (B.add i) (.int .i64 (os i)) := fun i hi => by obtain ⟨_, h1, h2⟩ := hO i hi; cases h1; exact h2
  clear hP hO
  unfold dropSeq dropSeq dropSeq dropSeq
  obtain ⟨Post, hPost⟩ : ∃ P : Value → Lo → Prop, P = fun v l' => v = .bool true ∧ Calm l' := ⟨_, rfl⟩
  rw [← hPost]
  have hPostH : Hid (Post = fun v l' => v = .bool true ∧ Calm l') := hPost
  clear hPost
  repeat (first
    | (refine c_seq ?_)
    | (refine c_region ?_
       simp only [List.size_toArray, List.length_cons, List.length_nil, Nat.reduceAdd, Nat.zero_add, List.range, List.range.loop])
    | (refine o_nil ?_
       simp only [Thn, Inb, if_true, if_false, reduceIte, Nat.reduceEqDiff])
    | (refine c_skip ?_
       simp only [Thn, Inb, if_true, if_false, reduceIte, Nat.reduceEqDiff])
    | (refine c_cond true (by rfl) (fun _ => ?_) (fun e => by cases e))
    | (refine c_cond false (by rfl) (fun e => by cases e) (fun _ => ?_))
    | (refine c_block ?_)
    | (refine c_label ?_
       simp only [Thn, Inb, if_true, if_false, reduceIte, Nat.reduceEqDiff])
    | (refine c_scope ?_)
    | (refine o_cons (u_read (by omega) hact2 rfl (by rfl) fun w hF K' hK' => ?_)
       go_simp
       refine hK' _ ⟨?_, ?_⟩
       focus
         rw [listed_nil]
         · simp
         · (simp [go_sem]; done)
       clear hK' K' hF w
       try walk_nrm)
    | (refine o_cons (u_unwanted (by omega) rfl (by rfl) ?_)
       try walk_nrm))
  refine o_cons (u_load (.slice (some A) n c1) (by omega) hact2 rfl (by rfl) rfl Try.underlying22 rfl rfl (.inl t1) ?_)
  try walk_nrm
  repeat (first
    | (refine c_seq ?_)
    | (refine c_region ?_
       simp only [List.size_toArray, List.length_cons, List.length_nil, Nat.reduceAdd, Nat.zero_add, List.range, List.range.loop])
    | (refine o_nil ?_
       simp only [Thn, Inb, if_true, if_false, reduceIte, Nat.reduceEqDiff])
    | (refine c_skip ?_
       simp only [Thn, Inb, if_true, if_false, reduceIte, Nat.reduceEqDiff])
    | (refine c_cond true (by rfl) (fun _ => ?_) (fun e => by cases e))
    | (refine c_cond false (by rfl) (fun e => by cases e) (fun _ => ?_))
    | (refine c_block ?_)
    | (refine c_label ?_
       simp only [Thn, Inb, if_true, if_false, reduceIte, Nat.reduceEqDiff])
    | (refine c_scope ?_)
    | (refine o_cons (u_read (by omega) hact2 rfl (by rfl) fun w hF K' hK' => ?_)
       go_simp
       refine hK' _ ⟨?_, ?_⟩
       focus
         rw [listed_nil]
         · simp
         · (simp [go_sem]; done)
       clear hK' K' hF w
       try walk_nrm)
    | (refine o_cons (u_unwanted (by omega) rfl (by rfl) ?_)
       try walk_nrm))
  refine o_cons (u_callx (n := n7) #[.slice (some A) n c1] (by omega) rfl (by rfl) rfl (by walk_nrm) ?_)
  refine h7 E l2 n c1 A ps (fun i => (ps i).toNat) _ hact2 hn1 hn2 hPA (fun i _ _ h1 _ => by show ps i = ((ps i).toNat : Int); omega) (fun l3 g3 => ?_) (fun hpar l3 Ch rb rc K => ?_)
  focus
    have hC3 := hC2.grow g3
    have hact3 := hC3.md
    try walk_nrm
    repeat (first
      | (refine c_seq ?_)
      | (refine c_region ?_
         simp only [List.size_toArray, List.length_cons, List.length_nil, Nat.reduceAdd, Nat.zero_add, List.range, List.range.loop])
      | (refine o_nil ?_
         simp only [Thn, Inb, if_true, if_false, reduceIte, Nat.reduceEqDiff])
      | (refine c_skip ?_
         simp only [Thn, Inb, if_true, if_false, reduceIte, Nat.reduceEqDiff])
      | (refine c_cond true (by rfl) (fun _ => ?_) (fun e => by cases e))
      | (refine c_cond false (by rfl) (fun e => by cases e) (fun _ => ?_))
      | (refine c_block ?_)
      | (refine c_label ?_
         simp only [Thn, Inb, if_true, if_false, reduceIte, Nat.reduceEqDiff])
      | (refine c_scope ?_)
      | (refine o_cons (u_read (by omega) hact3 rfl (by rfl) fun w hF K' hK' => ?_)
         go_simp
         refine hK' _ ⟨?_, ?_⟩
         focus
           rw [listed_nil]
           · simp
           · (simp [go_sem]; done)
         clear hK' K' hF w
         try walk_nrm)
      | (refine o_cons (u_unwanted (by omega) rfl (by rfl) ?_)
         try walk_nrm))
    refine o_cons (u_new (by omega) hact3 rfl (by rfl) (.cells #[.slice none 0 0] 26) (fun r => .pointer (some ⟨r, 0, none⟩)) (fun r => l3.addc r #[.slice none 0 0]) (fun w => by simp [go_sem]) (fun w => by simp [go_sem]) (new_cells hact3 _ _) fun b hb => ?_)
    obtain ⟨l4, hl4⟩ : ∃ l4, l4 = l3.addc b #[.slice none 0 0] := ⟨_, rfl⟩
    rw [← hl4]
    have g4 : Grow l3 l4 := by rw [hl4]; exact (Grow.refl _).addc hb _
    have hC4 := hC3.grow g4
    have hact4 := hC4.md
    have hb4 : l4.res.cells ⟨b, 0, none⟩ = some (.slice none 0 0) := by rw [hl4, addc_new]; rfl
    clear hl4
    try walk_nrm
    refine o_cons (u_store1 (ad := ⟨b, 0, none⟩) (.slice none 0 0) (by omega) hact4 rfl (by rfl) rfl (by rfl) rfl rfl rfl (by rw [hb4]; simp) ?_)
    obtain ⟨l5, hl5⟩ : ∃ l5, l5 = l4.setc ⟨b, 0, none⟩ (.slice none 0 0) := ⟨_, rfl⟩
    rw [← hl5]
    have hC5 : Calm l5 := by rw [hl5]; exact ⟨hC4.md, hC4.df, hC4.solo, hC4.tr, hC4.gm, hC4.slot0, hC4.sk⟩
    have hact5 := hC5.md
    try walk_nrm
    repeat (first
      | (refine c_seq ?_)
      | (refine c_region ?_
         simp only [List.size_toArray, List.length_cons, List.length_nil, Nat.reduceAdd, Nat.zero_add, List.range, List.range.loop])
      | (refine o_nil ?_
         simp only [Thn, Inb, if_true, if_false, reduceIte, Nat.reduceEqDiff])
      | (refine c_skip ?_
         simp only [Thn, Inb, if_true, if_false, reduceIte, Nat.reduceEqDiff])
      | (refine c_cond true (by rfl) (fun _ => ?_) (fun e => by cases e))
      | (refine c_cond false (by rfl) (fun e => by cases e) (fun _ => ?_))
      | (refine c_block ?_)
      | (refine c_label ?_
         simp only [Thn, Inb, if_true, if_false, reduceIte, Nat.reduceEqDiff])
      | (refine c_scope ?_)
      | (refine o_cons (u_read (by omega) hact5 rfl (by rfl) fun w hF K' hK' => ?_)
         go_simp
         refine hK' _ ⟨?_, ?_⟩
         focus
           rw [listed_nil]
           · simp
           · (simp [go_sem]; done)
         clear hK' K' hF w
         try walk_nrm)
      | (refine o_cons (u_unwanted (by omega) rfl (by rfl) ?_)
         try walk_nrm))
    refine c_ret ?_
    refine ⟨rfl, _, resultsC_tmp (by rfl) _, ?_⟩
    rw [hPostH.out]
    exact ⟨rfl, hC5⟩
  have hC3 := hC2.grow K.grow
  have hact3 := hC3.md
  have t2' : l3.res.cells ⟨bT, 1, none⟩ = some (.slice (some B) n c2) := by rw [K.grow.cell _ (by rw [t2]; simp)]; exact t2
  try walk_nrm
  repeat (first
    | (refine c_seq ?_)
    | (refine c_region ?_
       simp only [List.size_toArray, List.length_cons, List.length_nil, Nat.reduceAdd, Nat.zero_add, List.range, List.range.loop])
    | (refine o_nil ?_
       simp only [Thn, Inb, if_true, if_false, reduceIte, Nat.reduceEqDiff])
    | (refine c_skip ?_
       simp only [Thn, Inb, if_true, if_false, reduceIte, Nat.reduceEqDiff])
    | (refine c_cond true (by rfl) (fun _ => ?_) (fun e => by cases e))
    | (refine c_cond false (by rfl) (fun e => by cases e) (fun _ => ?_))
    | (refine c_block ?_)
    | (refine c_label ?_
       simp only [Thn, Inb, if_true, if_false, reduceIte, Nat.reduceEqDiff])
    | (refine c_scope ?_)
    | (refine o_cons (u_read (by omega) hact3 rfl (by rfl) fun w hF K' hK' => ?_)
       go_simp
       refine hK' _ ⟨?_, ?_⟩
       focus
         rw [listed_nil]
         · simp
         · (simp [go_sem]; done)
       clear hK' K' hF w
       try walk_nrm)
    | (refine o_cons (u_unwanted (by omega) rfl (by rfl) ?_)
       try walk_nrm))
  refine o_cons (u_new (by omega) hact3 rfl (by rfl) (.cells #[.slice none 0 0] 26) (fun r => .pointer (some ⟨r, 0, none⟩)) (fun r => l3.addc r #[.slice none 0 0]) (fun w => by simp [go_sem]) (fun w => by simp [go_sem]) (new_cells hact3 _ _) fun bC hbC => ?_)
  obtain ⟨l4, hl4⟩ : ∃ l4, l4 = l3.addc bC #[.slice none 0 0] := ⟨_, rfl⟩
  rw [← hl4]
  have g4 : Grow l3 l4 := by rw [hl4]; exact (Grow.refl _).addc hbC _
  have hact4 : l4.md = .act := g4.md.trans hact3
  have hb4 : l4.res.cells ⟨bC, 0, none⟩ = some (.slice none 0 0) := by rw [hl4, addc_new]; rfl
  clear hl4
  try walk_nrm
  refine o_cons (u_store1 (ad := ⟨bC, 0, none⟩) (.slice (some ⟨Ch, 0, none⟩) n n) (by omega) hact4 rfl (by rfl) rfl (by rfl) rfl rfl rfl (by rw [hb4]; simp) ?_)
  obtain ⟨l5, hl5⟩ : ∃ l5, l5 = l4.setc ⟨bC, 0, none⟩ (.slice (some ⟨Ch, 0, none⟩) n n) := ⟨_, rfl⟩
  rw [← hl5]
  have g5 : Grow l3 l5 := by rw [hl5]; exact g4.setc (hbC.cell _ rfl) _
  have bC5 : l5.res.cells ⟨bC, 0, none⟩ = some (.slice (some ⟨Ch, 0, none⟩) n n) := by rw [hl5]; show (if _ = _ then _ else _) = _; rw [if_pos rfl]
  have K5 := K.more g5
  have hC5 := hC3.grow g5
  have hact5 := hC5.md
  have t2'' : l5.res.cells ⟨bT, 1, none⟩ = some (.slice (some B) n c2) := by rw [g5.cell _ (by rw [t2']; simp)]; exact t2'
  have hOB5 : ∀ i, i < n → l5.ro (B.add i) (.int .i64 (os i)) := fun i hi => g5.ro _ _ (K.grow.ro _ _ (hOB i hi))
  clear hl5 hb4 g4 hact4 K hbC t2' hC3 hact3 t1 t2 hC2 hact2 g5 hPA hOB
  try walk_nrm
  repeat (first
    | (refine c_seq ?_)
    | (refine c_region ?_
       simp only [List.size_toArray, List.length_cons, List.length_nil, Nat.reduceAdd, Nat.zero_add, List.range, List.range.loop])
    | (refine o_nil ?_
       simp only [Thn, Inb, if_true, if_false, reduceIte, Nat.reduceEqDiff])
    | (refine c_skip ?_
       simp only [Thn, Inb, if_true, if_false, reduceIte, Nat.reduceEqDiff])
    | (refine c_cond true (by rfl) (fun _ => ?_) (fun e => by cases e))
    | (refine c_cond false (by rfl) (fun e => by cases e) (fun _ => ?_))
    | (refine c_block ?_)
    | (refine c_label ?_
       simp only [Thn, Inb, if_true, if_false, reduceIte, Nat.reduceEqDiff])
    | (refine c_scope ?_)
    | (refine o_cons (u_read (by omega) hact5 rfl (by rfl) fun w hF K' hK' => ?_)
       go_simp
       refine hK' _ ⟨?_, ?_⟩
       focus
         rw [listed_nil]
         · simp
         · (simp [go_sem]; done)
       clear hK' K' hF w
       try walk_nrm)
    | (refine o_cons (u_unwanted (by omega) rfl (by rfl) ?_)
       try walk_nrm))
  refine o_cons (u_callx (n := n8) #[.int .i64 w] (by omega) rfl (by rfl) rfl (by walk_nrm) ?_)
  refine h8 E w false l5 _ hact5 fun ch p hch hp => ?_
  obtain ⟨cap, hcap⟩ : ∃ cap, cap = capOf w := ⟨_, rfl⟩
  obtain ⟨hc1, hc2⟩ := capOf_le w
  rw [← hcap] at hc1 hc2 hp
  rw [← hcap]
  clear hcap
  obtain ⟨l6, hl6⟩ : ∃ l6, l6 = (l5.opc ch cap).opp p ch cap false := ⟨_, rfl⟩
  have hC6 : Calm l6 := by rw [hl6]; exact hC5.new false hch hp
  have hL6 : Later l5 l6 := by rw [hl6]; exact Later.new false hp
  have hpl6 : l6.pl p = some (ch, cap, false) := by rw [hl6]; show (if p = p then _ else _) = _; rw [if_pos rfl]
  have hro6 : l6.ro ⟨p, 0, none⟩ (.chan (some ch)) := by rw [hl6]; exact .inr ⟨rfl, rfl⟩
  have tk6 : l6.res.tk (.begun p) = 0 := by rw [hl6]; exact hp.tk.2.2.1
  rw [← hl6]
  clear hl6 hp hch
  have hact6 := hC6.md
  try walk_nrm
  refine o_cons (u_new (by omega) hact6 rfl (by rfl) (.cells #[.pointer none] 29) (fun r => .pointer (some ⟨r, 0, none⟩)) (fun r => l6.addc r #[.pointer none]) (fun w => by simp [go_sem]) (fun w => by simp [go_sem]) (new_cells hact6 _ _) fun bP hbP => ?_)
  obtain ⟨lx, hlx⟩ : ∃ lx, lx = l6.addc bP #[.pointer none] := ⟨_, rfl⟩
  rw [← hlx]
  have gx : Grow l6 lx := by rw [hlx]; exact (Grow.refl _).addc hbP _
  have hactx : lx.md = .act := gx.md.trans hact6
  have hbx : lx.res.cells ⟨bP, 0, none⟩ = some (.pointer none) := by rw [hlx, addc_new]; rfl
  clear hlx
  try walk_nrm
  refine o_cons (u_store1 (ad := ⟨bP, 0, none⟩) (.pointer (some ⟨p, 0, none⟩)) (by omega) hactx rfl (by rfl) rfl (by rfl) rfl rfl rfl (by rw [hbx]; simp) ?_)
  obtain ⟨l7, hl7⟩ : ∃ l7, l7 = lx.setc ⟨bP, 0, none⟩ (.pointer (some ⟨p, 0, none⟩)) := ⟨_, rfl⟩
  rw [← hl7]
  have g7 : Grow l6 l7 := by rw [hl7]; exact gx.setc (hbP.cell _ rfl) _
  have bP7 : l7.res.cells ⟨bP, 0, none⟩ = some (.pointer (some ⟨p, 0, none⟩)) := by rw [hl7]; show (if _ = _ then _ else _) = _; rw [if_pos rfl]
  have hact7 : l7.md = .act := g7.md.trans hact6
  clear hl7 hbx hactx gx lx
  have hC7 := hC6.grow g7
  have hL7 : Later l5 l7 := hL6.trans (Later.grow g7)
  have hpl7 : l7.pl p = some (ch, cap, false) := by rw [g7.pl]; exact hpl6
  have hro7 : l7.ro ⟨p, 0, none⟩ (.chan (some ch)) := g7.ro _ _ hro6
  have tk7 : l7.res.tk (.begun p) = 0 := by rw [g7.tk]; exact tk6
  clear hC6 hL6 hpl6 hro6 tk6 hact6 hbP g7
  try walk_nrm
  repeat (first
    | (refine c_seq ?_)
    | (refine c_region ?_
       simp only [List.size_toArray, List.length_cons, List.length_nil, Nat.reduceAdd, Nat.zero_add, List.range, List.range.loop])
    | (refine o_nil ?_
       simp only [Thn, Inb, if_true, if_false, reduceIte, Nat.reduceEqDiff])
    | (refine c_skip ?_
       simp only [Thn, Inb, if_true, if_false, reduceIte, Nat.reduceEqDiff])
    | (refine c_cond true (by rfl) (fun _ => ?_) (fun e => by cases e))
    | (refine c_cond false (by rfl) (fun e => by cases e) (fun _ => ?_))
    | (refine c_block ?_)
    | (refine c_label ?_
       simp only [Thn, Inb, if_true, if_false, reduceIte, Nat.reduceEqDiff])
    | (refine c_scope ?_)
    | (refine o_cons (u_read (by omega) hact7 rfl (by rfl) fun w hF K' hK' => ?_)
       go_simp
       refine hK' _ ⟨?_, ?_⟩
       focus
         rw [listed_nil]
         · simp
         · (simp [go_sem]; done)
       clear hK' K' hF w
       try walk_nrm)
    | (refine o_cons (u_unwanted (by omega) rfl (by rfl) ?_)
       try walk_nrm))
  refine o_cons (u_load (.pointer (some ⟨p, 0, none⟩)) (by omega) hact7 rfl (by rfl) rfl Try.underlying29 rfl rfl (.inl bP7) ?_)
  try walk_nrm
  repeat (first
    | (refine o_nil ?_
       simp only [Thn, Inb, if_true, if_false, reduceIte, Nat.reduceEqDiff])
    | (refine c_skip ?_
       simp only [Thn, Inb, if_true, if_false, reduceIte, Nat.reduceEqDiff])
    | (refine c_cond true (by rfl) (fun _ => ?_) (fun e => by cases e))
    | (refine c_cond false (by rfl) (fun e => by cases e) (fun _ => ?_))
    | (refine c_block ?_)
    | (refine c_label ?_
       simp only [Thn, Inb, if_true, if_false, reduceIte, Nat.reduceEqDiff])
    | (refine c_scope ?_)
    | (refine o_cons (u_read (by omega) hact7 rfl (by rfl) fun w hF K' hK' => ?_)
       go_simp
       refine hK' _ ⟨?_, ?_⟩
       focus
         rw [listed_nil]
         · simp
         · (simp [go_sem]; done)
       clear hK' K' hF w
       try walk_nrm)
    | (refine o_cons (u_unwanted (by omega) rfl (by rfl) ?_)
       try walk_nrm))
  -- all that it owns is only read from now on
  refine c_turn (turn_still hact7) (quit_act hact7) ?_
  have hC8 := hC7.still
  have r8 : ∀ a v, l7.ro a v → l7.still.ro a v := fun a v h => .inl h
  have o8 : ∀ a v, l7.res.cells a = some v → l7.still.ro a v := fun a v h => .inr h
  have bP8 := o8 _ _ bP7
  have bC8 := o8 _ _ (hL7.has bC5)
  have bT8 := o8 _ _ (hL7.has t2'')
  have hOB8 : ∀ i, i < n → l7.still.ro (B.add i) (.int .i64 (os i)) := fun i hi => r8 _ _ (hL7.ro _ _ (hOB5 i hi))
  have T8 : TreeRo l7.still n (fun i => (ps i).toNat) os Ch B (fun d => (rb d).map fun r => ⟨r, 0, none⟩) rc := {
    outer := fun d hd => o8 _ _ (hL7.has (K5.outer d hd))
    row := fun d j hd hj => by
      cases hr : rb d with
      | none => rw [(K5.isn d hd hr).1] at hj; cases hj
      | some r =>
        refine ⟨⟨r, 0, none⟩, rfl, ?_⟩
        rw [Addr.add_lit, Nat.zero_add]
        exact o8 _ _ (hL7.has ((K5.iss d r hd hr).2.2.2.2.1 j hj))
    own := hOB8 }
  have hpl8 : l7.still.pl p = some (ch, cap, false) := hpl7
  have hro8 := r8 _ _ hro7
  have tk8 : l7.still.res.tk (.begun p) = 0 := tk7
  obtain ⟨l8, hl8⟩ : ∃ l8, l8 = l7.still := ⟨_, rfl⟩
  rw [← hl8] at hC8 bP8 bC8 bT8 hOB8 T8 hpl8 hro8 tk8 ⊢
  clear r8 o8 hl8 bP7 hC7 hL7 hpl7 hro7 tk7 hact7 hOB5 t2'' K5 bC5 hact5 hC5
  have hact8 := hC8.md
  repeat (first
    | (refine c_seq ?_)
    | (refine c_region ?_
       simp only [List.size_toArray, List.length_cons, List.length_nil, Nat.reduceAdd, Nat.zero_add, List.range, List.range.loop])
    | (refine o_nil ?_
       simp only [Thn, Inb, if_true, if_false, reduceIte, Nat.reduceEqDiff])
    | (refine c_skip ?_
       simp only [Thn, Inb, if_true, if_false, reduceIte, Nat.reduceEqDiff])
    | (refine c_cond true (by rfl) (fun _ => ?_) (fun e => by cases e))
    | (refine c_cond false (by rfl) (fun e => by cases e) (fun _ => ?_))
    | (refine c_block ?_)
    | (refine c_label ?_
       simp only [Thn, Inb, if_true, if_false, reduceIte, Nat.reduceEqDiff])
    | (refine c_scope ?_)
    | (refine o_cons (u_read (by omega) hact8 rfl (by rfl) fun w hF K' hK' => ?_)
       go_simp
       refine hK' _ ⟨?_, ?_⟩
       focus
         rw [listed_nil]
         · simp
         · (simp [go_sem]; done)
       clear hK' K' hF w
       try walk_nrm)
    | (refine o_cons (u_unwanted (by omega) rfl (by rfl) ?_)
       try walk_nrm))
  refine o_cons (u_load (.slice (some B) n c2) (by omega) hact8 rfl (by rfl) rfl Try.underlying22 rfl rfl (.inr bT8) ?_)
  try walk_nrm
  repeat (first
    | (refine c_seq ?_)
    | (refine c_region ?_
       simp only [List.size_toArray, List.length_cons, List.length_nil, Nat.reduceAdd, Nat.zero_add, List.range, List.range.loop])
    | (refine o_nil ?_
       simp only [Thn, Inb, if_true, if_false, reduceIte, Nat.reduceEqDiff])
    | (refine c_skip ?_
       simp only [Thn, Inb, if_true, if_false, reduceIte, Nat.reduceEqDiff])
    | (refine c_cond true (by rfl) (fun _ => ?_) (fun e => by cases e))
    | (refine c_cond false (by rfl) (fun e => by cases e) (fun _ => ?_))
    | (refine c_block ?_)
    | (refine c_label ?_
       simp only [Thn, Inb, if_true, if_false, reduceIte, Nat.reduceEqDiff])
    | (refine c_scope ?_)
    | (refine o_cons (u_read (by omega) hact8 rfl (by rfl) fun w hF K' hK' => ?_)
       go_simp
       refine hK' _ ⟨?_, ?_⟩
       focus
         rw [listed_nil]
         · simp
         · (simp [go_sem]; done)
       clear hK' K' hF w
       try walk_nrm)
    | (refine o_cons (u_unwanted (by omega) rfl (by rfl) ?_)
       try walk_nrm))
  refine o_cons (u_make n (by omega) hact8 rfl (by rfl) rfl Try.underlying22 Try.type3 rfl rfl (by decide) rfl (by omega) rfl rfl fun V hV => ?_)
  obtain ⟨l9, hl9⟩ : ∃ l9, l9 = l8.addc V (Array.replicate n (.int .i64 0)) := ⟨_, rfl⟩
  rw [← hl9]
  have g9 : Grow l8 l9 := by rw [hl9]; exact (Grow.refl _).addc hV _
  have V9 : ∀ j, j < n → l9.res.cells ⟨V, j, none⟩ = some (.int .i64 0) := fun j hj => by rw [hl9, addc_new]; simp [hj]
  have hact9 : l9.md = .act := g9.md.trans hact8
  clear hl9
  try walk_nrm
  refine o_cons (u_new (by omega) hact9 rfl (by rfl) (.cells #[.slice none 0 0] 22) (fun r => .pointer (some ⟨r, 0, none⟩)) (fun r => l9.addc r #[.slice none 0 0]) (fun w => by simp [go_sem]) (fun w => by simp [go_sem]) (new_cells hact9 _ _) fun bV hbV => ?_)
  obtain ⟨lx, hlx⟩ : ∃ lx, lx = l9.addc bV #[.slice none 0 0] := ⟨_, rfl⟩
  rw [← hlx]
  have gx : Grow l9 lx := by rw [hlx]; exact (Grow.refl _).addc hbV _
  have hactx : lx.md = .act := gx.md.trans hact9
  have hbx : lx.res.cells ⟨bV, 0, none⟩ = some (.slice none 0 0) := by rw [hlx, addc_new]; rfl
  clear hlx
  try walk_nrm
  refine o_cons (u_store1 (ad := ⟨bV, 0, none⟩) (.slice (some ⟨V, 0, none⟩) n n) (by omega) hactx rfl (by rfl) rfl (by rfl) rfl rfl rfl (by rw [hbx]; simp) ?_)
  obtain ⟨l10, hl10⟩ : ∃ l10, l10 = lx.setc ⟨bV, 0, none⟩ (.slice (some ⟨V, 0, none⟩) n n) := ⟨_, rfl⟩
  rw [← hl10]
  have g10 : Grow l9 l10 := by rw [hl10]; exact gx.setc (hbV.cell _ rfl) _
  have bV10 : l10.res.cells ⟨bV, 0, none⟩ = some (.slice (some ⟨V, 0, none⟩) n n) := by rw [hl10]; show (if _ = _ then _ else _) = _; rw [if_pos rfl]
  have hact10 : l10.md = .act := g10.md.trans hact9
  clear hl10 hbx hactx gx lx
  try walk_nrm
  repeat (first
    | (refine c_seq ?_)
    | (refine c_region ?_
       simp only [List.size_toArray, List.length_cons, List.length_nil, Nat.reduceAdd, Nat.zero_add, List.range, List.range.loop])
    | (refine o_nil ?_
       simp only [Thn, Inb, if_true, if_false, reduceIte, Nat.reduceEqDiff])
    | (refine c_skip ?_
       simp only [Thn, Inb, if_true, if_false, reduceIte, Nat.reduceEqDiff])
    | (refine c_cond true (by rfl) (fun _ => ?_) (fun e => by cases e))
    | (refine c_cond false (by rfl) (fun e => by cases e) (fun _ => ?_))
    | (refine c_block ?_)
    | (refine c_label ?_
       simp only [Thn, Inb, if_true, if_false, reduceIte, Nat.reduceEqDiff])
    | (refine c_scope ?_)
    | (refine o_cons (u_read (by omega) hact10 rfl (by rfl) fun w hF K' hK' => ?_)
       go_simp
       refine hK' _ ⟨?_, ?_⟩
       focus
         rw [listed_nil]
         · simp
         · (simp [go_sem]; done)
       clear hK' K' hF w
       try walk_nrm)
    | (refine o_cons (u_unwanted (by omega) rfl (by rfl) ?_)
       try walk_nrm))
  refine o_cons (u_load (.slice (some B) n c2) (by omega) hact10 rfl (by rfl) rfl Try.underlying22 rfl rfl (.inr (g10.ro _ _ (g9.ro _ _ bT8))) ?_)
  try walk_nrm
  repeat (first
    | (refine c_seq ?_)
    | (refine c_region ?_
       simp only [List.size_toArray, List.length_cons, List.length_nil, Nat.reduceAdd, Nat.zero_add, List.range, List.range.loop])
    | (refine o_nil ?_
       simp only [Thn, Inb, if_true, if_false, reduceIte, Nat.reduceEqDiff])
    | (refine c_skip ?_
       simp only [Thn, Inb, if_true, if_false, reduceIte, Nat.reduceEqDiff])
    | (refine c_cond true (by rfl) (fun _ => ?_) (fun e => by cases e))
    | (refine c_cond false (by rfl) (fun e => by cases e) (fun _ => ?_))
    | (refine c_block ?_)
    | (refine c_label ?_
       simp only [Thn, Inb, if_true, if_false, reduceIte, Nat.reduceEqDiff])
    | (refine c_scope ?_)
    | (refine o_cons (u_read (by omega) hact10 rfl (by rfl) fun w hF K' hK' => ?_)
       go_simp
       refine hK' _ ⟨?_, ?_⟩
       focus
         rw [listed_nil]
         · simp
         · (simp [go_sem]; done)
       clear hK' K' hF w
       try walk_nrm)
    | (refine o_cons (u_unwanted (by omega) rfl (by rfl) ?_)
       try walk_nrm))
  refine o_cons (u_make n (by omega) hact10 rfl (by rfl) rfl Try.underlying22 Try.type3 rfl rfl (by decide) rfl (by omega) rfl rfl fun R hR => ?_)
  obtain ⟨l11, hl11⟩ : ∃ l11, l11 = l10.addc R (Array.replicate n (.int .i64 0)) := ⟨_, rfl⟩
  rw [← hl11]
  have g11 : Grow l10 l11 := by rw [hl11]; exact (Grow.refl _).addc hR _
  have R11 : ∀ j, j < n → l11.res.cells ⟨R, j, none⟩ = some (.int .i64 0) := fun j hj => by rw [hl11, addc_new]; simp [hj]
  have hact11 : l11.md = .act := g11.md.trans hact10
  clear hl11
  try walk_nrm
  refine o_cons (u_new (by omega) hact11 rfl (by rfl) (.cells #[.slice none 0 0] 22) (fun r => .pointer (some ⟨r, 0, none⟩)) (fun r => l11.addc r #[.slice none 0 0]) (fun w => by simp [go_sem]) (fun w => by simp [go_sem]) (new_cells hact11 _ _) fun bR hbR => ?_)
  obtain ⟨lx, hlx⟩ : ∃ lx, lx = l11.addc bR #[.slice none 0 0] := ⟨_, rfl⟩
  rw [← hlx]
  have gx : Grow l11 lx := by rw [hlx]; exact (Grow.refl _).addc hbR _
  have hactx : lx.md = .act := gx.md.trans hact11
  have hbx : lx.res.cells ⟨bR, 0, none⟩ = some (.slice none 0 0) := by rw [hlx, addc_new]; rfl
  clear hlx
  try walk_nrm
  refine o_cons (u_store1 (ad := ⟨bR, 0, none⟩) (.slice (some ⟨R, 0, none⟩) n n) (by omega) hactx rfl (by rfl) rfl (by rfl) rfl rfl rfl (by rw [hbx]; simp) ?_)
  obtain ⟨l12, hl12⟩ : ∃ l12, l12 = lx.setc ⟨bR, 0, none⟩ (.slice (some ⟨R, 0, none⟩) n n) := ⟨_, rfl⟩
  rw [← hl12]
  have g12 : Grow l11 l12 := by rw [hl12]; exact gx.setc (hbR.cell _ rfl) _
  have bR12 : l12.res.cells ⟨bR, 0, none⟩ = some (.slice (some ⟨R, 0, none⟩) n n) := by rw [hl12]; show (if _ = _ then _ else _) = _; rw [if_pos rfl]
  have hact12 : l12.md = .act := g12.md.trans hact11
  clear hl12 hbx hactx gx lx
  try walk_nrm
  repeat (first
    | (refine c_seq ?_)
    | (refine c_region ?_
       simp only [List.size_toArray, List.length_cons, List.length_nil, Nat.reduceAdd, Nat.zero_add, List.range, List.range.loop])
    | (refine o_nil ?_
       simp only [Thn, Inb, if_true, if_false, reduceIte, Nat.reduceEqDiff])
    | (refine c_skip ?_
       simp only [Thn, Inb, if_true, if_false, reduceIte, Nat.reduceEqDiff])
    | (refine c_cond true (by rfl) (fun _ => ?_) (fun e => by cases e))
    | (refine c_cond false (by rfl) (fun e => by cases e) (fun _ => ?_))
    | (refine c_block ?_)
    | (refine c_label ?_
       simp only [Thn, Inb, if_true, if_false, reduceIte, Nat.reduceEqDiff])
    | (refine c_scope ?_)
    | (refine o_cons (u_read (by omega) hact12 rfl (by rfl) fun w hF K' hK' => ?_)
       go_simp
       refine hK' _ ⟨?_, ?_⟩
       focus
         rw [listed_nil]
         · simp
         · (simp [go_sem]; done)
       clear hK' K' hF w
       try walk_nrm)
    | (refine o_cons (u_unwanted (by omega) rfl (by rfl) ?_)
       try walk_nrm))
  refine o_cons (u_new (by omega) hact12 rfl (by rfl) (.cells #[.nilFunc] 31) (fun r => .pointer (some ⟨r, 0, none⟩)) (fun r => l12.addc r #[.nilFunc]) (fun w => by simp [go_sem]) (fun w => by simp [go_sem]) (new_cells hact12 _ _) fun bF hbF => ?_)
  obtain ⟨lx, hlx⟩ : ∃ lx, lx = l12.addc bF #[.nilFunc] := ⟨_, rfl⟩
  rw [← hlx]
  have gx : Grow l12 lx := by rw [hlx]; exact (Grow.refl _).addc hbF _
  have hactx : lx.md = .act := gx.md.trans hact12
  have hbx : lx.res.cells ⟨bF, 0, none⟩ = some (.nilFunc) := by rw [hlx, addc_new]; rfl
  clear hlx
  try walk_nrm
  repeat (first
    | (refine c_seq ?_)
    | (refine c_region ?_
       simp only [List.size_toArray, List.length_cons, List.length_nil, Nat.reduceAdd, Nat.zero_add, List.range, List.range.loop])
    | (refine o_nil ?_
       simp only [Thn, Inb, if_true, if_false, reduceIte, Nat.reduceEqDiff])
    | (refine c_skip ?_
       simp only [Thn, Inb, if_true, if_false, reduceIte, Nat.reduceEqDiff])
    | (refine c_cond true (by rfl) (fun _ => ?_) (fun e => by cases e))
    | (refine c_cond false (by rfl) (fun e => by cases e) (fun _ => ?_))
    | (refine c_block ?_)
    | (refine c_label ?_
       simp only [Thn, Inb, if_true, if_false, reduceIte, Nat.reduceEqDiff])
    | (refine c_scope ?_)
    | (refine o_cons (u_read (by omega) hactx rfl (by rfl) fun w hF K' hK' => ?_)
       go_simp
       refine hK' _ ⟨?_, ?_⟩
       focus
         rw [listed_nil]
         · simp
         · (simp [go_sem]; done)
       clear hK' K' hF w
       try walk_nrm)
    | (refine o_cons (u_unwanted (by omega) rfl (by rfl) ?_)
       try walk_nrm))
  refine o_cons (u_store1 (ad := ⟨bF, 0, none⟩) (.func (.func 9) #[] #[bpt bR, bpt bC, bpt bF, bpt bP, bpt bT, bpt bV]) (by omega) hactx rfl (by rfl) rfl (by rfl) rfl rfl rfl (by rw [hbx]; simp) ?_)
  obtain ⟨l13, hl13⟩ : ∃ l13, l13 = lx.setc ⟨bF, 0, none⟩ (.func (.func 9) #[] #[bpt bR, bpt bC, bpt bF, bpt bP, bpt bT, bpt bV]) := ⟨_, rfl⟩
  rw [← hl13]
  have g13 : Grow l12 l13 := by rw [hl13]; exact gx.setc (hbF.cell _ rfl) _
  have bF13 : l13.res.cells ⟨bF, 0, none⟩ = some (.func (.func 9) #[] #[bpt bR, bpt bC, bpt bF, bpt bP, bpt bT, bpt bV]) := by rw [hl13]; show (if _ = _ then _ else _) = _; rw [if_pos rfl]
  have hact13 : l13.md = .act := g13.md.trans hact12
  clear hl13 hbx hactx gx lx
  try walk_nrm
  repeat (first
    | (refine o_nil ?_
       simp only [Thn, Inb, if_true, if_false, reduceIte, Nat.reduceEqDiff])
    | (refine c_skip ?_
       simp only [Thn, Inb, if_true, if_false, reduceIte, Nat.reduceEqDiff])
    | (refine c_cond true (by rfl) (fun _ => ?_) (fun e => by cases e))
    | (refine c_cond false (by rfl) (fun e => by cases e) (fun _ => ?_))
    | (refine c_block ?_)
    | (refine c_label ?_
       simp only [Thn, Inb, if_true, if_false, reduceIte, Nat.reduceEqDiff])
    | (refine c_scope ?_)
    | (refine o_cons (u_read (by omega) hact13 rfl (by rfl) fun w hF K' hK' => ?_)
       go_simp
       refine hK' _ ⟨?_, ?_⟩
       focus
         rw [listed_nil]
         · simp
         · (simp [go_sem]; done)
       clear hK' K' hF w
       try walk_nrm)
    | (refine o_cons (u_unwanted (by omega) rfl (by rfl) ?_)
       try walk_nrm))
  -- the two rows stay its own; the variables are only read from now on
  have nVbV : V ≠ bV := fun e => by have := hbV.cell ⟨V, 0, none⟩ e; rw [V9 0 (by omega)] at this; cases this
  have V10 : ∀ j, j < n → l10.res.cells ⟨V, j, none⟩ = some (.int .i64 0) := fun j hj => g10.has (V9 j hj)
  have nVR : V ≠ R := fun e => by have := hR.cell ⟨V, 0, none⟩ e; rw [V10 0 (by omega)] at this; cases this
  have nbVR : bV ≠ R := fun e => by have := hR.cell ⟨bV, 0, none⟩ e; rw [bV10] at this; cases this
  have V11 : ∀ j, j < n → l11.res.cells ⟨V, j, none⟩ = some (.int .i64 0) := fun j hj => g11.has (V10 j hj)
  have nVbR : V ≠ bR := fun e => by have := hbR.cell ⟨V, 0, none⟩ e; rw [V11 0 (by omega)] at this; cases this
  have nRbR : R ≠ bR := fun e => by have := hbR.cell ⟨R, 0, none⟩ e; rw [R11 0 (by omega)] at this; cases this
  have V12 : ∀ j, j < n → l12.res.cells ⟨V, j, none⟩ = some (.int .i64 0) := fun j hj => g12.has (V11 j hj)
  have R12 : ∀ j, j < n → l12.res.cells ⟨R, j, none⟩ = some (.int .i64 0) := fun j hj => g12.has (R11 j hj)
  have nVbF : V ≠ bF := fun e => by have := hbF.cell ⟨V, 0, none⟩ e; rw [V12 0 (by omega)] at this; cases this
  have nRbF : R ≠ bF := fun e => by have := hbF.cell ⟨R, 0, none⟩ e; rw [R12 0 (by omega)] at this; cases this
  have V13 : ∀ j, j < n → l13.res.cells ⟨V, j, none⟩ = some (.int .i64 0) := fun j hj => g13.has (V12 j hj)
  have R13 : ∀ j, j < n → l13.res.cells ⟨R, j, none⟩ = some (.int .i64 0) := fun j hj => g13.has (R12 j hj)
  have bV13 := g13.has (g12.has (g11.has bV10))
  have bR13 := g13.has bR12
  have G13 : Grow l8 l13 := g9.trans (g10.trans (g11.trans (g12.trans g13)))
  obtain ⟨pf, hpf⟩ : ∃ pf : Addr → Prop, pf = fun a => a = ⟨bV, 0, none⟩ ∨ a = ⟨bR, 0, none⟩ ∨ a = ⟨bF, 0, none⟩ := ⟨_, rfl⟩
  refine c_turn (turn_ice hact13 pf) (quit_act hact13) ?_
  have hC14 : Calm (l13.ice pf) := (hC8.grow G13).ice pf
  have r14 : ∀ a v, l13.ro a v → (l13.ice pf).ro a v := fun a v h => .inl h
  have G14 : ∀ a v, l8.ro a v → (l13.ice pf).ro a v := fun a v h => .inl (G13.ro a v h)
  have bV14 : (l13.ice pf).ro ⟨bV, 0, none⟩ (.slice (some ⟨V, 0, none⟩) n n) := .inr ⟨by rw [hpf]; exact .inl rfl, bV13⟩
  have bR14 : (l13.ice pf).ro ⟨bR, 0, none⟩ (.slice (some ⟨R, 0, none⟩) n n) := .inr ⟨by rw [hpf]; exact .inr (.inl rfl), bR13⟩
  have bF14 : (l13.ice pf).ro ⟨bF, 0, none⟩ (.func (.func 9) #[] #[bpt bR, bpt bC, bpt bF, bpt bP, bpt bT, bpt bV]) := .inr ⟨by rw [hpf]; exact .inr (.inr rfl), bF13⟩
  have V14 : ∀ j, j < n → (l13.ice pf).res.cells ⟨V, j, none⟩ = some (.int .i64 0) := fun j hj => by rw [ice_cell (by rw [hpf]; simp [nVbV, nVbR, nVbF])]; exact V13 j hj
  have R14 : ∀ j, j < n → (l13.ice pf).res.cells ⟨R, j, none⟩ = some (.int .i64 0) := fun j hj => by rw [ice_cell (by rw [hpf]; simp [nbVR.symm, nRbR, nRbF])]; exact R13 j hj
  have pl14 : (l13.ice pf).pl p = some (ch, cap, false) := by show l13.pl p = _; rw [G13.pl]; exact hpl8
  have tk14 : (l13.ice pf).res.tk (.begun p) = 0 := by show l13.res.tk _ = 0; rw [G13.tk]; exact tk8
  obtain ⟨N, hNd⟩ : ∃ N : Nest, N = { n := n, par := fun i => (ps i).toNat, own := os, Ch := Ch, A := B, co := c2, rb := fun d => (rb d).map fun r => ⟨r, 0, none⟩, rc := rc, bR := bR, bC := bC, bF := bF, bP := bP, bT := bT, bV := bV, R := R, V := V, p := p, ch := ch, cap := cap } := ⟨_, rfl⟩
  have hN14 : NestRo N (l13.ice pf) := by
    rw [hNd]
    exact ⟨hpar, hn2, ⟨fun d hd => G14 _ _ (T8.outer d hd), fun d j hd hj => by obtain ⟨Rw, k1, k2⟩ := T8.row d j hd hj; exact ⟨Rw, k1, G14 _ _ k2⟩, fun d hd => G14 _ _ (T8.own d hd)⟩, bR14, G14 _ _ bC8, bF14, G14 _ _ bP8, G14 _ _ bT8, bV14, nVR.symm, pl14, G14 _ _ hro8, hc1⟩
  have raw14 : N.raw 0 (l13.ice pf).res.cells := by
    rw [hNd]
    exact fun x hx => ⟨R14 x (hx.lt (show 0 < n by omega)), V14 x (hx.lt (show 0 < n by omega))⟩
  obtain ⟨l14, hl14⟩ : ∃ l14, l14 = l13.ice pf := ⟨_, rfl⟩
  rw [← hl14] at hC14 hN14 raw14 tk14 V14 R14 ⊢
  have hact14 := hC14.md
  have e_p : N.p = p := by rw [hNd]
  have e_n : N.n = n := by rw [hNd]
  have e_R : N.R = R := by rw [hNd]
  have e_V : N.V = V := by rw [hNd]
  have e_bP : N.bP = bP := by rw [hNd]
  have e_bC : N.bC = bC := by rw [hNd]
  have e_bT : N.bT = bT := by rw [hNd]
  have e_bV : N.bV = bV := by rw [hNd]
  have e_bR : N.bR = bR := by rw [hNd]
  have e_bF : N.bF = bF := by rw [hNd]
  clear hNd hl14 pl14 bF14 bR14 bV14 G14 r14 hpf G13 bR13 bV13 V13 R13 nRbF nVbF V12 R12 nRbR nVbR V11 nbVR nVR V10 nVbV hro8 hpl8 T8 hOB8 bT8 bC8 bP8 hC8 hbF hbR hbV hR hV g9 g10 g11 g12 g13 hact8 hact10 hact12 hact13 tk8
  repeat (first
    | (refine c_seq ?_)
    | (refine c_region ?_
       simp only [List.size_toArray, List.length_cons, List.length_nil, Nat.reduceAdd, Nat.zero_add, List.range, List.range.loop])
    | (refine o_nil ?_
       simp only [Thn, Inb, if_true, if_false, reduceIte, Nat.reduceEqDiff])
    | (refine c_skip ?_
       simp only [Thn, Inb, if_true, if_false, reduceIte, Nat.reduceEqDiff])
    | (refine c_cond true (by rfl) (fun _ => ?_) (fun e => by cases e))
    | (refine c_cond false (by rfl) (fun e => by cases e) (fun _ => ?_))
    | (refine c_block ?_)
    | (refine c_label ?_
       simp only [Thn, Inb, if_true, if_false, reduceIte, Nat.reduceEqDiff])
    | (refine c_scope ?_)
    | (refine o_cons (u_read (by omega) hact14 rfl (by rfl) fun w hF K' hK' => ?_)
       go_simp
       refine hK' _ ⟨?_, ?_⟩
       focus
         rw [listed_nil]
         · simp
         · (simp [go_sem]; done)
       clear hK' K' hF w
       try walk_nrm)
    | (refine o_cons (u_unwanted (by omega) rfl (by rfl) ?_)
       try walk_nrm))
  refine o_cons (u_load (.pointer (some ⟨p, 0, none⟩)) (by omega) hact14 rfl (by rfl) rfl Try.underlying29 rfl rfl (.inr (by rw [← e_bP, ← e_p]; exact hN14.bP)) ?_)
  try walk_nrm
  repeat (first
    | (refine c_seq ?_)
    | (refine c_region ?_
       simp only [List.size_toArray, List.length_cons, List.length_nil, Nat.reduceAdd, Nat.zero_add, List.range, List.range.loop])
    | (refine o_nil ?_
       simp only [Thn, Inb, if_true, if_false, reduceIte, Nat.reduceEqDiff])
    | (refine c_skip ?_
       simp only [Thn, Inb, if_true, if_false, reduceIte, Nat.reduceEqDiff])
    | (refine c_cond true (by rfl) (fun _ => ?_) (fun e => by cases e))
    | (refine c_cond false (by rfl) (fun e => by cases e) (fun _ => ?_))
    | (refine c_block ?_)
    | (refine c_label ?_
       simp only [Thn, Inb, if_true, if_false, reduceIte, Nat.reduceEqDiff])
    | (refine c_scope ?_)
    | (refine o_cons (u_read (by omega) hact14 rfl (by rfl) fun w hF K' hK' => ?_)
       go_simp
       refine hK' _ ⟨?_, ?_⟩
       focus
         rw [listed_nil]
         · simp
         · (simp [go_sem]; done)
       clear hK' K' hF w
       try walk_nrm)
    | (refine o_cons (u_unwanted (by omega) rfl (by rfl) ?_)
       try walk_nrm))
  refine o_cons (u_new (by omega) hact14 rfl (by rfl) (.cells #[.func (.func 12) #[] #[.pointer (some ⟨bF, 0, none⟩)]] 34) (fun r => .slice (some ⟨r, 0, none⟩) 1 1) (fun r => l14.addc r #[.func (.func 12) #[] #[.pointer (some ⟨bF, 0, none⟩)]]) (fun w => by simp [go_sem]) (fun w => by simp [go_sem]) (new_cells hact14 _ _) fun T hT => ?_)
  obtain ⟨l15, hl15⟩ : ∃ l15, l15 = l14.addc T #[.func (.func 12) #[] #[.pointer (some ⟨bF, 0, none⟩)]] := ⟨_, rfl⟩
  rw [← hl15]
  have g15 : Grow l14 l15 := by rw [hl15]; exact (Grow.refl _).addc hT _
  have hC15 := hC14.grow g15
  have hT15 : l15.res.cells ⟨T, 0, none⟩ = some (rootTask N).v := by rw [hl15, addc_new]; show _ = some (Value.func (.func 12) #[] #[bpt N.bF]); rw [e_bF]; rfl
  have nTR : T ≠ N.R := fun e => by have := hT.cell ⟨R, 0, none⟩ (by rw [e, e_R]); rw [R14 0 (by omega)] at this; cases this
  have nTV : T ≠ N.V := fun e => by have := hT.cell ⟨V, 0, none⟩ (by rw [e, e_V]); rw [V14 0 (by omega)] at this; cases this
  have hN15 : NestRo N l15 := hN14.of g15.ro g15.pl
  have raw15 : N.raw 0 l15.res.cells := raw14.of fun a ha => g15.cell a (raw14.own a ha)
  have tk15 : l15.res.tk (.begun p) = 0 := by rw [g15.tk]; exact tk14
  clear hl15 g15
  try walk_nrm
  refine o_cons (u_callx (n := nr) #[.pointer (some ⟨p, 0, none⟩), .slice (some ⟨T, 0, none⟩) 1 1] (by omega) rfl (by rfl) rfl (by walk_nrm) ?_)
  have key := hr N E l15 T 1 h0 (by omega) hC15 hN15 raw15 hT15 nTR nTV
  rw [e_p] at key
  refine key.mono fun v l16 hp => ?_
  obtain ⟨O, rfl, hO16, hdone, hC16, ro16, pl16, tk16, pk16⟩ := hp
  have hN16 : NestRo N l16 := hN15.of ro16 pl16
  have hact16 := hC16.md
  try walk_nrm
  repeat (first
    | (refine o_nil ?_
       simp only [Thn, Inb, if_true, if_false, reduceIte, Nat.reduceEqDiff])
    | (refine c_skip ?_
       simp only [Thn, Inb, if_true, if_false, reduceIte, Nat.reduceEqDiff])
    | (refine c_cond true (by rfl) (fun _ => ?_) (fun e => by cases e))
    | (refine c_cond false (by rfl) (fun e => by cases e) (fun _ => ?_))
    | (refine c_block ?_)
    | (refine c_label ?_
       simp only [Thn, Inb, if_true, if_false, reduceIte, Nat.reduceEqDiff])
    | (refine c_scope ?_)
    | (refine o_cons (u_read (by omega) hact16 rfl (by rfl) fun w hF K' hK' => ?_)
       go_simp
       refine hK' _ ⟨?_, ?_⟩
       focus
         rw [listed_nil]
         · simp
         · (simp [go_sem]; done)
       clear hK' K' hF w
       try walk_nrm)
    | (refine o_cons (u_unwanted (by omega) rfl (by rfl) ?_)
       try walk_nrm))
  refine h16 E l16 N O _ _ rfl h0 hC16 (by omega) hN16 hdone hO16 (by rw [e_p, tk16, tk15]; omega) (by rw [e_p]; exact pk16) ?_ Post (fun v l' h1 h2 => by rw [hPostH.out]; exact ⟨h1, h2⟩) e (by omega)
  unfold bpt
  rw [e_bT, e_bC, e_bP, e_bV, e_bR]
  exact fitF rfl
end Go.Proofs.Ytofohjbcgchhoaa
namespace Go.Proofs.Ytofohjbcgchhoaa
open Go.Conc
open Go.RowKit
open Go.ConcN (sumTo sumTo_congr le_sumTo)
set_option maxRecDepth 100000
set_option linter.unusedSimpArgs false
set_option linter.unusedVariables false

set_option maxHeartbeats 16000000 in
theorem law3 : ∃ N, ∀ (E : En) (w : Int) (l0 : Lo) (A1 A2 : Option Addr) (n1 c1 n2 c2 : Nat) (ps os : Nat → Int), E.i = 0 → Calm l0 → (∀ i, i < n1 → ∃ A, A1 = some A ∧ l0.ro (A.add i) (.int .i64 (ps i))) → (∀ i, i < n2 → ∃ A, A2 = some A ∧ l0.ro (A.add i) (.int .i64 (os i))) →
    E.B 3 #[.int .i64 w, .agg #[.slice A1 n1 c1, .slice A2 n2 c2]] N l0 fun v l' => v = .bool true ∧ Calm l' := by
  obtain ⟨n6, h6⟩ := works6
  obtain ⟨nt, ht⟩ := tail3
  refine ⟨_, fun E w l0 A1 A2 n1 c1 n2 c2 ps os h0 hC0 hP hO => b_of (e := n6 + nt + 2) (L := 257) Try.func3 (by rfl) rfl ?_⟩
  have hact0 := hC0.md
  simp only [act0, Try.ntmps3, List.size_toArray, List.length_cons, List.length_nil, Nat.reduceAdd, Nat.reduceSub, Array.replicate_succ, Array.replicate_zero, List.push_toArray, List.append_toArray, List.nil_append, List.cons_append]
  repeat (first
    | (refine c_seq ?_)
    | (refine c_region ?_
       simp only [List.size_toArray, List.length_cons, List.length_nil, Nat.reduceAdd, Nat.zero_add, List.range, List.range.loop])
    | (refine o_nil ?_
       simp only [Thn, Inb, if_true, if_false, reduceIte, Nat.reduceEqDiff])
    | (refine c_skip ?_
       simp only [Thn, Inb, if_true, if_false, reduceIte, Nat.reduceEqDiff])
    | (refine c_cond true (by rfl) (fun _ => ?_) (fun e => by cases e))
    | (refine c_cond false (by rfl) (fun e => by cases e) (fun _ => ?_))
    | (refine c_block ?_)
    | (refine c_label ?_
       simp only [Thn, Inb, if_true, if_false, reduceIte, Nat.reduceEqDiff])
    | (refine c_scope ?_)
    | (refine o_cons (u_read (by omega) hact0 rfl (by rfl) fun w hF K' hK' => ?_)
       go_simp
       refine hK' _ ⟨?_, ?_⟩
       focus
         rw [listed_nil]
         · simp
         · (simp [go_sem]; done)
       clear hK' K' hF w
       try walk_nrm)
    | (refine o_cons (u_unwanted (by omega) rfl (by rfl) ?_)
       try walk_nrm))
  refine o_cons (u_new (by omega) hact0 rfl (by rfl) (.cells #[.slice A1 n1 c1, .slice A2 n2 c2] 24) (fun r => .pointer (some ⟨r, 0, none⟩)) (fun r => l0.addc r #[.slice A1 n1 c1, .slice A2 n2 c2]) (fun w => ?_) (fun w => ?_) (new_cells hact0 _ _) fun bT hbT => ?_)
  · simp [go_sem]
  · simp [go_sem]
  obtain ⟨l1, hl1⟩ : ∃ l1, l1 = l0.addc bT #[.slice A1 n1 c1, .slice A2 n2 c2] := ⟨_, rfl⟩
  rw [← hl1]
  have g1 : Grow l0 l1 := by rw [hl1]; exact (Grow.refl _).addc hbT _
  have hC1 : Calm l1 := hC0.grow g1
  have t1 : l1.res.cells ⟨bT, 0, none⟩ = some (.slice A1 n1 c1) := by rw [hl1, addc_new]; rfl
  have t2 : l1.res.cells ⟨bT, 1, none⟩ = some (.slice A2 n2 c2) := by rw [hl1, addc_new]; rfl
  have hP1 : ∀ i, i < n1 → ∃ A, A1 = some A ∧ l1.ro (A.add i) (.int .i64 (ps i)) := fun i hi => by obtain ⟨A, h1, h2⟩ := hP i hi; exact ⟨A, h1, g1.ro _ _ h2⟩
  have hO1 : ∀ i, i < n2 → ∃ A, A2 = some A ∧ l1.ro (A.add i) (.int .i64 (os i)) := fun i hi => by obtain ⟨A, h1, h2⟩ := hO i hi; exact ⟨A, h1, g1.ro _ _ h2⟩
  have hact1 := hC1.md
  clear g1 hl1 hbT hP hO hact0 hC0
  try walk_nrm
  repeat (first
    | (refine c_seq ?_)
    | (refine c_region ?_
       simp only [List.size_toArray, List.length_cons, List.length_nil, Nat.reduceAdd, Nat.zero_add, List.range, List.range.loop])
    | (refine o_nil ?_
       simp only [Thn, Inb, if_true, if_false, reduceIte, Nat.reduceEqDiff])
    | (refine c_skip ?_
       simp only [Thn, Inb, if_true, if_false, reduceIte, Nat.reduceEqDiff])
    | (refine c_cond true (by rfl) (fun _ => ?_) (fun e => by cases e))
    | (refine c_cond false (by rfl) (fun e => by cases e) (fun _ => ?_))
    | (refine c_block ?_)
    | (refine c_label ?_
       simp only [Thn, Inb, if_true, if_false, reduceIte, Nat.reduceEqDiff])
    | (refine c_scope ?_)
    | (refine o_cons (u_read (by omega) hact1 rfl (by rfl) fun w hF K' hK' => ?_)
       go_simp
       refine hK' _ ⟨?_, ?_⟩
       focus
         rw [listed_nil]
         · simp
         · (simp [go_sem]; done)
       clear hK' K' hF w
       try walk_nrm)
    | (refine o_cons (u_unwanted (by omega) rfl (by rfl) ?_)
       try walk_nrm))
  refine o_cons (u_callx (n := n6) #[] (by omega) rfl (by rfl) rfl (by walk_nrm) ?_)
  refine h6 E l1 _ h0 hC1 fun l2 hC2 hL2 => ?_
  have hact2 := hC2.md
  have t1' := hL2.has t1
  have t2' := hL2.has t2
  try walk_nrm
  repeat (first
    | (refine c_seq ?_)
    | (refine c_region ?_
       simp only [List.size_toArray, List.length_cons, List.length_nil, Nat.reduceAdd, Nat.zero_add, List.range, List.range.loop])
    | (refine o_nil ?_
       simp only [Thn, Inb, if_true, if_false, reduceIte, Nat.reduceEqDiff])
    | (refine c_skip ?_
       simp only [Thn, Inb, if_true, if_false, reduceIte, Nat.reduceEqDiff])
    | (refine c_cond true (by rfl) (fun _ => ?_) (fun e => by cases e))
    | (refine c_cond false (by rfl) (fun e => by cases e) (fun _ => ?_))
    | (refine c_block ?_)
    | (refine c_label ?_
       simp only [Thn, Inb, if_true, if_false, reduceIte, Nat.reduceEqDiff])
    | (refine c_scope ?_)
    | (refine o_cons (u_read (by omega) hact2 rfl (by rfl) fun w hF K' hK' => ?_)
       go_simp
       refine hK' _ ⟨?_, ?_⟩
       focus
         rw [listed_nil]
         · simp
         · (simp [go_sem]; done)
       clear hK' K' hF w
       try walk_nrm)
    | (refine o_cons (u_unwanted (by omega) rfl (by rfl) ?_)
       try walk_nrm))
  by_cases hbig : 256 < n1
  · have hd1 : decide ((256 : Int) < (n1 : Int)) = true := by simp; omega
    refine o_cons (u_load (.slice A1 n1 c1) (by omega) hact2 rfl (by rfl) rfl Try.underlying22 rfl rfl (.inl t1') ?_)
    try walk_nrm
    repeat (first
      | (refine c_seq ?_)
      | (refine c_region ?_
         simp only [List.size_toArray, List.length_cons, List.length_nil, Nat.reduceAdd, Nat.zero_add, List.range, List.range.loop])
      | (refine o_nil ?_
         simp only [Thn, Inb, if_true, if_false, reduceIte, Nat.reduceEqDiff])
      | (refine c_skip ?_
         simp only [Thn, Inb, if_true, if_false, reduceIte, Nat.reduceEqDiff])
      | (refine c_cond true (by rfl) (fun _ => ?_) (fun e => by cases e))
      | (refine c_cond false (by rfl) (fun e => by cases e) (fun _ => ?_))
      | (refine c_block ?_)
      | (refine c_label ?_
         simp only [Thn, Inb, if_true, if_false, reduceIte, Nat.reduceEqDiff])
      | (refine c_scope ?_)
      | (refine o_cons (u_read (by omega) hact2 rfl (by rfl) fun w hF K' hK' => ?_)
         go_simp
         refine hK' _ ⟨?_, ?_⟩
         focus
           rw [listed_nil]
           · simp
           · (simp [go_sem]; done)
         clear hK' K' hF w
         try walk_nrm)
      | (refine o_cons (u_unwanted (by omega) rfl (by rfl) ?_)
         try walk_nrm))
    refine c_ret ?_
    refine ⟨rfl, _, resultsC_tmp (by rfl) _, ?_⟩
    exact ⟨rfl, hC2⟩
  have hd1 : decide ((256 : Int) < (n1 : Int)) = false := by simp; omega
  by_cases hne : n2 ≠ n1
  · have hd2 : ((n2 : Int) != (n1 : Int)) = true := by simp; omega
    refine o_cons (u_load (.slice A1 n1 c1) (by omega) hact2 rfl (by rfl) rfl Try.underlying22 rfl rfl (.inl t1') ?_)
    try walk_nrm
    repeat (first
      | (refine c_seq ?_)
      | (refine c_region ?_
         simp only [List.size_toArray, List.length_cons, List.length_nil, Nat.reduceAdd, Nat.zero_add, List.range, List.range.loop])
      | (refine o_nil ?_
         simp only [Thn, Inb, if_true, if_false, reduceIte, Nat.reduceEqDiff])
      | (refine c_skip ?_
         simp only [Thn, Inb, if_true, if_false, reduceIte, Nat.reduceEqDiff])
      | (refine c_cond true (by rfl) (fun _ => ?_) (fun e => by cases e))
      | (refine c_cond false (by rfl) (fun e => by cases e) (fun _ => ?_))
      | (refine c_block ?_)
      | (refine c_label ?_
         simp only [Thn, Inb, if_true, if_false, reduceIte, Nat.reduceEqDiff])
      | (refine c_scope ?_)
      | (refine o_cons (u_read (by omega) hact2 rfl (by rfl) fun w hF K' hK' => ?_)
         go_simp
         refine hK' _ ⟨?_, ?_⟩
         focus
           rw [listed_nil]
           · simp
           · (simp [go_sem]; done)
         clear hK' K' hF w
         try walk_nrm)
      | (refine o_cons (u_unwanted (by omega) rfl (by rfl) ?_)
         try walk_nrm))
    refine o_cons (u_load (.slice A2 n2 c2) (by omega) hact2 rfl (by rfl) rfl Try.underlying22 rfl rfl (.inl t2') ?_)
    try walk_nrm
    repeat (first
      | (refine c_seq ?_)
      | (refine c_region ?_
         simp only [List.size_toArray, List.length_cons, List.length_nil, Nat.reduceAdd, Nat.zero_add, List.range, List.range.loop])
      | (refine o_nil ?_
         simp only [Thn, Inb, if_true, if_false, reduceIte, Nat.reduceEqDiff])
      | (refine c_skip ?_
         simp only [Thn, Inb, if_true, if_false, reduceIte, Nat.reduceEqDiff])
      | (refine c_cond true (by rfl) (fun _ => ?_) (fun e => by cases e))
      | (refine c_cond false (by rfl) (fun e => by cases e) (fun _ => ?_))
      | (refine c_block ?_)
      | (refine c_label ?_
         simp only [Thn, Inb, if_true, if_false, reduceIte, Nat.reduceEqDiff])
      | (refine c_scope ?_)
      | (refine o_cons (u_read (by omega) hact2 rfl (by rfl) fun w hF K' hK' => ?_)
         go_simp
         refine hK' _ ⟨?_, ?_⟩
         focus
           rw [listed_nil]
           · simp
           · (simp [go_sem]; done)
         clear hK' K' hF w
         try walk_nrm)
      | (refine o_cons (u_unwanted (by omega) rfl (by rfl) ?_)
         try walk_nrm))
    refine o_cons (u_load (.slice A1 n1 c1) (by omega) hact2 rfl (by rfl) rfl Try.underlying22 rfl rfl (.inl t1') ?_)
    try walk_nrm
    repeat (first
      | (refine c_seq ?_)
      | (refine c_region ?_
         simp only [List.size_toArray, List.length_cons, List.length_nil, Nat.reduceAdd, Nat.zero_add, List.range, List.range.loop])
      | (refine o_nil ?_
         simp only [Thn, Inb, if_true, if_false, reduceIte, Nat.reduceEqDiff])
      | (refine c_skip ?_
         simp only [Thn, Inb, if_true, if_false, reduceIte, Nat.reduceEqDiff])
      | (refine c_cond true (by rfl) (fun _ => ?_) (fun e => by cases e))
      | (refine c_cond false (by rfl) (fun e => by cases e) (fun _ => ?_))
      | (refine c_block ?_)
      | (refine c_label ?_
         simp only [Thn, Inb, if_true, if_false, reduceIte, Nat.reduceEqDiff])
      | (refine c_scope ?_)
      | (refine o_cons (u_read (by omega) hact2 rfl (by rfl) fun w hF K' hK' => ?_)
         go_simp
         refine hK' _ ⟨?_, ?_⟩
         focus
           rw [listed_nil]
           · simp
           · (simp [go_sem]; done)
         clear hK' K' hF w
         try walk_nrm)
      | (refine o_cons (u_unwanted (by omega) rfl (by rfl) ?_)
         try walk_nrm))
    refine c_ret ?_
    refine ⟨rfl, _, resultsC_tmp (by rfl) _, ?_⟩
    exact ⟨rfl, hC2⟩
  have hne' : n2 = n1 := Classical.not_not.1 hne
  subst hne'
  have hd2 : ((n2 : Int) != (n2 : Int)) = false := by simp
  by_cases hz : n2 = 0
  · subst hz
    have hd3 : (((0 : Nat) : Int) == 0) = true := rfl
    refine o_cons (u_load (.slice A1 0 c1) (by omega) hact2 rfl (by rfl) rfl Try.underlying22 rfl rfl (.inl t1') ?_)
    try walk_nrm
    repeat (first
      | (refine c_seq ?_)
      | (refine c_region ?_
         simp only [List.size_toArray, List.length_cons, List.length_nil, Nat.reduceAdd, Nat.zero_add, List.range, List.range.loop])
      | (refine o_nil ?_
         simp only [Thn, Inb, if_true, if_false, reduceIte, Nat.reduceEqDiff])
      | (refine c_skip ?_
         simp only [Thn, Inb, if_true, if_false, reduceIte, Nat.reduceEqDiff])
      | (refine c_cond true (by rfl) (fun _ => ?_) (fun e => by cases e))
      | (refine c_cond false (by rfl) (fun e => by cases e) (fun _ => ?_))
      | (refine c_block ?_)
      | (refine c_label ?_
         simp only [Thn, Inb, if_true, if_false, reduceIte, Nat.reduceEqDiff])
      | (refine c_scope ?_)
      | (refine o_cons (u_read (by omega) hact2 rfl (by rfl) fun w hF K' hK' => ?_)
         go_simp
         refine hK' _ ⟨?_, ?_⟩
         focus
           rw [listed_nil]
           · simp
           · (simp [go_sem]; done)
         clear hK' K' hF w
         try walk_nrm)
      | (refine o_cons (u_unwanted (by omega) rfl (by rfl) ?_)
         try walk_nrm))
    refine o_cons (u_load (.slice A2 0 c2) (by omega) hact2 rfl (by rfl) rfl Try.underlying22 rfl rfl (.inl t2') ?_)
    try walk_nrm
    repeat (first
      | (refine c_seq ?_)
      | (refine c_region ?_
         simp only [List.size_toArray, List.length_cons, List.length_nil, Nat.reduceAdd, Nat.zero_add, List.range, List.range.loop])
      | (refine o_nil ?_
         simp only [Thn, Inb, if_true, if_false, reduceIte, Nat.reduceEqDiff])
      | (refine c_skip ?_
         simp only [Thn, Inb, if_true, if_false, reduceIte, Nat.reduceEqDiff])
      | (refine c_cond true (by rfl) (fun _ => ?_) (fun e => by cases e))
      | (refine c_cond false (by rfl) (fun e => by cases e) (fun _ => ?_))
      | (refine c_block ?_)
      | (refine c_label ?_
         simp only [Thn, Inb, if_true, if_false, reduceIte, Nat.reduceEqDiff])
      | (refine c_scope ?_)
      | (refine o_cons (u_read (by omega) hact2 rfl (by rfl) fun w hF K' hK' => ?_)
         go_simp
         refine hK' _ ⟨?_, ?_⟩
         focus
           rw [listed_nil]
           · simp
           · (simp [go_sem]; done)
         clear hK' K' hF w
         try walk_nrm)
      | (refine o_cons (u_unwanted (by omega) rfl (by rfl) ?_)
         try walk_nrm))
    refine o_cons (u_load (.slice A1 0 c1) (by omega) hact2 rfl (by rfl) rfl Try.underlying22 rfl rfl (.inl t1') ?_)
    try walk_nrm
    repeat (first
      | (refine c_seq ?_)
      | (refine c_region ?_
         simp only [List.size_toArray, List.length_cons, List.length_nil, Nat.reduceAdd, Nat.zero_add, List.range, List.range.loop])
      | (refine o_nil ?_
         simp only [Thn, Inb, if_true, if_false, reduceIte, Nat.reduceEqDiff])
      | (refine c_skip ?_
         simp only [Thn, Inb, if_true, if_false, reduceIte, Nat.reduceEqDiff])
      | (refine c_cond true (by rfl) (fun _ => ?_) (fun e => by cases e))
      | (refine c_cond false (by rfl) (fun e => by cases e) (fun _ => ?_))
      | (refine c_block ?_)
      | (refine c_label ?_
         simp only [Thn, Inb, if_true, if_false, reduceIte, Nat.reduceEqDiff])
      | (refine c_scope ?_)
      | (refine o_cons (u_read (by omega) hact2 rfl (by rfl) fun w hF K' hK' => ?_)
         go_simp
         refine hK' _ ⟨?_, ?_⟩
         focus
           rw [listed_nil]
           · simp
           · (simp [go_sem]; done)
         clear hK' K' hF w
         try walk_nrm)
      | (refine o_cons (u_unwanted (by omega) rfl (by rfl) ?_)
         try walk_nrm))
    refine o_cons (u_load (.slice A2 0 c2) (by omega) hact2 rfl (by rfl) rfl Try.underlying22 rfl rfl (.inl t2') ?_)
    try walk_nrm
    repeat (first
      | (refine c_seq ?_)
      | (refine c_region ?_
         simp only [List.size_toArray, List.length_cons, List.length_nil, Nat.reduceAdd, Nat.zero_add, List.range, List.range.loop])
      | (refine o_nil ?_
         simp only [Thn, Inb, if_true, if_false, reduceIte, Nat.reduceEqDiff])
      | (refine c_skip ?_
         simp only [Thn, Inb, if_true, if_false, reduceIte, Nat.reduceEqDiff])
      | (refine c_cond true (by rfl) (fun _ => ?_) (fun e => by cases e))
      | (refine c_cond false (by rfl) (fun e => by cases e) (fun _ => ?_))
      | (refine c_block ?_)
      | (refine c_label ?_
         simp only [Thn, Inb, if_true, if_false, reduceIte, Nat.reduceEqDiff])
      | (refine c_scope ?_)
      | (refine o_cons (u_read (by omega) hact2 rfl (by rfl) fun w hF K' hK' => ?_)
         go_simp
         refine hK' _ ⟨?_, ?_⟩
         focus
           rw [listed_nil]
           · simp
           · (simp [go_sem]; done)
         clear hK' K' hF w
         try walk_nrm)
      | (refine o_cons (u_unwanted (by omega) rfl (by rfl) ?_)
         try walk_nrm))
    refine c_ret ?_
    refine ⟨rfl, _, resultsC_tmp (by rfl) _, ?_⟩
    exact ⟨rfl, hC2⟩
  have hd3 : ((n2 : Int) == 0) = false := by simp; omega
  refine o_cons (u_load (.slice A1 n2 c1) (by omega) hact2 rfl (by rfl) rfl Try.underlying22 rfl rfl (.inl t1') ?_)
  try walk_nrm
  repeat (first
    | (refine c_seq ?_)
    | (refine c_region ?_
       simp only [List.size_toArray, List.length_cons, List.length_nil, Nat.reduceAdd, Nat.zero_add, List.range, List.range.loop])
    | (refine o_nil ?_
       simp only [Thn, Inb, if_true, if_false, reduceIte, Nat.reduceEqDiff])
    | (refine c_skip ?_
       simp only [Thn, Inb, if_true, if_false, reduceIte, Nat.reduceEqDiff])
    | (refine c_cond true (by rfl) (fun _ => ?_) (fun e => by cases e))
    | (refine c_cond false (by rfl) (fun e => by cases e) (fun _ => ?_))
    | (refine c_block ?_)
    | (refine c_label ?_
       simp only [Thn, Inb, if_true, if_false, reduceIte, Nat.reduceEqDiff])
    | (refine c_scope ?_)
    | (refine o_cons (u_read (by omega) hact2 rfl (by rfl) fun w hF K' hK' => ?_)
       go_simp
       refine hK' _ ⟨?_, ?_⟩
       focus
         rw [listed_nil]
         · simp
         · (simp [go_sem]; done)
       clear hK' K' hF w
       try walk_nrm)
    | (refine o_cons (u_unwanted (by omega) rfl (by rfl) ?_)
       try walk_nrm))
  refine o_cons (u_load (.slice A2 n2 c2) (by omega) hact2 rfl (by rfl) rfl Try.underlying22 rfl rfl (.inl t2') ?_)
  try walk_nrm
  repeat (first
    | (refine c_seq ?_)
    | (refine c_region ?_
       simp only [List.size_toArray, List.length_cons, List.length_nil, Nat.reduceAdd, Nat.zero_add, List.range, List.range.loop])
    | (refine o_nil ?_
       simp only [Thn, Inb, if_true, if_false, reduceIte, Nat.reduceEqDiff])
    | (refine c_skip ?_
       simp only [Thn, Inb, if_true, if_false, reduceIte, Nat.reduceEqDiff])
    | (refine c_cond true (by rfl) (fun _ => ?_) (fun e => by cases e))
    | (refine c_cond false (by rfl) (fun e => by cases e) (fun _ => ?_))
    | (refine c_block ?_)
    | (refine c_label ?_
       simp only [Thn, Inb, if_true, if_false, reduceIte, Nat.reduceEqDiff])
    | (refine c_scope ?_)
    | (refine o_cons (u_read (by omega) hact2 rfl (by rfl) fun w hF K' hK' => ?_)
       go_simp
       refine hK' _ ⟨?_, ?_⟩
       focus
         rw [listed_nil]
         · simp
         · (simp [go_sem]; done)
       clear hK' K' hF w
       try walk_nrm)
    | (refine o_cons (u_unwanted (by omega) rfl (by rfl) ?_)
       try walk_nrm))
  refine o_cons (u_load (.slice A1 n2 c1) (by omega) hact2 rfl (by rfl) rfl Try.underlying22 rfl rfl (.inl t1') ?_)
  try walk_nrm
  repeat (first
    | (refine c_seq ?_)
    | (refine c_region ?_
       simp only [List.size_toArray, List.length_cons, List.length_nil, Nat.reduceAdd, Nat.zero_add, List.range, List.range.loop])
    | (refine o_nil ?_
       simp only [Thn, Inb, if_true, if_false, reduceIte, Nat.reduceEqDiff])
    | (refine c_skip ?_
       simp only [Thn, Inb, if_true, if_false, reduceIte, Nat.reduceEqDiff])
    | (refine c_cond true (by rfl) (fun _ => ?_) (fun e => by cases e))
    | (refine c_cond false (by rfl) (fun e => by cases e) (fun _ => ?_))
    | (refine c_block ?_)
    | (refine c_label ?_
       simp only [Thn, Inb, if_true, if_false, reduceIte, Nat.reduceEqDiff])
    | (refine c_scope ?_)
    | (refine o_cons (u_read (by omega) hact2 rfl (by rfl) fun w hF K' hK' => ?_)
       go_simp
       refine hK' _ ⟨?_, ?_⟩
       focus
         rw [listed_nil]
         · simp
         · (simp [go_sem]; done)
       clear hK' K' hF w
       try walk_nrm)
    | (refine o_cons (u_unwanted (by omega) rfl (by rfl) ?_)
       try walk_nrm))
  refine o_cons (u_load (.slice A2 n2 c2) (by omega) hact2 rfl (by rfl) rfl Try.underlying22 rfl rfl (.inl t2') ?_)
  try walk_nrm
  repeat (first
    | (refine o_nil ?_
       simp only [Thn, Inb, if_true, if_false, reduceIte, Nat.reduceEqDiff])
    | (refine c_skip ?_
       simp only [Thn, Inb, if_true, if_false, reduceIte, Nat.reduceEqDiff])
    | (refine c_cond true (by rfl) (fun _ => ?_) (fun e => by cases e))
    | (refine c_cond false (by rfl) (fun e => by cases e) (fun _ => ?_))
    | (refine c_block ?_)
    | (refine c_label ?_
       simp only [Thn, Inb, if_true, if_false, reduceIte, Nat.reduceEqDiff])
    | (refine c_scope ?_)
    | (refine o_cons (u_read (by omega) hact2 rfl (by rfl) fun w hF K' hK' => ?_)
       go_simp
       refine hK' _ ⟨?_, ?_⟩
       focus
         rw [listed_nil]
         · simp
         · (simp [go_sem]; done)
       clear hK' K' hF w
       try walk_nrm)
    | (refine o_cons (u_unwanted (by omega) rfl (by rfl) ?_)
       try walk_nrm))
  refine ht E w l2 A1 A2 n2 c1 c2 bT ps os _ _ rfl h0 hC2 (by omega) (by omega) (fun i hi => by obtain ⟨A, h1, h2⟩ := hP1 i hi; exact ⟨A, h1, hL2.ro _ _ h2⟩) (fun i hi => by obtain ⟨A, h1, h2⟩ := hO1 i hi; exact ⟨A, h1, hL2.ro _ _ h2⟩) t1' t2' ?_ (n6 + nt + 2) (by omega)
  exact fitF rfl
end Go.Proofs.Ytofohjbcgchhoaa
