/-
  Steps towards TopCounts (no conditions of their own): WALKS: toom: Levels, Foretell. WALKS: toom: level. WALKS: toom: close. WALKS: toom: mul. WALKS: toom: Mul.
-/
import Derived.Test.YthkoodpnepfijaaGreatDoorM37
/- YT: WALKS: toom: Levels, Foretell. -/
namespace Go.Proofs.YthkoodpnepfijaaGreatDoor
open Go.RowKit
set_option linter.unusedVariables false
set_option linter.unusedSimpArgs false
set_option maxRecDepth 100000
set_option maxHeartbeats 1000000
theorem levels20 {F : Fz} {A : Addr} {z1 z2 z3 : Int} : Pu 20 [.pointer (some A), .int .i64 z1, .int .i64 z2, .int .i64 z3] F fun w F' => ∃ a1 a2 a3 a4, w = .func (.func 32) #[] #[.pointer (some a1), .pointer (some a2), .pointer (some a3), .pointer (some a4)] ∧ F' a1 (.pointer (some A)) ∧ F' a2 (.int .i64 z1) ∧ F' a3 (.int .i64 z2) ∧ F' a4 (.int .i64 z3) := fun own => by
  refine n_fun Tryz.func20 Tryz.ntmps20 rfl rfl rfl ?_
  refine go ?_
  intro r4 r5 r6 r7
  refine go ?_
  refine b_ret rfl (.cons (.tmp rfl) .nil) (Turn.ice.trans (Turn.ice.trans (Turn.ice.trans Turn.ice))) ⟨rfl, (Fz.add_le _ _).trans ((Fz.add_le _ _).trans ((Fz.add_le _ _).trans (Fz.add_le _ _))), ⟨r4, 0, none⟩, ⟨r5, 0, none⟩, ⟨r6, 0, none⟩, ⟨r7, 0, none⟩, rfl, .inr (by simp [Ch.at]), .inl (.inr (by simp [Ch.at])), .inl (.inl (.inr (by simp [Ch.at]))), .inl (.inl (.inl (.inr (by simp [Ch.at]))))⟩
/-- How many levels there are. -/
def lvN (P : Nat) : Nat → Nat
  | 0 => 0
  | d + 1 => lvN P d + P ^ d
theorem lvN_le {P : Nat} (hP : 2 ≤ P) : ∀ d, lvN P d + 1 ≤ P ^ d
  | 0 => by simp [lvN]
  | d + 1 => by
    have := lvN_le hP d
    rw [lvN, Nat.pow_succ]
    have := Nat.mul_le_mul_left (P ^ d) hP
    omega
theorem lvN_succ (P : Nat) : ∀ d, lvN P (d + 1) = 1 + P * lvN P d
  | 0 => by simp [lvN]
  | d + 1 => by
    show lvN P (d + 1) + P ^ (d + 1) = 1 + P * (lvN P d + P ^ d)
    rw [lvN_succ P d, Nat.pow_succ, Nat.mul_add, Nat.mul_comm (P ^ d) P]
    omega
theorem lvN_mono {P : Nat} : ∀ {d i : Nat}, i ≤ d → lvN P i ≤ lvN P d
  | 0, i, h => by obtain rfl : i = 0 := by omega
                  exact Nat.le_refl _
  | d + 1, i, h => by
    rcases Nat.lt_or_ge d i with h1 | h1
    · obtain rfl : i = d + 1 := by omega
      exact Nat.le_refl _
    · exact Nat.le_trans (lvN_mono h1) (Nat.le_add_right _ _)
def stepsN (u : UnC) : Nat := u.pl.code.length + u.pr.code.length + u.pb.code.length
abbrev tal (a b c e : Int) : List Value := [.int .i64 a, .int .i64 b, .int .i64 c, .int .i64 e]
theorem foretell7 {F : Fz} {A : Addr} {u : UnC} {d : Nat} (hm : MachR F A u) (k2 : 2 ≤ u.K) (hn : u.K ^ d ≤ 2048) (hp : u.l.length ^ d ≤ 200000) : Pu 7 [.pointer (some A), .int .i64 (u.K ^ d : Nat), .int .i64 (u.K ^ d : Nat), .int .i64 1] F fun w F' => w = .tuple #[.agg (tal (lvN u.l.length d : Nat) (lvN u.l.length d * u.l.length : Nat) (u.l.length ^ d : Nat) (lvN u.l.length d * stepsN u : Nat)).toArray, .int .i64 0] := fun own => by
  have l1 := hm.ok.okL.len
  have l3 := hm.ok.okR.len
  have l5 := hm.ok.okB.len
  have hPl := hm.ok.right.len
  have hPl2 := hm.ok.right.len15
  have c1 : F (((A.add 0).add 3).add 2) (.slice u.A1 u.pl.code.length u.c1) := by rw [Addr.add_add]; exact hm.at 5 rfl
  have c2 : F (((A.add 0).add 7).add 2) (.slice u.A3 u.pr.code.length u.c3) := by rw [Addr.add_add]; exact hm.at 9 rfl
  have c3 : F (((A.add 0).add 11).add 2) (.slice u.A5 u.pb.code.length u.c5) := by rw [Addr.add_add]; exact hm.at 13 rfl
  have hnn : u.K ^ d * u.K ^ d ≤ 2048 * 2048 := Nat.mul_le_mul hn hn
  have hkz : ((u.K ^ d : Nat) : Int) * ((u.K ^ d : Nat) : Int) = ((u.K ^ d * u.K ^ d : Nat) : Int) := by simp
  refine n_funD Tryz.func7 Tryz.ntmps7 rfl rfl rfl ?_
  refine go ?_
  intro r4 r8
  refine go ?_
  refine o_eqp rfl ?_
  refine goT ?_
  intro r10
  refine goT ?_
  refine c_drww [.c r4 [.pointer (some A)]] sl rfl (by decide +kernel) ?_
  refine go ?_
  refine o_alloc (fun r11 => ?_) sl (fun _ => .keep sl (Fle.refl _))
  refine o_stN rfl inferInstance rfl rfl get0 rfl (by simp) sl (.keep sl (Fle.refl _)) ?_
  refine o_nil sl ?_
  refine go ?_
  intro r12
  refine go ?_
  intro r13
  refine go ?_
  refine o_pu rfl levels20 (fun w F1 hF1 ⟨a1, a2, a3, a4, e, h1, h2, h3, h4⟩ => ?_) sl
  subst e
  refine go ?_
  have hm1 := hm.le hF1
  have hIt := levels32 hm1 k2 h1 h2 h3 h4 hn (by omega)
  have hS : ((u.pl.code.length : Nat) : Int) + (u.pr.code.length : Nat) + (u.pb.code.length : Nat) = ((stepsN u : Nat) : Int) := by unfold stepsN; simp
  have hSb : stepsN u ≤ 49152 := by unfold stepsN; omega
  rw [hS]
  generalize hst : stepsN u = S at *
  have hP3 : 2 ≤ u.l.length := by have := hm.ok.len; omega
  refine c_range (ps := [57, 58]) (capt := [.pointer (some a1), .pointer (some a2), .pointer (some a3), .pointer (some a4)]) (xs := lvs u.K u.l.length d)
    (fun vs => (15, (vs.tail).headD undef) :: (14, vs.headD undef) :: [(58, (vs.tail).headD undef), (57, vs.headD undef), (13, .pointer (some ⟨r13, 0, none⟩)), (12, .pointer (some ⟨r12, 0, none⟩)), (11, .pointer (some ⟨r11, 0, none⟩)), (10, .pointer (some ⟨r10, 0, none⟩)), (4, .pointer (some ⟨r4, 0, none⟩))])
    (fun i o G => ∃ z13 z12 zl zc zs : Int, o = .c r13 [.int .i64 z13] :: .c r12 [.int .i64 z12] :: .c r11 [.int .i64 (S : Nat)] :: .c r10 (tal zl zc 0 zs) :: .c r8 (tal 0 0 0 0) :: .c r4 [.pointer (some A)] :: own ∧ Fle F1 G ∧ z13 = (u.l.length ^ i : Nat) ∧ z12 = (u.K ^ (d - i) * u.K ^ (d - i) : Nat) ∧ zl = (lvN u.l.length i : Nat) ∧ zc = (lvN u.l.length i * u.l.length : Nat) ∧ zs = (lvN u.l.length i * S : Nat))
    (fun i o G G' ⟨z1, z2, z3, z4, z5, e, h, hr⟩ hl => ⟨z1, z2, z3, z4, z5, e, h.trans hl, hr⟩)
    rfl hIt (fun vs hvs => by obtain ⟨z, _, rfl⟩ := List.mem_map.1 hvs; rfl) ⟨_, _, _, _, _, rfl, Fle.refl _, by simp, by simp, by simp [lvN], by simp [lvN], by simp [lvN]⟩ ?_ ?_ ?_
  · intro vs hvs L o G
    obtain ⟨z, _, rfl⟩ := List.mem_map.1 hvs
    refine c_frame [(58, .int .i64 (u.l.length ^ z : Nat)), (57, .int .i64 (u.K ^ (d - 1 - z) : Nat)), (13, .pointer (some ⟨r13, 0, none⟩)), (12, .pointer (some ⟨r12, 0, none⟩)), (11, .pointer (some ⟨r11, 0, none⟩)), (10, .pointer (some ⟨r10, 0, none⟩)), (4, .pointer (some ⟨r4, 0, none⟩))] ⟨rfl, rfl, rfl, rfl, rfl, rfl, rfl, trivial⟩ fun b => ?_
    refine go ?_
    exact ⟨rfl, _, rfl⟩
  · rintro i vs hvs L b _ G tail ⟨z13, z12, zl, zc, zs, rfl, hF', e13, e12, el, ec, es⟩ hG
    have hil : i < d := by have := (List.getElem?_eq_some_iff.1 hvs).1; simpa [lvs] using this
    rw [lvs_get hil] at hvs
    cases hvs
    simp only [List.cons_append]
    have hpw : u.l.length ^ (i + 1) ≤ u.l.length ^ d := Nat.pow_le_pow_right hPl hil
    have hsc : u.l.length ^ (i + 1) = u.l.length ^ i * u.l.length := Nat.pow_succ ..
    have hkd : u.K ^ (d - 1 - i) ≤ 2048 := Nat.le_trans (Nat.pow_le_pow_right (by omega) (by omega)) hn
    have hlv := lvN_le hP3 (i + 1)
    have hlv1 : lvN u.l.length (i + 1) = lvN u.l.length i + u.l.length ^ i := rfl
    have hdi : d - (i + 1) = d - 1 - i := by omega
    have hat2 : G ((A.add 0).add 2) (.slice u.Al u.l.length u.cl) := (hm1.le hG).at 2 rfl
    have hpS : u.l.length ^ i * S ≤ 200000 * 49152 := Nat.mul_le_mul (by have := Nat.pow_le_pow_right hPl (Nat.le_of_lt hil); omega) hSb
    have hLS : lvN u.l.length i * S ≤ 200000 * 49152 := Nat.mul_le_mul (by omega) hSb
    have hLP : lvN u.l.length i * u.l.length ≤ 200000 * 15 := Nat.mul_le_mul (by omega) hPl2
    have hqq : u.K ^ (d - 1 - i) * u.K ^ (d - 1 - i) ≤ 2048 * 2048 := Nat.mul_le_mul hkd hkd
    have f1 : ((lvN u.l.length i + u.l.length ^ i : Nat) * u.l.length : Nat) = lvN u.l.length i * u.l.length + u.l.length ^ i * u.l.length := Nat.add_mul ..
    have f2 : ((lvN u.l.length i + u.l.length ^ i : Nat) * S : Nat) = lvN u.l.length i * S + u.l.length ^ i * S := Nat.add_mul ..
    have hpl : u.l.length ^ i ≤ 200000 := by have := Nat.pow_le_pow_right hPl (Nat.le_of_lt hil); omega
    have hL0 : lvN u.l.length i ≤ 200000 := by omega
    rw [hsc] at hpw
    clear hlv
    generalize hgp : u.l.length ^ i = p at *
    generalize hgq : u.K ^ (d - 1 - i) = q at *
    generalize hgl : lvN u.l.length i = lv at *
    have g1 : ((p : Nat) : Int) * (u.l.length : Nat) = ((p * u.l.length : Nat) : Int) := by simp
    have g2 : ((p : Nat) : Int) * (S : Nat) = ((p * S : Nat) : Int) := by simp
    have g3 : ((q : Nat) : Int) * (q : Nat) = ((q * q : Nat) : Int) := by simp
    refine go ?_
    refine ⟨rfl, _, _, Turn.refl _ _, ⟨_, _, _, _, _, rfl, hF', ?_, ?_, ?_, ?_, ?_⟩, Fle.refl _⟩
    · rw [hsc]; exact g1
    · rw [hdi, hgq]; exact g3
    · rw [hlv1]; omega
    · rw [hlv1, f1]; omega
    · rw [hlv1, f2]; omega
  · rintro D _ G ⟨z13, z12, zl, zc, zs, rfl, hF', e13, e12, el, ec, es⟩ hG
    have hdl : (lvs u.K u.l.length d).length = d := by simp [lvs]
    rw [hdl] at e13 e12 el ec es
    rw [Nat.sub_self, Nat.pow_zero] at e12
    subst e13 el ec es
    obtain rfl : z12 = 1 := e12
    refine norm_Inb (norm_Thn ?_)
    have hpb : u.l.length ^ d ≤ 200000 := hp
    generalize u.l.length ^ d = p at *
    refine go ?_
    rw [Int.mul_one]
    exact ⟨D, _, rfl, rfl, _, own, _, .cons (.cella rfl rfl (rdsW 4 rfl)) (.cons (.tmp rfl) .nil), Turn.of sl (Fle.refl _), rfl, hF1.trans hG, rfl⟩
end Go.Proofs.YthkoodpnepfijaaGreatDoor
/- YU: WALKS: toom: level. -/
namespace Go.Proofs.YthkoodpnepfijaaGreatDoor
open Go.RowKit
set_option linter.unusedVariables false
set_option linter.unusedSimpArgs false
set_option maxRecDepth 100000
set_option maxHeartbeats 1000000
abbrev TkC := SZ × SZ
def vTk (t : TkC) : List Value := [vS t.1, vS t.2]
abbrev z0T : TkC := (z0S, z0S)
/-- Tasks: pairs of rows. -/
def TaskR (F : Fz) (v : Value) (n : Nat) (R S : Nat → List Int) : Prop := ∃ ts : List TkC, RowS F v vTk 2 z0T ts ∧ ts.length = n ∧ ∀ j, j < n → RowI F (vS (ts.getD j z0T).1) (R j) ∧ RowI F (vS (ts.getD j z0T).2) (S j)
theorem TaskR.le {F G : Fz} {v : Value} {n : Nat} {R S : Nat → List Int} (h : TaskR F v n R S) (hl : Fle F G) : TaskR G v n R S := by
  obtain ⟨ts, h1, h2, h3⟩ := h
  exact ⟨ts, h1.le hl, h2, fun j hj => ⟨(h3 j hj).1.le hl, (h3 j hj).2.le hl⟩⟩
theorem part_reg {F : Fz} {v : Value} {K m : Nat} {a : List Int} {p : Prg} (h : RowsR F v K fun r => partL m a r) (hp : p.ins = K) : RowsR F v p.ins.toNat fun r => rw_ m (fun s => rg0 (colL K m a s)) r := by
  obtain ⟨qs, h1, h2, h3⟩ := h
  refine ⟨qs, h1, by omega, h3.congr fun r hr => ?_⟩
  unfold partL
  refine List.map_congr_left fun s _ => ?_
  show _ = rg0 (colL K m a s) (r : Nat)
  rw [rg0_at]
  unfold colL
  rw [getDr (fun r => a.getD (r * m + s) 0) (by omega)]
theorem col_bd {K m k : Nat} {a : List Int} (h : BdF k a) (s : Nat) : ∀ x ∈ colL K m a s, x.natAbs < 2 ^ (k + 1) := fun x hx => by
  obtain ⟨r, _, rfl⟩ := List.mem_map.1 hx
  have := h.get (r * m + s)
  have h0 : 0 < 2 ^ k := Nat.pow_pos (by decide)
  rw [Nat.pow_succ]
  omega
/-- One operand of a level: its blocks, its values at the points. -/
theorem side68 {F : Fz} (hGl : Gl F) {K m k : Nat} {a : List Int} {l : List Pnt} {p : Prg} {cv ov v : Value} (hP : PrR F cv ov p) (hok : p.ok) (k1 : 1 ≤ K) (m1 : 1 ≤ m) (hm : m ≤ 4096) (hk : k ≤ 2000000000) (hins : p.ins = K) (houts : p.outs.length = l.length) (hrun : ∀ c : List Int, c.length = K → Runs p c (vals (fun j => c.getD j 0) (K - 1) l)) (hb : BdF k a) (hv : RowsR F v K fun r => partL m a r) :
    Pu 68 [vPr p cv ov, v] F fun u F' => ∃ v', u = .tuple #[v', .int .i64 (p.code.length : Nat), .int .i64 0] ∧ RowsR F' v' l.length fun j => valL K m a (l.getD j z0P) := fun own =>
  (run68 (n := m) (k := k + 1) (L := fun s => colL K m a s) (O := fun s => vals (fun r => (colL K m a s).getD r 0) (K - 1) l) hGl hP hok m1 hm (by omega) (fun s _ => by rw [colL_len, hins]) (fun s _ => col_bd hb s) (part_reg hv hins) (fun s _ => hrun _ (colL_len ..)) own).mono fun u o F' ⟨h1, h2, v', e, qs, h3, h4, h5⟩ => ⟨h1, h2, v', e, qs, h3, by rw [h4, houts], h5.congr fun j hj => col_row k1 (by omega)⟩
theorem level35 {F : Fz} (hGl : Gl F) {A : Addr} {u : UnC} {va vb : Value} {a b : List Int} {m k : Nat} (hm : MachR F A u) (ha : RowI F va a) (hb : RowI F vb b) (hla : a.length = u.K * m) (hlb : b.length = u.K * m) (m1 : 1 ≤ m) (hkm : u.K * m ≤ 2048) (ba : BdF k a) (bb : BdF k b) (hk : k ≤ 2000000000) :
    Pu 35 [.pointer (some A), va, vb, .int .i64 (m : Nat)] F fun w F' => ∃ v', w = .tuple #[v', .int .i64 (u.pl.code.length + u.pr.code.length : Nat), .int .i64 0] ∧ TaskR F' v' u.l.length (fun j => valL u.K m a (u.l.getD j z0P)) (fun j => valL u.K m b (u.l.getD j z0P)) := fun own => by
  have k1 := hm.ok.k1
  have k8 := hm.ok.k8
  have l1 := hm.ok.okL.len
  have l3 := hm.ok.okR.len
  have n1 := hm.ok.right.len
  have n2 := hm.ok.right.len15
  have hm4 : m ≤ 4096 := by have := Nat.mul_le_mul_right m k1; omega
  obtain ⟨Aa, ca, e⟩ := ha.dest
  obtain ⟨Ab, cb, e'⟩ := hb.dest
  subst e e'
  have c0 := hm.at 0 rfl
  have c1 := hm.at 1 rfl
  have cL : Cs F ((A.add 0).add 3) (vPg u.pl u.A1 u.c1 u.A2 u.c2) := fun i v hv => by rw [Addr.add_add]; exact hm.at (3 + i) (un_atL i v hv)
  have cR : Cs F ((A.add 0).add 7) (vPg u.pr u.A3 u.c3 u.A4 u.c4) := fun i v hv => by rw [Addr.add_add]; exact hm.at (7 + i) (un_atR i v hv)
  refine n_fun Tryz.func35 Tryz.ntmps35 rfl rfl rfl ?_
  refine goT ?_
  intro r11
  refine goT ?_
  refine c_drww [] sl rfl (by decide +kernel) ?_
  refine go ?_
  refine o_buildA rfl rfl ?_
  refine go ?_
  refine c_loopT (fun mm X o G => ∃ (i : Nat) (st : Nat) (q0 q1 : SZ), mm = 2 - i ∧ X = [(3, .int .i64 (m : Nat)), (11, .pointer (some ⟨r11, 0, none⟩)), (12, .int .i64 (st : Nat)), (45, .agg [.slice Aa a.length ca, .int .i64 (u.K : Nat), .int .i64 u.pl.ins, .int .i64 u.pl.regs, .slice u.A1 u.pl.code.length u.c1, .slice u.A2 u.pl.outs.length u.c2, .slice Ab b.length cb, .int .i64 (u.K : Nat), .int .i64 u.pr.ins, .int .i64 u.pr.regs, .slice u.A3 u.pr.code.length u.c3, .slice u.A4 u.pr.outs.length u.c4].toArray), (46, .int .i64 (i : Nat))] ∧ .c r11 [vS q0, vS q1] :: own = o ∧ Fle F G ∧ (0 < i → RowsR G (vS q0) u.l.length fun j => valL u.K m a (u.l.getD j z0P)) ∧ (1 < i → RowsR G (vS q1) u.l.length fun j => valL u.K m b (u.l.getD j z0P)) ∧ (i = 0 → st = 0) ∧ (i = 1 → st = u.pl.code.length) ∧ (i = 2 → st = u.pl.code.length + u.pr.code.length) ∧ i ≤ 2)
    ⟨_, _, _, _, ⟨0, 0, z0S, z0S, rfl, rfl, rfl, Fle.refl _, fun h => absurd h (by decide), fun h => absurd h (by decide), fun _ => rfl, fun h => absurd h (by decide), fun h => absurd h (by decide), by omega⟩, ⟨rfl, rfl, rfl, rfl, rfl, trivial⟩, Turn.refl _ _⟩ ?_
  rintro _ _ _ G b' ⟨i, st, q0, q1, rfl, rfl, rfl, hG, hv0, hv1, hs0, hs1, hs2, hi⟩
  have hv0 := Wrp.mk hv0
  have hv1 := Wrp.mk hv1
  have hun := hm.un.le hG
  have hGl2 := hGl.le hG
  rcases (show i = 0 ∨ i = 1 ∨ i = 2 by omega) with rfl | rfl | rfl
  · obtain rfl := hs0 rfl
    clear hs0 hs1 hs2
    refine go ?_
    refine o_ixaa (us := [.slice Aa a.length ca, .int .i64 (u.K : Nat), .int .i64 u.pl.ins, .int .i64 u.pl.regs, .slice u.A1 u.pl.code.length u.c1, .slice u.A2 u.pl.outs.length u.c2]) 0 rfl rfl rfl (by decide) rfl ?_
    refine go ?_
    intro r14
    refine go ?_
    refine o_pu rfl (parts67 (ha.le hG) hla k1 k8 m1 hm4 (by omega)) (fun w F1 hF1 ⟨v1, e, h1⟩ => ?_) sl
    subst e
    have h1' := h1
    obtain ⟨qp, hqp, hqpl, hqpr⟩ := h1
    obtain ⟨Ap, cp, e⟩ := hqp.dest
    subst e
    clear hqp hqpl hqpr
    refine go ?_
    refine o_loada (vs := vPg u.pl u.A1 u.c1 u.A2 u.c2) rfl rfl (rdsC 0 rfl (fun i v hv => by
      rcases i with _ | _ | _ | _ | i <;> first | exact hv | simp [vPg] at hv)) ?_
    refine go ?_
    refine o_pu rfl (side68 (hGl2.le hF1) (hun.L.le hF1) hm.ok.okL k1 m1 hm4 hk hm.ok.insL hm.ok.outL hm.ok.runL ba h1') (fun w F2 hF2 ⟨v2, e, h2⟩ => ?_) sl
    subst e
    have h2' := h2
    obtain ⟨qv, hqv, hqvl, hqvr⟩ := h2
    obtain ⟨Av, cv, e⟩ := hqv.dest
    subst e
    clear hqv hqvr
    refine go ?_
    refine o_idxa 0 rfl rfl rfl (by decide) ?_
    refine go ?_
    exact ⟨_, _, _, _, ⟨1, u.pl.code.length, ⟨Av, qv.length, cv⟩, q1, rfl, rfl, rfl, hG.trans (hF1.trans hF2), fun _ => h2', fun h => absurd h (by decide), fun h => absurd h (by decide), fun _ => rfl, fun h => absurd h (by decide), by omega⟩, ⟨rfl, rfl, eqI (by omega), rfl, eqI (by omega), trivial⟩, Turn.drop, rfl, by omega⟩
  · obtain rfl := hs1 rfl
    clear hs0 hs1 hs2
    refine go ?_
    refine o_ixaa (us := [.slice Ab b.length cb, .int .i64 (u.K : Nat), .int .i64 u.pr.ins, .int .i64 u.pr.regs, .slice u.A3 u.pr.code.length u.c3, .slice u.A4 u.pr.outs.length u.c4]) 1 rfl rfl rfl (by decide) rfl ?_
    refine go ?_
    intro r14
    refine go ?_
    refine o_pu rfl (parts67 (hb.le hG) hlb k1 k8 m1 hm4 (by omega)) (fun w F1 hF1 ⟨v1, e, h1⟩ => ?_) sl
    subst e
    have h1' := h1
    obtain ⟨qp, hqp, hqpl, hqpr⟩ := h1
    obtain ⟨Ap, cp, e⟩ := hqp.dest
    subst e
    clear hqp hqpl hqpr
    refine go ?_
    refine o_loada (vs := vPg u.pr u.A3 u.c3 u.A4 u.c4) rfl rfl (rdsC 0 rfl (fun i v hv => by
      rcases i with _ | _ | _ | _ | i <;> first | exact hv | simp [vPg] at hv)) ?_
    refine go ?_
    refine o_pu rfl (side68 (hGl2.le hF1) (hun.R.le hF1) hm.ok.okR k1 m1 hm4 hk hm.ok.insR hm.ok.outR hm.ok.runR bb h1') (fun w F2 hF2 ⟨v2, e, h2⟩ => ?_) sl
    subst e
    have h2' := h2
    obtain ⟨qv, hqv, hqvl, hqvr⟩ := h2
    obtain ⟨Av, cv, e⟩ := hqv.dest
    subst e
    clear hqv hqvr
    refine go ?_
    refine o_idxa 1 rfl rfl rfl (by decide) ?_
    refine go ?_
    exact ⟨_, _, _, _, ⟨2, u.pl.code.length + u.pr.code.length, q0, ⟨Av, qv.length, cv⟩, rfl, rfl, rfl, hG.trans (hF1.trans hF2), fun _ => (hv0.out (by decide)).le (hF1.trans hF2), fun _ => h2', fun h => absurd h (by decide), fun h => absurd h (by decide), fun _ => rfl, by omega⟩, ⟨rfl, rfl, eqI (by omega), rfl, eqI (by omega), trivial⟩, Turn.drop, rfl, by omega⟩
  · obtain rfl := hs2 rfl
    clear hs0 hs1 hs2
    obtain ⟨p0, hp0, hp0l, hp0r⟩ := hv0.out (by decide)
    obtain ⟨p1, hp1, hp1l, hp1r⟩ := hv1.out (by decide)
    clear hv0 hv1
    obtain ⟨A0, m0, c0⟩ := q0
    obtain ⟨A1, m1', c1'⟩ := q1
    obtain ⟨_, _, e0⟩ := hp0.dest
    cases e0
    obtain ⟨_, _, e1⟩ := hp1.dest
    cases e1
    have hp0 : RowM G (.slice A0 p0.length c0) vS z0S p0 := hp0
    have hp1 : RowM G (.slice A1 p1.length c1') vS z0S p1 := hp1
    refine go ?_
    refine o_idxa 0 rfl rfl rfl (by decide) ?_
    refine go ?_
    refine c_loopT (fun mm X o G' => ∃ (j : Nat) (cv : Value) (ts : List TkC), mm = p0.length - j ∧ X = [(11, .pointer (some ⟨r11, 0, none⟩)), (12, .int .i64 (u.pl.code.length + u.pr.code.length : Nat)), (19, cv), (81, .slice A0 p0.length c0), (82, .int .i64 (p0.length : Nat)), (83, .int .i64 (j : Nat))] ∧ .g cv 103 2 ts.length (ts.flatMap vTk) :: .c r11 [.slice A0 p0.length c0, .slice A1 p1.length c1'] :: own = o ∧ Fle G G' ∧ ts.length = j ∧ (∀ i, i < j → RowI G' (vS (ts.getD i z0T).1) (valL u.K m a (u.l.getD i z0P)) ∧ RowI G' (vS (ts.getD i z0T).2) (valL u.K m b (u.l.getD i z0P))) ∧ j ≤ p0.length)
      ⟨_, _, _, _, ⟨0, .slice none 0 0, [], rfl, rfl, rfl, Fle.refl _, rfl, fun r hr => absurd hr (by omega), by omega⟩, ⟨rfl, rfl, rfl, rfl, rfl, rfl, trivial⟩, Turn.nil 103 2⟩ ?_
    rintro _ _ _ G' b2 ⟨j, cv, ts, rfl, rfl, rfl, hG', htl, hts, hj⟩
    have hts := Wrp.mk hts
    have hp0' := RowM.le hp0 hG'
    have hp1' := RowM.le hp1 hG'
    by_cases hjl : j < p0.length
    · have hjl1 : j < p1.length := by omega
      refine goT ?_
      refine c_drww [.c r11 [.slice A0 p0.length c0, .slice A1 p1.length c1']] sl rfl (by decide +kernel) ?_
      refine go ?_
      refine o_idxa 0 rfl rfl rfl (by decide) ?_
      refine go ?_
      refine o_idxa 1 rfl rfl rfl (by decide) ?_
      refine go ?_
      refine o_lit rfl rfl rfl rfl rfl (fun rl => ?_) sl (fun _ => .keep sl (Fle.refl _))
      refine o_appW 0 rfl rfl rfl rfl rfl rfl rfl (by omega) (by omega) (fun _ => rfl) (fun _ => sl) sl (fun A' c' => ?_)
      refine go ?_
      refine o_nil sl ?_
      refine go ?_
      refine ⟨_, _, _, _, ⟨j + 1, .slice A' (ts.length + 1) c', ts ++ [(p0.getD j z0S, p1.getD j z0S)], rfl, rfl, rfl, hG', by simp [htl], fun i hi => ?_, by omega⟩, ⟨rfl, rfl, rfl, rfl, rfl, eqI (by omega), trivial⟩, by simp only [List.length_append, List.length_singleton, List.flatMap_append, List.flatMap_cons, List.flatMap_nil, List.append_nil]; exact Turn.refl _ _, rfl, by omega⟩
      rw [getD_snoc]
      by_cases h1 : i < ts.length
      · rw [if_pos h1]; exact hts.out i (by omega)
      · obtain rfl : i = j := by omega
        rw [if_neg h1, if_pos htl.symm]
        exact ⟨(hp0r i hjl).le hG', (hp1r i hjl1).le hG'⟩
    · obtain rfl : j = p0.length := by omega
      refine c_iceS (f := vTk) (l := ts) z0T 0 rfl (fun _ => rfl) rfl (fun hcR => ?_)
      refine go ?_
      exact b_ret rfl (.cons (.tmp rfl) (.cons (.tmp rfl) (.cons (.tmp rfl) .nil))) Turn.drop ⟨rfl, hG.trans (hG'.trans (Fz.add_le _ _)), _, rfl, ts, hcR, by omega, fun i hi => ⟨(hts.out i (by omega)).1.le (Fz.add_le _ _), (hts.out i (by omega)).2.le (Fz.add_le _ _)⟩⟩
end Go.Proofs.YthkoodpnepfijaaGreatDoor
/- YV: WALKS: toom: close. -/
namespace Go.Proofs.YthkoodpnepfijaaGreatDoor
open Go.RowKit
set_option linter.unusedVariables false
set_option linter.unusedSimpArgs false
set_option maxRecDepth 100000
set_option maxHeartbeats 1000000
theorem prod_bd {K m k : Nat} {a b : List Int} {p : Pnt} (ha : BdF k a) (hb : BdF k b) (hK : K ≤ 8) (hm : m ≤ 4096) (hp : InP p) : BdF (2 * (k + 32) + 25) (prodL K m a b p) := by
  obtain ⟨h1, h2, h3, h4⟩ := hp
  exact conv_bd (valL_bd ha hK (by omega) (by omega)) (valL_bd hb hK (by omega) (by omega)) (by rw [valL_len]; exact hm) (by rw [valL_len]; exact hm)
theorem prod_vals {K m u j : Nat} {a b : List Int} {l : List Pnt} (hK : 1 ≤ K) (hl : l.length = 2 * K - 1) (hu : u < m + m - 1) (hj : j < l.length) : (vals (blkF K m (fnL a) (fnL b) u) (l.length - 1) l).getD j 0 = (prodL K m a b (l.getD j z0P)).getD u 0 := by
  rw [vals_get hj, prod_get hK hu, hl, show 2 * K - 1 - 1 = 2 * K - 2 by omega]
theorem join_jn {K m : Nat} {a b : List Int} (hK : 1 ≤ K) (hm : 1 ≤ m) (ha : a.length = K * m) (hb : b.length = K * m) {P : Nat} (hP : P = 2 * K - 1) : ((List.range (K * m + K * m - 1)).map fun q => jnF (blkL K m a b) (m + m - 1) m P 0 q) = conv a b := by
  rw [← join_conv hK hm ha hb]
  subst hP
  refine List.map_congr_left fun q _ => ?_
  unfold jnF
  simp [sm]
theorem close36 {F : Fz} (hGl : Gl F) {A : Addr} {u : UnC} {v : Value} {a b : List Int} {m k : Nat} (hm : MachR F A u) (hv : RowsR F v u.l.length fun j => prodL u.K m a b (u.l.getD j z0P)) (hla : a.length = u.K * m) (hlb : b.length = u.K * m) (m1 : 1 ≤ m) (hkm : u.K * m ≤ 2048) (ba : BdF k a) (bb : BdF k b) (hk : k ≤ 200000000) :
    Pu 36 [.pointer (some A), v, .int .i64 (m : Nat), .int .i64 (u.K * m + u.K * m - 1 : Nat)] F fun w F' => ∃ v', w = .tuple #[v', .int .i64 (u.pb.code.length : Nat), .int .i64 0] ∧ RowI F' v' (conv a b) := fun own => by
  have k1 := hm.ok.k1
  have k8 := hm.ok.k8
  have n1 := hm.ok.right.len
  have n2 := hm.ok.right.len15
  have hlen := hm.ok.len
  have hl2 : u.l.length = 2 * u.K - 1 := by omega
  have hm4 : m ≤ 2048 := by have := Nat.mul_le_mul_right m k1; omega
  have hv0 := hv
  obtain ⟨qs, hq, hql, hqr⟩ := hv
  obtain ⟨Aq, cq, rfl⟩ := hq.dest
  have cB : Cs F ((A.add 0).add 11) (vPg u.pb u.A5 u.c5 u.A6 u.c6) := fun i v hv => by rw [Addr.add_add]; exact hm.at (11 + i) (un_atB i v hv)
  have hrow : RowsR F (.slice Aq qs.length cq) u.pb.ins.toNat fun r => rw_ (m + m - 1) (fun x => rg0 (vals (blkF u.K m (fnL a) (fnL b) x) (u.l.length - 1) u.l)) r := ⟨qs, hq, by rw [hm.ok.insB]; omega, hqr.congr fun r hr => by
    refine list_eqI (by rw [prodL_len, rw_len]) fun i hi => ?_
    rw [prodL_len] at hi
    rw [rw_get _ _ hi]
    show _ = rg0 (vals (blkF u.K m (fnL a) (fnL b) i) (u.l.length - 1) u.l) (r : Nat)
    rw [rg0_at, prod_vals k1 hl2 hi (by omega)]⟩
  have hbd : ∀ i, i < m + m - 1 → ∀ x ∈ vals (blkF u.K m (fnL a) (fnL b) i) (u.l.length - 1) u.l, x.natAbs < 2 ^ (2 * (k + 32) + 26) := fun i hi x hx => by
    obtain ⟨p, hp, rfl⟩ := List.mem_map.1 hx
    have h1 := (prod_bd (m := m) ba bb k8 (by omega) (hm.ok.right.inp p hp)).get i
    rw [prod_get k1 hi] at h1
    rw [hl2, show 2 * u.K - 1 - 1 = 2 * u.K - 2 by omega]
    have h0 : 0 < 2 ^ (2 * (k + 32) + 25) := Nat.pow_pos (by decide)
    have h2 : 2 ^ (2 * (k + 32) + 26) = 2 ^ (2 * (k + 32) + 25) * 2 := Nat.pow_succ ..
    omega
  have hrun := run68 (n := m + m - 1) (k := 2 * (k + 32) + 26) (O := fun x => (List.range u.l.length).map (blkF u.K m (fnL a) (fnL b) x)) hGl hm.un.B hm.ok.okB (by omega) (by omega) (by omega) (fun i hi => by rw [hm.ok.insB]; simp [vals]) hbd hrow (fun i hi => hm.ok.runB _ (fun j hj => blk_high (by omega)))
  refine n_fun Tryz.func36 Tryz.ntmps36 rfl rfl rfl ?_
  refine go ?_
  refine o_pu rfl hrun (fun w F1 hF1 ⟨v1, e, hv1⟩ => ?_) sl
  subst e
  obtain ⟨qo, hqo, hqol, hqor⟩ := hv1
  obtain ⟨Ao, co, e⟩ := hqo.dest
  subst e
  have hblk : RowsR F1 (.slice Ao qo.length co) u.l.length (blkL u.K m a b) := ⟨qo, hqo, by rw [hqol, hm.ok.outB], hqor.congr fun r hr => by
    unfold blkL
    refine List.map_congr_left fun x _ => ?_
    exact getDr _ (by have := hm.ok.outB; omega)⟩
  have hnn : u.K * m + u.K * m - 1 = (u.l.length - 1) * m + (m + m - 1) := by
    obtain ⟨K', hK'⟩ : ∃ K', u.K = K' + 1 := ⟨u.K - 1, by omega⟩
    rw [hlen, hK', show K' + 1 + (K' + 1) - 1 - 1 = K' + K' by omega, Nat.add_mul, Nat.add_mul]
    omega
  have hj := join69 (n := u.K * m + u.K * m - 1) (k := 2 * k + 31) hblk (fun t _ => by simp [blkL]) (fun t => blkL_bd ba bb k8 (by omega)) n1 n2 m1 (by omega) (by omega) (by omega) hnn (by omega) (by omega)
  rw [join_jn k1 m1 hla hlb hl2] at hj
  clear hqo hqol hqor hrow hbd
  refine go ?_
  refine o_pu rfl hj (fun w F2 hF2 ⟨v2, e, hv2⟩ => ?_) sl
  subst e
  obtain ⟨A2, c2, e⟩ := hv2.dest
  subst e
  refine go ?_
  exact b_ret rfl (.cons (.tmp rfl) (.cons (.tmp rfl) (.cons (.tmp rfl) .nil))) (Turn.refl _ _) ⟨rfl, hF1.trans hF2, _, rfl, hv2⟩
end Go.Proofs.YthkoodpnepfijaaGreatDoor
/- YW: WALKS: toom: mul. -/
namespace Go.Proofs.YthkoodpnepfijaaGreatDoor
open Go.RowKit
set_option linter.unusedVariables false
set_option linter.unusedSimpArgs false
set_option maxRecDepth 100000
set_option maxHeartbeats 1000000
theorem conv_one (x y : Int) : conv [x] [y] = [x * y] := by
  simp [conv, cvF, sm, List.range_succ]
theorem one_list {a : List Int} (h : a.length = 1) : ∃ x, a = [x] := by
  match a, h with
  | [x], _ => exact ⟨x, rfl⟩
/-- The tally before and after: so much more. -/
structure Tls (lv P pd S : Nat) (zl zc zp zs wl wc wp ws : Int) : Prop where
  l : wl = zl + (lv : Nat)
  c : wc = zc + (lv * P : Nat)
  p : wp = zp + (pd : Nat)
  s : ws = zs + (lv * S : Nat)
structure Tlb (lv P pd S : Nat) (zl zc zp zs : Int) : Prop where
  l0 : 0 ≤ zl
  c0 : 0 ≤ zc
  p0 : 0 ≤ zp
  s0 : 0 ≤ zs
  l : zl + (lv : Nat) ≤ 1000000000000000
  c : zc + (lv * P : Nat) ≤ 1000000000000000
  p : zp + (pd : Nat) ≤ 1000000000000000
  s : zs + (lv * S : Nat) ≤ 1000000000000000
theorem mul21 {A : Addr} {u : UnC} (k2 : 2 ≤ u.K) : ∀ (d : Nat) {F : Fz} (hGl : Gl F) (hm : MachR F A u) {va vb : Value} {a b : List Int} {k : Nat} (ha : RowI F va a) (hb : RowI F vb b) (hla : a.length = u.K ^ d) (hlb : b.length = u.K ^ d) (hn : u.K ^ d ≤ 2048) (ba : BdF k a) (bb : BdF k b) (hk : k + 32 * d ≤ 1000000) {rt : Nat} {zl zc zp zs : Int} (hz : Tlb (lvN u.l.length d) u.l.length (u.l.length ^ d) (stepsN u) zl zc zp zs) (own : List Ch),
    N 21 [.pointer (some A), va, vb, .int .i64 1, .pointer (some ⟨rt, 0, none⟩)] (.c rt (tal zl zc zp zs) :: own) F fun w o F' => ∃ wl wc wp ws : Int, o = .c rt (tal wl wc wp ws) :: own ∧ Fle F F' ∧ Tls (lvN u.l.length d) u.l.length (u.l.length ^ d) (stepsN u) zl zc zp zs wl wc wp ws ∧ ∃ v', w = .tuple #[v', .int .i64 0] ∧ RowI F' v' (conv a b)
  | 0, F, hGl, hm, va, vb, a, b, k, ha, hb, hla, hlb, hn, ba, bb, hk, rt, zl, zc, zp, zs, hz, own => by
    obtain ⟨x, rfl⟩ := one_list hla
    obtain ⟨y, rfl⟩ := one_list hlb
    obtain ⟨z1, z2, z3, z4, z5, z6, z7, z8⟩ := hz
    simp only [lvN, Nat.pow_zero, Nat.zero_mul] at z5 z6 z7 z8
    rw [Nat.pow_zero]
    obtain ⟨Aa, ca, e⟩ := ha.dest
    obtain ⟨Ab, cb, e'⟩ := hb.dest
    subst e e'
    refine n_fun Tryz.func21 Tryz.ntmps21 rfl rfl rfl ?_
    refine go ?_
    refine o_ps rfl (enters33o hm k2) (fun w ⟨z, e⟩ => ?_) sl
    subst e
    refine go ?_
    refine o_pu rfl (mul34 (k := k) ha hb (ba x (by simp)) (bb y (by simp)) (by omega)) (fun w F1 hF1 ⟨v1, e, hv1⟩ => ?_) sl
    subst e
    obtain ⟨A1, c1, e⟩ := hv1.dest
    subst e
    refine go ?_
    exact b_ret rfl (.cons (.tmp rfl) (.cons (.tmp rfl) .nil)) (Turn.refl _ _) ⟨zl, zc, zp + 1, zs, rfl, hF1, ⟨by simp [lvN], by simp [lvN], rfl, by simp [lvN]⟩, _, rfl, by rw [conv_one]; exact hv1⟩
  | d + 1, F, hGl, hm, va, vb, a, b, k, ha, hb, hla, hlb, hn, ba, bb, hk, rt, zl, zc, zp, zs, hz, own => by
    have hKm : u.K ^ (d + 1) = u.K * u.K ^ d := by rw [Nat.pow_succ, Nat.mul_comm]
    have m1 : 1 ≤ u.K ^ d := Nat.pow_pos (by omega)
    have hmn : u.K ^ d ≤ 2048 := Nat.le_trans (Nat.pow_le_pow_right (by omega) (by omega)) hn
    have l1 := hm.ok.okL.len
    have l3 := hm.ok.okR.len
    have l5 := hm.ok.okB.len
    have n1 := hm.ok.right.len
    have n2 := hm.ok.right.len15
    have hlv := lvN_succ u.l.length d
    have hpd : u.l.length ^ (d + 1) = u.l.length * u.l.length ^ d := by rw [Nat.pow_succ, Nat.mul_comm]
    have hS : stepsN u = u.pl.code.length + u.pr.code.length + u.pb.code.length := rfl
    obtain ⟨z1, z2, z3, z4, z5, z6, z7, z8⟩ := hz
    have e6 : (1 + u.l.length * lvN u.l.length d) * u.l.length = u.l.length + u.l.length * (lvN u.l.length d * u.l.length) := by rw [Nat.add_mul, Nat.one_mul, Nat.mul_assoc]
    have e8 : (1 + u.l.length * lvN u.l.length d) * stepsN u = stepsN u + u.l.length * (lvN u.l.length d * stepsN u) := by rw [Nat.add_mul, Nat.one_mul, Nat.mul_assoc]
    rw [hlv] at z5 z6 z8
    rw [e6] at z6
    rw [e8] at z8
    rw [hpd] at z7
    obtain ⟨Aa, ca, e⟩ := ha.dest
    obtain ⟨Ab, cb, e'⟩ := hb.dest
    rw [hla] at e
    rw [hlb] at e'
    subst e e'
    have hlev := level35 hGl hm ha hb (by rw [hla, hKm]) (by rw [hlb, hKm]) m1 (by omega) ba bb (by omega)
    have hent := enters33p hm (e := d) k2 (by omega)
    refine n_fun Tryz.func21 Tryz.ntmps21 rfl rfl rfl ?_
    refine go ?_
    refine o_ps rfl hent (fun w e => ?_) sl
    subst e
    refine go ?_
    refine o_pu rfl hlev (fun w F1 hF1 ⟨v1, e, hT⟩ => ?_) sl
    subst e
    obtain ⟨ts, hts, htl, htr⟩ := hT
    obtain ⟨At, ct, e⟩ := hts.dest
    subst e
    have htr := Wrp.mk htr
    clear hlev hent
    refine go ?_
    refine c_loopT (fun mm X o G => ∃ (j : Nat) (cv : Value) (ps : List SZ) (wl wc wp ws : Int), mm = ts.length - j ∧ X = [(0, .pointer (some A)), (1, .slice Aa (u.K ^ (d + 1)) ca), (2, .slice Ab (u.K ^ (d + 1)) cb), (3, .int .i64 1), (4, .pointer (some ⟨rt, 0, none⟩)), (12, .int .i64 (u.K ^ d : Nat)), (19, cv), (79, .slice At ts.length ct), (80, .int .i64 (ts.length : Nat)), (81, .int .i64 (j : Nat))] ∧ .c rt (tal wl wc wp ws) :: gC cv ps.length ps :: own = o ∧ Fle F1 G ∧ ps.length = j ∧ RegR G ps (fun j => prodL u.K (u.K ^ d) a b (u.l.getD j z0P)) ∧ wl = zl + 1 + (j * lvN u.l.length d : Nat) ∧ wc = zc + (j + j * (lvN u.l.length d * u.l.length) : Nat) ∧ wp = zp + (j * u.l.length ^ d : Nat) ∧ ws = zs + (u.pl.code.length + u.pr.code.length + j * (lvN u.l.length d * stepsN u) : Nat) ∧ j ≤ ts.length)
      ⟨_, _, _, _, ⟨0, .slice none 0 0, [], _, _, _, _, rfl, rfl, rfl, Fle.refl _, rfl, fun r hr => absurd hr (by simp), by simp, by simp, by simp, by simp, by omega⟩, ⟨rfl, rfl, rfl, rfl, rfl, rfl, rfl, rfl, rfl, rfl, trivial⟩, (Turn.nil 42 1).trans (Turn.perm (.swap ..))⟩ ?_
    rintro _ _ _ G b' ⟨j, cv, ps, wl, wc, wp, ws, rfl, rfl, rfl, hG, hpl, hps, q1, q2, q3, q4, hj⟩
    have hps := Wrp.mk hps
    have hts' := RowS.le hts hG
    by_cases hjl : j < ts.length
    · have a1 : (j + 1) * lvN u.l.length d = j * lvN u.l.length d + lvN u.l.length d := by rw [Nat.add_mul, Nat.one_mul]
      have b1 := Nat.mul_le_mul_right (lvN u.l.length d) (show j + 1 ≤ u.l.length by omega)
      have a2 : (j + 1) * (lvN u.l.length d * u.l.length) = j * (lvN u.l.length d * u.l.length) + lvN u.l.length d * u.l.length := by rw [Nat.add_mul, Nat.one_mul]
      have b2 := Nat.mul_le_mul_right (lvN u.l.length d * u.l.length) (show j + 1 ≤ u.l.length by omega)
      have a3 : (j + 1) * u.l.length ^ d = j * u.l.length ^ d + u.l.length ^ d := by rw [Nat.add_mul, Nat.one_mul]
      have b3 := Nat.mul_le_mul_right (u.l.length ^ d) (show j + 1 ≤ u.l.length by omega)
      have a4 : (j + 1) * (lvN u.l.length d * stepsN u) = j * (lvN u.l.length d * stepsN u) + lvN u.l.length d * stepsN u := by rw [Nat.add_mul, Nat.one_mul]
      have b4 := Nat.mul_le_mul_right (lvN u.l.length d * stepsN u) (show j + 1 ≤ u.l.length by omega)
      have hTb : Tlb (lvN u.l.length d) u.l.length (u.l.length ^ d) (stepsN u) wl (wc + 1) wp ws := ⟨by omega, by omega, by omega, by omega, by omega, by omega, by omega, by omega⟩
      have hwc : 0 ≤ wc ∧ wc ≤ 1000000000000000 := by omega
      have hin := hm.ok.right.inp _ (getD_mem (z := z0P) (show j < u.l.length by omega))
      obtain ⟨i1, i2, i3, i4⟩ := hin
      have hrec := fun ow => mul21 k2 d ((hGl.le hF1).le hG) ((hm.le hF1).le hG) (((htr.out j (by omega)).1).le hG) (((htr.out j (by omega)).2).le hG) (valL_len ..) (valL_len ..) hmn (valL_bd ba hm.ok.k8 (by omega) (by omega)) (valL_bd bb hm.ok.k8 (by omega) (by omega)) (by omega) (rt := rt) hTb ow
      have hA := Wrp.mk (And.intro q1 (And.intro q2 (And.intro q3 (And.intro q4 (And.intro a1 (And.intro a2 (And.intro a3 a4)))))))
      clear q1 q2 q3 q4 a1 b1 a2 b2 a3 b3 a4 b4 z5 z6 z7 z8 e6 e8 hlv hpd hTb
      refine go ?_
      intro r21
      refine go ?_
      refine o_perm (.swap ..) ?_
      refine o_call rfl (hrec _) (fun w o F2 ⟨wl', wc', wp', ws', e1, hF2, hT, v', e2, hv'⟩ => ⟨_, .text, ?_⟩) (List.Sublist.refl _)
      subst e1 e2
      obtain ⟨qn, e, hqn⟩ := hv'.sz
      subst e
      refine o_perm (.swap ..) ?_
      refine go ?_
      refine o_lit rfl rfl rfl rfl rfl (fun rl => ?_)
      refine o_app1 2 rfl rfl rfl rfl rfl rfl rfl (by omega) (by omega) (fun _ => rfl) (fun A' c' => ?_)
      refine go ?_
      obtain ⟨q1, q2, q3, q4, a1, a2, a3, a4⟩ := hA.out
      obtain ⟨t1, t2, t3, t4⟩ := hT
      refine ⟨_, _, _, _, ⟨j + 1, .slice A' (ps.length + 1) c', ps ++ [qn], wl', wc', wp', ws', rfl, rfl, rfl, hG.trans hF2, by simp [hpl], fun r hr => ?_, ?_, ?_, ?_, ?_, by omega⟩, ⟨rfl, rfl, rfl, rfl, rfl, rfl, rfl, rfl, rfl, eqI (by omega), trivial⟩, by simp only [gC, List.length_append, List.map_append, List.length_singleton, List.map_cons, List.map_nil]; exact Turn.drop, rfl, by omega⟩
      · have := regs_snoc (R := fun j => prodL u.K (u.K ^ d) a b (u.l.getD j z0P)) hF2 hpl (fun r hr => hps.out r (by omega)) hqn r (by simp [hpl] at hr; omega)
        exact this
      · rw [a1]; omega
      · rw [a2]; omega
      · rw [a3]; omega
      · rw [a4]; omega
    · obtain rfl : j = ts.length := by omega
      rw [htl] at q1 q2 q3 q4
      have hle : Fle G (G.add (gC cv ps.length ps)) := Fz.add_le _ _
      refine c_iceM (l := ps) (f := vS) z0S 1 rfl (fun hRM => ?_)
      have hcl := close36 (((hGl.le hF1).le hG).le hle) (((hm.le hF1).le hG).le hle) (v := cv) (a := a) (b := b) (m := u.K ^ d) (k := k) ⟨ps, hRM, by omega, hps.out.le hle⟩ (by rw [hla, hKm]) (by rw [hlb, hKm]) m1 (by omega) ba bb (by omega)
      obtain ⟨Ap, cp, e⟩ := hRM.dest
      subst e
      have hws : 0 ≤ ws ∧ ws ≤ 1000000000000000 := by omega
      have hA := Wrp.mk (And.intro q1 (And.intro q2 (And.intro q3 q4)))
      clear q1 q2 q3 q4 z5 z6 z7 z8
      refine go ?_
      refine o_val (.int .i64 (u.K * u.K ^ d + u.K * u.K ^ d - 1 : Nat)) (congrArg (Value.int .i64) (by rw [hKm]; have : 1 ≤ u.K * u.K ^ d := Nat.mul_pos (by omega) m1; omega)) ?_
      refine go ?_
      refine o_pu rfl hcl (fun w F2 hF2 ⟨v2, e, hv2⟩ => ?_) sl
      subst e
      obtain ⟨A2, c2, e⟩ := hv2.dest
      subst e
      refine go ?_
      obtain ⟨q1, q2, q3, q4⟩ := hA.out
      refine b_ret rfl (.cons (.tmp rfl) (.cons (.tmp rfl) .nil)) (Turn.refl _ _) ⟨_, _, _, _, rfl, hF1.trans (hG.trans (hle.trans hF2)), ⟨?_, ?_, ?_, ?_⟩, _, rfl, hv2⟩
      · rw [hlv]; omega
      · rw [hlv, e6]; omega
      · rw [hpd]; omega
      · rw [hlv, e8]; omega
end Go.Proofs.YthkoodpnepfijaaGreatDoor
/- YX: WALKS: toom: Mul. -/
namespace Go.Proofs.YthkoodpnepfijaaGreatDoor
open Go.RowKit
set_option linter.unusedVariables false
set_option linter.unusedSimpArgs false
set_option maxRecDepth 100000
set_option maxHeartbeats 1000000
theorem mul9 {F : Fz} (hGl : Gl F) {A : Addr} {u : UnC} (hm : MachR F A u) (k2 : 2 ≤ u.K) {d : Nat} {va vb : Value} {a b : List Int} {k : Nat} (ha : RowI F va a) (hb : RowI F vb b) (hla : a.length = u.K ^ d) (hlb : b.length = u.K ^ d) (hn : u.K ^ d ≤ 2048) (hp : u.l.length ^ d ≤ 200000) (ba : BdF k a) (bb : BdF k b) (hk : k + 32 * d ≤ 1000000) :
    Pu 9 [.pointer (some A), va, vb, .int .i64 1] F fun w F' => ∃ v', w = .tuple #[v', .agg (tal (lvN u.l.length d : Nat) (lvN u.l.length d * u.l.length : Nat) (u.l.length ^ d : Nat) (lvN u.l.length d * stepsN u : Nat)).toArray, .int .i64 0] ∧ RowI F' v' (conv a b) := fun own => by
  have l1 := hm.ok.okL.len
  have l3 := hm.ok.okR.len
  have l5 := hm.ok.okB.len
  have n2 := hm.ok.right.len15
  have hP3 : 2 ≤ u.l.length := by have := hm.ok.len; omega
  have hSb : stepsN u ≤ 49152 := by unfold stepsN; omega
  have hlv := lvN_le hP3 d
  have hLS : lvN u.l.length d * stepsN u ≤ 200000 * 49152 := Nat.mul_le_mul (by omega) hSb
  have hLP : lvN u.l.length d * u.l.length ≤ 200000 * 15 := Nat.mul_le_mul (by omega) n2
  obtain ⟨Aa, ca, e⟩ := ha.dest
  obtain ⟨Ab, cb, e'⟩ := hb.dest
  rw [hla] at e
  rw [hlb] at e'
  subst e e'
  have hmul := fun r ow => mul21 k2 d hGl hm ha hb hla hlb hn ba bb hk (rt := r) (zl := 0) (zc := 0) (zp := 0) (zs := 0) ⟨by omega, by omega, by omega, by omega, by omega, by omega, by omega, by omega⟩ ow
  refine n_fun Tryz.func9 Tryz.ntmps9 rfl rfl rfl ?_
  refine go ?_
  intro r9
  refine go ?_
  refine o_eqp rfl ?_
  refine go ?_
  intro r11
  refine go ?_
  refine o_call rfl (hmul _ _) (fun w o F2 ⟨wl, wc, wp, ws, e1, hF2, ⟨t1, t2, t3, t4⟩, v', e2, hv'⟩ => ⟨_, .text, ?_⟩) (List.Sublist.refl _)
  subst e1 e2
  rw [Int.zero_add] at t1 t2 t3 t4
  subst t1 t2 t3 t4
  obtain ⟨A2, c2, e⟩ := hv'.dest
  subst e
  refine goT ?_
  refine c_drww [.c r11 (tal (lvN u.l.length d : Nat) (lvN u.l.length d * u.l.length : Nat) (u.l.length ^ d : Nat) (lvN u.l.length d * stepsN u : Nat))] sl rfl (by decide +kernel) ?_
  refine go ?_
  exact b_ret rfl (.cons (.tmp rfl) (.cons (.cella rfl rfl (rdsW 1 rfl)) (.cons (.tmp rfl) .nil))) (Turn.of sl (Fle.refl _)) ⟨rfl, hF2, _, rfl, hv'⟩
end Go.Proofs.YthkoodpnepfijaaGreatDoor
