/-
  Steps towards TopCounts (no conditions of their own): The row of TopCounts: for every input the law returns true, and its arguments read behind the call as they read before; premise: the two listed tables hold what the program's text lays.
-/
import Derived.Test.YthkoodpnepfijaaGreatDoorM39
import Derived.Test.YthkoodpnepfijaaGreatDoorRows
import Derived.Below
import Derived.ChangeOld
import Derived.Deep.SlicePairs
import Derived.LaidMore
import Derived.OpenShut
import Derived.ProofKit
import Derived.SizedLaws
import Derived.Stop.Joined
import Derived.WalkKit
/- TopCountsRow: The row of TopCounts: for every input the law returns true, and its arguments read behind the call as they read before; premise: the two listed tables hold what the program's text lays. -/
namespace Go.Proofs.YthkoodpnepfijaaGreatDoor
open Go.ChangeShapes Go.WideShapes Go.ChangeAt Go.RowKit

theorem own : ownKnob Tryz.prog.godebug = none := by kernel_rfl
theorem laidOut : laidOutB Tryz.prog = true := by kernel_rfl
theorem bytes75 : Tryz.prog.bytesOf 75 = 16 := by kernel_rfl
theorem cells75 : Tryz.prog.cellsOf 75 = 2 := by kernel_rfl
theorem cells3 : Tryz.prog.cellsOf 3 = 1 := by kernel_rfl
theorem cells5 : Tryz.prog.cellsOf 5 = 1 := by kernel_rfl

/-- A table of small numbers out of what is laid. -/
theorem tab_cells {W : World} {n : String} {g N t : Nat} {tb : List Nat} {fuel : Nat} {cs : Array Value} {q : List MemPlace} {dd : List (DataW Unit)} (hu : Tryz.prog.underlying t = some (.array N 5)) (hg : Tryz.prog.globalNamed n = some g) (hv : W.var? Tryz.prog n = some cs) {enc : TypeId × Value → Unit} {base : Nat} {sp : Nat → Bool} {held : Bool}
    (hd : DataW.trod enc Tryz.prog W base sp held fuel t cs.toList = some (.agg dd, q)) (hdd : dd = tb.map fun k => .lit (.int .u8 (k : Nat))) :
    ∀ i v, (tb.map fun k => Value.int .u8 (k : Nat))[i]? = some v → W.cell? ⟨g, i, none⟩ = some v := by
  intro i v hi
  subst hdd
  obtain ⟨xs, m, _, ex, _, hl, hel⟩ := DataW.trod_array hu hd
  have e3 : tb.map (fun k => (DataW.lit (.int .u8 (k : Nat)) : DataW Unit)) = xs.map (·.1) := DataW.agg.inj (Prod.mk.inj ex).1
  have e5 : tb.length = xs.length := by have := congrArg List.length e3; simpa using this
  rw [List.getElem?_map] at hi
  obtain ⟨k, hk, rfl⟩ := Option.map_eq_some_iff.1 hi
  have hlt : i < tb.length := (List.getElem?_eq_some_iff.1 hk).1
  have hE := hel i (by omega)
  rw [cells5, Nat.mul_one, List.getElem?_eq_getElem (by omega)] at hE
  obtain ⟨z, e1, e2, _⟩ := DataW.trod_int Tryz.underlying5 hE
  have e4 : (tb.map (fun k => (DataW.lit (.int .u8 (k : Nat)) : DataW Unit)))[i]? = (xs.map (·.1))[i]? := by rw [e3]
  rw [List.getElem?_map, List.getElem?_map, List.getElem?_eq_getElem (by omega : i < xs.length), hk, e2] at e4
  simp only [Option.map_some, Option.some.injEq, DataW.lit.injEq, Lit.int.injEq, true_and] at e4
  rw [World.var?_cell hg hv i, e4]
  have : cs.toList[i]? = some (.int .u8 z) := by
    have h0 : ((cs.toList.drop i).take 1)[0]? = some (.int .u8 z) := by rw [e1]; rfl
    simpa using h0
  simpa using this

/-- What the world holds. -/
def FzW (W : World) : Fz := fun a v => W.cell? a = some v

theorem of_laid {W : World} (h : laidMetH Tryz.prog Rows.topCountsRow.laid W) : Gl (FzW W) := by
  rw [MakeChecks.laidMetH_plain _ _ _ (by kernel_rfl)] at h
  obtain ⟨ps, ⟨g0, t0, cs0, f0, p0, q0, hg0, ht0, hv0, hd0, ⟨g1, t1, cs1, f1, p1, q1, hg1, ht1, hv1, hd1, _, _⟩, _⟩, _, _⟩ := h
  obtain rfl := Option.some.inj ((show Tryz.prog.globalNamed "math/bits.deBruijn32tab" = some 0 by kernel_rfl).symm.trans hg0)
  obtain rfl := Option.some.inj ((show Tryz.prog.globalNamed "math/bits.deBruijn64tab" = some 1 by kernel_rfl).symm.trans hg1)
  obtain rfl := Option.some.inj ((show (Tryz.prog.globals[0]?).map (·.type) = some 243 by kernel_rfl).symm.trans ht0)
  obtain rfl := Option.some.inj ((show (Tryz.prog.globals[1]?).map (·.type) = some 244 by kernel_rfl).symm.trans ht1)
  refine ⟨fun i v hi => ?_, fun i v hi => ?_⟩
  · have := tab_cells (tb := tab32) Tryz.underlying243 hg0 hv0 hd0 (by kernel_rfl) i v hi
    show W.cell? (Addr.add ⟨0, 0, none⟩ i) = some v
    rw [Addr.add_lit, Nat.zero_add]; exact this
  · have := tab_cells (tb := tab64) Tryz.underlying244 hg1 hv1 hd1 (by kernel_rfl) i v hi
    show W.cell? (Addr.add ⟨1, 0, none⟩ i) = some v
    rw [Addr.add_lit, Nat.zero_add]; exact this

/-- Nothing of one's own; what the world holds. -/
theorem inv_start (W : World) : Inv W.heap.size W [] (FzW W) W :=
  ⟨Below.refl _ _, Nat.le_refl _, fun _ h => absurd h List.not_mem_nil, .nil, fun _ _ h => h, fun _ h => absurd h List.not_mem_nil⟩

/-- The door's own heap meets the condition: three closed facts. -/
theorem door_met (os : Os) (args : Array Value) : laidMetH Tryz.prog Rows.topCountsRow.laid ((World.doorLaid Tryz.prog 400 os).forCall (fun _ _ => 0) ⟨#[], args, []⟩).memory :=
  laidMetH_of_parts3 (fuel := 8) (laidMet_of_run' 8 (by kernel_rfl) (by kernel_rfl)) (by kernel_rfl) (by kernel_rfl)

/-- The number of a value. -/
def numV (v : Value) : Int := match v with | .int _ n => n | _ => 0

set_option maxRecDepth 100000 in
theorem lifted (os : Os) (started : os.Started) (H : Type) (enc : TypeId × Value → H) :
    ReturnsInHanded {} Tryz.checked os 3 .any (fun w args => (Rows.topCountsSpec.pre enc Tryz.prog Tryz.f3 [] false w args ∧ laidMetH Tryz.prog Rows.topCountsRow.laid w) ∧ sizedMet enc Tryz.prog Tryz.f3 (OpenSpec.ofChange Rows.topCountsSpec) false w args)
      (Rows.topCountsSpec.post enc Tryz.prog Tryz.f3 false true false false) := by
  refine returnsInHanded_of_change_and (C := Tryz.checked) (X := fun w _ => laidMetH Tryz.prog Rows.topCountsRow.laid w) (fun _ _ _ hh h => h.of_heap hh) own started (by kernel_rfl) Tryz.func3
    (ChangeSpec.witness_shaped (enc := enc) (C := Tryz.checked) (os := os) (X := fun w _ => laidMetH Tryz.prog Rows.topCountsRow.laid w) false (World.doorLaid Tryz.prog 400 os) #[.int .i64 0, .slice none 0 0, .int .i64 0, .int .i64 0] 8 rfl (World.shaped_of_RefB (by kernel_rfl) (by kernel_rfl)) (by kernel_rfl) (by kernel_rfl) (by kernel_rfl) (door_met os _)) ?_
  intro W base args ds gs before hval0 hW _ hsz0 hL _
  have hval : ∀ (j : Nat) t v, Tryz.f3.params[j]? = some t → args[j]? = some v → Value.okWide Tryz.prog W .any base t v := hval0
  have hsz : (DataW.weightsEach Tryz.prog (Tryz.f3.params.toList ++ Rows.topCountsSpec.plain.varTypes Tryz.prog) (ds ++ gs)).all (· ≤ reachBytes) = true := hsz0
  have hW' := hW
  obtain ⟨p, q, hA0, hV, rfl, hfz, hnd⟩ := hW
  have hA : DataW.TrodAll enc Tryz.prog W 0 (fun _ => true) true Tryz.f3.params.toList args.toList ds p := hA0
  rw [Tryz.params3] at hA hval hsz
  obtain ⟨v0, vs0, d0, ds0, p0, q0, hargs, rfl, rfl, h0, r0⟩ := trodAll_cons hA
  obtain ⟨v1, vs1, d1, ds1, p1, q1, rfl, rfl, rfl, h1, r1⟩ := trodAll_cons r0
  obtain ⟨v2, vs2, d2, ds2, p2, q2, rfl, rfl, rfl, h2, r2⟩ := trodAll_cons r1
  obtain ⟨v3, vs3, d3, ds3, p3, q3, rfl, rfl, rfl, h3, r3⟩ := trodAll_cons r2
  obtain ⟨rfl, rfl, rfl⟩ := trodAll_nil r3
  obtain rfl : args = #[v0, v1, v2, v3] := by cases args; simp_all
  obtain ⟨rfl, rfl⟩ := trodVars_none hV
  obtain ⟨k, rfl, rfl, rfl, w0⟩ := open_int Tryz.underlying3 (hval 0 3 v0 rfl rfl) h0
  obtain ⟨d, rfl, rfl, rfl, w2⟩ := open_int Tryz.underlying3 (hval 2 3 v2 rfl rfl) h2
  obtain ⟨seed, rfl, rfl, rfl, w3⟩ := open_int Tryz.underlying2 (hval 3 2 v3 rfl rfl) h3
  obtain ⟨a1, len1, cap1, rfl⟩ := okWide_slice Tryz.underlying22 (hval 1 22 v1 rfl rfl)
  have k1 := h1
  have lt1 : ∀ x ∈ p1, x.block < W.heap.size := by obtain ⟨m, hm⟩ := k1; exact DataW.trod_lt m _ _ _ hm
  obtain ⟨l, hl, hlen⟩ : ∃ l : List Pnt, PtsR (FzW W) (.slice a1 len1 cap1) l ∧ l.length ≤ 17592186044416 := by
    obtain ⟨fuel, hf⟩ := h1
    rcases Go.Deep.open_slice_pairs Tryz.underlying22 Tryz.underlying75 cells75 rfl rfl cells3 cells3 hf with ⟨hcs, _⟩ | ⟨x, l, c, m, n, V0, V1, D0, D1, P0, P1, hcs, _, hl, hm, hmm, hd, hcell⟩
    · simp [Value.cells] at hcs
      obtain ⟨rfl, rfl, rfl⟩ := hcs
      exact ⟨[], ⟨none, 0, rfl, Nat.le_refl _, fun i us h => by simp at h⟩, by simp⟩
    · simp [Value.cells] at hcs
      obtain ⟨rfl, rfl, rfl⟩ := hcs
      have hmc : len1 ≤ m := by rw [hmm]; split <;> omega
      have hd1 : d1 = .slice ((List.range len1).map fun i => .agg [D0 i, D1 i]) ((List.range (m - len1)).map fun j => .agg [D0 (len1 + j), D1 (len1 + j)]) := by have := congrArg Prod.fst hd; simpa using this
      subst hd1
      have hreach := sized_slice hsz (j := 1) (t := 22) (e := 75) rfl rfl Tryz.underlying22
      rw [bytes75] at hreach
      simp only [List.length_map, List.length_range, reachBytes] at hreach
      have ints : ∀ i, i < len1 → V0 i = .int .i64 (numV (V0 i)) ∧ V1 i = .int .i64 (numV (V1 i)) := by
        intro i hi
        obtain ⟨_, _, t0, t1⟩ := hcell i (by omega)
        obtain ⟨n0, e0, _, _⟩ := DataW.trod_int Tryz.underlying3 t0
        obtain ⟨n1, e1, _, _⟩ := DataW.trod_int Tryz.underlying3 t1
        simp only [List.cons.injEq, and_true] at e0 e1
        exact ⟨by rw [e0]; rfl, by rw [e1]; rfl⟩
      have hll : ((List.range len1).map fun i => (⟨numV (V0 i), numV (V1 i)⟩ : Pnt)).length = len1 := by simp
      refine ⟨(List.range len1).map fun i => ⟨numV (V0 i), numV (V1 i)⟩, ⟨some x, cap1, by rw [List.length_map, hll], by rw [List.length_map, hll]; exact hl, fun i us hi => ?_⟩, by rw [hll]; omega⟩
      rw [List.getElem?_map, List.getElem?_map] at hi
      have hlt : i < len1 := by
        rcases Nat.lt_or_ge i len1 with h | h
        · exact h
        · rw [List.getElem?_eq_none (by simpa using h)] at hi; cases hi
      rw [List.getElem?_range hlt] at hi
      obtain rfl : vPt ⟨numV (V0 i), numV (V1 i)⟩ = us := by simpa using hi
      refine ⟨rfl, x, rfl, fun j v hj => ?_⟩
      obtain ⟨c0, c1, _, _⟩ := hcell i (by omega)
      rw [(ints i hlt).1] at c0
      rw [(ints i hlt).2] at c1
      show W.cell? (Addr.add (x.add (i * 2)) j) = some v
      match j, hj with
      | 0, hj => obtain rfl := Option.some.inj hj; rw [Addr.add_zero]; exact c0
      | 1, hj => obtain rfl := Option.some.inj hj; rw [Go.Proofs.YthkoodpnepfijaaGreatDoor.Addr.add_add]; exact c1
  clear hA0 hval0
  refine ((top3 (of_laid hL) hl hlen (k := k) (d := d) (seed := seed) []).out _ _ _ (inv_start W)).mono fun e W' ⟨u, own', F', he, hI, _, _, hu⟩ => ?_
  subst he; subst hu
  have bel : Below W.heap.size W W' := hI.bel
  exact ⟨_, rfl, _, _, _, [], _, [], hW', trodAll_mk1 (shut_bool Tryz.underlying4 _), (trodAll_cons_mk (shut_int Tryz.underlying3 w0) (trodAll_cons_mk (Below.trod laidOut (by kernel_rfl) (of_decide_eq_true (by kernel_rfl)) k1 bel lt1) (trodAll_cons_mk (shut_int Tryz.underlying3 w2) (trodAll_cons_mk (shut_int Tryz.underlying2 w3) trodAll_mk0)))), rfl, bel.frame _, fun h => by cases h⟩

theorem row_holds : Rows.TopCountsSaid :=
  OpenClaim.holds_of_wide 3 Tryz.f3 rfl rfl rfl rfl rfl rfl rfl ⟨rfl, rfl, rfl, rfl, rfl⟩ rfl rfl rfl rfl rfl (by kernel_rfl) Tryz.func3 (by kernel_rfl)
    (of_decide_eq_true (by kernel_rfl)) (by unfold Func.isWrapper; first | (rw [if_pos (by decide +kernel)]; kernel_rfl) | (rw [if_neg (by decide +kernel)]; exact ⟨rfl, rfl⟩))
    (fun os started H enc _ => lifted os started H enc)
#print axioms row_holds
end Go.Proofs.YthkoodpnepfijaaGreatDoor
