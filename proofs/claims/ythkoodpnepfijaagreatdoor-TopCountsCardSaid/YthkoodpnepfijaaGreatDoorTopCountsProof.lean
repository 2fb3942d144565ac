/-
  TopCounts: for every input the law returns true, and its arguments read behind the call as they read before; the tied card: the two listed tables (math/bits.deBruijn32tab, deBruijn64tab) hold what the program's text lays.
-/
import Derived.Test.YthkoodpnepfijaaGreatDoorCards
import Derived.Test.YthkoodpnepfijaaGreatDoorM40
import Derived.Test.YthkoodpnepfijaaGreatDoorTie
import Derived.SevenTiedAt
/- TopCountsProof: TopCounts: for every input the law returns true, and its arguments read behind the call as they read before; the tied card: the two listed tables (math/bits.deBruijn32tab, deBruijn64tab) hold what the program's text lays. -/
namespace Go.Proofs.YthkoodpnepfijaaGreatDoor
open Go

/-- The statement. -/
theorem topCounts_card : Rows.TopCountsCardSaid :=
  Claim7.holds_tied_plain_at .later [] [.data, .data] true (true, "593f555e4d7a36d1be3d139a1505c2c9590765119ada1f2d424faa0c5cee47c3") false
    row_holds (fun _ h => by cases h) (by kernel_rfl) (fun _ h => by cases h) topCounts_row_tie rfl ⟨rfl, rfl⟩ (by kernel_rfl) rfl
    (fun f fn hf hfn => by
      obtain rfl : f = 3 := Option.some.inj ((show Tryz.prog.funcNamed "anvil/anviltop.TopCounts" = some 3 by kernel_rfl).symm.trans hf) |>.symm
      obtain rfl : fn = Tryz.f3 := (Option.some.inj (Tryz.func3.symm.trans hfn)).symm
      exact ⟨by kernel_rfl, fun j t ht => by
        rw [Tryz.params3] at ht
        have h3 : t = 3 ∨ t = 22 ∨ t = 2 := by
          rcases j with _ | _ | _ | _ | j
          · exact .inl (by simpa using ht.symm)
          · exact .inr (.inl (by simpa using ht.symm))
          · exact .inl (by simpa using ht.symm)
          · exact .inr (.inr (by simpa using ht.symm))
          · simp at ht
        rcases h3 with rfl | rfl | rfl
        · exact (show Tryz.prog.wantsStandIn 3 = false by kernel_rfl)
        · exact (show Tryz.prog.wantsStandIn 22 = false by kernel_rfl)
        · exact (show Tryz.prog.wantsStandIn 2 = false by kernel_rfl)⟩)
    (by kernel_rfl)
#print axioms topCounts_card
end Go.Proofs.YthkoodpnepfijaaGreatDoor
