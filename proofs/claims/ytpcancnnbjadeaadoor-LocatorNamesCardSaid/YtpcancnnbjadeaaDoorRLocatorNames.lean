/-
  The law LocatorNames holds for every input: the call returns true, and the argument reads as it did. Conditions: the listed variables of the library hold what the program's text lays (tied by the card).
-/
import Derived.Test.YtpcancnnbjadeaaDoorMH
import Derived.Test.YtpcancnnbjadeaaDoorCards
set_option linter.unusedSimpArgs false
set_option linter.unusedVariables false
namespace Go.Proofs.YtpcancnnbjadeaaDoor
open Go Go.Gp Go.RowKit
namespace LocatorNamesRow
set_option maxRecDepth 100000
theorem own : ownKnob Tryd.prog.godebug = none := by kernel_rfl
theorem laidOut : laidOutB Tryd.prog = true := by kernel_rfl
theorem lifted (os : Os) (started : os.Started) (H : Type) (enc : TypeId × Value → H) :
    ReturnsInHanded {} Tryd.checked os 9 .any (fun w args => (Rows.locatorNamesSpec.pre enc Tryd.prog Tryd.f9 Rows.locatorNamesRow.domain false w args ∧ laidMetH Tryd.prog Rows.locatorNamesRow.laid w) ∧ sizedMet enc Tryd.prog Tryd.f9 (OpenSpec.ofChange Rows.locatorNamesSpec) false w args)
      (Rows.locatorNamesSpec.post enc Tryd.prog Tryd.f9 false true false false) :=
  law_lifted (C := Tryd.checked) own started (by kernel_rfl) Tryd.func9
    (ChangeSpec.witness_shaped (enc := enc) (C := Tryd.checked) (os := os) (X := fun w _ => laidMetH Tryd.prog Rows.locatorNamesRow.laid w) false (World.laidAll Tryd.prog os Rows.locatorNamesRow.laid) #[] 8 (World.laidAll_os _ _ _)
      (World.shaped_of_ZipB (by kernel_rfl) (by kernel_rfl)) (by kernel_rfl) (by kernel_rfl) (by kernel_rfl)
      (by rw [MakeChecks.laidMetH_plain _ _ _ (by kernel_rfl)]; exact laidMet_laidAll _ (by kernel_rfl) (by kernel_rfl)))
    laidOut (ts := []) rfl (by kernel_rfl) (rt := 4) rfl Tryd.underlying4 rfl (fun ds h => by match ds, h with | [], _ => rfl) .nil
    (fun W hL0 hsh ps hp => by
      have hL : laidMet Tryd.prog Rows.locatorNamesRow.laid W := by rwa [MakeChecks.laidMetH_plain _ _ _ (by kernel_rfl)] at hL0
      exact (by cases hp; exact names_fv W (gw_of hL (by simp [Rows.locatorNamesRow]) hsh) (ge_of hL (by simp [Rows.locatorNamesRow]) (by simp [Rows.locatorNamesRow]))))
theorem holds : Rows.LocatorNamesSaid :=
  OpenClaim.holds_of_wide 9 Tryd.f9 rfl rfl rfl rfl rfl rfl rfl ⟨rfl, rfl, rfl, rfl, rfl⟩ rfl rfl rfl rfl rfl (by kernel_rfl) Tryd.func9 (by kernel_rfl)
    (of_decide_eq_true (by kernel_rfl)) (by unfold Func.isWrapper; first | (rw [if_pos (by decide +kernel)]; kernel_rfl) | (rw [if_neg (by decide +kernel)]; exact ⟨rfl, rfl⟩))
    (fun os started H enc _ => lifted os started H enc)
end LocatorNamesRow
theorem locatorNames_card : Rows.LocatorNamesCardSaid :=
  Claim7.holds_tied_plain_at .later [] [.data, .data, .data, .data, .sentinel, .sentinel, .pinned] true (true, "e9f6e69844a381ec6e56236ab3ec7f7220a97bda1399cf39ba01fd8d2dee1235") true
    LocatorNamesRow.holds (fun _ h => by cases h) (by kernel_rfl) (fun _ h => by cases h) locatorNames_row_tie rfl ⟨rfl, rfl⟩ (by kernel_rfl) rfl
    (fun f fn hf hfn => by
      obtain rfl : f = 9 := Option.some.inj ((show Tryd.prog.funcNamed "gatepath/gatepathlaw09.LocatorNames" = some 9 by kernel_rfl).symm.trans hf) |>.symm
      obtain rfl : fn = Tryd.f9 := (Option.some.inj (Tryd.func9.symm.trans hfn)).symm
      exact ⟨by kernel_rfl, fun j t ht => by
        rw [Tryd.params9] at ht
        have hm : t ∈ ([] : List TypeId) := by simpa using Array.mem_of_getElem? ht
        have hall : (([] : List TypeId).all fun u => !Tryd.prog.wantsStandIn u) = true := by kernel_rfl
        exact (show Tryd.prog.wantsStandIn t = false by simpa using List.all_eq_true.1 hall t hm)⟩)
    (by kernel_rfl)
#print axioms locatorNames_card
end Go.Proofs.YtpcancnnbjadeaaDoor
