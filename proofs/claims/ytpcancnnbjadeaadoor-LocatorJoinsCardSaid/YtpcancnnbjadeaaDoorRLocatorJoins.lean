/-
  The law LocatorJoins holds for every input: the call returns true, and the argument reads as it did. Conditions: the listed variables of the library hold what the program's text lays (tied by the card).
-/
import Derived.Test.YtpcancnnbjadeaaDoorMG
import Derived.Test.YtpcancnnbjadeaaDoorCards
set_option linter.unusedSimpArgs false
set_option linter.unusedVariables false
namespace Go.Proofs.YtpcancnnbjadeaaDoor
open Go Go.Gp Go.RowKit
namespace LocatorJoinsRow
set_option maxRecDepth 100000
theorem own : ownKnob Tryd.prog.godebug = none := by kernel_rfl
theorem laidOut : laidOutB Tryd.prog = true := by kernel_rfl
theorem lifted (os : Os) (started : os.Started) (H : Type) (enc : TypeId × Value → H) :
    ReturnsInHanded {} Tryd.checked os 10 .any (fun w args => (Rows.locatorJoinsSpec.pre enc Tryd.prog Tryd.f10 Rows.locatorJoinsRow.domain false w args ∧ laidMetH Tryd.prog Rows.locatorJoinsRow.laid w) ∧ sizedMet enc Tryd.prog Tryd.f10 (OpenSpec.ofChange Rows.locatorJoinsSpec) false w args)
      (Rows.locatorJoinsSpec.post enc Tryd.prog Tryd.f10 false true false false) :=
  law_lifted (C := Tryd.checked) own started (by kernel_rfl) Tryd.func10
    (ChangeSpec.witness_shaped (enc := enc) (C := Tryd.checked) (os := os) (X := fun w _ => laidMetH Tryd.prog Rows.locatorJoinsRow.laid w) false (World.laidAll Tryd.prog os Rows.locatorJoinsRow.laid) #[.string ByteArray.empty, .string ByteArray.empty] 8 (World.laidAll_os _ _ _)
      (World.shaped_of_ZipB (by kernel_rfl) (by kernel_rfl)) (by kernel_rfl) (by kernel_rfl) (by kernel_rfl)
      (by rw [MakeChecks.laidMetH_plain _ _ _ (by kernel_rfl)]; exact laidMet_laidAll _ (by kernel_rfl) (by kernel_rfl)))
    laidOut (ts := [9, 9]) rfl (by kernel_rfl) (rt := 4) rfl Tryd.underlying4 rfl (fun ds h => by match ds, h with | [d0, d1], _ => rfl) (.cons arg9 (.cons arg9 .nil))
    (fun W hL0 hsh ps hp => by
      have hL : laidMet Tryd.prog Rows.locatorJoinsRow.laid W := by rwa [MakeChecks.laidMetH_plain _ _ _ (by kernel_rfl)] at hL0
      exact (by cases hp with | cons h hr => cases hr with | cons h2 hr => cases hr; obtain ⟨s, rfl, _⟩ := h; obtain ⟨t, rfl, _⟩ := h2; exact joins_fv W (gw_of hL (by simp [Rows.locatorJoinsRow]) hsh) (ge_of hL (by simp [Rows.locatorJoinsRow]) (by simp [Rows.locatorJoinsRow])) s t))
theorem holds : Rows.LocatorJoinsSaid :=
  OpenClaim.holds_of_wide 10 Tryd.f10 rfl rfl rfl rfl rfl rfl rfl ⟨rfl, rfl, rfl, rfl, rfl⟩ rfl rfl rfl rfl rfl (by kernel_rfl) Tryd.func10 (by kernel_rfl)
    (of_decide_eq_true (by kernel_rfl)) (by unfold Func.isWrapper; first | (rw [if_pos (by decide +kernel)]; kernel_rfl) | (rw [if_neg (by decide +kernel)]; exact ⟨rfl, rfl⟩))
    (fun os started H enc _ => lifted os started H enc)
end LocatorJoinsRow
theorem locatorJoins_card : Rows.LocatorJoinsCardSaid :=
  Claim7.holds_tied_plain_at .later [] [.data, .data, .data, .data, .sentinel, .sentinel, .pinned] true (true, "e9f6e69844a381ec6e56236ab3ec7f7220a97bda1399cf39ba01fd8d2dee1235") true
    LocatorJoinsRow.holds (fun _ h => by cases h) (by kernel_rfl) (fun _ h => by cases h) locatorJoins_row_tie rfl ⟨rfl, rfl⟩ (by kernel_rfl) rfl
    (fun f fn hf hfn => by
      obtain rfl : f = 10 := Option.some.inj ((show Tryd.prog.funcNamed "gatepath/gatepathlaw09.LocatorJoins" = some 10 by kernel_rfl).symm.trans hf) |>.symm
      obtain rfl : fn = Tryd.f10 := (Option.some.inj (Tryd.func10.symm.trans hfn)).symm
      exact ⟨by kernel_rfl, fun j t ht => by
        rw [Tryd.params10] at ht
        have hm : t ∈ ([9, 9] : List TypeId) := by simpa using Array.mem_of_getElem? ht
        have hall : (([9, 9] : List TypeId).all fun u => !Tryd.prog.wantsStandIn u) = true := by kernel_rfl
        exact (show Tryd.prog.wantsStandIn t = false by simpa using List.all_eq_true.1 hall t hm)⟩)
    (by kernel_rfl)
#print axioms locatorJoins_card
end Go.Proofs.YtpcancnnbjadeaaDoor
