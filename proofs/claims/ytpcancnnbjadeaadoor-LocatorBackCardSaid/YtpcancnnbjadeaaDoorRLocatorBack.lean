/-
  The law LocatorBack holds for every input: the call returns true, and the argument reads as it did. Conditions: the listed variables of the library hold what the program's text lays (tied by the card).
-/
import Derived.Test.YtpcancnnbjadeaaDoorME
import Derived.Test.YtpcancnnbjadeaaDoorCards
set_option linter.unusedSimpArgs false
set_option linter.unusedVariables false
namespace Go.Proofs.YtpcancnnbjadeaaDoor
open Go Go.Gp Go.RowKit
namespace LocatorBackRow
set_option maxRecDepth 100000
theorem own : ownKnob Tryd.prog.godebug = none := by kernel_rfl
theorem laidOut : laidOutB Tryd.prog = true := by kernel_rfl
theorem lifted (os : Os) (started : os.Started) (H : Type) (enc : TypeId × Value → H) :
    ReturnsInHanded {} Tryd.checked os 6 .any (fun w args => (Rows.locatorBackSpec.pre enc Tryd.prog Tryd.f6 Rows.locatorBackRow.domain false w args ∧ laidMetH Tryd.prog Rows.locatorBackRow.laid w) ∧ sizedMet enc Tryd.prog Tryd.f6 (OpenSpec.ofChange Rows.locatorBackSpec) false w args)
      (Rows.locatorBackSpec.post enc Tryd.prog Tryd.f6 false true false false) :=
  law_lifted (C := Tryd.checked) own started (by kernel_rfl) Tryd.func6
    (ChangeSpec.witness_shaped (enc := enc) (C := Tryd.checked) (os := os) (X := fun w _ => laidMetH Tryd.prog Rows.locatorBackRow.laid w) false (World.laidAll Tryd.prog os Rows.locatorBackRow.laid) #[.agg #[.int .u8 0, .string ByteArray.empty, .int .i64 0, .slice none 0 0, .bool false]] 8 (World.laidAll_os _ _ _)
      (World.shaped_of_ZipB (by kernel_rfl) (by kernel_rfl)) (by kernel_rfl) (by kernel_rfl) (by kernel_rfl)
      (by rw [MakeChecks.laidMetH_plain _ _ _ (by kernel_rfl)]; exact laidMet_laidAll _ (by kernel_rfl) (by kernel_rfl)))
    laidOut (ts := [24]) rfl (by kernel_rfl) (rt := 4) rfl Tryd.underlying4 rfl (fun ds h => by match ds, h with | [d0], _ => rfl) (.cons arg24 .nil)
    (fun W hL0 hsh ps hp => by
      have hL : laidMet Tryd.prog Rows.locatorBackRow.laid W := by rwa [MakeChecks.laidMetH_plain _ _ _ (by kernel_rfl)] at hL0
      exact (by cases hp with | cons h hr => cases hr; obtain ⟨l, rfl⟩ := loc_of h; exact back_fv W (gw_of hL (by simp [Rows.locatorBackRow]) hsh) (ge_of hL (by simp [Rows.locatorBackRow]) (by simp [Rows.locatorBackRow])) l))
theorem holds : Rows.LocatorBackSaid :=
  OpenClaim.holds_of_wide 6 Tryd.f6 rfl rfl rfl rfl rfl rfl rfl ⟨rfl, rfl, rfl, rfl, rfl⟩ rfl rfl rfl rfl rfl (by kernel_rfl) Tryd.func6 (by kernel_rfl)
    (of_decide_eq_true (by kernel_rfl)) (by unfold Func.isWrapper; first | (rw [if_pos (by decide +kernel)]; kernel_rfl) | (rw [if_neg (by decide +kernel)]; exact ⟨rfl, rfl⟩))
    (fun os started H enc _ => lifted os started H enc)
end LocatorBackRow
theorem locatorBack_card : Rows.LocatorBackCardSaid :=
  Claim7.holds_tied_plain_at .later [] [.data, .data, .data, .data, .sentinel, .sentinel, .pinned] true (true, "e9f6e69844a381ec6e56236ab3ec7f7220a97bda1399cf39ba01fd8d2dee1235") true
    LocatorBackRow.holds (fun _ h => by cases h) (by kernel_rfl) (fun _ h => by cases h) locatorBack_row_tie rfl ⟨rfl, rfl⟩ (by kernel_rfl) rfl
    (fun f fn hf hfn => by
      obtain rfl : f = 6 := Option.some.inj ((show Tryd.prog.funcNamed "gatepath/gatepathlaw09.LocatorBack" = some 6 by kernel_rfl).symm.trans hf) |>.symm
      obtain rfl : fn = Tryd.f6 := (Option.some.inj (Tryd.func6.symm.trans hfn)).symm
      exact ⟨by kernel_rfl, fun j t ht => by
        rw [Tryd.params6] at ht
        have hm : t ∈ ([24] : List TypeId) := by simpa using Array.mem_of_getElem? ht
        have hall : (([24] : List TypeId).all fun u => !Tryd.prog.wantsStandIn u) = true := by kernel_rfl
        exact (show Tryd.prog.wantsStandIn t = false by simpa using List.all_eq_true.1 hall t hm)⟩)
    (by kernel_rfl)
#print axioms locatorBack_card
end Go.Proofs.YtpcancnnbjadeaaDoor
