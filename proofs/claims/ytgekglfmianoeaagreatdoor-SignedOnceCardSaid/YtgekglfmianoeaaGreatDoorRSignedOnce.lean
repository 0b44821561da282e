/-
  The law SignedOnce holds for every input: the call returns true, and the argument reads as it did. Conditions: the listed variables of the library hold what the program's text lays (tied by the card).
-/
import Derived.Test.YtgekglfmianoeaaGreatDoorSC
import Derived.Test.YtgekglfmianoeaaGreatDoorCards
import Derived.Test.YtgekglfmianoeaaGreatDoorFSignedOnce
set_option linter.unusedSimpArgs false
set_option linter.unusedVariables false
namespace Go.Proofs.YtgekglfmianoeaaGreatDoor
open Go Go.Gp Go.RowKit
namespace SignedOnceRow
set_option maxRecDepth 100000
theorem own : ownKnob Tryz.prog.godebug = none := by kernel_rfl
theorem laidOut : laidOutB Tryz.prog = true := by kernel_rfl
theorem lifted (os : Os) (started : os.Started) (H : Type) (enc : TypeId × Value → H) :
    ReturnsInHanded {} Tryz.checked os 6 .any (fun w args => (Rows.signedOnceSpec.pre enc Tryz.prog Tryz.f6 Rows.signedOnceRow.domain false w args ∧ laidMetH Tryz.prog Rows.signedOnceRow.laid w) ∧ sizedMet enc Tryz.prog Tryz.f6 (OpenSpec.ofChange Rows.signedOnceSpec) false w args)
      (Rows.signedOnceSpec.post enc Tryz.prog Tryz.f6 false true false false) :=
  law_lifted (C := Tryz.checked) own started (by kernel_rfl) Tryz.func6
    (ChangeSpec.witness_shaped (enc := enc) (C := Tryz.checked) (os := os) (X := fun w _ => laidMetH Tryz.prog Rows.signedOnceRow.laid w) false (World.laidAll Tryz.prog os Rows.signedOnceRow.laid) #[.slice none 0 0] 8 (World.laidAll_os _ _ _)
      (World.shaped_of_ZipB (by kernel_rfl) (by kernel_rfl)) (by kernel_rfl) (by kernel_rfl) (by kernel_rfl)
      (by rw [MakeChecks.laidMetH_plain _ _ _ (by kernel_rfl)]; exact laidMet_laidAll _ (by kernel_rfl) (by kernel_rfl)))
    laidOut (ts := [38]) rfl (by kernel_rfl) (rt := 4) rfl Tryz.underlying4 rfl (fun ds h => by match ds, h with | [d0], _ => rfl) (.cons arg38 .nil)
    (fun W hL0 hsh ps hp => by
      have hL : laidMet Tryz.prog Rows.signedOnceRow.laid W := by rwa [MakeChecks.laidMetH_plain _ _ _ (by kernel_rfl)] at hL0
      exact (by cases hp with | cons h hr => cases hr; obtain ⟨b, rfl⟩ := bytesArg_of h; exact signedOnce_fv W (gw_of hL (by simp [Rows.signedOnceRow]) hsh) (ge_of hL (by simp [Rows.signedOnceRow]) (by simp [Rows.signedOnceRow])) b))
theorem and2 {a b : Bool} (h : a = true) (k : b = true) : (a && b) = true := by rw [h, k]; rfl
theorem closed : joinedFacts Tryz.checked.prog 6 Tryz.f6 Rows.signedOnceSpec Rows.signedOnceRow = true := by
  unfold joinedFacts
  exact and2 (and2 (and2 (and2 (and2 (and2 (and2 (and2 (and2 (and2 (and2 (and2 (and2 (and2 (and2 (and2 (and2 (and2 (and2 (and2 (and2 (and2 (and2 (and2 (and2 (and2 (and2 (and2 (and2 (and2 (and2 (fact0) fact1) fact2) fact3) fact4) fact5) fact6) fact7) fact8) fact9) fact10) fact11) fact12) fact13) fact14) fact15) fact16) fact17) fact18) fact19) fact20) fact21) fact22) fact23) fact24) fact25) fact26) fact27) fact28) fact29) fact30) fact31
theorem holds : Rows.SignedOnceSaid :=
  OpenClaim.holds_of_wide 6 Tryz.f6 rfl rfl rfl rfl rfl rfl rfl ⟨rfl, rfl, rfl, rfl, rfl⟩ rfl rfl rfl rfl rfl named Tryz.func6 closed
    (of_decide_eq_true (by kernel_rfl)) (by unfold Func.isWrapper; first | (rw [if_pos (by decide +kernel)]; kernel_rfl) | (rw [if_neg (by decide +kernel)]; exact ⟨rfl, rfl⟩))
    (fun os started H enc _ => lifted os started H enc)
end SignedOnceRow
theorem signedOnce_card : Rows.SignedOnceCardSaid :=
  Claim7.holds_tied_plain_at .later [] [.data, .data, .data, .data, .sentinel, .sentinel, .pinned] true (true, "d4afadca03a1e4a55eacbc5e44ff2316567ec8df053eaa03ef0c003ff873d40e") true
    SignedOnceRow.holds (fun _ h => by cases h) (by kernel_rfl) (fun _ h => by cases h) signedOnce_row_tie rfl ⟨rfl, rfl⟩ (by kernel_rfl) rfl
    (fun f fn hf hfn => by
      obtain rfl : f = 6 := Option.some.inj ((show Tryz.prog.funcNamed "gatepath/gatepathlaw12.SignedOnce" = some 6 by kernel_rfl).symm.trans hf) |>.symm
      obtain rfl : fn = Tryz.f6 := (Option.some.inj (Tryz.func6.symm.trans hfn)).symm
      exact ⟨by kernel_rfl, fun j t ht => by
        rw [Tryz.params6] at ht
        have hm : t ∈ ([38] : List TypeId) := by simpa using Array.mem_of_getElem? ht
        have hall : (([38] : List TypeId).all fun u => !Tryz.prog.wantsStandIn u) = true := by kernel_rfl
        exact (show Tryz.prog.wantsStandIn t = false by simpa using List.all_eq_true.1 hall t hm)⟩)
    (by kernel_rfl)
#print axioms signedOnce_card
end Go.Proofs.YtgekglfmianoeaaGreatDoor
