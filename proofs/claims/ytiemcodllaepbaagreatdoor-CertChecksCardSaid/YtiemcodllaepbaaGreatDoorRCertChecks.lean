/-
  The law CertChecks holds for every input: the call returns true, and the argument reads as it did. Conditions: the listed variables of the library hold what the program's text lays (tied by the card).
-/
import Derived.Test.YtiemcodllaepbaaGreatDoorCF
import Derived.Test.YtiemcodllaepbaaGreatDoorCards
set_option linter.unusedSimpArgs false
set_option linter.unusedVariables false
namespace Go.Proofs.YtiemcodllaepbaaGreatDoor
open Go Go.Gp Go.RowKit
namespace CertChecksRow
set_option maxRecDepth 100000
theorem own : ownKnob Tryz.prog.godebug = none := by kernel_rfl
theorem laidOut : laidOutB Tryz.prog = true := by kernel_rfl
theorem lifted (os : Os) (started : os.Started) (H : Type) (enc : TypeId × Value → H) :
    ReturnsInHanded {} Tryz.checked os 3 .any (fun w args => (Rows.certChecksSpec.pre enc Tryz.prog Tryz.f3 Rows.certChecksRow.domain false w args ∧ laidMetH Tryz.prog Rows.certChecksRow.laid w) ∧ sizedMet enc Tryz.prog Tryz.f3 (OpenSpec.ofChange Rows.certChecksSpec) false w args)
      (Rows.certChecksSpec.post enc Tryz.prog Tryz.f3 false true false false) :=
  law_lifted (C := Tryz.checked) own started (by kernel_rfl) Tryz.func3
    (ChangeSpec.witness_shaped (enc := enc) (C := Tryz.checked) (os := os) (X := fun w _ => laidMetH Tryz.prog Rows.certChecksRow.laid w) false (World.laidAll Tryz.prog os Rows.certChecksRow.laid) #[.agg #[.int .u64 0, .string ByteArray.empty, .string ByteArray.empty, .int .i64 0, .int .i64 0, .int .u8 0, .int .u8 0, .int .u8 0, .int .u8 0, .int .u8 0, .int .u8 0, .int .u8 0, .int .u8 0, .int .u8 0, .int .u8 0, .int .u8 0, .int .u8 0, .int .u8 0, .int .u8 0, .int .u8 0, .int .u8 0, .int .i64 0, .bool false, .bool false, .slice none 0 0, .slice none 0 0, .slice none 0 0, .string ByteArray.empty, .string ByteArray.empty, .string ByteArray.empty, .string ByteArray.empty, .string ByteArray.empty, .int .i64 0, .slice none 0 0, .slice none 0 0], .agg #[.int .u64 0, .string ByteArray.empty, .string ByteArray.empty, .int .i64 0, .int .i64 0, .int .u8 0, .int .u8 0, .int .u8 0, .int .u8 0, .int .u8 0, .int .u8 0, .int .u8 0, .int .u8 0, .int .u8 0, .int .u8 0, .int .u8 0, .int .u8 0, .int .u8 0, .int .u8 0, .int .u8 0, .int .u8 0, .int .i64 0, .bool false, .bool false, .slice none 0 0, .slice none 0 0, .slice none 0 0, .string ByteArray.empty, .string ByteArray.empty, .string ByteArray.empty, .string ByteArray.empty, .string ByteArray.empty, .int .i64 0, .slice none 0 0, .slice none 0 0]] 8 (World.laidAll_os _ _ _)
      (World.shaped_of_ZipB (by kernel_rfl) (by kernel_rfl)) (by kernel_rfl) (by kernel_rfl) (by kernel_rfl)
      (by rw [MakeChecks.laidMetH_plain _ _ _ (by kernel_rfl)]; exact laidMet_laidAll _ (by kernel_rfl) (by kernel_rfl)))
    laidOut (ts := [37, 37]) rfl (by kernel_rfl) (rt := 4) rfl Tryz.underlying4 rfl (fun ds h => by match ds, h with | [d0, d1], _ => rfl) (.cons arg37 (.cons arg37 .nil))
    (fun W hL0 hsh ps hp => by
      have hL : laidMet Tryz.prog Rows.certChecksRow.laid W := by rwa [MakeChecks.laidMetH_plain _ _ _ (by kernel_rfl)] at hL0
      exact (by cases hp with | cons h hr => cases hr with | cons h2 hr => cases hr; obtain ⟨a, rfl, ha⟩ := crt_of h; obtain ⟨b, rfl, hb⟩ := crt_of h2; exact certChecks_fv W (gw_of hL (by simp [Rows.certChecksRow]) hsh) (ge_of hL (by simp [Rows.certChecksRow]) (by simp [Rows.certChecksRow])) a b ha hb))
theorem and2 {a b : Bool} (h : a = true) (k : b = true) : (a && b) = true := by rw [h, k]; rfl
theorem fact0 : Rows.certChecksRow.wf (OpenSpec.ofChange Rows.certChecksSpec) = true := by kernel_rfl
theorem fact1 : laidOutB Tryz.checked.prog = true := by kernel_rfl
theorem fact2 : mapsRowed Tryz.checked.prog = true := by kernel_rfl
theorem fact3 : Tryz.f3.params.all (Tryz.checked.prog.readableRec ·) = true := by kernel_rfl
theorem fact4 : namedTie Tryz.checked.prog Rows.certChecksRow.named Rows.certChecksSpec.vars = true := by kernel_rfl
theorem fact5 : (Rows.certChecksRow.stops == []) = true := by kernel_rfl
theorem fact6 : (Tryz.checked.prog.stops == []) = true := by kernel_rfl
theorem fact7 : (Rows.certChecksRow.knobs == []) = true := by kernel_rfl
theorem fact8 : (Tryz.checked.prog.stopKnobs == []) = true := by kernel_rfl
theorem fact9 : (Rows.certChecksRow.inPlace == Tryz.checked.prog.inPlace 3) = true := by kernel_rfl
theorem fact10 : (Rows.certChecksRow.unfollowed == Tryz.checked.prog.unfollowed 3) = true := by kernel_rfl
theorem fact11 : (Rows.certChecksRow.recurses == Tryz.checked.prog.recurses 3) = true := by kernel_rfl
theorem fact12 : (Rows.certChecksRow.named == Tryz.checked.prog.varsNamed 3) = true := by kernel_rfl
theorem fact13 : (Rows.certChecksRow.maps == (Tryz.f3.params.toList ++ Rows.certChecksSpec.plain.varTypes Tryz.checked.prog).any (Tryz.checked.prog.mapsRec ·)) = true := by kernel_rfl
theorem fact14 : (Rows.certChecksRow.ifaces == (Tryz.f3.params.toList ++ Rows.certChecksSpec.plain.varTypes Tryz.checked.prog).any (Tryz.checked.prog.ifacesRec ·)) = true := by kernel_rfl
theorem fact15 : (Rows.certChecksRow.mapsOut == Tryz.checked.prog.mapsAmong Tryz.f3.resultTypes.toList) = true := by kernel_rfl
theorem fact16 : (Rows.certChecksRow.loops == (Tryz.f3.params.toList ++ Rows.certChecksSpec.plain.varTypes Tryz.checked.prog).any (Tryz.checked.prog.loopsFrom ·)) = true := by kernel_rfl
theorem fact17 : (Rows.certChecksRow.wideKeys == (Tryz.f3.params.toList ++ Rows.certChecksSpec.plain.varTypes Tryz.checked.prog ++ Tryz.f3.resultTypes.toList).any (Tryz.checked.prog.wideKeysFrom ·)) = true := by kernel_rfl
theorem fact18 : Rows.certChecksSpec.vars.all (Tryz.checked.prog.varReadable ·) = true := by kernel_rfl
theorem fact19 : Tryz.f3.resultTypes.all (fun t => Tryz.checked.prog.readableRec t && decide (t < Tryz.checked.prog.types.size)) = true := by kernel_rfl
theorem fact20 : (Rows.certChecksRow.ifacesOut == Tryz.f3.resultTypes.toList.any (Tryz.checked.prog.ifacesRec ·)) = true := by kernel_rfl
theorem fact21 : (Rows.certChecksRow.loopsOut == Tryz.f3.resultTypes.toList.any (Tryz.checked.prog.loopsFrom ·)) = true := by kernel_rfl
theorem fact22 : (Rows.certChecksRow.plainKeys == Tryz.checked.prog.plainKeys) = true := by kernel_rfl
theorem fact23 : Rows.certChecksRow.shortTexts.isNone = true := by kernel_rfl
theorem fact24 : Tryz.checked.prog.stopsHeard = true := by kernel_rfl
theorem fact25 : Tryz.checked.prog.mayEnter = true := by kernel_rfl
theorem fact26 : (Rows.certChecksRow.lifted == Tryz.checked.prog.liftsFinal) = true := by kernel_rfl
theorem fact27 : (Tryz.checked.prog.make == some Rows.certChecksRow.make) = true := by kernel_rfl
theorem fact28 : (Rows.certChecksRow.kinds == (if Rows.certChecksRow.domain.isEmpty then [] else Tryz.f3.params.toList.map fun t => match Tryz.checked.prog.underlying t with | some (.int k) => some k | _ => none)) = true := by kernel_rfl
theorem fact29 : (Rows.certChecksRow.pinned == Rows.certChecksRow.pinnedBy) = true := by kernel_rfl
theorem fact30 : (Rows.certChecksRow.veiled == (Tryz.f3.params.toList ++ Rows.certChecksSpec.plain.varTypes Tryz.checked.prog ++ Tryz.f3.resultTypes.toList).any (Tryz.checked.prog.veiledRec ·)) = true := by kernel_rfl
theorem fact31 : Rows.certChecksRow.veiledFits Tryz.checked.prog Tryz.f3.params.toList (Tryz.f3.params.toList ++ Rows.certChecksSpec.plain.varTypes Tryz.checked.prog ++ Tryz.f3.resultTypes.toList) = true := by kernel_rfl
theorem closed : joinedFacts Tryz.checked.prog 3 Tryz.f3 Rows.certChecksSpec Rows.certChecksRow = true := by
  unfold joinedFacts
  exact and2 (and2 (and2 (and2 (and2 (and2 (and2 (and2 (and2 (and2 (and2 (and2 (and2 (and2 (and2 (and2 (and2 (and2 (and2 (and2 (and2 (and2 (and2 (and2 (and2 (and2 (and2 (and2 (and2 (and2 (and2 (fact0) fact1) fact2) fact3) fact4) fact5) fact6) fact7) fact8) fact9) fact10) fact11) fact12) fact13) fact14) fact15) fact16) fact17) fact18) fact19) fact20) fact21) fact22) fact23) fact24) fact25) fact26) fact27) fact28) fact29) fact30) fact31
theorem named : Tryz.checked.prog.funcNamed "gatepath/gatepathlaw10.CertChecks" = some 3 := by kernel_rfl
theorem holds : Rows.CertChecksSaid :=
  OpenClaim.holds_of_wide 3 Tryz.f3 rfl rfl rfl rfl rfl rfl rfl ⟨rfl, rfl, rfl, rfl, rfl⟩ rfl rfl rfl rfl rfl named Tryz.func3 closed
    (of_decide_eq_true (by kernel_rfl)) (by unfold Func.isWrapper; first | (rw [if_pos (by decide +kernel)]; kernel_rfl) | (rw [if_neg (by decide +kernel)]; exact ⟨rfl, rfl⟩))
    (fun os started H enc _ => lifted os started H enc)
end CertChecksRow
theorem certChecks_card : Rows.CertChecksCardSaid :=
  Claim7.holds_tied_plain_at .later [] [.data, .data, .data, .data, .sentinel, .sentinel, .pinned] true (true, "95ba3c55458e25aac294120ed609fbdeea234e5ed7ebb65b79a49cbd86323908") true
    CertChecksRow.holds (fun _ h => by cases h) (by kernel_rfl) (fun _ h => by cases h) certChecks_row_tie rfl ⟨rfl, rfl⟩ (by kernel_rfl) rfl
    (fun f fn hf hfn => by
      obtain rfl : f = 3 := Option.some.inj ((show Tryz.prog.funcNamed "gatepath/gatepathlaw10.CertChecks" = some 3 by kernel_rfl).symm.trans hf) |>.symm
      obtain rfl : fn = Tryz.f3 := (Option.some.inj (Tryz.func3.symm.trans hfn)).symm
      exact ⟨by kernel_rfl, fun j t ht => by
        rw [Tryz.params3] at ht
        have hm : t ∈ ([37, 37] : List TypeId) := by simpa using Array.mem_of_getElem? ht
        have hall : (([37, 37] : List TypeId).all fun u => !Tryz.prog.wantsStandIn u) = true := by kernel_rfl
        exact (show Tryz.prog.wantsStandIn t = false by simpa using List.all_eq_true.1 hall t hm)⟩)
    (by kernel_rfl)
#print axioms certChecks_card
end Go.Proofs.YtiemcodllaepbaaGreatDoor
