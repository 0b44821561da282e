/-
  Certificates compared by the program.
-/
import Derived.Test.YtplpggeefemelaaGreatDoorCC
import Derived.Test.YtplpggeefemelaaGreatDoorCB
set_option linter.unusedSimpArgs false
set_option linter.unusedVariables false
set_option maxRecDepth 20000
namespace Go.Proofs.YtplpggeefemelaaGreatDoor
open Go Go.Gp

set_option maxHeartbeats 16000000 in
theorem certSame_fv (WG : World) (a b : Crt) (ha : OkC a) (hb : OkC b) : FV Tryz.prog WG 49 [crtP a, crtP b] (vB (sameC a b)) := by
  refine CallT.pure rfl (CallT_fnT Tryz.func49 (rs := [.tmp 4]) (n := 123) rfl rfl (Nat.le_of_ble_eq_true rfl) rfl ?_)
  refine T_seqC ?_
  simp only [push_cast, reduceIte, Nat.reduceMul, Nat.reduceEqDiff, Nat.reduceAdd, Nat.reduceLT, Nat.reduceLeDiff, reduceCtorEq, Int.reduceToNat]
  refine T_seqC ?_
  simp only [push_cast, reduceIte, Nat.reduceMul, Nat.reduceEqDiff, Nat.reduceAdd, Nat.reduceLT, Nat.reduceLeDiff, reduceCtorEq, Int.reduceToNat]
  refine (resSame_fv WG a.res b.res ha.res).call rfl ?_
  simp only [push_cast, reduceIte, Nat.reduceMul, Nat.reduceEqDiff, Nat.reduceAdd, Nat.reduceLT, Nat.reduceLeDiff, reduceCtorEq, Int.reduceToNat]
  refine ⟨_, fun _ => (eqShorts_fv WG a.sig.chains b.sig.chains ha.sig.chains hb.sig.chains ha.sig.nc).q rfl, ?_⟩
  simp only [push_cast, reduceIte, Nat.reduceMul, Nat.reduceEqDiff, Nat.reduceAdd, Nat.reduceLT, Nat.reduceLeDiff, reduceCtorEq, Int.reduceToNat]
  refine ⟨_, fun _ => (eqShorts_fv WG a.sig.path b.sig.path ha.sig.path hb.sig.path ha.sig.np).q rfl, ?_⟩
  simp only [push_cast, reduceIte, Nat.reduceMul, Nat.reduceEqDiff, Nat.reduceAdd, Nat.reduceLT, Nat.reduceLeDiff, reduceCtorEq, Int.reduceToNat]
  refine T_seqC ?_
  simp only [push_cast, reduceIte, Nat.reduceMul, Nat.reduceEqDiff, Nat.reduceAdd, Nat.reduceLT, Nat.reduceLeDiff, reduceCtorEq, Int.reduceToNat]
  refine T_fin ?_
  simp only [push_cast, reduceIte, Nat.reduceMul, Nat.reduceEqDiff, Nat.reduceAdd, Nat.reduceLT, Nat.reduceLeDiff, reduceCtorEq, Int.reduceToNat]
  simp only [sameC, headC, sameS]
  rw [Bool.eq_iff_iff]
  simp only [Bool.and_eq_true, and_assoc]
  exact ⟨fun ⟨h1, h2, h3, h4, h5, h6, h7, h8, h9, h10, h11, h12, h13, h14, h15, h16⟩ => ⟨h12, h13, h14, h15, h16, h5, h6, h7, h8, h9, h10, h11, h1, h2, h3, h4⟩,
    fun ⟨h12, h13, h14, h15, h16, h5, h6, h7, h8, h9, h10, h11, h1, h2, h3, h4⟩ => ⟨h1, h2, h3, h4, h5, h6, h7, h8, h9, h10, h11, h12, h13, h14, h15, h16⟩⟩

end Go.Proofs.YtplpggeefemelaaGreatDoor
