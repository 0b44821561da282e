/-
  Containing is a partial order.
-/
import Derived.Test.YtpcancnnbjadeaaDoorME
set_option linter.unusedSimpArgs false
set_option linter.unusedVariables false
set_option maxRecDepth 20000
namespace Go.Proofs.YtpcancnnbjadeaaDoor
open Go Go.Gp

set_option maxHeartbeats 8000000 in
theorem within_fv (WG : World) (g : GW WG) (ge : GE WG) (a b c : ByteArray) : FV Tryd.prog WG 5 [.v (.string a), .v (.string b), .v (.string c)] (vB true) := by
  refine CallT.pure rfl (CallT_fn Tryd.func5 (rs := [.tmp 6]) (n := 119) rfl rfl (Nat.le_of_ble_eq_true rfl) rfl ?_)
  simp only [push_cast, reduceIte, Nat.reduceEqDiff, Nat.reduceAdd, Nat.reduceLT, Nat.reduceLeDiff, reduceCtorEq, Int.reduceToNat]
  refine (alive_fv WG g ge).call rfl ?_
  simp only [push_cast, reduceIte, Nat.reduceEqDiff, Nat.reduceAdd, Nat.reduceLT, Nat.reduceLeDiff, reduceCtorEq, Int.reduceToNat]
  refine fun _ => ?_
  refine (lwithin_fv WG g ge a a).call rfl ?_
  simp only [push_cast, reduceIte, Nat.reduceEqDiff, Nat.reduceAdd, Nat.reduceLT, Nat.reduceLeDiff, reduceCtorEq, Int.reduceToNat]
  refine ⟨fun h => ?_, fun h => ?_⟩
  · rw [within_bad (by simpa using h)]; simp
  · have h0 : (withinO a a).2 = 0 := by simpa using h
    rw [within_self h0]
    refine (lwithin_fv WG g ge a b).call rfl ?_
    simp only [push_cast, reduceIte, Nat.reduceEqDiff, Nat.reduceAdd, Nat.reduceLT, Nat.reduceLeDiff, reduceCtorEq, Int.reduceToNat]
    refine (lwithin_fv WG g ge b a).call rfl ?_
    simp only [push_cast, reduceIte, Nat.reduceEqDiff, Nat.reduceAdd, Nat.reduceLT, Nat.reduceLeDiff, reduceCtorEq, Int.reduceToNat]
    refine (lwithin_fv WG g ge b c).call rfl ?_
    simp only [push_cast, reduceIte, Nat.reduceEqDiff, Nat.reduceAdd, Nat.reduceLT, Nat.reduceLeDiff, reduceCtorEq, Int.reduceToNat]
    refine (lwithin_fv WG g ge a c).call rfl ?_
    simp only [push_cast, reduceIte, Nat.reduceEqDiff, Nat.reduceAdd, Nat.reduceLT, Nat.reduceLeDiff, reduceCtorEq, Int.reduceToNat]
    refine ⟨fun h => ?_, fun _ => ?_⟩
    · simp only [Bool.and_eq_true, decide_eq_true_eq, Bool.not_eq_true'] at h
      obtain ⟨⟨⟨⟨a1, a2⟩, a3⟩, a4⟩, a5⟩ := h
      have := within_anti (a := a) (b := b) (Prod.ext a3 a1) (Prod.ext a4 a2)
      subst this
      simp [strEq] at a5
    · cases hh : (decide ((withinO a b).snd = 0) && decide ((withinO b c).snd = 0) && decide ((withinO a c).snd = 0) && (withinO a b).fst && (withinO b c).fst && !(withinO a c).fst) with
      | false => rfl
      | true =>
        simp only [Bool.and_eq_true, decide_eq_true_eq, Bool.not_eq_true'] at hh
        obtain ⟨⟨⟨⟨⟨a1, a2⟩, a3⟩, a4⟩, a5⟩, a6⟩ := hh
        have := within_trans (a := a) (b := b) (c := c) (Prod.ext a4 a1) (Prod.ext a5 a2) a3
        rw [this] at a6; cases a6
end Go.Proofs.YtpcancnnbjadeaaDoor
