/-
  Joining and splitting.
-/
import Derived.Test.YtpcancnnbjadeaaDoorME
set_option linter.unusedSimpArgs false
set_option linter.unusedVariables false
set_option maxRecDepth 20000
namespace Go.Proofs.YtpcancnnbjadeaaDoor
open Go Go.Gp

theorem split_size (s : ByteArray) : (splitO s).2.1.size ≤ 500 := by
  unfold splitO
  split
  · decide
  · split
    · decide
    · rename_i l h1 h2
      rw [List.getD_eq_getElem?_getD]
      cases hq : l.parts[l.parts.length - 1]? with
      | none => exact (by decide : eB.size ≤ 500)
      | some p => exact Nat.le_trans (val_part (lParse_some h1).1 (List.mem_of_getElem? hq)) (by decide)

set_option maxHeartbeats 8000000 in
theorem joins_fv (WG : World) (g : GW WG) (ge : GE WG) (s t : ByteArray) : FV Tryd.prog WG 10 [.v (.string s), .v (.string t)] (vB true) := by
  refine CallT.pure rfl (CallT_fn Tryd.func10 (rs := [.tmp 4]) (n := 110) rfl rfl (Nat.le_of_ble_eq_true rfl) rfl ?_)
  simp only [push_cast, reduceIte, Nat.reduceEqDiff, Nat.reduceAdd, Nat.reduceLT, Nat.reduceLeDiff, reduceCtorEq, Int.reduceToNat]
  refine (alive_fv WG g ge).call rfl ?_
  simp only [push_cast, reduceIte, Nat.reduceEqDiff, Nat.reduceAdd, Nat.reduceLT, Nat.reduceLeDiff, reduceCtorEq, Int.reduceToNat]
  refine fun h1 => ?_
  have ht : t.size ≤ 500 := by simp at h1; omega
  refine (ljoin_fv WG g ge s t ht).call rfl ?_
  simp only [push_cast, reduceIte, Nat.reduceEqDiff, Nat.reduceAdd, Nat.reduceLT, Nat.reduceLeDiff, reduceCtorEq, Int.reduceToNat]
  refine ⟨fun h => ?_, fun h => ?_⟩
  · have h0 : (joinO s t).2 = 0 := by simpa using h
    obtain ⟨e1, e2, e3⟩ := join_split (u := (joinO s t).1) (Prod.ext rfl h0)
    refine (lsplit_fv WG g ge _).call rfl ?_
    simp only [push_cast, reduceIte, Nat.reduceEqDiff, Nat.reduceAdd, Nat.reduceLT, Nat.reduceLeDiff, reduceCtorEq, Int.reduceToNat]
    refine (lwithin_fv WG g ge _ _).call rfl ?_
    rw [e1, e2]
    simp only [push_cast, reduceIte, Nat.reduceEqDiff, Nat.reduceAdd, Nat.reduceLT, Nat.reduceLeDiff, reduceCtorEq, Int.reduceToNat]
    have hss : ∀ x : ByteArray, strEq x x = true := fun x => by simp [strEq]
    refine ⟨_, fun _ => (lname_fv WG t).q rfl, ?_⟩
    simp only [hss, e3, push_cast, reduceIte, Nat.reduceEqDiff, Nat.reduceAdd, Nat.reduceLT, Nat.reduceLeDiff, reduceCtorEq, Int.reduceToNat]
    refine (lsplit_fv WG g ge _).call rfl ?_
    simp only [push_cast, reduceIte, Nat.reduceEqDiff, Nat.reduceAdd, Nat.reduceLT, Nat.reduceLeDiff, reduceCtorEq, Int.reduceToNat]
    refine ⟨fun h => ?_, fun h => ?_⟩
    · obtain ⟨a, b⟩ := split_none (s := s) (by simpa using h)
      rw [a, b]; simp [strEq, eB]
    · have h0 : (splitO s).2.2 = 0 := by simpa using h
      have hj := split_join (s := s) (d := (splitO s).1) (n := (splitO s).2.1) (Prod.ext rfl (Prod.ext rfl h0))
      refine (ljoin_fv WG g ge _ _ (split_size s)).call rfl ?_
      rw [hj]
      simp only [push_cast, reduceIte, Nat.reduceEqDiff, Nat.reduceAdd, Nat.reduceLT, Nat.reduceLeDiff, reduceCtorEq, Int.reduceToNat]
      simp [strEq]
  · refine (lsplit_fv WG g ge _).call rfl ?_
    simp only [push_cast, reduceIte, Nat.reduceEqDiff, Nat.reduceAdd, Nat.reduceLT, Nat.reduceLeDiff, reduceCtorEq, Int.reduceToNat]
    refine ⟨fun h => ?_, fun h => ?_⟩
    · obtain ⟨a, b⟩ := split_none (s := s) (by simpa using h)
      rw [a, b]; simp [strEq, eB]
    · have h0 : (splitO s).2.2 = 0 := by simpa using h
      have hj := split_join (s := s) (d := (splitO s).1) (n := (splitO s).2.1) (Prod.ext rfl (Prod.ext rfl h0))
      refine (ljoin_fv WG g ge _ _ (split_size s)).call rfl ?_
      rw [hj]
      simp only [push_cast, reduceIte, Nat.reduceEqDiff, Nat.reduceAdd, Nat.reduceLT, Nat.reduceLeDiff, reduceCtorEq, Int.reduceToNat]
      simp [strEq]
end Go.Proofs.YtpcancnnbjadeaaDoor
