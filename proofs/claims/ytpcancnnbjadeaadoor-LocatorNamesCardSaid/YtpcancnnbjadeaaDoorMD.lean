/-
  The laws on strings: Parse, Split, Name, Kind; Join, Within.
  What the rows of the laws on strings take from the laid variables.
-/
import Derived.Test.YtpcancnnbjadeaaDoorMC
import Derived.LaidLaws
set_option linter.unusedSimpArgs false
set_option linter.unusedVariables false
set_option maxRecDepth 20000
namespace Go.Proofs.YtpcancnnbjadeaaDoor
open Go Go.Gp

theorem sameZ_fv (WG : World) : FV Tryd.prog WG 17 [locZ, locZ] (vB true) := by
  have := (same_fv WG ⟨0, eB, 0, [], false⟩ ⟨0, eB, 0, [], false⟩ (by decide)).soft (ps := [locZ, locZ]) (by simp [softA, soft1, softL, softV, locP, locC, locZ, eB])
  simpa using this

set_option maxHeartbeats 8000000 in
theorem parses_fv (WG : World) (g : GW WG) (ge : GE WG) (s : ByteArray) : FV Tryd.prog WG 4 [.v (.string s)] (vB true) := by
  refine CallT.pure rfl (CallT_fn Tryd.func4 (rs := [.tmp 2]) (n := 75) rfl rfl (Nat.le_of_ble_eq_true rfl) rfl ?_)
  simp only [push_cast, reduceIte, Nat.reduceEqDiff, Nat.reduceAdd, Nat.reduceLT, Nat.reduceLeDiff, reduceCtorEq, Int.reduceToNat]
  refine fun h1 => ?_
  have hs : s.size ≤ 500 := by simp at h1; omega
  refine parse_call (lParse_ct0 WG g ge s) (fun h => ?_) (fun l h => ?_)
  · simp only [locZ, push_cast, reduceIte, Nat.reduceEqDiff, Nat.reduceAdd, Nat.reduceLT, Nat.reduceLeDiff, reduceCtorEq, Int.reduceToNat]
    refine parse_call (o := lParse s) (by rw [← parse_eq]; exact refParse_ct0 WG s) (fun _ => ?_) (fun l' h' => by rw [h] at h'; cases h')
    simp only [locZ, push_cast, reduceIte, Nat.reduceEqDiff, Nat.reduceAdd, Nat.reduceLT, Nat.reduceLeDiff, reduceCtorEq, Int.reduceToNat]
    refine (lsplit_fv WG g ge s).call rfl ?_
    simp only [push_cast, reduceIte, Nat.reduceEqDiff, Nat.reduceAdd, Nat.reduceLT, Nat.reduceLeDiff, reduceCtorEq, Int.reduceToNat]
    refine (refSplit_fv WG g ge s).call rfl ?_
    simp only [push_cast, reduceIte, Nat.reduceEqDiff, Nat.reduceAdd, Nat.reduceLT, Nat.reduceLeDiff, reduceCtorEq, Int.reduceToNat]
    refine (sameZ_fv WG).call rfl ?_
    simp only [push_cast, reduceIte, Nat.reduceEqDiff, Nat.reduceAdd, Nat.reduceLT, Nat.reduceLeDiff, reduceCtorEq, Int.reduceToNat]
    refine ⟨_, fun _ => (lname_fv WG s).q rfl, ?_⟩
    simp only [push_cast, reduceIte, Nat.reduceEqDiff, Nat.reduceAdd, Nat.reduceLT, Nat.reduceLeDiff, reduceCtorEq, Int.reduceToNat]
    refine ⟨_, fun _ => (name_fv WG s).q rfl, ?_⟩
    simp only [push_cast, reduceIte, Nat.reduceEqDiff, Nat.reduceAdd, Nat.reduceLT, Nat.reduceLeDiff, reduceCtorEq, Int.reduceToNat]
    refine ⟨_, fun _ => (lkind_fv WG s (by omega)).q rfl, ?_⟩
    refine ⟨_, fun _ => (refKind_fv WG s (by omega)).q rfl, ?_⟩
    simp only [push_cast, reduceIte, Nat.reduceEqDiff, Nat.reduceAdd, Nat.reduceLT, Nat.reduceLeDiff, reduceCtorEq, Int.reduceToNat]
    simp [strEq]
  · have hpl := (val_of (lParse_some h).1).parts
    simp only [locO, arrO, push_cast, reduceIte, Nat.reduceEqDiff, Nat.reduceAdd, Nat.reduceLT, Nat.reduceLeDiff, reduceCtorEq, Int.reduceToNat]
    refine parse_call (o := lParse s) (by rw [← parse_eq]; exact refParse_ct0 WG s) (fun h' => by rw [h] at h'; cases h') (fun l' h' => ?_)
    obtain rfl : l = l' := by rw [h] at h'; exact Option.some.inj h'
    simp only [locO, arrO, push_cast, reduceIte, Nat.reduceEqDiff, Nat.reduceAdd, Nat.reduceLT, Nat.reduceLeDiff, reduceCtorEq, Int.reduceToNat]
    refine (lsplit_fv WG g ge s).call rfl ?_
    simp only [push_cast, reduceIte, Nat.reduceEqDiff, Nat.reduceAdd, Nat.reduceLT, Nat.reduceLeDiff, reduceCtorEq, Int.reduceToNat]
    refine (refSplit_fv WG g ge s).call rfl ?_
    simp only [push_cast, reduceIte, Nat.reduceEqDiff, Nat.reduceAdd, Nat.reduceLT, Nat.reduceLeDiff, reduceCtorEq, Int.reduceToNat]
    refine (same_fv WG l l (by omega)).lend rfl (by simp [snapT, snap, snapL, snap1, aget, locP]; exact List.take_of_length_le (by simp)) ?_
    simp only [push_cast, reduceIte, Nat.reduceEqDiff, Nat.reduceAdd, Nat.reduceLT, Nat.reduceLeDiff, reduceCtorEq, Int.reduceToNat]
    refine ⟨_, fun _ => (lname_fv WG s).q rfl, ?_⟩
    simp only [push_cast, reduceIte, Nat.reduceEqDiff, Nat.reduceAdd, Nat.reduceLT, Nat.reduceLeDiff, reduceCtorEq, Int.reduceToNat]
    refine ⟨_, fun _ => (name_fv WG s).q rfl, ?_⟩
    simp only [push_cast, reduceIte, Nat.reduceEqDiff, Nat.reduceAdd, Nat.reduceLT, Nat.reduceLeDiff, reduceCtorEq, Int.reduceToNat]
    refine ⟨_, fun _ => (lkind_fv WG s (by omega)).q rfl, ?_⟩
    refine ⟨_, fun _ => (refKind_fv WG s (by omega)).q rfl, ?_⟩
    simp only [push_cast, reduceIte, Nat.reduceEqDiff, Nat.reduceAdd, Nat.reduceLT, Nat.reduceLeDiff, reduceCtorEq, Int.reduceToNat]
    simp [strEq]

set_option maxHeartbeats 8000000 in
theorem paths_fv (WG : World) (g : GW WG) (ge : GE WG) (s t : ByteArray) : FV Tryd.prog WG 8 [.v (.string s), .v (.string t)] (vB true) := by
  refine CallT.pure rfl (CallT_fn Tryd.func8 (rs := [.tmp 4]) (n := 63) rfl rfl (Nat.le_of_ble_eq_true rfl) rfl ?_)
  simp only [push_cast, reduceIte, Nat.reduceEqDiff, Nat.reduceAdd, Nat.reduceLT, Nat.reduceLeDiff, reduceCtorEq, Int.reduceToNat]
  refine fun h1 => ?_
  have hs : s.size ≤ 500 ∧ t.size ≤ 500 := by simp at h1; omega
  refine (ljoin_fv WG g ge s t hs.2).call rfl ?_
  simp only [push_cast, reduceIte, Nat.reduceEqDiff, Nat.reduceAdd, Nat.reduceLT, Nat.reduceLeDiff, reduceCtorEq, Int.reduceToNat]
  refine (refJoin_fv WG g ge s t hs.2).call rfl ?_
  simp only [push_cast, reduceIte, Nat.reduceEqDiff, Nat.reduceAdd, Nat.reduceLT, Nat.reduceLeDiff, reduceCtorEq, Int.reduceToNat]
  refine (lwithin_fv WG g ge s t).call rfl ?_
  simp only [push_cast, reduceIte, Nat.reduceEqDiff, Nat.reduceAdd, Nat.reduceLT, Nat.reduceLeDiff, reduceCtorEq, Int.reduceToNat]
  refine (refWithin_fv WG g ge s t).call rfl ?_
  simp only [push_cast, reduceIte, Nat.reduceEqDiff, Nat.reduceAdd, Nat.reduceLT, Nat.reduceLeDiff, reduceCtorEq, Int.reduceToNat]
  simp [strEq]
end Go.Proofs.YtpcancnnbjadeaaDoor

namespace Go.Proofs.YtpcancnnbjadeaaDoor
open Go Go.Gp Go.RowKit

theorem err_of {laid : List (String × DataW Unit)} {W : World} (h : laidMet Tryd.prog laid W) {n nm : String} {d : DataW Unit} {g0 : Nat} {ti : TypeId} {ms : Array (String × TypeId)} (hm : (n, .iface nm d) ∈ laid)
    (hg : Tryd.prog.globalNamed n = some g0) (ht : (Tryd.prog.globals[g0]?).map (·.type) = some ti) (hu : Tryd.prog.underlying ti = some (.interface ms)) : ∃ t p, W.var? Tryd.prog n = some #[.iface t p] := by
  obtain ⟨ps, hl, _⟩ := h
  obtain ⟨g, t, cs, fuel, p, h1, h2, h3, h4⟩ := laid_mem hl hm
  obtain rfl := Option.some.inj (h1.symm.trans hg)
  obtain rfl := Option.some.inj (h2.symm.trans ht)
  obtain ⟨_, u, v, hcs, _⟩ := iface_of_trod hu h4
  refine ⟨u, v, ?_⟩
  rw [h3, ← Array.toArray_toList (xs := cs), hcs]

theorem ge_of {laid : List (String × DataW Unit)} {W : World} (h : laidMet Tryd.prog laid W) (hm : ("strconv.ErrSyntax", Rows.laid_strconv_ErrSyntax) ∈ laid) (hm2 : ("strconv.ErrRange", Rows.laid_strconv_ErrRange) ∈ laid) : GE W :=
  ⟨err_of h hm (g0 := 1) (ti := 65) (by kernel_rfl) (by kernel_rfl) Tryd.underlying65,
   err_of h hm2 (g0 := 2) (ti := 65) (by kernel_rfl) (by kernel_rfl) Tryd.underlying65⟩
end Go.Proofs.YtpcancnnbjadeaaDoor
