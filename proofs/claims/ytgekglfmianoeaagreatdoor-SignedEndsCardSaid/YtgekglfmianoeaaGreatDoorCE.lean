/-
  Certificates checked.
  Certificates checked by the reference.
-/
import Derived.Test.YtgekglfmianoeaaGreatDoorCC
set_option linter.unusedSimpArgs false
set_option linter.unusedVariables false
set_option maxRecDepth 20000
namespace Go.Proofs.YtgekglfmianoeaaGreatDoor
open Go Go.Gp
def okCB (c : Crt) : Bool := decide (resI c.res = 0) && decide ((0 : Int) < c.serial) && named c.issuer && named c.subject && decide (windowI c.frm c.til = 0) && decide (0 ≤ c.height) && decide (c.height ≤ 4) && (!c.inherit || decide (c.res.v4.length + c.res.v6.length + c.res.as_.length = 0)) &&
  placeB (fun l => l.dir) c.repo && placeB (fun l => !l.dir) c.manifest && placeB (fun l => !l.dir) c.crl && placeB (fun l => !l.dir) c.parent && placeB noteB c.notify
def okC (c : Crt) : Bool := okCB c && (!signedB (kS c.sig) || decide (sigI c.sig.path.length (kS c.sig) = 0))
def chkC (c : Crt) : Int := if resI c.res = 4 then 4 else if okC c then 0 else 8

set_option maxHeartbeats 16000000 in
theorem certCheck_fv (WG : World) (g : GW WG) (ge : GE WG) (c : Crt) (hc : OkC c) (hi : c.issuer.size < 1000000) (hs : c.subject.size < 1000000) : FV Tryz.prog WG 34 [crtP c] (vI (chkC c)) := by
  refine CallT.pure rfl (CallT_fnT Tryz.func34 (rs := [.tmp 2]) (n := 102) rfl rfl (Nat.le_of_ble_eq_true rfl) rfl ?_)
  refine T_seqC ?_
  simp only [push_cast, reduceIte, Nat.reduceMul, Nat.reduceEqDiff, Nat.reduceAdd, Nat.reduceLT, Nat.reduceLeDiff, reduceCtorEq, Int.reduceToNat]
  refine T_seqC ?_
  simp only [push_cast, reduceIte, Nat.reduceMul, Nat.reduceEqDiff, Nat.reduceAdd, Nat.reduceLT, Nat.reduceLeDiff, reduceCtorEq, Int.reduceToNat]
  refine (rcheck_fv WG c.res hc.res).call rfl ?_
  simp only [push_cast, reduceIte, Nat.reduceMul, Nat.reduceEqDiff, Nat.reduceAdd, Nat.reduceLT, Nat.reduceLeDiff, reduceCtorEq, Int.reduceToNat]
  refine T_seqC ?_
  simp only [push_cast, reduceIte, Nat.reduceMul, Nat.reduceEqDiff, Nat.reduceAdd, Nat.reduceLT, Nat.reduceLeDiff, reduceCtorEq, Int.reduceToNat]
  refine ⟨fun h1 => ?_, fun h1 => ?_⟩
  · have : resI c.res = 4 := by simpa using h1
    rw [chkC, if_pos this, this]
  · have h4 : ¬ resI c.res = 4 := by simpa using h1
    have hk : chkC c = if okC c then 0 else 8 := by rw [chkC, if_neg h4]
    refine T_seqC ?_
    simp only [push_cast, reduceIte, Nat.reduceMul, Nat.reduceEqDiff, Nat.reduceAdd, Nat.reduceLT, Nat.reduceLeDiff, reduceCtorEq, Int.reduceToNat]
    refine ⟨_, fun _ => (numName_fv WG c.issuer hi).q rfl, ?_⟩
    simp only [push_cast, reduceIte, Nat.reduceMul, Nat.reduceEqDiff, Nat.reduceAdd, Nat.reduceLT, Nat.reduceLeDiff, reduceCtorEq, Int.reduceToNat]
    refine ⟨_, fun _ => (numName_fv WG c.subject hs).q rfl, ?_⟩
    simp only [push_cast, reduceIte, Nat.reduceMul, Nat.reduceEqDiff, Nat.reduceAdd, Nat.reduceLT, Nat.reduceLeDiff, reduceCtorEq, Int.reduceToNat]
    refine ⟨_, fun _ => (clockCheck_fv WG c.frm c.til).q rfl, ?_⟩
    simp only [push_cast, reduceIte, Nat.reduceMul, Nat.reduceEqDiff, Nat.reduceAdd, Nat.reduceLT, Nat.reduceLeDiff, reduceCtorEq, Int.reduceToNat]
    refine T_seqC ?_
    simp only [push_cast, reduceIte, Nat.reduceMul, Nat.reduceEqDiff, Nat.reduceAdd, Nat.reduceLT, Nat.reduceLeDiff, reduceCtorEq, Int.reduceToNat]
    refine ⟨_, fun _ => (empty_fv WG c.res hc.res).q rfl, ?_⟩
    simp only [push_cast, reduceIte, Nat.reduceMul, Nat.reduceEqDiff, Nat.reduceAdd, Nat.reduceLT, Nat.reduceLeDiff, reduceCtorEq, Int.reduceToNat]
    refine ⟨fun h => ⟨h, fun h2 => by rw [h, h2]; rfl⟩, ?_⟩
    refine T_seqC ?_
    simp only [push_cast, reduceIte, Nat.reduceMul, Nat.reduceEqDiff, Nat.reduceAdd, Nat.reduceLT, Nat.reduceLeDiff, reduceCtorEq, Int.reduceToNat]
    refine ⟨_, fun _ => (place_fv WG g ge _ _ (by kernel_rfl) (isDir_fv WG) c.repo).q rfl, ?_⟩
    simp only [push_cast, reduceIte, Nat.reduceMul, Nat.reduceEqDiff, Nat.reduceAdd, Nat.reduceLT, Nat.reduceLeDiff, reduceCtorEq, Int.reduceToNat]
    refine ⟨_, fun _ => (place_fv WG g ge _ _ (by kernel_rfl) (isFile_fv WG) c.manifest).q rfl, ?_⟩
    simp only [push_cast, reduceIte, Nat.reduceMul, Nat.reduceEqDiff, Nat.reduceAdd, Nat.reduceLT, Nat.reduceLeDiff, reduceCtorEq, Int.reduceToNat]
    refine ⟨_, fun _ => (place_fv WG g ge _ _ (by kernel_rfl) (isFile_fv WG) c.crl).q rfl, ?_⟩
    simp only [push_cast, reduceIte, Nat.reduceMul, Nat.reduceEqDiff, Nat.reduceAdd, Nat.reduceLT, Nat.reduceLeDiff, reduceCtorEq, Int.reduceToNat]
    refine ⟨_, fun _ => (place_fv WG g ge _ _ (by kernel_rfl) (isFile_fv WG) c.parent).q rfl, ?_⟩
    simp only [push_cast, reduceIte, Nat.reduceMul, Nat.reduceEqDiff, Nat.reduceAdd, Nat.reduceLT, Nat.reduceLeDiff, reduceCtorEq, Int.reduceToNat]
    refine T_seqC ?_
    simp only [push_cast, reduceIte, Nat.reduceMul, Nat.reduceEqDiff, Nat.reduceAdd, Nat.reduceLT, Nat.reduceLeDiff, reduceCtorEq, Int.reduceToNat]
    refine ⟨_, fun _ => (place_fv WG g ge _ _ (by kernel_rfl) (isNote_fv WG) c.notify).q rfl, ?_⟩
    simp only [push_cast, reduceIte, Nat.reduceMul, Nat.reduceEqDiff, Nat.reduceAdd, Nat.reduceLT, Nat.reduceLeDiff, reduceCtorEq, Int.reduceToNat]
    refine T_fin ?_
    simp only [push_cast, reduceIte, Nat.reduceMul, Nat.reduceEqDiff, Nat.reduceAdd, Nat.reduceLT, Nat.reduceLeDiff, reduceCtorEq, Int.reduceToNat]
    refine ⟨_, fun _ => (sEmpty_fv WG (kS c.sig)).q rfl, ?_⟩
    simp only [push_cast, reduceIte, Nat.reduceMul, Nat.reduceEqDiff, Nat.reduceAdd, Nat.reduceLT, Nat.reduceLeDiff, reduceCtorEq, Int.reduceToNat]
    refine ⟨_, fun _ => (mCheck_fv WG c.sig.path.length (kS c.sig)).q rfl, ?_⟩
    simp only [push_cast, reduceIte, Nat.reduceMul, Nat.reduceEqDiff, Nat.reduceAdd, Nat.reduceLT, Nat.reduceLeDiff, reduceCtorEq, Int.reduceToNat]
    refine ⟨fun h => ⟨h, fun h2 => by rw [h, h2]; rfl⟩, fun h => ?_, fun h => ?_⟩
    · have h : (!okCB c || !!signedB (kS c.sig) && !decide (sigI c.sig.path.length (kS c.sig) = 0)) = true := h
      have : okC c = false := by
        unfold okC
        generalize okCB c = x at h ⊢
        generalize signedB (kS c.sig) = y at h ⊢
        generalize decide (sigI c.sig.path.length (kS c.sig) = 0) = z at h ⊢
        revert h; cases x <;> cases y <;> cases z <;> simp
      rw [hk, this]; simp
    · have h : (!okCB c || !!signedB (kS c.sig) && !decide (sigI c.sig.path.length (kS c.sig) = 0)) = false := h
      have : okC c = true := by
        unfold okC
        generalize okCB c = x at h ⊢
        generalize signedB (kS c.sig) = y at h ⊢
        generalize decide (sigI c.sig.path.length (kS c.sig) = 0) = z at h ⊢
        revert h; cases x <;> cases y <;> cases z <;> simp
      rw [hk, this]; simp
end Go.Proofs.YtgekglfmianoeaaGreatDoor

namespace Go.Proofs.YtgekglfmianoeaaGreatDoor
open Go Go.Gp
end Go.Proofs.YtgekglfmianoeaaGreatDoor
