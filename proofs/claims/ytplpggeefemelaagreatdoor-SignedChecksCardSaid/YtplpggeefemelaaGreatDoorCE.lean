/-
  Certificates checked.
  Certificates checked by the reference.
-/
import Derived.Test.YtplpggeefemelaaGreatDoorCC
set_option linter.unusedSimpArgs false
set_option linter.unusedVariables false
set_option maxRecDepth 20000
namespace Go.Proofs.YtplpggeefemelaaGreatDoor
open Go Go.Gp

def okCB (c : Crt) : Bool := decide (resI c.res = 0) && decide ((0 : Int) < c.serial) && named c.issuer && named c.subject && decide (windowI c.frm c.til = 0) && decide (0 ≤ c.height) && decide (c.height ≤ 4) && (!c.inherit || decide (c.res.v4.length + c.res.v6.length + c.res.as_.length = 0)) &&
  placeB (fun l => l.dir) c.repo && placeB (fun l => !l.dir) c.manifest && placeB (fun l => !l.dir) c.crl && placeB (fun l => !l.dir) c.parent && placeB noteB c.notify
def okC (c : Crt) : Bool := okCB c && (!signedB (kS c.sig) || decide (sigI c.sig.path.length (kS c.sig) = 0))
def chkC (c : Crt) : Int := if resI c.res = 4 then 4 else if okC c then 0 else 8

set_option maxHeartbeats 16000000 in
theorem certCheck_fv (WG : World) (g : GW WG) (ge : GE WG) (c : Crt) (hc : OkC c) (hi : c.issuer.size < 1000000) (hs : c.subject.size < 1000000) : FV Tryz.prog WG 45 [crtP c] (vI (chkC c)) := by
  refine CallT.pure rfl (CallT_fnT Tryz.func45 (rs := [.tmp 2]) (n := 102) rfl rfl (Nat.le_of_ble_eq_true rfl) rfl ?_)
  refine T_seqC ?_
  simp only [push_cast, reduceIte, Nat.reduceMul, Nat.reduceEqDiff, Nat.reduceAdd, Nat.reduceLT, Nat.reduceLeDiff, reduceCtorEq, Int.reduceToNat]
  refine T_seqC ?_
  simp only [push_cast, reduceIte, Nat.reduceMul, Nat.reduceEqDiff, Nat.reduceAdd, Nat.reduceLT, Nat.reduceLeDiff, reduceCtorEq, Int.reduceToNat]
  refine (rcheck_fv WG c.res hc.res).call rfl ?_
  simp only [push_cast, reduceIte, Nat.reduceMul, Nat.reduceEqDiff, Nat.reduceAdd, Nat.reduceLT, Nat.reduceLeDiff, reduceCtorEq, Int.reduceToNat]
  refine T_seqC ?_
  simp only [push_cast, reduceIte, Nat.reduceMul, Nat.reduceEqDiff, Nat.reduceAdd, Nat.reduceLT, Nat.reduceLeDiff, reduceCtorEq, Int.reduceToNat]
  refine ⟨fun h1 => ?_, fun h1 => ?_⟩
  · have : resI c.res = 4 := by simpa using h1
    rw [chkC, if_pos this, this]
  · have h4 : ¬ resI c.res = 4 := by simpa using h1
    have hk : chkC c = if okC c then 0 else 8 := by rw [chkC, if_neg h4]
    refine T_seqC ?_
    simp only [push_cast, reduceIte, Nat.reduceMul, Nat.reduceEqDiff, Nat.reduceAdd, Nat.reduceLT, Nat.reduceLeDiff, reduceCtorEq, Int.reduceToNat]
    refine ⟨_, fun _ => (numName_fv WG c.issuer hi).q rfl, ?_⟩
    simp only [push_cast, reduceIte, Nat.reduceMul, Nat.reduceEqDiff, Nat.reduceAdd, Nat.reduceLT, Nat.reduceLeDiff, reduceCtorEq, Int.reduceToNat]
    refine ⟨_, fun _ => (numName_fv WG c.subject hs).q rfl, ?_⟩
    simp only [push_cast, reduceIte, Nat.reduceMul, Nat.reduceEqDiff, Nat.reduceAdd, Nat.reduceLT, Nat.reduceLeDiff, reduceCtorEq, Int.reduceToNat]
    refine ⟨_, fun _ => (clockCheck_fv WG c.frm c.til).q rfl, ?_⟩
    simp only [push_cast, reduceIte, Nat.reduceMul, Nat.reduceEqDiff, Nat.reduceAdd, Nat.reduceLT, Nat.reduceLeDiff, reduceCtorEq, Int.reduceToNat]
    refine T_seqC ?_
    simp only [push_cast, reduceIte, Nat.reduceMul, Nat.reduceEqDiff, Nat.reduceAdd, Nat.reduceLT, Nat.reduceLeDiff, reduceCtorEq, Int.reduceToNat]
    refine ⟨_, fun _ => (empty_fv WG c.res hc.res).q rfl, ?_⟩
    simp only [push_cast, reduceIte, Nat.reduceMul, Nat.reduceEqDiff, Nat.reduceAdd, Nat.reduceLT, Nat.reduceLeDiff, reduceCtorEq, Int.reduceToNat]
    refine ⟨fun h => ⟨h, fun h2 => by rw [h, h2]; rfl⟩, ?_⟩
    refine T_seqC ?_
    simp only [push_cast, reduceIte, Nat.reduceMul, Nat.reduceEqDiff, Nat.reduceAdd, Nat.reduceLT, Nat.reduceLeDiff, reduceCtorEq, Int.reduceToNat]
    refine ⟨_, fun _ => (place_fv WG g ge _ _ (by kernel_rfl) (isDir_fv WG) c.repo).q rfl, ?_⟩
    simp only [push_cast, reduceIte, Nat.reduceMul, Nat.reduceEqDiff, Nat.reduceAdd, Nat.reduceLT, Nat.reduceLeDiff, reduceCtorEq, Int.reduceToNat]
    refine ⟨_, fun _ => (place_fv WG g ge _ _ (by kernel_rfl) (isFile_fv WG) c.manifest).q rfl, ?_⟩
    simp only [push_cast, reduceIte, Nat.reduceMul, Nat.reduceEqDiff, Nat.reduceAdd, Nat.reduceLT, Nat.reduceLeDiff, reduceCtorEq, Int.reduceToNat]
    refine ⟨_, fun _ => (place_fv WG g ge _ _ (by kernel_rfl) (isFile_fv WG) c.crl).q rfl, ?_⟩
    simp only [push_cast, reduceIte, Nat.reduceMul, Nat.reduceEqDiff, Nat.reduceAdd, Nat.reduceLT, Nat.reduceLeDiff, reduceCtorEq, Int.reduceToNat]
    refine ⟨_, fun _ => (place_fv WG g ge _ _ (by kernel_rfl) (isFile_fv WG) c.parent).q rfl, ?_⟩
    simp only [push_cast, reduceIte, Nat.reduceMul, Nat.reduceEqDiff, Nat.reduceAdd, Nat.reduceLT, Nat.reduceLeDiff, reduceCtorEq, Int.reduceToNat]
    refine T_seqC ?_
    simp only [push_cast, reduceIte, Nat.reduceMul, Nat.reduceEqDiff, Nat.reduceAdd, Nat.reduceLT, Nat.reduceLeDiff, reduceCtorEq, Int.reduceToNat]
    refine ⟨_, fun _ => (place_fv WG g ge _ _ (by kernel_rfl) (isNote_fv WG) c.notify).q rfl, ?_⟩
    simp only [push_cast, reduceIte, Nat.reduceMul, Nat.reduceEqDiff, Nat.reduceAdd, Nat.reduceLT, Nat.reduceLeDiff, reduceCtorEq, Int.reduceToNat]
    refine T_fin ?_
    simp only [push_cast, reduceIte, Nat.reduceMul, Nat.reduceEqDiff, Nat.reduceAdd, Nat.reduceLT, Nat.reduceLeDiff, reduceCtorEq, Int.reduceToNat]
    refine ⟨_, fun _ => (sEmpty_fv WG (kS c.sig)).q rfl, ?_⟩
    simp only [push_cast, reduceIte, Nat.reduceMul, Nat.reduceEqDiff, Nat.reduceAdd, Nat.reduceLT, Nat.reduceLeDiff, reduceCtorEq, Int.reduceToNat]
    refine ⟨_, fun _ => (mCheck_fv WG c.sig.path.length (kS c.sig)).q rfl, ?_⟩
    simp only [push_cast, reduceIte, Nat.reduceMul, Nat.reduceEqDiff, Nat.reduceAdd, Nat.reduceLT, Nat.reduceLeDiff, reduceCtorEq, Int.reduceToNat]
    refine ⟨fun h => ⟨h, fun h2 => by rw [h, h2]; rfl⟩, fun h => ?_, fun h => ?_⟩
    · have h : (!okCB c || !!signedB (kS c.sig) && !decide (sigI c.sig.path.length (kS c.sig) = 0)) = true := h
      have : okC c = false := by
        unfold okC
        generalize okCB c = x at h ⊢
        generalize signedB (kS c.sig) = y at h ⊢
        generalize decide (sigI c.sig.path.length (kS c.sig) = 0) = z at h ⊢
        revert h; cases x <;> cases y <;> cases z <;> simp
      rw [hk, this]; simp
    · have h : (!okCB c || !!signedB (kS c.sig) && !decide (sigI c.sig.path.length (kS c.sig) = 0)) = false := h
      have : okC c = true := by
        unfold okC
        generalize okCB c = x at h ⊢
        generalize signedB (kS c.sig) = y at h ⊢
        generalize decide (sigI c.sig.path.length (kS c.sig) = 0) = z at h ⊢
        revert h; cases x <;> cases y <;> cases z <;> simp
      rw [hk, this]; simp
end Go.Proofs.YtplpggeefemelaaGreatDoor

namespace Go.Proofs.YtplpggeefemelaaGreatDoor
open Go Go.Gp

def noneR : Res := ⟨[], [], []⟩
theorem noneR_ok : OkR noneR := ⟨by simp [noneR], by simp [noneR], by simp [noneR], by simp [noneR], by simp [noneR], by simp [noneR]⟩
theorem sameR_none (r : Res) : sameR r noneR = decide (r.v4.length + r.v6.length + r.as_.length = 0) := by
  unfold sameR noneR
  refine decide_eq_decide.2 ⟨fun ⟨h1, h2, h3⟩ => by rw [h1, h2, h3]; rfl, fun h => ⟨List.length_eq_zero_iff.1 (by omega), List.length_eq_zero_iff.1 (by omega), List.length_eq_zero_iff.1 (by omega)⟩⟩
theorem okC_not (c : Crt) : okC c = (!(!decide (resI c.res = 0) || decide ((c.serial : Int) = 0) || !named c.issuer || !named c.subject || !decide (windowI c.frm c.til = 0) || decide (c.height < 0) || decide (4 < c.height)) && (!(c.inherit && !sameR c.res noneR) &&
    !(!placeB (fun l => l.dir) c.repo || !placeB (fun l => !l.dir) c.manifest || !placeB (fun l => !l.dir) c.crl || !placeB (fun l => !l.dir) c.parent || !placeB noteB c.notify || !(!signedB (kS c.sig) || decide (sigI ((kS c.sig).path.length) (kS c.sig) = 0))))) := by
  have e1 : decide ((0 : Int) < c.serial) = !decide ((c.serial : Int) = 0) := by rw [← decide_not]; exact decide_eq_decide.2 (by omega)
  have e2 : decide (0 ≤ c.height) = !decide (c.height < 0) := by rw [← decide_not]; exact decide_eq_decide.2 (by omega)
  have e3 : decide (c.height ≤ 4) = !decide (4 < c.height) := by rw [← decide_not]; exact decide_eq_decide.2 (by omega)
  have e4 : ((kS c.sig).path.length : Int) = c.sig.path.length := by simp [kS]
  simp only [okC, okCB, e1, e2, e3, e4, sameR_none, Bool.not_or, Bool.not_and, Bool.not_not, Bool.and_assoc]
set_option maxHeartbeats 16000000 in
theorem rCertCheck_fv (WG : World) (g : GW WG) (ge : GE WG) (c : Crt) (hc : OkC c) : FV Tryz.prog WG 46 [crtP c] (vI (chkC c)) := by
  refine CallT.pure rfl (CallT_fnT Tryz.func46 (rs := [.tmp 2]) (n := 89) rfl rfl (Nat.le_of_ble_eq_true rfl) rfl ?_)
  refine T_seqC ?_
  simp only [push_cast, reduceIte, Nat.reduceMul, Nat.reduceEqDiff, Nat.reduceAdd, Nat.reduceLT, Nat.reduceLeDiff, reduceCtorEq, Int.reduceToNat]
  refine T_seqC ?_
  simp only [push_cast, reduceIte, Nat.reduceMul, Nat.reduceEqDiff, Nat.reduceAdd, Nat.reduceLT, Nat.reduceLeDiff, reduceCtorEq, Int.reduceToNat]
  refine (refResCheck_fv WG c.res hc.res).call rfl ?_
  simp only [push_cast, reduceIte, Nat.reduceMul, Nat.reduceEqDiff, Nat.reduceAdd, Nat.reduceLT, Nat.reduceLeDiff, reduceCtorEq, Int.reduceToNat]
  refine T_seqC ?_
  simp only [push_cast, reduceIte, Nat.reduceMul, Nat.reduceEqDiff, Nat.reduceAdd, Nat.reduceLT, Nat.reduceLeDiff, reduceCtorEq, Int.reduceToNat]
  refine ⟨fun h1 => ?_, fun h1 => ?_⟩
  · have : resI c.res = 4 := by simpa using h1
    rw [chkC, if_pos this]
  · have h4 : ¬ resI c.res = 4 := by simpa using h1
    have hk : chkC c = if okC c then 0 else 8 := by rw [chkC, if_neg h4]
    have hok := okC_not c
    refine T_seqC ?_
    simp only [push_cast, reduceIte, Nat.reduceMul, Nat.reduceEqDiff, Nat.reduceAdd, Nat.reduceLT, Nat.reduceLeDiff, reduceCtorEq, Int.reduceToNat]
    refine ⟨_, fun _ => (rName_fv WG c.issuer).q rfl, ?_⟩
    simp only [push_cast, reduceIte, Nat.reduceMul, Nat.reduceEqDiff, Nat.reduceAdd, Nat.reduceLT, Nat.reduceLeDiff, reduceCtorEq, Int.reduceToNat]
    refine ⟨_, fun _ => (rName_fv WG c.subject).q rfl, ?_⟩
    simp only [push_cast, reduceIte, Nat.reduceMul, Nat.reduceEqDiff, Nat.reduceAdd, Nat.reduceLT, Nat.reduceLeDiff, reduceCtorEq, Int.reduceToNat]
    refine ⟨_, fun _ => (rClockCheck_fv WG c.frm c.til).q rfl, ?_⟩
    simp only [push_cast, reduceIte, Nat.reduceMul, Nat.reduceEqDiff, Nat.reduceAdd, Nat.reduceLT, Nat.reduceLeDiff, reduceCtorEq, Int.reduceToNat]
    refine ⟨fun h => ?_, fun h0 => ?_⟩
    · rw [hk, hok, h]; simp
    · refine T_seqC ?_
      simp only [push_cast, reduceIte, Nat.reduceMul, Nat.reduceEqDiff, Nat.reduceAdd, Nat.reduceLT, Nat.reduceLeDiff, reduceCtorEq, Int.reduceToNat]
      refine ⟨_, fun _ => ((rResSame_fv WG c.res noneR hc.res noneR_ok).soft (ps := [resP c.res, .agg [.v (.slice none 0 0), .v (.slice none 0 0), .v (.slice none 0 0)]]) (by simp [softA, softL, soft1, softV, noneR])).q rfl, ?_⟩
      simp only [push_cast, reduceIte, Nat.reduceMul, Nat.reduceEqDiff, Nat.reduceAdd, Nat.reduceLT, Nat.reduceLeDiff, reduceCtorEq, Int.reduceToNat]
      refine ⟨fun h => ?_, fun h => ?_⟩
      · rw [hk, hok, h]; simp
      · refine T_fin ?_
        simp only [push_cast, reduceIte, Nat.reduceMul, Nat.reduceEqDiff, Nat.reduceAdd, Nat.reduceLT, Nat.reduceLeDiff, reduceCtorEq, Int.reduceToNat]
        refine (rPlace_fv WG g ge c.repo true).call rfl ?_
        simp only [push_cast, reduceIte, Nat.reduceMul, Nat.reduceEqDiff, Nat.reduceAdd, Nat.reduceLT, Nat.reduceLeDiff, reduceCtorEq, Int.reduceToNat]
        refine ⟨_, fun _ => (rPlace_fv WG g ge c.manifest false).q rfl, ?_⟩
        simp only [push_cast, reduceIte, Nat.reduceMul, Nat.reduceEqDiff, Nat.reduceAdd, Nat.reduceLT, Nat.reduceLeDiff, reduceCtorEq, Int.reduceToNat]
        refine ⟨_, fun _ => (rPlace_fv WG g ge c.crl false).q rfl, ?_⟩
        simp only [push_cast, reduceIte, Nat.reduceMul, Nat.reduceEqDiff, Nat.reduceAdd, Nat.reduceLT, Nat.reduceLeDiff, reduceCtorEq, Int.reduceToNat]
        refine ⟨_, fun _ => (rPlace_fv WG g ge c.parent false).q rfl, ?_⟩
        simp only [push_cast, reduceIte, Nat.reduceMul, Nat.reduceEqDiff, Nat.reduceAdd, Nat.reduceLT, Nat.reduceLeDiff, reduceCtorEq, Int.reduceToNat]
        refine ⟨_, fun _ => (rSecure_fv WG g ge c.notify).q rfl, ?_⟩
        simp only [push_cast, reduceIte, Nat.reduceMul, Nat.reduceEqDiff, Nat.reduceAdd, Nat.reduceLT, Nat.reduceLeDiff, reduceCtorEq, Int.reduceToNat]
        refine ⟨_, fun _ => (rGoodSig_fv WG (kS c.sig)).q rfl, ?_⟩
        simp only [push_cast, reduceIte, Nat.reduceMul, Nat.reduceEqDiff, Nat.reduceAdd, Nat.reduceLT, Nat.reduceLeDiff, reduceCtorEq, Int.reduceToNat]
        refine ⟨fun h3 => ?_, fun h3 => ?_⟩
        · have h3 : (!placeB (fun l => l.dir) c.repo || !placeB (fun l => !l.dir) c.manifest || !placeB (fun l => !l.dir) c.crl || !placeB (fun l => !l.dir) c.parent || !placeB noteB c.notify || !(!signedB (kS c.sig) || decide (sigI ((kS c.sig).path.length) (kS c.sig) = 0))) = true := h3
          rw [hk, hok, h3]; simp
        · have h3 : (!placeB (fun l => l.dir) c.repo || !placeB (fun l => !l.dir) c.manifest || !placeB (fun l => !l.dir) c.crl || !placeB (fun l => !l.dir) c.parent || !placeB noteB c.notify || !(!signedB (kS c.sig) || decide (sigI ((kS c.sig).path.length) (kS c.sig) = 0))) = false := h3
          rw [hk, hok, h3, h, h0]; simp
end Go.Proofs.YtplpggeefemelaaGreatDoor
