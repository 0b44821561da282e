/-
  The chapter's example.
  The chapter's example holds.
  The laws: back, once.
  The law: bodies.
  A parameter that is a row of bytes.
-/
import Derived.Test.YtiemcodllaepbaaGreatDoorPD
set_option linter.unusedSimpArgs false
set_option linter.unusedVariables false
set_option maxRecDepth 20000
namespace Go.Proofs.YtiemcodllaepbaaGreatDoor
open Go Go.Gp
theorem byteP_inj {a b : UInt8} (h : (a.toNat : Int) = b.toNat) : a = b := UInt8.toNat_inj.1 (by omega)
set_option maxHeartbeats 8000000 in
theorem sameBytes_fv (WG : World) (a b : List UInt8) (hn : a.length < 1000000) : FV Tryz.prog WG 25 [.sl 1 (bytesP a), .sl 1 (bytesP b)] (vB (decide (a = b))) := by
  refine CallT.pure rfl (CallT_fn Tryz.func25 (rs := [.tmp 4]) (n := 26) rfl rfl (Nat.le_of_ble_eq_true rfl) rfl ?_)
  simp only [push_cast, reduceIte, Nat.reduceMul, Nat.reduceEqDiff, Nat.reduceAdd, Nat.reduceLT, Nat.reduceLeDiff, reduceCtorEq, Int.reduceToNat, bytesP_length]
  refine ⟨fun h => ?_, fun h => ?_⟩
  · have : ¬ a = b := fun e => by subst e; simp at h
    rw [decide_eq_false this]
  · have hl : a.length = b.length := by simp at h; omega
    refine T_loopS (fun i : Nat => ⟨[(0, .p (.sl 1 (bytesP a))), (1, .p (.sl 1 (bytesP b))), (5, vI i)], [], 0, 0, 26⟩) (fun i => i ≤ a.length ∧ a.take i = b.take i) (fun i => a.length - i) 0 ⟨Nat.zero_le _, by simp⟩ (by simp [Le, subE, aget]) (fun i hi => ?_)
    simp only [push_cast, reduceIte, Nat.reduceMul, Nat.reduceEqDiff, Nat.reduceAdd, Nat.reduceLT, Nat.reduceLeDiff, reduceCtorEq, Int.reduceToNat, bytesP_length]
    refine ⟨fun h1 => ?_, fun h1 => ?_⟩
    · refine T_drawS [] [] mixed (by kernel_rfl) ?_
      have h2 : i < a.length := by simpa using h1
      have hga : a[i]? = some a[i] := List.getElem?_eq_getElem h2
      have hgb : b[i]? = some (b[i]'(by omega)) := List.getElem?_eq_getElem (by omega)
      generalize a[i] = x at hga
      generalize (b[i]'(by omega)) = y at hgb
      have ea : (bytesP a)[i]? = some (.v (.int .u8 x.toNat)) := by simp [bytesP, hga, byteP]
      have eb : (bytesP b)[i]? = some (.v (.int .u8 y.toNat)) := by simp [bytesP, hgb, byteP]
      simp only [push_cast, reduceIte, Nat.reduceMul, Nat.reduceEqDiff, Nat.reduceAdd, Nat.reduceLT, Nat.reduceLeDiff, reduceCtorEq, Int.reduceToNat, ea, eb, bytesP_length]
      refine ⟨by omega, by omega, fun h3 => ?_, fun h3 => ⟨i + 1, ⟨by omega, ?_⟩, by omega, ?_⟩⟩
      · have hne : ¬ x = y := fun e => by subst e; simp at h3
        have : ¬ a = b := fun e => by subst e; rw [hga] at hgb; cases hgb; exact hne rfl
        rw [decide_eq_false this]
      · have he : x = y := byteP_inj (by simpa using h3)
        rw [List.take_add_one, List.take_add_one, hga, hgb, hi.2, he]
      · simp [Le, subE, aget, wrap_i64 (i + 1) (by omega) (by omega)]
    · have : i = a.length := by simp at h1; omega
      subst this
      have : a = b := by have := hi.2; rwa [List.take_of_length_le (Nat.le_refl _), List.take_of_length_le (by omega)] at this
      rw [decide_eq_true this]

def smC : Crt := ⟨1, ⟨#[97]⟩, ⟨#[98]⟩, 0, 9, fun _ => 0, 0, false, false, ⟨[], [], []⟩, ⟨#[]⟩, ⟨#[]⟩, ⟨#[]⟩, ⟨#[]⟩, ⟨#[]⟩, ⟨0, [], []⟩⟩
abbrev smP : PV := .agg [pU64 1, .v (.string ⟨#[97]⟩), .v (.string ⟨#[98]⟩), pI 0, pI 9, pU8 0, pU8 0, pU8 0, pU8 0, pU8 0, pU8 0, pU8 0, pU8 0, pU8 0, pU8 0, pU8 0, pU8 0, pU8 0, pU8 0, pU8 0, pU8 0, pI 0, pB false, pB false, nS, nS, nS, eS, eS, eS, eS, eS, pI 0, nS, nS]
def zeC : Crt := ⟨0, ⟨#[]⟩, ⟨#[]⟩, 0, 0, fun _ => 0, 0, false, false, ⟨[], [], []⟩, ⟨#[]⟩, ⟨#[]⟩, ⟨#[]⟩, ⟨#[]⟩, ⟨#[]⟩, ⟨0, [], []⟩⟩
theorem sm_soft : softA [smP] [crtP smC] := by simp [softA, soft1, softL, softV, smC]
set_option maxHeartbeats 4000000 in
theorem small_fv (WG : World) : FV Tryz.prog WG 33 [] (.p smP) := by
  refine CallT.pure rfl (CallT_fnT Tryz.func33 (rs := [.cell 0 37]) (n := 3) rfl rfl (Nat.le_of_ble_eq_true rfl) rfl ?_)
  refine T_seqC ?_
  simp only [push_cast, reduceIte, Nat.reduceMul, Nat.reduceEqDiff, Nat.reduceAdd, Nat.reduceLT, Nat.reduceLeDiff, reduceCtorEq, Int.reduceToNat]
  refine T_fin ?_
  simp only [push_cast, reduceIte, Nat.reduceMul, Nat.reduceEqDiff, Nat.reduceAdd, Nat.reduceLT, Nat.reduceLeDiff, reduceCtorEq, Int.reduceToNat]
theorem smC_pre : PreD smC := { v4 := by simp [smC], v6 := by simp [smC], as_ := by simp [smC], chains := by simp [smC], path := by simp [smC], serial := by decide, root := by intro x hx; simp [rootL, smC] at hx; omega, cb := by simp [smC], pb := by simp [smC] }
theorem smC_small : SmallC smC := { toOkC := ⟨⟨by simp [smC], by simp [smC], by simp [smC], by decide, by decide, by decide⟩, ⟨by simp [smC], by simp [smC], by decide, by decide⟩⟩, issuer := by decide, subject := by decide, repo := by decide, manifest := by decide, notify := by decide, crl := by decide, parent := by decide, n4 := by decide, n6 := by decide, nas := by decide, nc := by decide, np := by decide }
theorem smC_chk : chkC smC = 0 := by decide +kernel
theorem smC_body : enc (bodyO smC) = [128, 54, 1, 1, 1, 2, 1, 97, 3, 1, 98, 4, 0, 5, 1, 9, 6, 16, 0, 0, 0, 0, 0, 0, 0, 0, 0, 0, 0, 0, 0, 0, 0, 0, 7, 0, 8, 0, 130, 6, 129, 0, 129, 0, 129, 0, 9, 0, 10, 0, 11, 0, 12, 0, 13, 0] := by decide +kernel
theorem smC_whole : enc (wholeO smC) = [132, 64] ++ (enc (bodyO smC) ++ [131, 6, 1, 0, 2, 0, 3, 0]) := by decide +kernel
end Go.Proofs.YtiemcodllaepbaaGreatDoor

namespace Go.Proofs.YtiemcodllaepbaaGreatDoor
open Go Go.Gp
theorem sbT (WG : World) (a b : List UInt8) (ha : a.length < 1000000) (h : a = b) : FV Tryz.prog WG 25 [.sl 1 (bytesP a), .sl 1 (bytesP b)] (vB true) := by
  have := sameBytes_fv WG a b ha
  rwa [decide_eq_true h] at this
theorem bytesP_take (k : Nat) (l : List UInt8) : (bytesP l).take k = bytesP (l.take k) := by simp [bytesP, List.map_take]
theorem bytesP_drop (k : Nat) (l : List UInt8) : (bytesP l).drop k = bytesP (l.drop k) := by simp [bytesP, List.map_drop]
set_option maxHeartbeats 16000000 in
theorem alive_fv (WG : World) (g : GW WG) (ge : GE WG) : FV Tryz.prog WG 26 [] (vB true) := by
  have h1 := (certBody_fv WG g ge smC smC_pre smC_small).soft sm_soft
  have h2 := (certEncode_fv WG g ge smC smC_pre smC_small).soft sm_soft
  rw [smC_chk, if_pos rfl] at h1 h2
  have hl1 : (enc (bodyO smC)).length = 56 := by rw [smC_body]; rfl
  have hl2 : (enc (wholeO smC)).length = 66 := by rw [smC_whole, smC_body]; rfl
  have h3 := certDecode_fv WG g ge (enc (wholeO smC)) (by omega)
  rw [decR, decC_enc smC_pre smC_chk] at h3
  have h3 : FV Tryz.prog WG 23 [.sl 1 (bytesP (enc (wholeO smC)))] (.tup [.p (crtP smC), vI 0]) := h3
  have hs := small_fv WG
  have h4 := (rCertSame_fv WG smC smC smC_small.toOkC smC_small.toOkC).soft (ps := [crtP smC, smP]) (by simp [softA, soft1, softL, softV, smC])
  rw [sameC_self] at h4
  have t1 : (enc (bodyO smC)).take 8 = [128, 54, 1, 1, 1, 2, 1, 97] := by rw [smC_body]; rfl
  have t2 : (enc (wholeO smC)).take 2 = [132, 64] := by rw [smC_whole]; rfl
  have t3 : ((enc (wholeO smC)).take 58).drop 2 = enc (bodyO smC) := by rw [smC_whole, List.take_append, List.drop_append]; simp [hl1]
  have t4 : (enc (wholeO smC)).drop 58 = [131, 6, 1, 0, 2, 0, 3, 0] := by rw [smC_whole, List.drop_append]; simp [hl1]
  generalize enc (bodyO smC) = x at *
  generalize enc (wholeO smC) = y at *
  have s1 := sbT WG (x.take 8) [128, 54, 1, 1, 1, 2, 1, 97] (by simp; omega) t1
  have s2 := sbT WG (y.take 2) [132, 64] (by simp; omega) t2
  have s3 := sbT WG ((y.drop 2).take 56) x (by simp; omega) (by rw [← t3, List.drop_take])
  have s4 := sbT WG ((y.drop 58).take 8) [131, 6, 1, 0, 2, 0, 3, 0] (by simp; omega) (by rw [t4]; rfl)
  rw [← bytesP_take] at s1 s2
  rw [← bytesP_take, ← bytesP_drop] at s3 s4
  have i1 : (x.length : Int) = 56 := by omega
  have i2 : (y.length : Int) = 66 := by omega
  refine CallT.pure rfl (CallT_fnT Tryz.func26 (rs := [.tmp 0]) (n := 69) rfl rfl (Nat.le_of_ble_eq_true rfl) rfl ?_)
  refine T_seqC ?_
  simp only [push_cast, reduceIte, Nat.reduceMul, Nat.reduceEqDiff, Nat.reduceAdd, Nat.reduceLT, Nat.reduceLeDiff, reduceCtorEq, Int.reduceToNat]
  refine T_seqC ?_
  simp only [push_cast, reduceIte, Nat.reduceMul, Nat.reduceEqDiff, Nat.reduceAdd, Nat.reduceLT, Nat.reduceLeDiff, reduceCtorEq, Int.reduceToNat]
  refine hs.call rfl ?_
  simp only [push_cast, reduceIte, Nat.reduceMul, Nat.reduceEqDiff, Nat.reduceAdd, Nat.reduceLT, Nat.reduceLeDiff, reduceCtorEq, Int.reduceToNat]
  refine h1.call rfl ?_
  simp only [push_cast, reduceIte, Nat.reduceMul, Nat.reduceEqDiff, Nat.reduceAdd, Nat.reduceLT, Nat.reduceLeDiff, reduceCtorEq, Int.reduceToNat]
  refine T_seqC ?_
  simp only [push_cast, reduceIte, Nat.reduceMul, Nat.reduceEqDiff, Nat.reduceAdd, Nat.reduceLT, Nat.reduceLeDiff, reduceCtorEq, Int.reduceToNat]
  refine hs.call rfl ?_
  simp only [push_cast, reduceIte, Nat.reduceMul, Nat.reduceEqDiff, Nat.reduceAdd, Nat.reduceLT, Nat.reduceLeDiff, reduceCtorEq, Int.reduceToNat]
  refine h2.call rfl ?_
  simp only [push_cast, reduceIte, Nat.reduceMul, Nat.reduceEqDiff, Nat.reduceAdd, Nat.reduceLT, Nat.reduceLeDiff, reduceCtorEq, Int.reduceToNat]
  refine T_seqC ?_
  simp only [push_cast, reduceIte, Nat.reduceMul, Nat.reduceEqDiff, Nat.reduceAdd, Nat.reduceLT, Nat.reduceLeDiff, reduceCtorEq, Int.reduceToNat]
  refine h3.call rfl ?_
  simp only [push_cast, reduceIte, Nat.reduceMul, Nat.reduceEqDiff, Nat.reduceAdd, Nat.reduceLT, Nat.reduceLeDiff, reduceCtorEq, Int.reduceToNat]
  refine T_seqC ?_
  simp only [push_cast, reduceIte, Nat.reduceMul, Nat.reduceEqDiff, Nat.reduceAdd, Nat.reduceLT, Nat.reduceLeDiff, reduceCtorEq, Int.reduceToNat, bytesP_length, i1, i2]
  refine T_seqC ?_
  refine T_drawL [] mixed (by kernel_rfl) ?_
  simp only [wpL_cons, wpL_nil, finL_pure, finL_call, finL_callM, finL_mem, finL_memF, wpA_zero, wpA_succ, finA_pure, finA_call, finA_callM, boxA, storeA, wpH_cons, wpH_nil, finH_pure, finH_call, finH_callM, finH_mem, finH_memF, push_cast, reduceIte, Nat.reduceMul, Nat.reduceEqDiff, Nat.reduceAdd, Nat.reduceLT, Nat.reduceLeDiff, reduceCtorEq, Int.reduceToNat, bytesP_length, i1, i2]
  refine ⟨by decide, _, s1.v rfl, Hold.intro ?_⟩
  simp only [wpL_cons, wpL_nil, finL_pure, finL_call, finL_callM, finL_mem, finL_memF, wpA_zero, wpA_succ, finA_pure, finA_call, finA_callM, boxA, storeA, wpH_cons, wpH_nil, finH_pure, finH_call, finH_callM, finH_mem, finH_memF, push_cast, reduceIte, Nat.reduceMul, Nat.reduceEqDiff, Nat.reduceAdd, Nat.reduceLT, Nat.reduceLeDiff, reduceCtorEq, Int.reduceToNat, bytesP_length, i1, i2]
  refine ⟨by decide, _, s2.v rfl, Hold.intro ?_⟩
  simp only [wpL_cons, wpL_nil, finL_pure, finL_call, finL_callM, finL_mem, finL_memF, wpA_zero, wpA_succ, finA_pure, finA_call, finA_callM, boxA, storeA, wpH_cons, wpH_nil, finH_pure, finH_call, finH_callM, finH_mem, finH_memF, push_cast, reduceIte, Nat.reduceMul, Nat.reduceEqDiff, Nat.reduceAdd, Nat.reduceLT, Nat.reduceLeDiff, reduceCtorEq, Int.reduceToNat, bytesP_length, i1, i2]
  refine ⟨by decide, _, s3.v rfl, Hold.intro ?_⟩
  simp only [wpL_cons, wpL_nil, finL_pure, finL_call, finL_callM, finL_mem, finL_memF, wpA_zero, wpA_succ, finA_pure, finA_call, finA_callM, boxA, storeA, wpH_cons, wpH_nil, finH_pure, finH_call, finH_callM, finH_mem, finH_memF, push_cast, reduceIte, Nat.reduceMul, Nat.reduceEqDiff, Nat.reduceAdd, Nat.reduceLT, Nat.reduceLeDiff, reduceCtorEq, Int.reduceToNat, bytesP_length, i1, i2]
  refine ⟨by decide, _, s4.v rfl, Hold.intro ?_⟩
  simp only [wpL_cons, wpL_nil, finL_pure, finL_call, finL_callM, finL_mem, finL_memF, wpA_zero, wpA_succ, finA_pure, finA_call, finA_callM, boxA, storeA, wpH_cons, wpH_nil, finH_pure, finH_call, finH_callM, finH_mem, finH_memF, push_cast, reduceIte, Nat.reduceMul, Nat.reduceEqDiff, Nat.reduceAdd, Nat.reduceLT, Nat.reduceLeDiff, reduceCtorEq, Int.reduceToNat, bytesP_length, i1, i2]
  refine ⟨_, hs.v rfl, Hold.intro ?_⟩
  simp only [wpL_cons, wpL_nil, finL_pure, finL_call, finL_callM, finL_mem, finL_memF, wpA_zero, wpA_succ, finA_pure, finA_call, finA_callM, boxA, storeA, wpH_cons, wpH_nil, finH_pure, finH_call, finH_callM, finH_mem, finH_memF, push_cast, reduceIte, Nat.reduceMul, Nat.reduceEqDiff, Nat.reduceAdd, Nat.reduceLT, Nat.reduceLeDiff, reduceCtorEq, Int.reduceToNat, bytesP_length, i1, i2]
  refine ⟨_, h4.v rfl, Hold.intro ?_⟩
  simp only [wpL_cons, wpL_nil, finL_pure, finL_call, finL_callM, finL_mem, finL_memF, wpA_zero, wpA_succ, finA_pure, finA_call, finA_callM, boxA, storeA, wpH_cons, wpH_nil, finH_pure, finH_call, finH_callM, finH_mem, finH_memF, push_cast, reduceIte, Nat.reduceMul, Nat.reduceEqDiff, Nat.reduceAdd, Nat.reduceLT, Nat.reduceLeDiff, reduceCtorEq, Int.reduceToNat, bytesP_length, i1, i2]
  refine T_fin ?_
  simp only [push_cast, reduceIte, Nat.reduceMul, Nat.reduceEqDiff, Nat.reduceAdd, Nat.reduceLT, Nat.reduceLeDiff, reduceCtorEq, Int.reduceToNat]
end Go.Proofs.YtiemcodllaepbaaGreatDoor

namespace Go.Proofs.YtiemcodllaepbaaGreatDoor
open Go Go.Gp
theorem smallD {c : Crt} (hp : PreD c) (hg : greatC c = false) : SmallC c := small_of { v4 := hp.v4, v6 := hp.v6, as_ := hp.as_, chains := hp.chains, path := hp.path } hg
theorem small_of_chk {c : Crt} (hp : PreD c) (hk : chkC c = 0) : SmallC c := by
  obtain ⟨hT, hS⟩ := bounds_of hp hk
  have h1 := hT.issuer
  have h2 := hT.subject
  have h3 := hT.repo
  have h4 := hT.manifest
  have h5 := hT.notify
  have h6 := hT.crl
  have h7 := hT.parent
  have h8 := hT.n4
  have h9 := hT.n6
  have h10 := hT.nas
  have h11 := hS.nc
  have h12 := hS.np
  exact ⟨⟨⟨hp.v4, hp.v6, hp.as_, by omega, by omega, by omega⟩, ⟨hp.chains, hp.path, by omega, by omega⟩⟩, by omega, by omega, by omega, by omega, by omega, by omega, by omega, by omega, by omega, by omega, by omega, by omega⟩
theorem bytesP_nil : bytesP [] = [] := rfl
set_option maxHeartbeats 16000000 in
theorem certBack_fv (WG : World) (g : GW WG) (ge : GE WG) (c : Crt) (hp : PreD c) : FV Tryz.prog WG 5 [crtP c] (vB true) := by
  have hal := alive_fv WG g ge
  have hgr := rGreat_fv WG c
  refine CallT.pure rfl (CallT_fnT Tryz.func5 (rs := [.tmp 2]) (n := 50) rfl rfl (Nat.le_of_ble_eq_true rfl) rfl ?_)
  refine T_seqC ?_
  simp only [push_cast, reduceIte, Nat.reduceMul, Nat.reduceEqDiff, Nat.reduceAdd, Nat.reduceLT, Nat.reduceLeDiff, reduceCtorEq, Int.reduceToNat]
  refine T_seqC ?_
  simp only [push_cast, reduceIte, Nat.reduceMul, Nat.reduceEqDiff, Nat.reduceAdd, Nat.reduceLT, Nat.reduceLeDiff, reduceCtorEq, Int.reduceToNat]
  refine hal.call rfl ?_
  simp only [push_cast, reduceIte, Nat.reduceMul, Nat.reduceEqDiff, Nat.reduceAdd, Nat.reduceLT, Nat.reduceLeDiff, reduceCtorEq, Int.reduceToNat]
  refine T_seqC ?_
  simp only [push_cast, reduceIte, Nat.reduceMul, Nat.reduceEqDiff, Nat.reduceAdd, Nat.reduceLT, Nat.reduceLeDiff, reduceCtorEq, Int.reduceToNat]
  refine hgr.call rfl ?_
  simp only [push_cast, reduceIte, Nat.reduceMul, Nat.reduceEqDiff, Nat.reduceAdd, Nat.reduceLT, Nat.reduceLeDiff, reduceCtorEq, Int.reduceToNat]
  refine fun hg => ?_
  have hs := smallD hp hg
  have i1 := hs.issuer
  have i2 := hs.subject
  have hen := certEncode_fv WG g ge c hp hs
  have hck := certCheck_fv WG g ge c hs.toOkC (by omega) (by omega)
  refine T_seqC ?_
  simp only [push_cast, reduceIte, Nat.reduceMul, Nat.reduceEqDiff, Nat.reduceAdd, Nat.reduceLT, Nat.reduceLeDiff, reduceCtorEq, Int.reduceToNat]
  refine hen.call rfl ?_
  simp only [push_cast, reduceIte, Nat.reduceMul, Nat.reduceEqDiff, Nat.reduceAdd, Nat.reduceLT, Nat.reduceLeDiff, reduceCtorEq, Int.reduceToNat]
  by_cases hk : chkC c = 0
  · obtain ⟨hT, hS⟩ := bounds_of hp hk
    have hlen := (wholeO_vd hT hS).size
    rw [← enc_length] at hlen
    have hde := certDecode_fv WG g ge (enc (wholeO c)) (by omega)
    rw [decR, decC_enc hp hk] at hde
    have hde : FV Tryz.prog WG 23 [.sl 1 (bytesP (enc (wholeO c)))] (.tup [.p (crtP c), vI 0]) := hde
    have hsm := rCertSame_fv WG c c hs.toOkC hs.toOkC
    rw [sameC_self] at hsm
    generalize enc (wholeO c) = y at *
    simp only [hk, if_true]
    refine T_seqC ?_
    simp only [push_cast, reduceIte, Nat.reduceMul, Nat.reduceEqDiff, Nat.reduceAdd, Nat.reduceLT, Nat.reduceLeDiff, reduceCtorEq, Int.reduceToNat]
    refine T_seqC ?_
    simp only [push_cast, reduceIte, Nat.reduceMul, Nat.reduceEqDiff, Nat.reduceAdd, Nat.reduceLT, Nat.reduceLeDiff, reduceCtorEq, Int.reduceToNat]
    refine hde.call rfl ?_
    simp only [push_cast, reduceIte, Nat.reduceMul, Nat.reduceEqDiff, Nat.reduceAdd, Nat.reduceLT, Nat.reduceLeDiff, reduceCtorEq, Int.reduceToNat]
    refine T_fin ?_
    simp only [push_cast, reduceIte, Nat.reduceMul, Nat.reduceEqDiff, Nat.reduceAdd, Nat.reduceLT, Nat.reduceLeDiff, reduceCtorEq, Int.reduceToNat]
    refine ⟨_, hsm.q rfl, ?_⟩
    simp only [push_cast, reduceIte, Nat.reduceMul, Nat.reduceEqDiff, Nat.reduceAdd, Nat.reduceLT, Nat.reduceLeDiff, reduceCtorEq, Int.reduceToNat]
  · simp only [if_neg hk]
    refine T_seqC ?_
    simp only [push_cast, reduceIte, Nat.reduceMul, Nat.reduceEqDiff, Nat.reduceAdd, Nat.reduceLT, Nat.reduceLeDiff, reduceCtorEq, Int.reduceToNat, bytesP_nil]
    refine ⟨fun _ => ⟨_, hck.q rfl, ?_⟩, fun h => absurd (by simpa using h) hk⟩
    simp only [push_cast, reduceIte, Nat.reduceMul, Nat.reduceEqDiff, Nat.reduceAdd, Nat.reduceLT, Nat.reduceLeDiff, reduceCtorEq, Int.reduceToNat, bytesP_nil]
set_option maxHeartbeats 16000000 in
theorem certOnce_fv (WG : World) (g : GW WG) (ge : GE WG) (b : List UInt8) : FV Tryz.prog WG 6 [.sl 1 (bytesP b)] (vB true) := by
  have hal := alive_fv WG g ge
  refine CallT.pure rfl (CallT_fnT Tryz.func6 (rs := [.tmp 2]) (n := 54) rfl rfl (Nat.le_of_ble_eq_true rfl) rfl ?_)
  refine T_seqC ?_
  simp only [push_cast, reduceIte, Nat.reduceMul, Nat.reduceEqDiff, Nat.reduceAdd, Nat.reduceLT, Nat.reduceLeDiff, reduceCtorEq, Int.reduceToNat]
  refine T_seqC ?_
  simp only [push_cast, reduceIte, Nat.reduceMul, Nat.reduceEqDiff, Nat.reduceAdd, Nat.reduceLT, Nat.reduceLeDiff, reduceCtorEq, Int.reduceToNat]
  refine hal.call rfl ?_
  simp only [push_cast, reduceIte, Nat.reduceMul, Nat.reduceEqDiff, Nat.reduceAdd, Nat.reduceLT, Nat.reduceLeDiff, reduceCtorEq, Int.reduceToNat]
  refine T_seqC ?_
  simp only [push_cast, reduceIte, Nat.reduceMul, Nat.reduceEqDiff, Nat.reduceAdd, Nat.reduceLT, Nat.reduceLeDiff, reduceCtorEq, Int.reduceToNat, bytesP_length]
  refine fun hb => ?_
  have hb : b.length ≤ 30000 := by simp at hb; omega
  have hde := certDecode_fv WG g ge b (by omega)
  cases hd : decC b with
  | none =>
    rw [decR, hd] at hde
    have hde : FV Tryz.prog WG 23 [.sl 1 (bytesP b)] (.tup [.p zPV, vI 12]) := hde
    have hsz : OkC zeC := ⟨⟨by simp [zeC], by simp [zeC], by simp [zeC], by decide, by decide, by decide⟩, ⟨by simp [zeC], by simp [zeC], by decide, by decide⟩⟩
    have hsm := (rCertSame_fv WG zeC zeC hsz hsz).soft (ps := [zPV, zPV]) (by simp [softA, soft1, softL, softV, zeC])
    rw [sameC_self] at hsm
    refine T_seqC ?_
    simp only [push_cast, reduceIte, Nat.reduceMul, Nat.reduceEqDiff, Nat.reduceAdd, Nat.reduceLT, Nat.reduceLeDiff, reduceCtorEq, Int.reduceToNat]
    refine hde.call rfl ?_
    simp only [push_cast, reduceIte, Nat.reduceMul, Nat.reduceEqDiff, Nat.reduceAdd, Nat.reduceLT, Nat.reduceLeDiff, reduceCtorEq, Int.reduceToNat]
    refine T_seqC ?_
    simp only [push_cast, reduceIte, Nat.reduceMul, Nat.reduceEqDiff, Nat.reduceAdd, Nat.reduceLT, Nat.reduceLeDiff, reduceCtorEq, Int.reduceToNat]
    refine ⟨fun _ => ⟨_, hsm.q rfl, ?_⟩, fun h => absurd h (by decide)⟩
    simp only [push_cast, reduceIte, Nat.reduceMul, Nat.reduceEqDiff, Nat.reduceAdd, Nat.reduceLT, Nat.reduceLeDiff, reduceCtorEq, Int.reduceToNat]
  | some c =>
    obtain ⟨hp, hk, hw⟩ := decC_some hd
    rw [decR, hd] at hde
    have hde : FV Tryz.prog WG 23 [.sl 1 (bytesP b)] (.tup [.p (crtP c), vI 0]) := hde
    have hs := small_of_chk hp hk
    have i1 := hs.issuer
    have i2 := hs.subject
    have hen := certEncode_fv WG g ge c hp hs
    have hck := certCheck_fv WG g ge c hs.toOkC (by omega) (by omega)
    rw [hk, if_pos rfl, hw] at hen
    rw [hk] at hck
    have hsb := sbT WG b b (by omega) rfl
    refine T_seqC ?_
    simp only [push_cast, reduceIte, Nat.reduceMul, Nat.reduceEqDiff, Nat.reduceAdd, Nat.reduceLT, Nat.reduceLeDiff, reduceCtorEq, Int.reduceToNat]
    refine hde.call rfl ?_
    simp only [push_cast, reduceIte, Nat.reduceMul, Nat.reduceEqDiff, Nat.reduceAdd, Nat.reduceLT, Nat.reduceLeDiff, reduceCtorEq, Int.reduceToNat]
    refine T_seqC ?_
    simp only [push_cast, reduceIte, Nat.reduceMul, Nat.reduceEqDiff, Nat.reduceAdd, Nat.reduceLT, Nat.reduceLeDiff, reduceCtorEq, Int.reduceToNat]
    refine T_seqC ?_
    simp only [push_cast, reduceIte, Nat.reduceMul, Nat.reduceEqDiff, Nat.reduceAdd, Nat.reduceLT, Nat.reduceLeDiff, reduceCtorEq, Int.reduceToNat]
    refine hen.call rfl ?_
    simp only [push_cast, reduceIte, Nat.reduceMul, Nat.reduceEqDiff, Nat.reduceAdd, Nat.reduceLT, Nat.reduceLeDiff, reduceCtorEq, Int.reduceToNat]
    refine T_fin ?_
    simp only [push_cast, reduceIte, Nat.reduceMul, Nat.reduceEqDiff, Nat.reduceAdd, Nat.reduceLT, Nat.reduceLeDiff, reduceCtorEq, Int.reduceToNat]
    refine ⟨_, hsb.q rfl, ?_⟩
    simp only [push_cast, reduceIte, Nat.reduceMul, Nat.reduceEqDiff, Nat.reduceAdd, Nat.reduceLT, Nat.reduceLeDiff, reduceCtorEq, Int.reduceToNat]
    refine ⟨_, hck.q rfl, ?_⟩
    simp only [push_cast, reduceIte, Nat.reduceMul, Nat.reduceEqDiff, Nat.reduceAdd, Nat.reduceLT, Nat.reduceLeDiff, reduceCtorEq, Int.reduceToNat]
end Go.Proofs.YtiemcodllaepbaaGreatDoor

namespace Go.Proofs.YtiemcodllaepbaaGreatDoor
open Go Go.Gp
theorem sameC_body {a b : Crt} (s : Sig) (h : sameC { a with sig := s } b = true) : bodyO a = bodyO b := by
  simp only [sameC, headC, Bool.and_eq_true, strEq_iff', decide_eq_true_eq, sameR] at h
  obtain ⟨⟨⟨⟨⟨⟨⟨⟨⟨⟨⟨⟨⟨h1, h2⟩, h3⟩, h4⟩, h5⟩, h6⟩, h7⟩, h8⟩, h9⟩, h10⟩, h11⟩, h12⟩, h13⟩, _⟩ := h
  obtain ⟨v1, v2, v3⟩ := h13
  simp only [pvsEq, pvEq, valEq, Bool.and_eq_true, and_true] at h9 h10
  have er : a.res = b.res := by
    cases ha : a.res; cases hb : b.res
    rw [ha, hb] at v1 v2 v3
    simp only at v1 v2 v3
    rw [v1, v2, v3]
  simp only [decide_eq_true_eq] at h9 h10
  have ero : rootL a.root = rootL b.root := by
    simp only [rootL, List.cons.injEq, and_true]
    omega
  have e1 : a.serial = b.serial := by omega
  have e2 : a.frm = b.frm := by omega
  have e3 : a.til = b.til := by omega
  have e4 : a.height = b.height := by omega
  have e5 : a.ca = b.ca := by simpa using h11
  have e6 : a.inherit = b.inherit := by simpa using h12
  simp only [bodyO, ero, er, e1, e2, e3, e4, e5, e6]
  rw [h1, h2, h3, h4, h5, h7, h8]
theorem sameC_no {a b : Crt} (h : ¬ enc (bodyO a) = enc (bodyO b)) : sameC { a with sig := b.sig } b = false := by
  cases hs : sameC { a with sig := b.sig } b with
  | false => rfl
  | true => exact absurd (congrArg enc (sameC_body _ hs)) h
set_option maxHeartbeats 16000000 in
theorem certBodies_fv (WG : World) (g : GW WG) (ge : GE WG) (a b : Crt) (ha : PreD a) (hb : PreD b) : FV Tryz.prog WG 7 [crtP a, crtP b] (vB true) := by
  have hal := alive_fv WG g ge
  refine CallT.pure rfl (CallT_fnT Tryz.func7 (rs := [.tmp 4]) (n := 81) rfl rfl (Nat.le_of_ble_eq_true rfl) rfl ?_)
  refine T_seqC ?_
  simp only [push_cast, reduceIte, Nat.reduceMul, Nat.reduceEqDiff, Nat.reduceAdd, Nat.reduceLT, Nat.reduceLeDiff, reduceCtorEq, Int.reduceToNat]
  refine T_seqC ?_
  simp only [push_cast, reduceIte, Nat.reduceMul, Nat.reduceEqDiff, Nat.reduceAdd, Nat.reduceLT, Nat.reduceLeDiff, reduceCtorEq, Int.reduceToNat]
  refine hal.call rfl ?_
  simp only [push_cast, reduceIte, Nat.reduceMul, Nat.reduceEqDiff, Nat.reduceAdd, Nat.reduceLT, Nat.reduceLeDiff, reduceCtorEq, Int.reduceToNat]
  refine T_seqC ?_
  simp only [push_cast, reduceIte, Nat.reduceMul, Nat.reduceEqDiff, Nat.reduceAdd, Nat.reduceLT, Nat.reduceLeDiff, reduceCtorEq, Int.reduceToNat]
  refine (rGreat_fv WG a).call rfl ?_
  simp only [push_cast, reduceIte, Nat.reduceMul, Nat.reduceEqDiff, Nat.reduceAdd, Nat.reduceLT, Nat.reduceLeDiff, reduceCtorEq, Int.reduceToNat]
  refine ⟨_, fun _ => (rGreat_fv WG b).q rfl, ?_⟩
  simp only [push_cast, reduceIte, Nat.reduceMul, Nat.reduceEqDiff, Nat.reduceAdd, Nat.reduceLT, Nat.reduceLeDiff, reduceCtorEq, Int.reduceToNat]
  refine fun hgr => ?_
  have hgr' : greatC a = false ∧ greatC b = false := by simpa using hgr
  have sa := smallD ha hgr'.1
  have sb := smallD hb hgr'.2
  have hxa := certBody_fv WG g ge a ha sa
  have hxb := certBody_fv WG g ge b hb sb
  generalize hea : (if chkC a = 0 then enc (bodyO a) else []) = x at hxa
  generalize heb : (if chkC b = 0 then enc (bodyO b) else []) = y at hxb
  refine T_seqC ?_
  simp only [push_cast, reduceIte, Nat.reduceMul, Nat.reduceEqDiff, Nat.reduceAdd, Nat.reduceLT, Nat.reduceLeDiff, reduceCtorEq, Int.reduceToNat]
  refine hxa.call rfl ?_
  simp only [push_cast, reduceIte, Nat.reduceMul, Nat.reduceEqDiff, Nat.reduceAdd, Nat.reduceLT, Nat.reduceLeDiff, reduceCtorEq, Int.reduceToNat]
  refine T_seqC ?_
  simp only [push_cast, reduceIte, Nat.reduceMul, Nat.reduceEqDiff, Nat.reduceAdd, Nat.reduceLT, Nat.reduceLeDiff, reduceCtorEq, Int.reduceToNat]
  refine hxb.call rfl ?_
  simp only [push_cast, reduceIte, Nat.reduceMul, Nat.reduceEqDiff, Nat.reduceAdd, Nat.reduceLT, Nat.reduceLeDiff, reduceCtorEq, Int.reduceToNat]
  refine T_seqC ?_
  simp only [push_cast, reduceIte, Nat.reduceMul, Nat.reduceEqDiff, Nat.reduceAdd, Nat.reduceLT, Nat.reduceLeDiff, reduceCtorEq, Int.reduceToNat]
  have ax : (decide (chkC a = 0) || decide ((↑(bytesP x).length : Int) = 0)) = true := by
    by_cases hk : chkC a = 0
    · simp [hk]
    · rw [if_neg hk] at hea; subst hea; simp [bytesP]
  have ay : (decide (chkC b = 0) || decide ((↑(bytesP y).length : Int) = 0)) = true := by
    by_cases hk : chkC b = 0
    · simp [hk]
    · rw [if_neg hk] at heb; subst heb; simp [bytesP]
  rw [ax, ay]
  refine ⟨fun _ => ⟨fun _ => ⟨rfl, fun h => by rw [h]; rfl⟩, rfl⟩, fun hz => ?_⟩
  clear ax ay
  have hz : chkC a = 0 ∧ chkC b = 0 := by simpa using hz
  obtain ⟨ka, kb⟩ := hz
  rw [if_pos ka] at hea
  rw [if_pos kb] at heb
  refine T_seqC ?_
  simp only [push_cast, reduceIte, Nat.reduceMul, Nat.reduceEqDiff, Nat.reduceAdd, Nat.reduceLT, Nat.reduceLeDiff, reduceCtorEq, Int.reduceToNat]
  refine (rCertTwin_fv WG a sa.toOkC).call rfl ?_
  simp only [push_cast, reduceIte, Nat.reduceMul, Nat.reduceEqDiff, Nat.reduceAdd, Nat.reduceLT, Nat.reduceLeDiff, reduceCtorEq, Int.reduceToNat]
  refine T_seqC ?_
  simp only [push_cast, reduceIte, Nat.reduceMul, Nat.reduceEqDiff, Nat.reduceAdd, Nat.reduceLT, Nat.reduceLeDiff, reduceCtorEq, Int.reduceToNat]
  refine (rTwinSig_fv WG b.sig sb.sig).call rfl ?_
  simp only [push_cast, reduceIte, Nat.reduceMul, Nat.reduceEqDiff, Nat.reduceAdd, Nat.reduceLT, Nat.reduceLeDiff, reduceCtorEq, Int.reduceToNat]
  refine T_seqC ?_
  have hoa := sa.toOkC
  have hab : OkC { a with sig := b.sig } := ⟨sa.res, sb.sig⟩
  obtain ⟨hT, hS⟩ := bounds_of ha ka
  have hlen := (bodyO_vd hT).size
  rw [← enc_length, hea] at hlen
  have hsb := sameBytes_fv WG x y (by omega)
  have hsm : FV Tryz.prog WG 17 [crtP { a with sig := b.sig }, crtP b] (vB (decide (x = y))) := by
    by_cases hxy : x = y
    · have e := body_iff ha hb ka kb b.sig (hea.trans (hxy.trans heb.symm))
      have h := rCertSame_fv WG b b sb.toOkC sb.toOkC
      rw [sameC_self] at h
      rw [decide_eq_true hxy, e]
      exact h
    · have h := rCertSame_fv WG { a with sig := b.sig } b hab sb.toOkC
      rw [sameC_no (by rw [hea, heb]; exact hxy)] at h
      rw [decide_eq_false hxy]
      exact h
  have hsr := sameR_res WG a.res a.res sa.res sa.res
  rw [show sameR a.res a.res = true by simp [sameR]] at hsr
  refine T_drawL [] mixed (by kernel_rfl) ?_
  simp only [wpL_cons, wpL_nil, finL_pure, finL_call, finL_callM, finL_mem, finL_memF, wpA_zero, wpA_succ, finA_pure, finA_call, finA_callM, boxA, storeA, wpH_cons, wpH_nil, finH_pure, finH_call, finH_callM, finH_mem, finH_memF, push_cast, reduceIte, Nat.reduceMul, Nat.reduceEqDiff, Nat.reduceAdd, Nat.reduceLT, Nat.reduceLeDiff, reduceCtorEq, Int.reduceToNat]
  refine ⟨_, hsb.v rfl, Hold.intro ?_⟩
  simp only [wpL_cons, wpL_nil, finL_pure, finL_call, finL_callM, finL_mem, finL_memF, wpA_zero, wpA_succ, finA_pure, finA_call, finA_callM, boxA, storeA, wpH_cons, wpH_nil, finH_pure, finH_call, finH_callM, finH_mem, finH_memF, push_cast, reduceIte, Nat.reduceMul, Nat.reduceEqDiff, Nat.reduceAdd, Nat.reduceLT, Nat.reduceLeDiff, reduceCtorEq, Int.reduceToNat]
  refine ⟨_, hsm.v rfl, Hold.intro ?_⟩
  simp only [wpL_cons, wpL_nil, finL_pure, finL_call, finL_callM, finL_mem, finL_memF, wpA_zero, wpA_succ, finA_pure, finA_call, finA_callM, boxA, storeA, wpH_cons, wpH_nil, finH_pure, finH_call, finH_callM, finH_mem, finH_memF, push_cast, reduceIte, Nat.reduceMul, Nat.reduceEqDiff, Nat.reduceAdd, Nat.reduceLT, Nat.reduceLeDiff, reduceCtorEq, Int.reduceToNat]
  refine ⟨_, hsr.v rfl, Hold.intro ?_⟩
  simp only [wpL_cons, wpL_nil, finL_pure, finL_call, finL_callM, finL_mem, finL_memF, wpA_zero, wpA_succ, finA_pure, finA_call, finA_callM, boxA, storeA, wpH_cons, wpH_nil, finH_pure, finH_call, finH_callM, finH_mem, finH_memF, push_cast, reduceIte, Nat.reduceMul, Nat.reduceEqDiff, Nat.reduceAdd, Nat.reduceLT, Nat.reduceLeDiff, reduceCtorEq, Int.reduceToNat]
  refine T_fin ?_
  simp only [push_cast, reduceIte, Nat.reduceMul, Nat.reduceEqDiff, Nat.reduceAdd, Nat.reduceLT, Nat.reduceLeDiff, reduceCtorEq, Int.reduceToNat]
end Go.Proofs.YtiemcodllaepbaaGreatDoor

namespace Go.Proofs.YtiemcodllaepbaaGreatDoor
open Go Go.Gp
theorem u8_of (p : PV) (h : SInt .u8 p) : ∃ x : UInt8, p = byteP x ∧ True := by
  obtain ⟨n, rfl, hn⟩ := int_of h rfl
  have e : IntKind.u8.max = 255 := by decide
  rw [e] at hn
  refine ⟨UInt8.ofNat n, ?_, trivial⟩
  have : (UInt8.ofNat n).toNat = n := by
    rw [UInt8.toNat_ofNat']; omega
  simp [byteP, this]
theorem bytesArg_of {p : PV} (h : SSl 1 (SInt .u8) p) : ∃ l : List UInt8, p = .sl 1 (bytesP l) := by
  obtain ⟨xs, rfl, hx, _⟩ := h
  obtain ⟨l, rfl, _⟩ := list_of u8_of hx
  exact ⟨l, rfl⟩
end Go.Proofs.YtiemcodllaepbaaGreatDoor
