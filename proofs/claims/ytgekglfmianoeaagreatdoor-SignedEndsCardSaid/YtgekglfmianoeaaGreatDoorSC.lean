/-
  Signed objects: the example; the laws back, once, ends.
-/
import Derived.Test.YtgekglfmianoeaaGreatDoorSB
import Derived.Test.YtgekglfmianoeaaGreatDoorPE
import Derived.Test.YtgekglfmianoeaaGreatDoorSA
set_option linter.unusedSimpArgs false
set_option linter.unusedVariables false
set_option maxRecDepth 20000
namespace Go.Proofs.YtgekglfmianoeaaGreatDoor
open Go Go.Gp Go.RowKit
def smG : Sgn := ⟨2, [7, 8], smC, ⟨0, [], []⟩⟩
abbrev smGP : PV := .agg [pU8 2, .sl 1 [.v (.int .u8 7), .v (.int .u8 8)], pU64 1, .v (.string ⟨#[97]⟩), .v (.string ⟨#[98]⟩), pI 0, pI 9, pU8 0, pU8 0, pU8 0, pU8 0, pU8 0, pU8 0, pU8 0, pU8 0, pU8 0, pU8 0, pU8 0, pU8 0, pU8 0, pU8 0, pU8 0, pU8 0, pI 0, pB false, pB false, nS, nS, nS, eS, eS, eS, eS, eS, pI 0, nS, nS, pI 0, nS, nS]
def zeG : Sgn := ⟨0, [], zeC, ⟨0, [], []⟩⟩
theorem smG_soft : softA [smGP] [sgnP smG] := by simp [softA, soft1, softL, softV, smG, smC, bytesP, byteP]
set_option maxHeartbeats 4000000 in
theorem small12_fv (WG : World) : FV Tryz.prog WG 72 [] (.p smGP) := by
  refine CallT.pureS rfl (CallT_fnT Tryz.func72 (rs := [.cell 0 55]) (n := 5) rfl rfl (Nat.le_of_ble_eq_true rfl) rfl ?_)
  refine T_seqC ?_
  simp only [push_cast, reduceIte, Nat.reduceMul, Nat.reduceEqDiff, Nat.reduceAdd, Nat.reduceLT, Nat.reduceLeDiff, reduceCtorEq, Int.reduceToNat]
  refine T_fin ?_
  simp only [push_cast, reduceIte, Nat.reduceMul, Nat.reduceEqDiff, Nat.reduceAdd, Nat.reduceLT, Nat.reduceLeDiff, reduceCtorEq, Int.reduceToNat]
theorem smG_pre : PreGD smG := ⟨smC_pre, by simp [smG], by simp [smG]⟩
theorem smG_ok : OkG smG := ⟨smC_small.toOkC, ⟨by simp [smG], by simp [smG], by decide, by decide⟩, by decide⟩
theorem smG_chk : chkG smG = 0 := by decide +kernel
theorem smG_body : enc (bodyG smG) = [136, 16, 1, 1, 2, 2, 2, 7, 8, 3, 1, 1, 4, 1, 97, 5, 1, 98] := by decide +kernel
theorem okG_of {s : Sgn} (h : SgnT s) : OkG s := by
  have h1 := h.body
  have h2 := h.esig
  have h3 := h.sig
  have h4 := h.content
  have a1 := h1.n4
  have a2 := h1.n6
  have a3 := h1.nas
  have b1 := h2.nc
  have b2 := h2.np
  have c1 := h3.nc
  have c2 := h3.np
  exact ⟨⟨⟨h1.v4, h1.v6, h1.as_, by omega, by omega, by omega⟩, ⟨fun x hx => (h2.chains x hx).1, fun x hx => (h2.path x hx).1, by omega, by omega⟩⟩, ⟨fun x hx => (h3.chains x hx).1, fun x hx => (h3.path x hx).1, by omega, by omega⟩, by omega⟩
theorem smallG {s : Sgn} (hs : PreGD s) (hq : greatG s = false) : SmallC s.ee ∧ OkG s := by
  simp only [greatG, greatS, kS, Bool.or_eq_false_iff, decide_eq_false_iff_not, List.length_map] at hq
  obtain ⟨⟨h1, h2⟩, h3, h4⟩ := hq
  have hsm := smallD hs.ee h2
  exact ⟨hsm, ⟨hsm.toOkC, ⟨fun x hx => (hs.chains x hx).1, fun x hx => (hs.path x hx).1, by omega, by omega⟩, by omega⟩⟩
set_option maxHeartbeats 4000000 in
theorem sgnD_of {p : PV} (h : S_api_SignedObj p) : ∃ s : Sgn, p = sgnP s ∧ PreGD s := by
  obtain ⟨ps, h, rfl⟩ := h
  cases h with | cons h1 h => cases h with | cons h2 h => cases h with | cons h3 h => cases h with | cons h4 h =>
    cases h
    obtain ⟨kind, rfl, _⟩ := int_of h1 rfl
    obtain ⟨xs, rfl, hx, _⟩ := h2
    obtain ⟨content, rfl⟩ := byte_list hx
    obtain ⟨ee, rfl, he⟩ := crtD_of h3
    obtain ⟨sig, rfl, hc, hp⟩ := sigD_of h4
    exact ⟨⟨kind, content, ee, sig⟩, rfl, ⟨he, hc, hp⟩⟩
set_option maxHeartbeats 16000000 in
theorem alive12_fv (WG : World) (g : GW WG) (ge : GE WG) : FV Tryz.prog WG 29 [] (vB true) := by
  have h1 := (signedBody_fv WG g ge smG smG_pre smC_small smG_ok).soft smG_soft
  have h2 := (signedEncode_fv WG g ge smG smG_pre smC_small smG_ok).soft smG_soft
  rw [smG_chk, if_pos rfl] at h1 h2
  have hlen := (wholeG_vd (boundsG smG_pre smG_chk)).size
  rw [← enc_length] at hlen
  have h3 := signedDecode_fv WG g ge (enc (wholeG smG)) (by omega)
  rw [decRG, decG_enc smG_pre smG_chk] at h3
  have h3 : FV Tryz.prog WG 25 [.sl 1 (bytesP (enc (wholeG smG)))] (.tup [.p (sgnP smG), vI 0]) := h3
  have hs := small12_fv WG
  have h4 := (rSame12_fv WG smG smG smG_ok smG_ok).soft (ps := [sgnP smG, smGP]) (by simp [softA, soft1, softL, softV, smG, smC, bytesP, byteP])
  rw [sameG_self] at h4
  have s1 := sbT WG (enc (bodyG smG)) [136, 16, 1, 1, 2, 2, 2, 7, 8, 3, 1, 1, 4, 1, 97, 5, 1, 98] (by rw [smG_body]; decide) smG_body
  generalize enc (bodyG smG) = x at *
  generalize enc (wholeG smG) = y at *
  refine CallT.pure rfl (CallT_fnT Tryz.func29 (rs := [.tmp 0]) (n := 42) rfl rfl (Nat.le_of_ble_eq_true rfl) rfl ?_)
  refine T_seqC ?_
  simp only [push_cast, reduceIte, Nat.reduceMul, Nat.reduceEqDiff, Nat.reduceAdd, Nat.reduceLT, Nat.reduceLeDiff, reduceCtorEq, Int.reduceToNat]
  refine T_seqC ?_
  simp only [push_cast, reduceIte, Nat.reduceMul, Nat.reduceEqDiff, Nat.reduceAdd, Nat.reduceLT, Nat.reduceLeDiff, reduceCtorEq, Int.reduceToNat]
  refine hs.call rfl ?_
  simp only [push_cast, reduceIte, Nat.reduceMul, Nat.reduceEqDiff, Nat.reduceAdd, Nat.reduceLT, Nat.reduceLeDiff, reduceCtorEq, Int.reduceToNat]
  refine h1.call rfl ?_
  simp only [push_cast, reduceIte, Nat.reduceMul, Nat.reduceEqDiff, Nat.reduceAdd, Nat.reduceLT, Nat.reduceLeDiff, reduceCtorEq, Int.reduceToNat]
  refine T_seqC ?_
  simp only [push_cast, reduceIte, Nat.reduceMul, Nat.reduceEqDiff, Nat.reduceAdd, Nat.reduceLT, Nat.reduceLeDiff, reduceCtorEq, Int.reduceToNat]
  refine hs.call rfl ?_
  simp only [push_cast, reduceIte, Nat.reduceMul, Nat.reduceEqDiff, Nat.reduceAdd, Nat.reduceLT, Nat.reduceLeDiff, reduceCtorEq, Int.reduceToNat]
  refine h2.call rfl ?_
  simp only [push_cast, reduceIte, Nat.reduceMul, Nat.reduceEqDiff, Nat.reduceAdd, Nat.reduceLT, Nat.reduceLeDiff, reduceCtorEq, Int.reduceToNat]
  refine T_seqC ?_
  simp only [push_cast, reduceIte, Nat.reduceMul, Nat.reduceEqDiff, Nat.reduceAdd, Nat.reduceLT, Nat.reduceLeDiff, reduceCtorEq, Int.reduceToNat]
  refine h3.call rfl ?_
  simp only [push_cast, reduceIte, Nat.reduceMul, Nat.reduceEqDiff, Nat.reduceAdd, Nat.reduceLT, Nat.reduceLeDiff, reduceCtorEq, Int.reduceToNat]
  refine T_seqC ?_
  refine T_drawL [] mixed (by kernel_rfl) ?_
  simp only [push_cast, reduceIte, Nat.reduceMul, Nat.reduceEqDiff, Nat.reduceAdd, Nat.reduceLT, Nat.reduceLeDiff, reduceCtorEq, Int.reduceToNat]
  refine ⟨_, s1.v rfl, Hold.intro ?_⟩
  simp only [push_cast, reduceIte, Nat.reduceMul, Nat.reduceEqDiff, Nat.reduceAdd, Nat.reduceLT, Nat.reduceLeDiff, reduceCtorEq, Int.reduceToNat]
  refine ⟨_, hs.v rfl, Hold.intro ?_⟩
  simp only [push_cast, reduceIte, Nat.reduceMul, Nat.reduceEqDiff, Nat.reduceAdd, Nat.reduceLT, Nat.reduceLeDiff, reduceCtorEq, Int.reduceToNat]
  refine ⟨_, h4.v rfl, Hold.intro ?_⟩
  simp only [push_cast, reduceIte, Nat.reduceMul, Nat.reduceEqDiff, Nat.reduceAdd, Nat.reduceLT, Nat.reduceLeDiff, reduceCtorEq, Int.reduceToNat]
  refine T_fin ?_
  simp only [push_cast, reduceIte, Nat.reduceMul, Nat.reduceEqDiff, Nat.reduceAdd, Nat.reduceLT, Nat.reduceLeDiff, reduceCtorEq, Int.reduceToNat]
set_option maxHeartbeats 16000000 in
theorem signedBack_fv (WG : World) (g : GW WG) (ge : GE WG) (o : Sgn) (hp : PreGD o) : FV Tryz.prog WG 5 [sgnP o] (vB true) := by
  have hal := alive12_fv WG g ge
  have hgr := rGreat12_fv WG o
  refine CallT.pure rfl (CallT_fnT Tryz.func5 (rs := [.tmp 2]) (n := 50) rfl rfl (Nat.le_of_ble_eq_true rfl) rfl ?_)
  refine T_seqC ?_
  simp only [push_cast, reduceIte, Nat.reduceMul, Nat.reduceEqDiff, Nat.reduceAdd, Nat.reduceLT, Nat.reduceLeDiff, reduceCtorEq, Int.reduceToNat]
  refine T_seqC ?_
  simp only [push_cast, reduceIte, Nat.reduceMul, Nat.reduceEqDiff, Nat.reduceAdd, Nat.reduceLT, Nat.reduceLeDiff, reduceCtorEq, Int.reduceToNat]
  refine hal.call rfl ?_
  simp only [push_cast, reduceIte, Nat.reduceMul, Nat.reduceEqDiff, Nat.reduceAdd, Nat.reduceLT, Nat.reduceLeDiff, reduceCtorEq, Int.reduceToNat]
  refine T_seqC ?_
  simp only [push_cast, reduceIte, Nat.reduceMul, Nat.reduceEqDiff, Nat.reduceAdd, Nat.reduceLT, Nat.reduceLeDiff, reduceCtorEq, Int.reduceToNat]
  refine hgr.call rfl ?_
  simp only [push_cast, reduceIte, Nat.reduceMul, Nat.reduceEqDiff, Nat.reduceAdd, Nat.reduceLT, Nat.reduceLeDiff, reduceCtorEq, Int.reduceToNat]
  refine fun hg => ?_
  obtain ⟨hs, ho⟩ := smallG hp hg
  have i1 := hs.issuer
  have i2 := hs.subject
  have hen := signedEncode_fv WG g ge o hp hs ho
  have hck := chk12_fv WG g ge o ho (by omega) (by omega)
  refine T_seqC ?_
  simp only [push_cast, reduceIte, Nat.reduceMul, Nat.reduceEqDiff, Nat.reduceAdd, Nat.reduceLT, Nat.reduceLeDiff, reduceCtorEq, Int.reduceToNat]
  refine hen.call rfl ?_
  simp only [push_cast, reduceIte, Nat.reduceMul, Nat.reduceEqDiff, Nat.reduceAdd, Nat.reduceLT, Nat.reduceLeDiff, reduceCtorEq, Int.reduceToNat]
  by_cases hk : chkG o = 0
  · have hlen := (wholeG_vd (boundsG hp hk)).size
    rw [← enc_length] at hlen
    have hde := signedDecode_fv WG g ge (enc (wholeG o)) (by omega)
    rw [decRG, decG_enc hp hk] at hde
    have hde : FV Tryz.prog WG 25 [.sl 1 (bytesP (enc (wholeG o)))] (.tup [.p (sgnP o), vI 0]) := hde
    have hsm := rSame12_fv WG o o ho ho
    rw [sameG_self] at hsm
    generalize enc (wholeG o) = y at *
    simp only [hk, if_true]
    refine T_seqC ?_
    simp only [push_cast, reduceIte, Nat.reduceMul, Nat.reduceEqDiff, Nat.reduceAdd, Nat.reduceLT, Nat.reduceLeDiff, reduceCtorEq, Int.reduceToNat]
    refine T_seqC ?_
    simp only [push_cast, reduceIte, Nat.reduceMul, Nat.reduceEqDiff, Nat.reduceAdd, Nat.reduceLT, Nat.reduceLeDiff, reduceCtorEq, Int.reduceToNat]
    refine hde.call rfl ?_
    simp only [push_cast, reduceIte, Nat.reduceMul, Nat.reduceEqDiff, Nat.reduceAdd, Nat.reduceLT, Nat.reduceLeDiff, reduceCtorEq, Int.reduceToNat]
    refine T_fin ?_
    simp only [push_cast, reduceIte, Nat.reduceMul, Nat.reduceEqDiff, Nat.reduceAdd, Nat.reduceLT, Nat.reduceLeDiff, reduceCtorEq, Int.reduceToNat]
    refine ⟨_, hsm.q rfl, ?_⟩
    simp only [push_cast, reduceIte, Nat.reduceMul, Nat.reduceEqDiff, Nat.reduceAdd, Nat.reduceLT, Nat.reduceLeDiff, reduceCtorEq, Int.reduceToNat]
  · simp only [if_neg hk]
    refine T_seqC ?_
    simp only [push_cast, reduceIte, Nat.reduceMul, Nat.reduceEqDiff, Nat.reduceAdd, Nat.reduceLT, Nat.reduceLeDiff, reduceCtorEq, Int.reduceToNat, bytesP_nil]
    refine ⟨fun _ => ⟨_, hck.q rfl, ?_⟩, fun h => absurd (by simpa using h) hk⟩
    simp only [push_cast, reduceIte, Nat.reduceMul, Nat.reduceEqDiff, Nat.reduceAdd, Nat.reduceLT, Nat.reduceLeDiff, reduceCtorEq, Int.reduceToNat, bytesP_nil]
set_option maxHeartbeats 16000000 in
theorem signedOnce_fv (WG : World) (g : GW WG) (ge : GE WG) (b : List UInt8) : FV Tryz.prog WG 6 [.sl 1 (bytesP b)] (vB true) := by
  have hal := alive12_fv WG g ge
  refine CallT.pure rfl (CallT_fnT Tryz.func6 (rs := [.tmp 2]) (n := 54) rfl rfl (Nat.le_of_ble_eq_true rfl) rfl ?_)
  refine T_seqC ?_
  simp only [push_cast, reduceIte, Nat.reduceMul, Nat.reduceEqDiff, Nat.reduceAdd, Nat.reduceLT, Nat.reduceLeDiff, reduceCtorEq, Int.reduceToNat]
  refine T_seqC ?_
  simp only [push_cast, reduceIte, Nat.reduceMul, Nat.reduceEqDiff, Nat.reduceAdd, Nat.reduceLT, Nat.reduceLeDiff, reduceCtorEq, Int.reduceToNat]
  refine hal.call rfl ?_
  simp only [push_cast, reduceIte, Nat.reduceMul, Nat.reduceEqDiff, Nat.reduceAdd, Nat.reduceLT, Nat.reduceLeDiff, reduceCtorEq, Int.reduceToNat]
  refine T_seqC ?_
  simp only [push_cast, reduceIte, Nat.reduceMul, Nat.reduceEqDiff, Nat.reduceAdd, Nat.reduceLT, Nat.reduceLeDiff, reduceCtorEq, Int.reduceToNat, bytesP_length]
  refine fun hb => ?_
  have hb : b.length ≤ 60000 := by simp at hb; omega
  have hde := signedDecode_fv WG g ge b (by omega)
  cases hd : decG b with
  | none =>
    rw [decRG, hd] at hde
    have hde : FV Tryz.prog WG 25 [.sl 1 (bytesP b)] (.tup [.p zGV, vI 12]) := hde
    have hsz : OkG zeG := ⟨⟨⟨by simp [zeG, zeC], by simp [zeG, zeC], by simp [zeG, zeC], by decide, by decide, by decide⟩, ⟨by simp [zeG, zeC], by simp [zeG, zeC], by decide, by decide⟩⟩, ⟨by simp [zeG], by simp [zeG], by decide, by decide⟩, by decide⟩
    have hsm := (rSame12_fv WG zeG zeG hsz hsz).soft (ps := [zGV, zGV]) (by simp [softA, soft1, softL, softV, zeG, zeC, bytesP])
    rw [sameG_self] at hsm
    refine T_seqC ?_
    simp only [push_cast, reduceIte, Nat.reduceMul, Nat.reduceEqDiff, Nat.reduceAdd, Nat.reduceLT, Nat.reduceLeDiff, reduceCtorEq, Int.reduceToNat]
    refine hde.call rfl ?_
    simp only [push_cast, reduceIte, Nat.reduceMul, Nat.reduceEqDiff, Nat.reduceAdd, Nat.reduceLT, Nat.reduceLeDiff, reduceCtorEq, Int.reduceToNat]
    refine T_seqC ?_
    simp only [push_cast, reduceIte, Nat.reduceMul, Nat.reduceEqDiff, Nat.reduceAdd, Nat.reduceLT, Nat.reduceLeDiff, reduceCtorEq, Int.reduceToNat]
    refine ⟨fun _ => ⟨_, hsm.q rfl, ?_⟩, fun h => absurd h (by decide)⟩
    simp only [push_cast, reduceIte, Nat.reduceMul, Nat.reduceEqDiff, Nat.reduceAdd, Nat.reduceLT, Nat.reduceLeDiff, reduceCtorEq, Int.reduceToNat]
  | some c =>
    obtain ⟨hp, hk, hw⟩ := decG_some hd
    rw [decRG, hd] at hde
    have hde : FV Tryz.prog WG 25 [.sl 1 (bytesP b)] (.tup [.p (sgnP c), vI 0]) := hde
    have hT := boundsG hp hk
    have ho := okG_of hT
    have hs := small_of_chk hp.ee (chkG_zero hk).2.1
    have i1 := hs.issuer
    have i2 := hs.subject
    have hen := signedEncode_fv WG g ge c hp hs ho
    have hck := chk12_fv WG g ge c ho (by omega) (by omega)
    rw [hk, if_pos rfl, hw] at hen
    rw [hk] at hck
    have hsb := sbT WG b b (by omega) rfl
    refine T_seqC ?_
    simp only [push_cast, reduceIte, Nat.reduceMul, Nat.reduceEqDiff, Nat.reduceAdd, Nat.reduceLT, Nat.reduceLeDiff, reduceCtorEq, Int.reduceToNat]
    refine hde.call rfl ?_
    simp only [push_cast, reduceIte, Nat.reduceMul, Nat.reduceEqDiff, Nat.reduceAdd, Nat.reduceLT, Nat.reduceLeDiff, reduceCtorEq, Int.reduceToNat]
    refine T_seqC ?_
    simp only [push_cast, reduceIte, Nat.reduceMul, Nat.reduceEqDiff, Nat.reduceAdd, Nat.reduceLT, Nat.reduceLeDiff, reduceCtorEq, Int.reduceToNat]
    refine T_seqC ?_
    simp only [push_cast, reduceIte, Nat.reduceMul, Nat.reduceEqDiff, Nat.reduceAdd, Nat.reduceLT, Nat.reduceLeDiff, reduceCtorEq, Int.reduceToNat]
    refine hen.call rfl ?_
    simp only [push_cast, reduceIte, Nat.reduceMul, Nat.reduceEqDiff, Nat.reduceAdd, Nat.reduceLT, Nat.reduceLeDiff, reduceCtorEq, Int.reduceToNat]
    refine T_fin ?_
    simp only [push_cast, reduceIte, Nat.reduceMul, Nat.reduceEqDiff, Nat.reduceAdd, Nat.reduceLT, Nat.reduceLeDiff, reduceCtorEq, Int.reduceToNat]
    refine ⟨_, hsb.q rfl, ?_⟩
    simp only [push_cast, reduceIte, Nat.reduceMul, Nat.reduceEqDiff, Nat.reduceAdd, Nat.reduceLT, Nat.reduceLeDiff, reduceCtorEq, Int.reduceToNat]
    refine ⟨_, hck.q rfl, ?_⟩
    simp only [push_cast, reduceIte, Nat.reduceMul, Nat.reduceEqDiff, Nat.reduceAdd, Nat.reduceLT, Nat.reduceLeDiff, reduceCtorEq, Int.reduceToNat]
set_option maxHeartbeats 16000000 in
theorem signedEnds_fv (WG : World) (g : GW WG) (ge : GE WG) (a b : Sgn) (ha : PreGD a) (hb : PreGD b) : FV Tryz.prog WG 7 [sgnP a, sgnP b] (vB true) := by
  have hal := alive12_fv WG g ge
  refine CallT.pure rfl (CallT_fnT Tryz.func7 (rs := [.tmp 4]) (n := 105) rfl rfl (Nat.le_of_ble_eq_true rfl) rfl ?_)
  refine T_seqC ?_
  simp only [push_cast, reduceIte, Nat.reduceMul, Nat.reduceEqDiff, Nat.reduceAdd, Nat.reduceLT, Nat.reduceLeDiff, reduceCtorEq, Int.reduceToNat]
  refine T_seqC ?_
  simp only [push_cast, reduceIte, Nat.reduceMul, Nat.reduceEqDiff, Nat.reduceAdd, Nat.reduceLT, Nat.reduceLeDiff, reduceCtorEq, Int.reduceToNat]
  refine hal.call rfl ?_
  simp only [push_cast, reduceIte, Nat.reduceMul, Nat.reduceEqDiff, Nat.reduceAdd, Nat.reduceLT, Nat.reduceLeDiff, reduceCtorEq, Int.reduceToNat]
  refine T_seqC ?_
  simp only [push_cast, reduceIte, Nat.reduceMul, Nat.reduceEqDiff, Nat.reduceAdd, Nat.reduceLT, Nat.reduceLeDiff, reduceCtorEq, Int.reduceToNat]
  refine (rGreat12_fv WG a).call rfl ?_
  simp only [push_cast, reduceIte, Nat.reduceMul, Nat.reduceEqDiff, Nat.reduceAdd, Nat.reduceLT, Nat.reduceLeDiff, reduceCtorEq, Int.reduceToNat]
  refine ⟨_, fun _ => (rGreat12_fv WG b).q rfl, ?_⟩
  simp only [push_cast, reduceIte, Nat.reduceMul, Nat.reduceEqDiff, Nat.reduceAdd, Nat.reduceLT, Nat.reduceLeDiff, reduceCtorEq, Int.reduceToNat]
  refine fun hgr => ?_
  have hgr' : greatG a = false ∧ greatG b = false := by simpa using hgr
  obtain ⟨sa, oa⟩ := smallG ha hgr'.1
  obtain ⟨sb, ob⟩ := smallG hb hgr'.2
  have hxa := signedBody_fv WG g ge a ha sa oa
  have hxb := signedBody_fv WG g ge b hb sb ob
  generalize hea : (if chkG a = 0 then enc (bodyG a) else []) = x at hxa
  generalize heb : (if chkG b = 0 then enc (bodyG b) else []) = y at hxb
  refine T_seqC ?_
  simp only [push_cast, reduceIte, Nat.reduceMul, Nat.reduceEqDiff, Nat.reduceAdd, Nat.reduceLT, Nat.reduceLeDiff, reduceCtorEq, Int.reduceToNat]
  refine hxa.call rfl ?_
  simp only [push_cast, reduceIte, Nat.reduceMul, Nat.reduceEqDiff, Nat.reduceAdd, Nat.reduceLT, Nat.reduceLeDiff, reduceCtorEq, Int.reduceToNat]
  refine T_seqC ?_
  simp only [push_cast, reduceIte, Nat.reduceMul, Nat.reduceEqDiff, Nat.reduceAdd, Nat.reduceLT, Nat.reduceLeDiff, reduceCtorEq, Int.reduceToNat]
  refine hxb.call rfl ?_
  simp only [push_cast, reduceIte, Nat.reduceMul, Nat.reduceEqDiff, Nat.reduceAdd, Nat.reduceLT, Nat.reduceLeDiff, reduceCtorEq, Int.reduceToNat]
  refine T_seqC ?_
  simp only [push_cast, reduceIte, Nat.reduceMul, Nat.reduceEqDiff, Nat.reduceAdd, Nat.reduceLT, Nat.reduceLeDiff, reduceCtorEq, Int.reduceToNat]
  have ax : (decide (chkG a = 0) || decide ((↑(bytesP x).length : Int) = 0)) = true := by
    by_cases hk : chkG a = 0
    · simp [hk]
    · rw [if_neg hk] at hea; subst hea; simp [bytesP]
  have ay : (decide (chkG b = 0) || decide ((↑(bytesP y).length : Int) = 0)) = true := by
    by_cases hk : chkG b = 0
    · simp [hk]
    · rw [if_neg hk] at heb; subst heb; simp [bytesP]
  rw [ax, ay]
  refine ⟨fun _ => ⟨fun _ => ⟨rfl, fun h => by rw [h]; rfl⟩, rfl⟩, fun hz => ?_⟩
  clear ax ay
  have hz : chkG a = 0 ∧ chkG b = 0 := by simpa using hz
  obtain ⟨ka, kb⟩ := hz
  rw [if_pos ka] at hea
  rw [if_pos kb] at heb
  have hTa := boundsG ha ka
  have hTb := boundsG hb kb
  have hiff := bodyG_iff hTa hTb
  rw [hea, heb] at hiff
  have hlen := (bodyG_vd hTa).size
  rw [← enc_length, hea] at hlen
  have hsb := sameBytes_fv WG x y (by omega)
  rw [hiff] at hsb
  have hsc := sameBytes_fv WG a.content b.content oa.content
  have k1 : decide ((a.kind : Int) = b.kind) = decide (a.kind = b.kind) := by rw [decide_eq_decide]; omega
  have k2 : decide ((a.ee.serial : Int) = b.ee.serial) = decide (a.ee.serial = b.ee.serial) := by rw [decide_eq_decide]; omega
  have k3 : strEq a.ee.issuer b.ee.issuer = decide (a.ee.issuer = b.ee.issuer) := by rw [Bool.eq_iff_iff, strEq_iff', decide_eq_true_iff]
  have k4 : strEq a.ee.subject b.ee.subject = decide (a.ee.subject = b.ee.subject) := by rw [Bool.eq_iff_iff, strEq_iff', decide_eq_true_iff]
  refine T_seqC ?_
  simp only [push_cast, reduceIte, Nat.reduceMul, Nat.reduceEqDiff, Nat.reduceAdd, Nat.reduceLT, Nat.reduceLeDiff, reduceCtorEq, Int.reduceToNat]
  refine ⟨_, fun _ => hsc.q rfl, ?_⟩
  simp only [push_cast, reduceIte, Nat.reduceMul, Nat.reduceEqDiff, Nat.reduceAdd, Nat.reduceLT, Nat.reduceLeDiff, reduceCtorEq, Int.reduceToNat, k1, k2, k3, k4]
  refine T_fin ?_
  simp only [push_cast, reduceIte, Nat.reduceMul, Nat.reduceEqDiff, Nat.reduceAdd, Nat.reduceLT, Nat.reduceLeDiff, reduceCtorEq, Int.reduceToNat]
  refine ⟨_, hsb.q rfl, ?_⟩
  simp only [push_cast, reduceIte, Nat.reduceMul, Nat.reduceEqDiff, Nat.reduceAdd, Nat.reduceLT, Nat.reduceLeDiff, reduceCtorEq, Int.reduceToNat, sameBG]
end Go.Proofs.YtgekglfmianoeaaGreatDoor
