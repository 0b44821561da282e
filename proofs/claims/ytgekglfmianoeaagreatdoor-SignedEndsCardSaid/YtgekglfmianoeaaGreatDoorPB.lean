/-
  Valid certificates keep the bounds; certificates as parameters, with the bounds of their bytes.
  Certificates encoded: short digests joined, spans, the body.
  Certificates encoded: the lists of spans. Printed by a program (spans_gen.py).
  The body of a certificate.
  cert.Body and cert.Encode.
-/
import Derived.Test.YtgekglfmianoeaaGreatDoorPA
import Derived.Test.YtgekglfmianoeaaGreatDoorCF
import Derived.Test.YtgekglfmianoeaaGreatDoorMB
import Derived.Test.YtgekglfmianoeaaGreatDoorOC
import Derived.Test.YtgekglfmianoeaaGreatDoorKE
set_option linter.unusedSimpArgs false
set_option linter.unusedVariables false
set_option maxRecDepth 20000
namespace Go.Proofs.YtgekglfmianoeaaGreatDoor
open Go Go.Gp
theorem placeB_size {p : Locator → Bool} {s : ByteArray} (h : placeB p s = true) : s.size ≤ 200 := by
  simp only [placeB, Bool.or_eq_true] at h
  rcases h with h | h
  · rw [strEq_iff'] at h
    rw [h]; decide
  · cases hl : lParse s with
    | none => rw [hl] at h; cases h
    | some l =>
      rcases Nat.lt_or_ge 200 s.size with h2 | h2
      · rw [lParse, if_pos h2] at hl; cases hl
      · exact h2
structure PreD (c : Crt) : Prop extends PreC c where
  serial : c.serial < 18446744073709551616
  root : ∀ x ∈ rootL c.root, x < 256
  cb : ∀ x ∈ c.sig.chains, ∀ y ∈ x, y < 256
  pb : ∀ x ∈ c.sig.path, ∀ y ∈ x, y < 256
theorem pow2_16 {h : Nat} (hh : h ≤ 4) : pow2 h ≤ 16 := by
  have : h = 0 ∨ h = 1 ∨ h = 2 ∨ h = 3 ∨ h = 4 := by omega
  rcases this with rfl | rfl | rfl | rfl | rfl <;> decide
theorem bodyT_of {c : Crt} (hp : PreD c) (hk : okCB c = true) : BodyT c := by
  simp only [okCB, Bool.and_eq_true, decide_eq_true_eq] at hk
  obtain ⟨⟨⟨⟨⟨⟨⟨⟨⟨⟨⟨⟨h1, _⟩, h3⟩, h4⟩, h5⟩, h6⟩, h7⟩, _⟩, h9⟩, h10⟩, h11⟩, h12⟩, h13⟩ := hk
  have hv : validI c.res = 0 := by
    unfold resI at h1
    split at h1
    · rename_i h; exact absurd h1 h
    · rename_i h; exact Decidable.not_not.1 h
  have hm : manyR c.res = false := by
    unfold validI at hv
    cases hm : manyR c.res with
    | false => rfl
    | true => rw [hm] at hv; simp at hv
  simp only [manyR, decide_eq_false_iff_not] at hm
  have hw : windowB c.frm c.til = true := by
    unfold windowI at h5
    cases hw : windowB c.frm c.til with
    | true => rfl
    | false => rw [hw] at h5; simp at h5
  simp only [windowB, timeB, Bool.and_eq_true, decide_eq_true_eq] at hw
  simp only [named, Bool.and_eq_true, decide_eq_true_eq] at h3 h4
  exact ⟨hp.serial, h3.1.2, h4.1.2, hw.1.1, hw.1.2, hp.root, ⟨h6, h7⟩, hp.v4, hp.v6, hp.as_, by omega, by omega, by omega, placeB_size h9, placeB_size h10, placeB_size h13, placeB_size h11, placeB_size h12⟩
theorem sigT_of {c : Crt} (hp : PreD c) (hk : (!signedB (kS c.sig) || decide (sigI c.sig.path.length (kS c.sig) = 0)) = true) : SigT c.sig := by
  have hc : ∀ x ∈ c.sig.chains, x.length = 16 ∧ ∀ y ∈ x, y < 256 := fun x hx => ⟨hp.chains x hx, hp.cb x hx⟩
  have hq : ∀ x ∈ c.sig.path, x.length = 16 ∧ ∀ y ∈ x, y < 256 := fun x hx => ⟨hp.path x hx, hp.pb x hx⟩
  have e1 : (kS c.sig).index = c.sig.index := rfl
  have e2 : (kS c.sig).chains.length = c.sig.chains.length := by simp [kS]
  have e3 : (kS c.sig).path.length = c.sig.path.length := by simp [kS]
  simp only [Bool.or_eq_true, Bool.not_eq_true'] at hk
  rcases hk with h | h
  · simp only [signedB, Bool.or_eq_false_iff, Bool.not_eq_false', decide_eq_true_eq, decide_eq_false_iff_not] at h
    rw [e1, e2, e3] at h
    exact ⟨by omega, hc, hq, by omega, by omega⟩
  · simp only [decide_eq_true_eq] at h
    unfold sigI at h
    split at h
    · simp at h
    · rename_i hg
      split at h
      · simp at h
      · rename_i hb
        simp only [goodH, Bool.not_eq_false, Bool.and_eq_true, decide_eq_true_eq] at hg
        simp only [badG, Bool.or_eq_true, not_or, Bool.not_eq_true', decide_eq_false_iff_not, decide_eq_true_eq, Decidable.not_not] at hb
        rw [e1, e2, e3] at hb
        have h16 := pow2_16 (h := (c.sig.path.length : Int).toNat) (by omega)
        exact ⟨by omega, hc, hq, by omega, by omega⟩
theorem chk_ok {c : Crt} (h : chkC c = 0) : okC c = true := by
  unfold chkC at h
  split at h
  · simp at h
  · split at h
    · assumption
    · simp at h
theorem bounds_of {c : Crt} (hp : PreD c) (h : chkC c = 0) : BodyT c ∧ SigT c.sig := by
  have hk := chk_ok h
  simp only [okC, Bool.and_eq_true] at hk
  exact ⟨bodyT_of hp hk.1, sigT_of hp hk.2⟩
theorem chk_root (c : Crt) (r : Nat → Nat) : chkC { c with root := r } = chkC c := rfl
theorem rootD_lt {l : List (List Nat)} (h : ∀ x ∈ l, x.length = 16 ∧ ∀ y ∈ x, y < 256) : ∀ x ∈ rootL (rootD l), x < 256 := by
  have key : ∀ i, rootD l i < 256 := by
    intro i
    match l, h with
    | [x], h =>
      show x.getD i 0 < 256
      rw [List.getD_eq_getElem?_getD]
      cases hg : x[i]? with
      | none => simp
      | some y => exact (h x (by simp)).2 y (List.mem_of_getElem? hg)
    | [], _ => show 0 < 256; omega
    | _ :: _ :: _, _ => show 0 < 256; omega
  intro x hx
  simp only [rootL, List.mem_cons, List.not_mem_nil, or_false] at hx
  rcases hx with rfl | rfl | rfl | rfl | rfl | rfl | rfl | rfl | rfl | rfl | rfl | rfl | rfl | rfl | rfl | rfl <;> exact key _
theorem addrs_lt (v : Oct) : ∀ s ∈ getAddrs v, s.1 < 340282366920938463463374607431768211456 ∧ s.2 < 340282366920938463463374607431768211456 := by
  intro s hs
  unfold getAddrs at hs
  obtain ⟨x, _, rfl⟩ := List.mem_map.1 hs
  exact getSpan_lt x
theorem ass_lt (v : Oct) : ∀ s ∈ getAss v, s.1 < 4294967296 ∧ s.2 < 4294967296 := by
  intro s hs
  unfold getAss at hs
  obtain ⟨x, _, rfl⟩ := List.mem_map.1 hs
  exact getAs_lt x
theorem getS1 (t : UInt8) (v : Oct) : ∀ x ∈ getShorts t v, x.length = 16 := fun x hx => (cutH_all (getStr t 65536 v) x hx).1
theorem getS2 (t : UInt8) (v : Oct) : ∀ x ∈ getShorts t v, ∀ y ∈ x, y < 256 := fun x hx => (cutH_all (getStr t 65536 v) x hx).2
theorem cD_pre (v : Oct) : PreD (cD v) := by
  unfold cD
  generalize bdD v = l
  generalize rsD v = r
  generalize sgD v = g
  exact { v4 := addrs_lt (atO r 0), v6 := addrs_lt (atO r 1), as_ := ass_lt (atO r 2), chains := getS1 2 (atO g 1), path := getS1 3 (atO g 2), serial := Nat.lt_of_le_of_lt (getNum_le 1 18446744073709551615 (atO l 0)) (by decide), root := rootD_lt (cutH_all (getStr 6 65536 (atO l 5))), cb := getS2 2 (atO g 1), pb := getS2 3 (atO g 2) }
def decC (b : List UInt8) : Option Crt := match decO false b with | none => none | some v => if okD v = true ∧ chkC (cD v) = 0 then some (cD v) else none
theorem decC_enc {c : Crt} (hp : PreD c) (h : chkC c = 0) : decC (enc (wholeO c)) = some { c with root := rootC' c.root } := by
  obtain ⟨hb, hs⟩ := bounds_of hp h
  obtain ⟨h1, h2⟩ := okD_O hb hs
  rw [decC, (dec_iff false _ _).2 ⟨wholeO_valid hb hs, rfl⟩]
  simp only
  rw [h1, h2, chk_root, h, if_pos ⟨rfl, rfl⟩]
theorem decC_some {b : List UInt8} {c : Crt} (h : decC b = some c) : PreD c ∧ chkC c = 0 ∧ enc (wholeO c) = b := by
  unfold decC at h
  cases hd : decO false b with
  | none => rw [hd] at h; cases h
  | some v =>
    rw [hd] at h
    simp only at h
    split at h
    · rename_i hk
      cases h
      exact ⟨cD_pre v, hk.2, by rw [O_okD hk.1]; exact ((dec_iff false b v).1 hd).2⟩
    · cases h
theorem shortD_of (p : PV) (h : SAgg (List.replicate 16 (SInt .u8)) p) : ∃ l : List Nat, p = shortP l ∧ (l.length = 16 ∧ ∀ y ∈ l, y < 256) := by
  obtain ⟨ps, h, rfl⟩ := h
  obtain ⟨l, hl, rfl, hb⟩ := bytes_of 16 h
  exact ⟨l, by rw [cat_bytes], hl, hb⟩
theorem sigD_of {p : PV} (h : S_api_KeySig p) : ∃ s : Sig, p = sigP (kS s) ∧ (∀ x ∈ s.chains, x.length = 16 ∧ ∀ y ∈ x, y < 256) ∧ ∀ x ∈ s.path, x.length = 16 ∧ ∀ y ∈ x, y < 256 := by
  obtain ⟨ps, h, rfl⟩ := h
  cases h with | cons h1 h => cases h with | cons h2 h => cases h with | cons h3 h =>
    cases h
    obtain ⟨n, rfl, _⟩ := h1
    obtain ⟨xs, rfl, hx, _⟩ := h2
    obtain ⟨ys, rfl, hy, _⟩ := h3
    obtain ⟨l, rfl, hl⟩ := list_of shortD_of hx
    obtain ⟨m, rfl, hm⟩ := list_of shortD_of hy
    exact ⟨⟨n, l, m⟩, rfl, hl, hm⟩
theorem rootD_of {l : List Nat} (h : l.length = 16) : ∃ r : Nat → Nat, l.map (fun x : Nat => pU8 x) = rootC r ∧ rootL r = l := by
  refine ⟨fun i => l.getD i 0, ?_⟩
  match l, h with
  | [a0, a1, a2, a3, a4, a5, a6, a7, a8, a9, a10, a11, a12, a13, a14, a15], _ => exact ⟨rfl, rfl⟩
set_option maxHeartbeats 4000000 in
theorem crtD_of {p : PV} (h : S_api_Cert p) : ∃ c : Crt, p = crtP c ∧ PreD c := by
  obtain ⟨ps, h, rfl⟩ := h
  cases h with | cons h1 h => cases h with | cons h2 h => cases h with | cons h3 h => cases h with | cons h4 h => cases h with | cons h5 h => cases h with | cons h6 h => cases h with | cons h7 h =>
  cases h with | cons h8 h => cases h with | cons h9 h => cases h with | cons h10 h => cases h with | cons h11 h => cases h with | cons h12 h => cases h with | cons h13 h => cases h with | cons h14 h =>
    cases h
    obtain ⟨serial, rfl, hser⟩ := int_of h1 rfl
    have e : IntKind.u64.max = 18446744073709551615 := by decide
    rw [e] at hser
    obtain ⟨issuer, rfl, _⟩ := h2
    obtain ⟨subject, rfl, _⟩ := h3
    obtain ⟨ps4, h4, rfl⟩ := h4
    cases h4 with | cons a1 h4 => cases h4 with | cons a2 h4 =>
    cases h4
    obtain ⟨frm, rfl, _⟩ := a1
    obtain ⟨til, rfl, _⟩ := a2
    obtain ⟨ps5, h5, rfl⟩ := h5
    cases h5 with | cons b1 h5 => cases h5 with | cons b2 h5 =>
    cases h5
    obtain ⟨qs, b1, rfl⟩ := b1
    obtain ⟨rt, hrt, rfl, hrb⟩ := bytes_of 16 b1
    obtain ⟨height, rfl, _⟩ := b2
    obtain ⟨ca, rfl⟩ := h6
    obtain ⟨inherit, rfl⟩ := h7
    obtain ⟨ps8, h8, rfl⟩ := h8
    cases h8 with | cons c1 h8 => cases h8 with | cons c2 h8 => cases h8 with | cons c3 h8 =>
    cases h8
    obtain ⟨v4, rfl, hv4⟩ := spans_of c1
    obtain ⟨v6, rfl, hv6⟩ := spans_of c2
    obtain ⟨xs, rfl, hx, _⟩ := c3
    obtain ⟨as_, rfl, has⟩ := list_of as_of hx
    obtain ⟨repo, rfl, _⟩ := h9
    obtain ⟨manifest, rfl, _⟩ := h10
    obtain ⟨notify, rfl, _⟩ := h11
    obtain ⟨crl, rfl, _⟩ := h12
    obtain ⟨parent, rfl, _⟩ := h13
    obtain ⟨sig, rfl, hc, hp⟩ := sigD_of h14
    obtain ⟨root, hr, hr2⟩ := rootD_of hrt
    rw [cat_bytes, hr]
    exact ⟨⟨serial, issuer, subject, frm, til, root, height, ca, inherit, ⟨v4, v6, as_⟩, repo, manifest, notify, crl, parent, sig⟩, rfl, { v4 := hv4, v6 := hv6, as_ := has, chains := fun x hx => (hc x hx).1, path := fun x hx => (hp x hx).1, serial := by show serial < _; omega, root := by show ∀ x ∈ rootL root, _; rw [hr2]; exact hrb, cb := fun x hx => (hc x hx).2, pb := fun x hx => (hp x hx).2 }⟩
end Go.Proofs.YtgekglfmianoeaaGreatDoor

namespace Go.Proofs.YtgekglfmianoeaaGreatDoor
open Go Go.Gp
theorem short16 {x : List Nat} (h : x.length = 16) : ∃ a0 a1 a2 a3 a4 a5 a6 a7 a8 a9 a10 a11 a12 a13 a14 a15 : Nat, x = [a0, a1, a2, a3, a4, a5, a6, a7, a8, a9, a10, a11, a12, a13, a14, a15] := by
  match x, h with
  | [a0, a1, a2, a3, a4, a5, a6, a7, a8, a9, a10, a11, a12, a13, a14, a15], _ => exact ⟨_, _, _, _, _, _, _, _, _, _, _, _, _, _, _, _, rfl⟩
theorem byteP_nat {n : Nat} (h : n < 256) : byteP (UInt8.ofNat n) = .v (.int .u8 n) := by simp [byteP]; omega
theorem joinB_take {l : List (List Nat)} {i : Nat} {x : List Nat} (h : l[i]? = some x) : joinB (l.take (i + 1)) = joinB (l.take i) ++ x.map UInt8.ofNat := by
  rw [List.take_add_one, h]; simp [joinB]
set_option maxHeartbeats 16000000 in
theorem joinC_fv (WG : World) (l : List (List Nat)) (hl : ∀ x ∈ l, x.length = 16 ∧ ∀ y ∈ x, y < 256) (hn : l.length < 100000) : FV Tryz.prog WG 38 [shortsP l] (.p (pS (baL (joinB l)))) := by
  refine CallT.pure rfl (CallT_fnT Tryz.func38 (rs := [.tmp 2]) (n := 18) rfl rfl (Nat.le_of_ble_eq_true rfl) rfl ?_)
  refine T_seqC ?_
  simp only [push_cast, reduceIte, Nat.reduceMul, Nat.reduceEqDiff, Nat.reduceAdd, Nat.reduceLT, Nat.reduceLeDiff, reduceCtorEq, Int.reduceToNat]
  refine T_seqC ?_
  simp only [push_cast, reduceIte, Nat.reduceMul, Nat.reduceEqDiff, Nat.reduceAdd, Nat.reduceLT, Nat.reduceLeDiff, reduceCtorEq, Int.reduceToNat]
  refine T_nilT 3 1 rfl ?_
  simp only [push_cast, reduceIte, Nat.reduceMul, Nat.reduceEqDiff, Nat.reduceAdd, Nat.reduceLT, Nat.reduceLeDiff, reduceCtorEq, Int.reduceToNat]
  refine T_seqC ?_
  simp only [push_cast, reduceIte, Nat.reduceMul, Nat.reduceEqDiff, Nat.reduceAdd, Nat.reduceLT, Nat.reduceLeDiff, reduceCtorEq, Int.reduceToNat, List.length_map]
  refine T_loopR (fun i : Nat => ⟨[(3, .osl 0 1 0 (16 * i) none), (6, .p (shortsP l)), (7, vI l.length), (8, vI i)], [(0, .arr 1 (bytesP (joinB (l.take i))) true)], 1, 0, 18⟩) (fun i => i ≤ l.length) (fun i => l.length - i) 0 [] (Nat.zero_le _) (by simp [LeR, rnf, aget, envR, tabR, injR, notIn, loR, V.rn, V.rnL, V.bd, V.bdL, Blk.rn, Blk.bd, envRn, envBd, joinB, bytesP]) (fun i hi => ?_)
  simp only [push_cast, reduceIte, Nat.reduceMul, Nat.reduceEqDiff, Nat.reduceAdd, Nat.reduceLT, Nat.reduceLeDiff, reduceCtorEq, Int.reduceToNat]
  refine ⟨fun h1 => ?_, fun h1 => ?_⟩
  · have h2 : i < l.length := by simpa using h1
    have hg : l[i]? = some l[i] := List.getElem?_eq_getElem h2
    obtain ⟨hx16, hxb⟩ := hl _ (List.mem_of_getElem? hg)
    generalize l[i] = x at hg hx16 hxb
    have hjt := joinB_take hg
    obtain ⟨a0, a1, a2, a3, a4, a5, a6, a7, a8, a9, a10, a11, a12, a13, a14, a15, rfl⟩ := short16 hx16
    simp only [push_cast, reduceIte, Nat.reduceMul, Nat.reduceEqDiff, Nat.reduceAdd, Nat.reduceLT, Nat.reduceLeDiff, reduceCtorEq, Int.reduceToNat, List.getElem?_map, hg, Option.map_some, shortP, List.map_cons, List.map_nil, Int.reduceAdd, Int.reduceToNat, Nat.reduceSub, Nat.sub_zero, List.take_succ_cons, List.take_zero]
    have hbx : bytesP ([a0, a1, a2, a3, a4, a5, a6, a7, a8, a9, a10, a11, a12, a13, a14, a15].map UInt8.ofNat) = [.v (.int .u8 a0), .v (.int .u8 a1), .v (.int .u8 a2), .v (.int .u8 a3), .v (.int .u8 a4), .v (.int .u8 a5), .v (.int .u8 a6), .v (.int .u8 a7), .v (.int .u8 a8), .v (.int .u8 a9), .v (.int .u8 a10), .v (.int .u8 a11), .v (.int .u8 a12), .v (.int .u8 a13), .v (.int .u8 a14), .v (.int .u8 a15)] := by
      simp only [List.mem_cons, List.not_mem_nil, or_false, forall_eq_or_imp, forall_eq] at hxb
      obtain ⟨h0, h1, h2, h3, h4, h5, h6, h7, h8, h9, h10, h11, h12, h13, h14, h15⟩ := hxb
      simp only [List.map_cons, List.map_nil, bytesP, byteP_nat, h0, h1, h2, h3, h4, h5, h6, h7, h8, h9, h10, h11, h12, h13, h14, h15]
    have hjl : (bytesP (joinB (l.take i))).length = 16 * i := by
      rw [bytesP_length, joinB_len _ fun x hx => (hl x (List.mem_of_mem_take hx)).1, List.length_take]; omega
    have hbn : bytesP (joinB (l.take (i + 1))) = (bytesP (joinB (l.take i))).take (16 * i) ++ [.v (.int .u8 a0), .v (.int .u8 a1), .v (.int .u8 a2), .v (.int .u8 a3), .v (.int .u8 a4), .v (.int .u8 a5), .v (.int .u8 a6), .v (.int .u8 a7), .v (.int .u8 a8), .v (.int .u8 a9), .v (.int .u8 a10), .v (.int .u8 a11), .v (.int .u8 a12), .v (.int .u8 a13), .v (.int .u8 a14), .v (.int .u8 a15)] := by
      rw [hjt, List.take_of_length_le (Nat.le_of_eq hjl), ← hbx]; simp [bytesP]
    refine ⟨by omega, ⟨by omega, by omega, by omega⟩, ⟨by omega, by omega⟩, i + 1, by omega, by omega, [(0, 2)], ?_⟩
    rw [hbn]
    simp [LeR, rnf, aget, envR, tabR, injR, notIn, loR, V.rn, V.rnL, V.bd, V.bdL, Blk.rn, Blk.bd, envRn, envBd, Nat.mul_succ, wrap_i64 ((i : Int) + 1) (by omega) (by omega)]
  · have : i = l.length := by simp at h1; omega
    subst this
    refine T_fin ?_
    have hjl : (bytesP (joinB l)).length = 16 * l.length := by
      rw [bytesP_length, joinB_len _ fun x hx => (hl x hx).1]
    simp only [push_cast, reduceIte, Nat.reduceMul, Nat.reduceEqDiff, Nat.reduceAdd, Nat.reduceLT, Nat.reduceLeDiff, reduceCtorEq, Int.reduceToNat, List.take_length]
    rw [List.take_of_length_le (Nat.le_of_eq hjl), byteOf_bytesP]
    exact ⟨⟨by omega, rfl⟩, rfl⟩
end Go.Proofs.YtgekglfmianoeaaGreatDoor

namespace Go.Proofs.YtgekglfmianoeaaGreatDoor
open Go Go.Gp
def numsF : Nat → List Nat → List Oct
  | _, [] => []
  | k, n :: r => numO (UInt8.ofNat (k + 1)) n :: numsF (k + 1) r
theorem numsF_snoc : ∀ (l : List Nat) (k x : Nat), numsF k (l ++ [x]) = numsF k l ++ [numO (UInt8.ofNat (k + l.length + 1)) x]
  | [], k, x => rfl
  | n :: r, k, x => by
    rw [List.cons_append, numsF, numsF_snoc r (k + 1) x, numsF, List.cons_append, List.length_cons]
    rw [show k + 1 + r.length + 1 = k + (r.length + 1) + 1 by omega]
theorem numsF_take {l : List Nat} {i x : Nat} (h : l[i]? = some x) : numsF 0 (l.take (i + 1)) = numsF 0 (l.take i) ++ [numO (UInt8.ofNat (i + 1)) x] := by
  have hi : i < l.length := (List.getElem?_eq_some_iff.1 h).1
  rw [List.take_add_one, h]
  show numsF 0 (l.take i ++ [x]) = _
  rw [numsF_snoc, List.length_take, Nat.min_eq_left (Nat.le_of_lt hi), Nat.zero_add]
theorem numsF_len : ∀ (l : List Nat) (k : Nat), (numsF k l).length = l.length
  | [], _ => rfl
  | n :: r, k => by rw [numsF, List.length_cons, List.length_cons, numsF_len r]
def spanN (s : Nat × Nat) : List Nat := [hiN s.1, loN s.1, hiN s.2, loN s.2]
def asN (s : Nat × Nat) : List Nat := [s.1, s.2]
theorem spanN_O (s : Nat × Nat) : seqO 133 (numsF 0 (spanN s)) = spanO s := rfl
theorem asN_O (s : Nat × Nat) : seqO 133 (numsF 0 (asN s)) = asO s := rfl
theorem spanN_lt {s : Nat × Nat} (h : s.1 < 340282366920938463463374607431768211456 ∧ s.2 < 340282366920938463463374607431768211456) : ∀ x ∈ spanN s, x < 18446744073709551616 := by
  have h1 := hiN_lt h.1
  have h2 := loN_lt s.1
  have h3 := hiN_lt h.2
  have h4 := loN_lt s.2
  simp only [spanN, List.mem_cons, List.not_mem_nil, or_false, forall_eq_or_imp, forall_eq]
  exact ⟨h1, h2, h3, h4⟩
theorem asN_lt {s : Nat × Nat} (h : s.1 < 4294967296 ∧ s.2 < 4294967296) : ∀ x ∈ asN s, x < 18446744073709551616 := by
  simp only [asN, List.mem_cons, List.not_mem_nil, or_false, forall_eq_or_imp, forall_eq]
  omega
abbrev numsP (l : List Nat) : PV := .sl 1 (l.map fun n : Nat => pU64 n)
set_option maxHeartbeats 4000000 in
theorem nums1_fv (WG : World) (s : Nat × Nat) : FV Tryz.prog WG 89 [spanP s] (.p (numsP (spanN s))) := by
  refine CallT.pureS rfl (CallT_fn Tryz.func89 (rs := [.tmp 2]) (n := 16) rfl rfl (Nat.le_of_ble_eq_true rfl) rfl ?_)
  simp only [push_cast, reduceIte, Nat.reduceMul, Nat.reduceEqDiff, Nat.reduceAdd, Nat.reduceLT, Nat.reduceLeDiff, reduceCtorEq, Int.reduceToNat]
  simp [spanN]
set_option maxHeartbeats 4000000 in
theorem nums2_fv (WG : World) (s : Nat × Nat) (h : s.1 < 4294967296 ∧ s.2 < 4294967296) : FV Tryz.prog WG 90 [asP s] (.p (numsP (asN s))) := by
  refine CallT.pureS rfl (CallT_fn Tryz.func90 (rs := [.tmp 2]) (n := 10) rfl rfl (Nat.le_of_ble_eq_true rfl) rfl ?_)
  simp only [push_cast, reduceIte, Nat.reduceMul, Nat.reduceEqDiff, Nat.reduceAdd, Nat.reduceLT, Nat.reduceLeDiff, reduceCtorEq, Int.reduceToNat, wrap_u64' s.1 (by omega), wrap_u64' s.2 (by omega)]
  simp [asN]
set_option maxHeartbeats 16000000 in
theorem spans1_fv (WG : World) (l : List (Nat × Nat)) (hl : ∀ s ∈ l, s.1 < 340282366920938463463374607431768211456 ∧ s.2 < 340282366920938463463374607431768211456) (hn : l.length < 100000) : FV Tryz.prog WG 91 [.sl 4 (l.map spanP), .clo (.func 89) [] []] (.p (octP (seqO 129 (l.map spanO)))) := by
  refine CallT.pureS rfl (CallT_fnT Tryz.func91 (rs := [.cell 4 77]) (n := 47) rfl rfl (Nat.le_of_ble_eq_true rfl) rfl ?_)
  refine T_seqC ?_
  simp only [push_cast, reduceIte, Nat.reduceMul, Nat.reduceEqDiff, Nat.reduceAdd, Nat.reduceLT, Nat.reduceLeDiff, reduceCtorEq, Int.reduceToNat]
  refine T_seqC ?_
  simp only [push_cast, reduceIte, Nat.reduceMul, Nat.reduceEqDiff, Nat.reduceAdd, Nat.reduceLT, Nat.reduceLeDiff, reduceCtorEq, Int.reduceToNat]
  refine T_nilBox 1 2 3 rfl rfl ?_
  refine T_nilBox 1 1 1 rfl rfl ?_
  refine T_seqC ?_
  simp only [push_cast, reduceIte, Nat.reduceMul, Nat.reduceEqDiff, Nat.reduceAdd, Nat.reduceLT, Nat.reduceLeDiff, reduceCtorEq, Int.reduceToNat, List.length_map]
  refine T_loopR (fun i : Nat => ⟨[(1, .p (.clo (.func 89) [] [])), (4, .ref 0 0), (5, .ref 1 0), (12, .p (.sl 4 (l.map spanP))), (13, vI l.length), (14, vI i)], [(0, .box [.p (pU8 0), .p (.v (.slice none 0 0)), .p (.v (.slice none 0 0))]), (1, .box [.p (pU8 129), .osl 3 1 0 0 none, .osl 2 3 0 i none]), (2, .arr 3 ((l.take i).map fun s => octP (spanO s)) true), (3, .arr 1 [] true)], 4, 0, 47⟩)
    (fun i => i ≤ l.length) (fun i => l.length - i) 0 [] (Nat.zero_le _) (by simp [LeR, rnf, aget, envR, tabR, injR, notIn, loR, V.rn, V.rnL, V.bd, V.bdL, Blk.rn, Blk.bd, envRn, envBd]) (fun i hi => ?_)
  simp only [push_cast, reduceIte, Nat.reduceMul, Nat.reduceEqDiff, Nat.reduceAdd, Nat.reduceLT, Nat.reduceLeDiff, reduceCtorEq, Int.reduceToNat]
  refine ⟨fun h1 => ?_, fun h1 => ?_⟩
  · have h2 : i < l.length := by simpa using h1
    have hg : l[i]? = some l[i] := List.getElem?_eq_getElem h2
    have hx := hl _ (List.mem_of_getElem? hg)
    generalize l[i] = x at hg hx
    have hns := spanN_lt hx
    have hcall := nums1_fv WG x
    have hlen : (spanN x).length = 4 := rfl
    simp only [push_cast, reduceIte, Nat.reduceMul, Nat.reduceEqDiff, Nat.reduceAdd, Nat.reduceLT, Nat.reduceLeDiff, reduceCtorEq, Int.reduceToNat, List.getElem?_map, hg, Option.map_some]
    refine ⟨by omega, ?_⟩
    refine hcall.call rfl ?_
    simp only [push_cast, reduceIte, Nat.reduceMul, Nat.reduceEqDiff, Nat.reduceAdd, Nat.reduceLT, Nat.reduceLeDiff, reduceCtorEq, Int.reduceToNat, List.length_map, hlen]
    refine T_nilBox 5 2 3 rfl rfl ?_
    refine T_nilBox 5 1 1 rfl rfl ?_
    simp only [push_cast, reduceIte, Nat.reduceMul, Nat.reduceEqDiff, Nat.reduceAdd, Nat.reduceLT, Nat.reduceLeDiff, reduceCtorEq, Int.reduceToNat]
    refine T_loopR (fun k : Nat => ⟨[(1, .p (.clo (.func 89) [] [])), (4, .ref 0 0), (5, .ref 1 0), (8, .ref 5 0), (12, .p (.sl 4 (l.map spanP))), (13, vI l.length), (14, vI i), (21, .p (numsP (spanN x))), (22, vI 4), (23, vI k)], [(0, .box [.p (pU8 0), .p (.v (.slice none 0 0)), .p (.v (.slice none 0 0))]), (1, .box [.p (pU8 129), .osl 3 1 0 0 none, .osl 2 3 0 i none]), (2, .arr 3 ((l.take i).map fun s => octP (spanO s)) true), (3, .arr 1 [] true),
      (5, .box [.p (pU8 133), .osl 7 1 0 0 none, .osl 6 3 0 k none]), (6, .arr 3 ((numsF 0 ((spanN x).take k)).map octP) true), (7, .arr 1 [] true)], 8, 0, 47⟩)
      (fun k => k ≤ 4) (fun k => 4 - k) 0 [] (Nat.zero_le _) (by simp [LeR, rnf, aget, envR, tabR, injR, notIn, loR, V.rn, V.rnL, V.bd, V.bdL, Blk.rn, Blk.bd, envRn, envBd, numsF]) (fun k hk => ?_)
    simp only [push_cast, reduceIte, Nat.reduceMul, Nat.reduceEqDiff, Nat.reduceAdd, Nat.reduceLT, Nat.reduceLeDiff, reduceCtorEq, Int.reduceToNat]
    refine ⟨fun h3 => ?_, fun h3 => ?_⟩
    · have h4 : k < 4 := by simp at h3; omega
      have hgn : (spanN x)[k]? = some ((spanN x)[k]'(by omega)) := List.getElem?_eq_getElem (by omega)
      have hnk := hns _ (List.mem_of_getElem? hgn)
      generalize ((spanN x)[k]'(by omega)) = y at hgn hnk
      have hft := numsF_take hgn
      have hnum := num8_fv WG (UInt8.ofNat (k + 1)) y hnk
      have hmk : octP (numO (UInt8.ofNat (k + 1)) y) = .agg [pU8 ((k : Int) + 1), .sl 1 (bytesP (numB y)), .sl 3 []] := by rw [numO, octP_mk, ou8_nat (by omega)]; rfl
      rw [← numO, hmk, ou8_nat (by omega), show ((k + 1 : Nat) : Int) = (k : Int) + 1 by omega] at hnum
      have hw1 : IntKind.i64.wrap ((k : Int) + 1) = (k : Int) + 1 := wrap_i64 _ (by omega) (by omega)
      have hw2 : IntKind.u8.wrap ((k : Int) + 1) = (k : Int) + 1 := by
        have := wrap_u8 (k + 1)
        rw [show ((k + 1 : Nat) : Int) = (k : Int) + 1 by omega] at this
        rw [this, Nat.mod_eq_of_lt (by omega)]; omega
      have hml : ((numsF 0 ((spanN x).take k)).map octP).length = k := by rw [List.length_map, numsF_len, List.length_take, hlen]; omega
      have htk : (numsF 0 ((spanN x).take k)).map octP ++ [octP (numO (UInt8.ofNat (k + 1)) y)] = (numsF 0 ((spanN x).take (k + 1))).map octP := by rw [hft]; simp
      rw [hmk] at htk
      simp only [push_cast, reduceIte, Nat.reduceMul, Nat.reduceEqDiff, Nat.reduceAdd, Nat.reduceLT, Nat.reduceLeDiff, reduceCtorEq, Int.reduceToNat, List.getElem?_map, hgn, Option.map_some]
      refine ⟨by omega, ?_⟩
      refine T_drawS [8, 10] [] mixed (by kernel_rfl) ?_
      simp only [push_cast, reduceIte, Nat.reduceMul, Nat.reduceEqDiff, Nat.reduceAdd, Nat.reduceLT, Nat.reduceLeDiff, reduceCtorEq, Int.reduceToNat, hw1, hw2]
      refine ⟨_, hnum.v rfl, ?_⟩
      simp only [push_cast, reduceIte, Nat.reduceMul, Nat.reduceEqDiff, Nat.reduceAdd, Nat.reduceLT, Nat.reduceLeDiff, reduceCtorEq, Int.reduceToNat, hw1]
      refine ⟨⟨by rw [numsF_len, List.length_take, hlen]; omega, by omega⟩, k + 1, by omega, by omega, [(6, 8)], ?_⟩
      rw [List.take_of_length_le (Nat.le_of_eq hml), htk]
      simp [LeR, rnf, aget, envR, tabR, injR, notIn, loR, V.rn, V.rnL, V.bd, V.bdL, Blk.rn, Blk.bd, envRn, envBd]
    · have h4 : k = 4 := by simp at h3; omega
      subst h4
      have htl : (spanN x).take 4 = spanN x := List.take_of_length_le (Nat.le_of_eq hlen)
      have hnl : (numsF 0 (spanN x)).length = 4 := by rw [numsF_len, hlen]
      have hnt : ((numsF 0 (spanN x)).map octP).take 4 = (numsF 0 (spanN x)).map octP := List.take_of_length_le (by rw [List.length_map, hnl]; exact Nat.le_refl _)
      have hel : PV.agg [.v (.int .u8 133), .sl 1 [], .sl 3 ((numsF 0 (spanN x)).map octP)] = octP (spanO x) := by rw [← spanN_O, seqO, octP_mk]; rfl
      have hml : ((l.take i).map fun s => octP (spanO s)).length = i := by rw [List.length_map, List.length_take]; omega
      have htk : ((l.take i).map fun s => octP (spanO s)) ++ [octP (spanO x)] = (l.take (i + 1)).map fun s => octP (spanO s) := by rw [List.take_add_one, hg]; simp
      refine fin_freeze 6 (by kernel_rfl) rfl rfl ?_
      simp only [frzS, frzE, frzL, frzT, frzB, frz1, push_cast, reduceIte, Nat.reduceMul, Nat.reduceEqDiff, Nat.reduceAdd, Nat.reduceLT, Nat.reduceLeDiff, reduceCtorEq, Int.reduceToNat, htl, hnl, hnt, Nat.le_refl, if_true]
      refine fin_freeze 7 (by kernel_rfl) rfl rfl ?_
      simp only [frzS, frzE, frzL, frzT, frzB, frz1, push_cast, reduceIte, Nat.reduceMul, Nat.reduceEqDiff, Nat.reduceAdd, Nat.reduceLT, Nat.reduceLeDiff, reduceCtorEq, Int.reduceToNat, hel, htk, List.take_of_length_le (Nat.le_of_eq hml)]
      refine ⟨⟨by rw [List.length_take]; omega, by omega⟩, i + 1, by omega, by omega, [(2, 9)], ?_⟩
      simp [LeR, rnf, aget, envR, tabR, injR, notIn, loR, V.rn, V.rnL, V.bd, V.bdL, Blk.rn, Blk.bd, envRn, envBd, wrap_i64 ((i : Int) + 1) (by omega) (by omega)]
  · have : i = l.length := by simp at h1; omega
    subst this
    refine T_fin ?_
    simp only [push_cast, reduceIte, Nat.reduceMul, Nat.reduceEqDiff, Nat.reduceAdd, Nat.reduceLT, Nat.reduceLeDiff, reduceCtorEq, Int.reduceToNat]
    rw [List.take_of_length_le (by simp), seqO, octP_mk, List.map_map]
    rfl
set_option maxHeartbeats 16000000 in
theorem spans2_fv (WG : World) (l : List (Nat × Nat)) (hl : ∀ s ∈ l, s.1 < 4294967296 ∧ s.2 < 4294967296) (hn : l.length < 100000) : FV Tryz.prog WG 92 [.sl 2 (l.map asP), .clo (.func 90) [] []] (.p (octP (seqO 129 (l.map asO)))) := by
  refine CallT.pureS rfl (CallT_fnT Tryz.func92 (rs := [.cell 4 77]) (n := 47) rfl rfl (Nat.le_of_ble_eq_true rfl) rfl ?_)
  refine T_seqC ?_
  simp only [push_cast, reduceIte, Nat.reduceMul, Nat.reduceEqDiff, Nat.reduceAdd, Nat.reduceLT, Nat.reduceLeDiff, reduceCtorEq, Int.reduceToNat]
  refine T_seqC ?_
  simp only [push_cast, reduceIte, Nat.reduceMul, Nat.reduceEqDiff, Nat.reduceAdd, Nat.reduceLT, Nat.reduceLeDiff, reduceCtorEq, Int.reduceToNat]
  refine T_nilBox 1 2 3 rfl rfl ?_
  refine T_nilBox 1 1 1 rfl rfl ?_
  refine T_seqC ?_
  simp only [push_cast, reduceIte, Nat.reduceMul, Nat.reduceEqDiff, Nat.reduceAdd, Nat.reduceLT, Nat.reduceLeDiff, reduceCtorEq, Int.reduceToNat, List.length_map]
  refine T_loopR (fun i : Nat => ⟨[(1, .p (.clo (.func 90) [] [])), (4, .ref 0 0), (5, .ref 1 0), (12, .p (.sl 2 (l.map asP))), (13, vI l.length), (14, vI i)], [(0, .box [.p (pU8 0), .p (.v (.slice none 0 0)), .p (.v (.slice none 0 0))]), (1, .box [.p (pU8 129), .osl 3 1 0 0 none, .osl 2 3 0 i none]), (2, .arr 3 ((l.take i).map fun s => octP (asO s)) true), (3, .arr 1 [] true)], 4, 0, 47⟩)
    (fun i => i ≤ l.length) (fun i => l.length - i) 0 [] (Nat.zero_le _) (by simp [LeR, rnf, aget, envR, tabR, injR, notIn, loR, V.rn, V.rnL, V.bd, V.bdL, Blk.rn, Blk.bd, envRn, envBd]) (fun i hi => ?_)
  simp only [push_cast, reduceIte, Nat.reduceMul, Nat.reduceEqDiff, Nat.reduceAdd, Nat.reduceLT, Nat.reduceLeDiff, reduceCtorEq, Int.reduceToNat]
  refine ⟨fun h1 => ?_, fun h1 => ?_⟩
  · have h2 : i < l.length := by simpa using h1
    have hg : l[i]? = some l[i] := List.getElem?_eq_getElem h2
    have hx := hl _ (List.mem_of_getElem? hg)
    generalize l[i] = x at hg hx
    have hns := asN_lt hx
    have hcall := nums2_fv WG x hx
    have hlen : (asN x).length = 2 := rfl
    simp only [push_cast, reduceIte, Nat.reduceMul, Nat.reduceEqDiff, Nat.reduceAdd, Nat.reduceLT, Nat.reduceLeDiff, reduceCtorEq, Int.reduceToNat, List.getElem?_map, hg, Option.map_some]
    refine ⟨by omega, ?_⟩
    refine hcall.call rfl ?_
    simp only [push_cast, reduceIte, Nat.reduceMul, Nat.reduceEqDiff, Nat.reduceAdd, Nat.reduceLT, Nat.reduceLeDiff, reduceCtorEq, Int.reduceToNat, List.length_map, hlen]
    refine T_nilBox 5 2 3 rfl rfl ?_
    refine T_nilBox 5 1 1 rfl rfl ?_
    simp only [push_cast, reduceIte, Nat.reduceMul, Nat.reduceEqDiff, Nat.reduceAdd, Nat.reduceLT, Nat.reduceLeDiff, reduceCtorEq, Int.reduceToNat]
    refine T_loopR (fun k : Nat => ⟨[(1, .p (.clo (.func 90) [] [])), (4, .ref 0 0), (5, .ref 1 0), (8, .ref 5 0), (12, .p (.sl 2 (l.map asP))), (13, vI l.length), (14, vI i), (21, .p (numsP (asN x))), (22, vI 2), (23, vI k)], [(0, .box [.p (pU8 0), .p (.v (.slice none 0 0)), .p (.v (.slice none 0 0))]), (1, .box [.p (pU8 129), .osl 3 1 0 0 none, .osl 2 3 0 i none]), (2, .arr 3 ((l.take i).map fun s => octP (asO s)) true), (3, .arr 1 [] true),
      (5, .box [.p (pU8 133), .osl 7 1 0 0 none, .osl 6 3 0 k none]), (6, .arr 3 ((numsF 0 ((asN x).take k)).map octP) true), (7, .arr 1 [] true)], 8, 0, 47⟩)
      (fun k => k ≤ 2) (fun k => 2 - k) 0 [] (Nat.zero_le _) (by simp [LeR, rnf, aget, envR, tabR, injR, notIn, loR, V.rn, V.rnL, V.bd, V.bdL, Blk.rn, Blk.bd, envRn, envBd, numsF]) (fun k hk => ?_)
    simp only [push_cast, reduceIte, Nat.reduceMul, Nat.reduceEqDiff, Nat.reduceAdd, Nat.reduceLT, Nat.reduceLeDiff, reduceCtorEq, Int.reduceToNat]
    refine ⟨fun h3 => ?_, fun h3 => ?_⟩
    · have h4 : k < 2 := by simp at h3; omega
      have hgn : (asN x)[k]? = some ((asN x)[k]'(by omega)) := List.getElem?_eq_getElem (by omega)
      have hnk := hns _ (List.mem_of_getElem? hgn)
      generalize ((asN x)[k]'(by omega)) = y at hgn hnk
      have hft := numsF_take hgn
      have hnum := num8_fv WG (UInt8.ofNat (k + 1)) y hnk
      have hmk : octP (numO (UInt8.ofNat (k + 1)) y) = .agg [pU8 ((k : Int) + 1), .sl 1 (bytesP (numB y)), .sl 3 []] := by rw [numO, octP_mk, ou8_nat (by omega)]; rfl
      rw [← numO, hmk, ou8_nat (by omega), show ((k + 1 : Nat) : Int) = (k : Int) + 1 by omega] at hnum
      have hw1 : IntKind.i64.wrap ((k : Int) + 1) = (k : Int) + 1 := wrap_i64 _ (by omega) (by omega)
      have hw2 : IntKind.u8.wrap ((k : Int) + 1) = (k : Int) + 1 := by
        have := wrap_u8 (k + 1)
        rw [show ((k + 1 : Nat) : Int) = (k : Int) + 1 by omega] at this
        rw [this, Nat.mod_eq_of_lt (by omega)]; omega
      have hml : ((numsF 0 ((asN x).take k)).map octP).length = k := by rw [List.length_map, numsF_len, List.length_take, hlen]; omega
      have htk : (numsF 0 ((asN x).take k)).map octP ++ [octP (numO (UInt8.ofNat (k + 1)) y)] = (numsF 0 ((asN x).take (k + 1))).map octP := by rw [hft]; simp
      rw [hmk] at htk
      simp only [push_cast, reduceIte, Nat.reduceMul, Nat.reduceEqDiff, Nat.reduceAdd, Nat.reduceLT, Nat.reduceLeDiff, reduceCtorEq, Int.reduceToNat, List.getElem?_map, hgn, Option.map_some]
      refine ⟨by omega, ?_⟩
      refine T_drawS [8, 10] [] mixed (by kernel_rfl) ?_
      simp only [push_cast, reduceIte, Nat.reduceMul, Nat.reduceEqDiff, Nat.reduceAdd, Nat.reduceLT, Nat.reduceLeDiff, reduceCtorEq, Int.reduceToNat, hw1, hw2]
      refine ⟨_, hnum.v rfl, ?_⟩
      simp only [push_cast, reduceIte, Nat.reduceMul, Nat.reduceEqDiff, Nat.reduceAdd, Nat.reduceLT, Nat.reduceLeDiff, reduceCtorEq, Int.reduceToNat, hw1]
      refine ⟨⟨by rw [numsF_len, List.length_take, hlen]; omega, by omega⟩, k + 1, by omega, by omega, [(6, 8)], ?_⟩
      rw [List.take_of_length_le (Nat.le_of_eq hml), htk]
      simp [LeR, rnf, aget, envR, tabR, injR, notIn, loR, V.rn, V.rnL, V.bd, V.bdL, Blk.rn, Blk.bd, envRn, envBd]
    · have h4 : k = 2 := by simp at h3; omega
      subst h4
      have htl : (asN x).take 2 = asN x := List.take_of_length_le (Nat.le_of_eq hlen)
      have hnl : (numsF 0 (asN x)).length = 2 := by rw [numsF_len, hlen]
      have hnt : ((numsF 0 (asN x)).map octP).take 2 = (numsF 0 (asN x)).map octP := List.take_of_length_le (by rw [List.length_map, hnl]; exact Nat.le_refl _)
      have hel : PV.agg [.v (.int .u8 133), .sl 1 [], .sl 3 ((numsF 0 (asN x)).map octP)] = octP (asO x) := by rw [← asN_O, seqO, octP_mk]; rfl
      have hml : ((l.take i).map fun s => octP (asO s)).length = i := by rw [List.length_map, List.length_take]; omega
      have htk : ((l.take i).map fun s => octP (asO s)) ++ [octP (asO x)] = (l.take (i + 1)).map fun s => octP (asO s) := by rw [List.take_add_one, hg]; simp
      refine fin_freeze 6 (by kernel_rfl) rfl rfl ?_
      simp only [frzS, frzE, frzL, frzT, frzB, frz1, push_cast, reduceIte, Nat.reduceMul, Nat.reduceEqDiff, Nat.reduceAdd, Nat.reduceLT, Nat.reduceLeDiff, reduceCtorEq, Int.reduceToNat, htl, hnl, hnt, Nat.le_refl, if_true]
      refine fin_freeze 7 (by kernel_rfl) rfl rfl ?_
      simp only [frzS, frzE, frzL, frzT, frzB, frz1, push_cast, reduceIte, Nat.reduceMul, Nat.reduceEqDiff, Nat.reduceAdd, Nat.reduceLT, Nat.reduceLeDiff, reduceCtorEq, Int.reduceToNat, hel, htk, List.take_of_length_le (Nat.le_of_eq hml)]
      refine ⟨⟨by rw [List.length_take]; omega, by omega⟩, i + 1, by omega, by omega, [(2, 9)], ?_⟩
      simp [LeR, rnf, aget, envR, tabR, injR, notIn, loR, V.rn, V.rnL, V.bd, V.bdL, Blk.rn, Blk.bd, envRn, envBd, wrap_i64 ((i : Int) + 1) (by omega) (by omega)]
  · have : i = l.length := by simp at h1; omega
    subst this
    refine T_fin ?_
    simp only [push_cast, reduceIte, Nat.reduceMul, Nat.reduceEqDiff, Nat.reduceAdd, Nat.reduceLT, Nat.reduceLeDiff, reduceCtorEq, Int.reduceToNat]
    rw [List.take_of_length_le (by simp), seqO, octP_mk, List.map_map]
    rfl
end Go.Proofs.YtgekglfmianoeaaGreatDoor

namespace Go.Proofs.YtgekglfmianoeaaGreatDoor
open Go Go.Gp
def strsF : Nat → List ByteArray → List Oct
  | _, [] => []
  | k, s :: r => strO (UInt8.ofNat (9 + k)) (bsL s) :: strsF (k + 1) r
theorem strsF_snoc : ∀ (l : List ByteArray) (k : Nat) (x : ByteArray), strsF k (l ++ [x]) = strsF k l ++ [strO (UInt8.ofNat (9 + (k + l.length))) (bsL x)]
  | [], k, x => rfl
  | n :: r, k, x => by
    rw [List.cons_append, strsF, strsF_snoc r (k + 1) x, strsF, List.cons_append, List.length_cons]
    rw [show k + 1 + r.length = k + (r.length + 1) by omega]
theorem strsF_take {l : List ByteArray} {i : Nat} {x : ByteArray} (h : l[i]? = some x) : strsF 0 (l.take (i + 1)) = strsF 0 (l.take i) ++ [strO (UInt8.ofNat (9 + i)) (bsL x)] := by
  have hi : i < l.length := (List.getElem?_eq_some_iff.1 h).1
  rw [List.take_add_one, h]
  show strsF 0 (l.take i ++ [x]) = _
  rw [strsF_snoc, List.length_take, Nat.min_eq_left (Nat.le_of_lt hi), Nat.zero_add]
def list9 (c : Crt) : List Oct := [numO 1 c.serial, strO 2 (bsL c.issuer), strO 3 (bsL c.subject), numO 4 c.frm.toNat, numO 5 c.til.toNat, strO 6 (joinB [rootL c.root]), numO 7 c.height.toNat, numO 8 (flagN c.ca c.inherit), resO c.res]
def list8 (c : Crt) : List Oct := [numO 1 c.serial, strO 2 (bsL c.issuer), strO 3 (bsL c.subject), numO 4 c.frm.toNat, numO 5 c.til.toNat, strO 6 (joinB [rootL c.root]), numO 7 c.height.toNat, numO 8 (flagN c.ca c.inherit)]
theorem list9_eq (c : Crt) : list9 c = list8 c ++ [resO c.res] := rfl
def plcs (c : Crt) : List ByteArray := [c.repo, c.manifest, c.notify, c.crl, c.parent]
theorem body_list (c : Crt) : bodyO c = seqO 128 (list9 c ++ strsF 0 (plcs c)) := rfl
theorem smallV {x : Oct} {n d s : Nat} (h : Vd x n d s) (hs : s < 16777216) : smallO x := Nat.lt_of_le_of_lt h.size hs
set_option maxHeartbeats 32000000 in
theorem body_fv (WG : World) (c : Crt) (hT : BodyT c) : FV Tryz.prog WG 40 [crtP c] (.p (octP (bodyO c))) := by
  have hsm : smallO (.mk 128 [] (list9 c ++ strsF 0 (plcs c))) := smallV (bodyO_vd hT) (by omega)
  refine CallT.pureS rfl (CallT_fnT Tryz.func40 (rs := [.cell 2 77]) (n := 98) rfl rfl (Nat.le_of_ble_eq_true rfl) rfl ?_)
  refine T_seqC ?_
  simp only [push_cast, reduceIte, Nat.reduceMul, Nat.reduceEqDiff, Nat.reduceAdd, Nat.reduceLT, Nat.reduceLeDiff, reduceCtorEq, Int.reduceToNat]
  refine T_seqC ?_
  simp only [push_cast, reduceIte, Nat.reduceMul, Nat.reduceEqDiff, Nat.reduceAdd, Nat.reduceLT, Nat.reduceLeDiff, reduceCtorEq, Int.reduceToNat]
  refine T_seqC ?_
  simp only [push_cast, reduceIte, Nat.reduceMul, Nat.reduceEqDiff, Nat.reduceAdd, Nat.reduceLT, Nat.reduceLeDiff, reduceCtorEq, Int.reduceToNat]
  refine T_seqC ?_
  simp only [push_cast, reduceIte, Nat.reduceMul, Nat.reduceEqDiff, Nat.reduceAdd, Nat.reduceLT, Nat.reduceLeDiff, reduceCtorEq, Int.reduceToNat]
  refine T_cutR (fun n : Nat => ⟨[(1, .ref 0 0), (2, .ref 1 0), (3, .p (.clo (.func 89) [] [])), (4, .p (.clo (.func 90) [] [])), (5, .p (pU64 n))], [(0, .box (boxC c)), (1, .box [.p (pU8 0), .p (.v (.slice none 0 0)), .p (.v (.slice none 0 0))])], 2, 0, 98⟩) (fun n => n = if c.ca then 1 else 0) ?_ (fun n hn => ?_)
  · simp only [push_cast, reduceIte, Nat.reduceMul, Nat.reduceEqDiff, Nat.reduceAdd, Nat.reduceLT, Nat.reduceLeDiff, reduceCtorEq, Int.reduceToNat]
    have hb1 : bits2 .u64 (· ||| ·) 0 1 = 1 := by decide
    exact ⟨fun h => ⟨1, by simp [h], [], by simp [LeR, rnf, aget, envR, tabR, injR, notIn, loR, V.rn, V.rnL, V.bd, V.bdL, Blk.rn, Blk.bd, envRn, envBd, hb1]⟩, fun h => ⟨0, by simp [h], [], by simp [LeR, rnf, aget, envR, tabR, injR, notIn, loR, V.rn, V.rnL, V.bd, V.bdL, Blk.rn, Blk.bd, envRn, envBd]⟩⟩
  subst hn
  refine T_cutR (fun n : Nat => ⟨[(1, .ref 0 0), (2, .ref 1 0), (3, .p (.clo (.func 89) [] [])), (4, .p (.clo (.func 90) [] [])), (5, .p (pU64 n))], [(0, .box (boxC c)), (1, .box [.p (pU8 0), .p (.v (.slice none 0 0)), .p (.v (.slice none 0 0))])], 2, 0, 98⟩) (fun n => n = flagN c.ca c.inherit) ?_ (fun n hn => ?_)
  · simp only [push_cast, reduceIte, Nat.reduceMul, Nat.reduceEqDiff, Nat.reduceAdd, Nat.reduceLT, Nat.reduceLeDiff, reduceCtorEq, Int.reduceToNat]
    have hb2 : bits2 .u64 (· ||| ·) ((if c.ca = true then 1 else 0 : Nat) : Int) 2 = (flagN c.ca true : Nat) := by cases c.ca <;> decide
    exact ⟨fun h => ⟨flagN c.ca true, by rw [h], [], by simp [LeR, rnf, aget, envR, tabR, injR, notIn, loR, V.rn, V.rnL, V.bd, V.bdL, Blk.rn, Blk.bd, envRn, envBd, ← hb2]⟩, fun h => ⟨if c.ca then 1 else 0, by rw [h]; simp [flagN], [], by simp [LeR, rnf, aget, envR, tabR, injR, notIn, loR, V.rn, V.rnL, V.bd, V.bdL, Blk.rn, Blk.bd, envRn, envBd]⟩⟩
  subst hn
  have hfl := (flag_of c.ca c.inherit).1
  generalize hfn : flagN c.ca c.inherit = fl at hfl
  have hf := hT.frm
  have ht := hT.til
  have hh := hT.height
  have w1 : IntKind.u64.wrap c.frm = (c.frm.toNat : Int) := by rw [wrap_u64 _ (by omega) (by omega)]; omega
  have w2 : IntKind.u64.wrap c.til = (c.til.toNat : Int) := by rw [wrap_u64 _ (by omega) (by omega)]; omega
  have w3 : IntKind.u64.wrap c.height = (c.height.toNat : Int) := by rw [wrap_u64 _ (by omega) (by omega)]; omega
  have n1 := num8_fv WG 1 c.serial hT.serial
  have n2 := str8_fv WG 2 c.issuer
  have n3 := str8_fv WG 3 c.subject
  have n4 := num8_fv WG 4 c.frm.toNat (by omega)
  have n5 := num8_fv WG 5 c.til.toNat (by omega)
  have n6 := joinC_fv WG [rootL c.root] (by intro x hx; obtain rfl := List.mem_singleton.1 hx; exact ⟨rfl, hT.root⟩) (by simp)
  have n7 := str8_fv WG 6 (baL (joinB [rootL c.root]))
  have n8 := num8_fv WG 7 c.height.toNat (by omega)
  have n9 := num8_fv WG 8 fl (by omega)
  rw [octP_mk] at n1 n2 n3 n4 n5 n7 n8 n9
  refine T_seqC ?_
  refine T_drawL [32] mixed (by kernel_rfl) ?_
  simp only [push_cast, reduceIte, Nat.reduceMul, Nat.reduceEqDiff, Nat.reduceAdd, Nat.reduceLT, Nat.reduceLeDiff, reduceCtorEq, Int.reduceToNat, w1, w2, w3]
  refine ⟨_, n1.v rfl, Hold.intro ?_⟩
  simp only [push_cast, reduceIte, Nat.reduceMul, Nat.reduceEqDiff, Nat.reduceAdd, Nat.reduceLT, Nat.reduceLeDiff, reduceCtorEq, Int.reduceToNat, w1, w2, w3]
  refine ⟨_, n2.v rfl, Hold.intro ?_⟩
  simp only [push_cast, reduceIte, Nat.reduceMul, Nat.reduceEqDiff, Nat.reduceAdd, Nat.reduceLT, Nat.reduceLeDiff, reduceCtorEq, Int.reduceToNat, w1, w2, w3]
  refine ⟨_, n3.v rfl, Hold.intro ?_⟩
  simp only [push_cast, reduceIte, Nat.reduceMul, Nat.reduceEqDiff, Nat.reduceAdd, Nat.reduceLT, Nat.reduceLeDiff, reduceCtorEq, Int.reduceToNat, w1, w2, w3]
  refine ⟨_, n4.v rfl, Hold.intro ?_⟩
  simp only [push_cast, reduceIte, Nat.reduceMul, Nat.reduceEqDiff, Nat.reduceAdd, Nat.reduceLT, Nat.reduceLeDiff, reduceCtorEq, Int.reduceToNat, w1, w2, w3]
  refine ⟨_, n5.v rfl, Hold.intro ?_⟩
  simp only [push_cast, reduceIte, Nat.reduceMul, Nat.reduceEqDiff, Nat.reduceAdd, Nat.reduceLT, Nat.reduceLeDiff, reduceCtorEq, Int.reduceToNat, w1, w2, w3]
  refine ⟨_, n6.v rfl, Hold.intro ?_⟩
  simp only [push_cast, reduceIte, Nat.reduceMul, Nat.reduceEqDiff, Nat.reduceAdd, Nat.reduceLT, Nat.reduceLeDiff, reduceCtorEq, Int.reduceToNat, w1, w2, w3]
  refine ⟨_, n7.v rfl, Hold.intro ?_⟩
  simp only [push_cast, reduceIte, Nat.reduceMul, Nat.reduceEqDiff, Nat.reduceAdd, Nat.reduceLT, Nat.reduceLeDiff, reduceCtorEq, Int.reduceToNat, w1, w2, w3]
  refine ⟨_, n8.v rfl, Hold.intro ?_⟩
  simp only [push_cast, reduceIte, Nat.reduceMul, Nat.reduceEqDiff, Nat.reduceAdd, Nat.reduceLT, Nat.reduceLeDiff, reduceCtorEq, Int.reduceToNat, w1, w2, w3]
  refine ⟨_, n9.v rfl, Hold.intro ?_⟩
  simp only [push_cast, reduceIte, Nat.reduceMul, Nat.reduceEqDiff, Nat.reduceAdd, Nat.reduceLT, Nat.reduceLeDiff, reduceCtorEq, Int.reduceToNat, w1, w2, w3]
  have hl8 : (list8 c).map octP = [.agg [.v (.int .u8 (UInt8.toNat 1)), .sl 1 (bytesP (numB c.serial)), .sl 3 []], .agg [.v (.int .u8 (UInt8.toNat 2)), .sl 1 (bytesP c.issuer.data.toList), .sl 3 []], .agg [.v (.int .u8 (UInt8.toNat 3)), .sl 1 (bytesP c.subject.data.toList), .sl 3 []],
      .agg [.v (.int .u8 (UInt8.toNat 4)), .sl 1 (bytesP (numB c.frm.toNat)), .sl 3 []], .agg [.v (.int .u8 (UInt8.toNat 5)), .sl 1 (bytesP (numB c.til.toNat)), .sl 3 []], .agg [.v (.int .u8 (UInt8.toNat 6)), .sl 1 (bytesP (baL (joinB [rootL c.root])).data.toList), .sl 3 []],
      .agg [.v (.int .u8 (UInt8.toNat 7)), .sl 1 (bytesP (numB c.height.toNat)), .sl 3 []], .agg [.v (.int .u8 (UInt8.toNat 8)), .sl 1 (bytesP (numB fl)), .sl 3 []]] := by
    simp only [list8, List.map_cons, List.map_nil, numO, strO, octP_mk, hfn]
    rfl
  rw [← hl8]
  refine T_le ⟨[(1, .ref 0 0), (2, .ref 1 0), (3, .p (.clo (.func 89) [] [])), (4, .p (.clo (.func 90) [] [])), (6, .osl 2 3 0 8 (some 8))], [(0, .box (boxC c)), (1, .box [.p (pU8 0), .p (.v (.slice none 0 0)), .p (.v (.slice none 0 0))]), (2, .arr 3 ((list8 c).map octP) false)], 3, 0, 98⟩ [] (by simp [LeR, rnf, aget, envR, tabR, injR, notIn, loR, V.rn, V.rnL, V.bd, V.bdL, Blk.rn, Blk.bd, envRn, envBd]) ?_
  generalize hL8 : (list8 c).map octP = L8
  have h8n : L8.length = 8 := by rw [← hL8]; rfl
  have hv4 := spans1_fv WG c.res.v4 hT.v4 (by have := hT.n4; omega)
  have hv6 := spans1_fv WG c.res.v6 hT.v6 (by have := hT.n6; omega)
  have has := spans2_fv WG c.res.as_ hT.as_ (by have := hT.nas; omega)
  have hrs := seq8_fv WG 130 [seqO 129 (c.res.v4.map spanO), seqO 129 (c.res.v6.map spanO), seqO 129 (c.res.as_.map asO)] (smallV (resO_vd hT.n4 hT.n6 hT.nas) (by omega))
  have hro : octP (resO c.res) = octP (.mk 130 [] [seqO 129 (c.res.v4.map spanO), seqO 129 (c.res.v6.map spanO), seqO 129 (c.res.as_.map asO)]) := rfl
  simp only [List.map_cons, List.map_nil, seqO, octP_mk] at hv4 hv6 has hrs hro
  refine T_seqC ?_
  refine T_drawL [19] mixed (by kernel_rfl) ?_
  simp only [push_cast, reduceIte, Nat.reduceMul, Nat.reduceEqDiff, Nat.reduceAdd, Nat.reduceLT, Nat.reduceLeDiff, reduceCtorEq, Int.reduceToNat]
  refine ⟨_, hv4.v rfl, Hold.intro ?_⟩
  simp only [push_cast, reduceIte, Nat.reduceMul, Nat.reduceEqDiff, Nat.reduceAdd, Nat.reduceLT, Nat.reduceLeDiff, reduceCtorEq, Int.reduceToNat]
  refine ⟨_, hv6.v rfl, Hold.intro ?_⟩
  simp only [push_cast, reduceIte, Nat.reduceMul, Nat.reduceEqDiff, Nat.reduceAdd, Nat.reduceLT, Nat.reduceLeDiff, reduceCtorEq, Int.reduceToNat]
  refine ⟨_, has.v rfl, Hold.intro ?_⟩
  simp only [push_cast, reduceIte, Nat.reduceMul, Nat.reduceEqDiff, Nat.reduceAdd, Nat.reduceLT, Nat.reduceLeDiff, reduceCtorEq, Int.reduceToNat]
  refine ⟨_, hrs.v rfl, Hold.intro ?_⟩
  simp only [push_cast, reduceIte, Nat.reduceMul, Nat.reduceEqDiff, Nat.reduceAdd, Nat.reduceLT, Nat.reduceLeDiff, reduceCtorEq, Int.reduceToNat]
  refine ⟨by omega, ?_⟩
  rw [← hro, List.take_of_length_le (Nat.le_of_eq h8n), show L8 ++ [octP (resO c.res)] = (list9 c).map octP by rw [list9_eq, List.map_append, hL8]; rfl]
  refine T_le ⟨[(1, .ref 0 0), (2, .ref 1 0), (6, .osl 3 3 0 9 none)], [(0, .box (boxC c)), (1, .box [.p (pU8 0), .p (.v (.slice none 0 0)), .p (.v (.slice none 0 0))]), (3, .arr 3 ((list9 c).map octP) true)], 4, 0, 98⟩ [] (by simp [LeR, rnf, aget, envR, tabR, injR, notIn, loR, V.rn, V.rnL, V.bd, V.bdL, Blk.rn, Blk.bd, envRn, envBd]) ?_
  refine T_seqC ?_
  simp only [push_cast, reduceIte, Nat.reduceMul, Nat.reduceEqDiff, Nat.reduceAdd, Nat.reduceLT, Nat.reduceLeDiff, reduceCtorEq, Int.reduceToNat]
  have h5n : (plcs c).length = 5 := rfl
  refine T_loopR (fun i : Nat => ⟨[(2, .ref 1 0), (6, .osl 3 3 0 (9 + i) none), (80, .osl 4 1 0 5 (some 5)), (81, vI 5), (82, vI i)], [(1, .box [.p (pU8 0), .p (.v (.slice none 0 0)), .p (.v (.slice none 0 0))]), (3, .arr 3 ((list9 c ++ strsF 0 ((plcs c).take i)).map octP) true), (4, .arr 1 ((plcs c).map pS) false)], 5, 0, 98⟩) (fun i => i ≤ 5) (fun i => 5 - i) 0 [] (Nat.zero_le _) (by simp [LeR, rnf, aget, envR, tabR, injR, notIn, loR, V.rn, V.rnL, V.bd, V.bdL, Blk.rn, Blk.bd, envRn, envBd, strsF, plcs]) (fun i hi => ?_)
  simp only [push_cast, reduceIte, Nat.reduceMul, Nat.reduceEqDiff, Nat.reduceAdd, Nat.reduceLT, Nat.reduceLeDiff, reduceCtorEq, Int.reduceToNat]
  refine ⟨fun h1 => ?_, fun h1 => ?_⟩
  · have h2 : i < 5 := by simp at h1; omega
    have hg : (plcs c)[i]? = some ((plcs c)[i]'(by omega)) := List.getElem?_eq_getElem (by omega)
    generalize ((plcs c)[i]'(by omega)) = s at hg
    have hst := str8_fv WG (UInt8.ofNat (9 + i)) s
    rw [octP_mk, ou8_nat (by omega), show ((9 + i : Nat) : Int) = 9 + (i : Int) by omega] at hst
    have hft := strsF_take hg
    have hmk : octP (strO (UInt8.ofNat (9 + i)) (bsL s)) = .agg [pU8 (9 + (i : Int)), .sl 1 (bytesP s.data.toList), .sl 3 []] := by rw [strO, octP_mk, ou8_nat (by omega), show ((9 + i : Nat) : Int) = 9 + (i : Int) by omega]; rfl
    have hw1 : IntKind.i64.wrap (9 + (i : Int)) = 9 + (i : Int) := wrap_i64 _ (by omega) (by omega)
    have hw2 : IntKind.u8.wrap (9 + (i : Int)) = 9 + (i : Int) := by
      have := wrap_u8 (9 + i)
      rw [show ((9 + i : Nat) : Int) = 9 + (i : Int) by omega] at this
      rw [this, Nat.mod_eq_of_lt (by omega)]; omega
    simp only [push_cast, reduceIte, Nat.reduceMul, Nat.reduceEqDiff, Nat.reduceAdd, Nat.reduceLT, Nat.reduceLeDiff, reduceCtorEq, Int.reduceToNat, List.getElem?_map, hg, Option.map_some, hw1, hw2, h5n, List.length_map]
    have hml : ((list9 c ++ strsF 0 ((plcs c).take i)).map octP).length = 9 + i := by
      rw [List.length_map, List.length_append, show (list9 c).length = 9 from rfl]
      have : ∀ (l : List ByteArray) (k : Nat), (strsF k l).length = l.length := by
        intro l
        induction l with
        | nil => intro k; rfl
        | cons a r ih => intro k; rw [strsF, List.length_cons, List.length_cons, ih]
      rw [this, List.length_take, h5n]; omega
    have htk : (list9 c ++ strsF 0 ((plcs c).take i)).map octP ++ [.agg [pU8 (9 + (i : Int)), .sl 1 (bytesP s.data.toList), .sl 3 []]] = (list9 c ++ strsF 0 ((plcs c).take (i + 1))).map octP := by rw [hft, ← hmk]; simp
    refine ⟨by omega, hst.call rfl ?_⟩
    simp only [push_cast, reduceIte, Nat.reduceMul, Nat.reduceEqDiff, Nat.reduceAdd, Nat.reduceLT, Nat.reduceLeDiff, reduceCtorEq, Int.reduceToNat]
    refine ⟨⟨by rw [← List.length_map (f := octP), hml]; omega, by omega⟩, i + 1, by omega, by omega, [(3, 6)], ?_⟩
    rw [List.take_of_length_le (Nat.le_of_eq hml), htk]
    simp [LeR, rnf, aget, envR, tabR, injR, notIn, loR, V.rn, V.rnL, V.bd, V.bdL, Blk.rn, Blk.bd, envRn, envBd, Nat.add_assoc, wrap_i64 ((i : Int) + 1) (by omega) (by omega)]
  · have : i = 5 := by simp at h1; omega
    subst this
    rw [show (plcs c).take 5 = plcs c from rfl]
    have hn14 : (list9 c ++ strsF 0 (plcs c)).length = 14 := rfl
    have ht14 : ((list9 c ++ strsF 0 (plcs c)).map octP).take 14 = (list9 c ++ strsF 0 (plcs c)).map octP := List.take_of_length_le (by rw [List.length_map, hn14]; exact Nat.le_refl _)
    have hsq := seq8_fv WG 128 (list9 c ++ strsF 0 (plcs c)) hsm
    rw [octP_mk] at hsq
    refine T_freeze 3 ?_
    simp only [frzS, frzE, frzL, frzT, frzB, frz1, push_cast, reduceIte, Nat.reduceMul, Nat.reduceEqDiff, Nat.reduceAdd, Nat.reduceLT, Nat.reduceLeDiff, reduceCtorEq, Int.reduceToNat, hn14, ht14, Nat.le_refl, if_true]
    refine T_fin ?_
    simp only [push_cast, reduceIte, Nat.reduceMul, Nat.reduceEqDiff, Nat.reduceAdd, Nat.reduceLT, Nat.reduceLeDiff, reduceCtorEq, Int.reduceToNat]
    refine hsq.call rfl ?_
    simp only [push_cast, reduceIte, Nat.reduceMul, Nat.reduceEqDiff, Nat.reduceAdd, Nat.reduceLT, Nat.reduceLeDiff, reduceCtorEq, Int.reduceToNat]
    rw [body_list, seqO, octP_mk]
end Go.Proofs.YtgekglfmianoeaaGreatDoor

namespace Go.Proofs.YtgekglfmianoeaaGreatDoor
open Go Go.Gp
theorem soft_nilB (b : Prop) [Decidable b] (l : List UInt8) (e : V) : SoftW (.tup [if b then .p (.sl 1 (bytesP l)) else .p (.v (.slice none 0 0)), e]) (.tup [.p (.sl 1 (bytesP (if b then l else []))), e]) := by
  by_cases h : b
  · simp only [h, if_true]; exact .refl
  · simp only [h, if_false]
    exact soft_tup2 (.p .nil)
theorem pure_nilB (b : Prop) [Decidable b] (l : List UInt8) (e : Int) : pureR (.tup [if b then .p (.sl 1 (bytesP l)) else .p (.v (.slice none 0 0)), vI e]) = true := by
  by_cases h : b <;> simp [h, Gp.pureR, isP]
set_option maxHeartbeats 16000000 in
theorem certEncode_fv (WG : World) (g : GW WG) (ge : GE WG) (c : Crt) (hp : PreD c) (hs : SmallC c) : FV Tryz.prog WG 10 [crtP c] (.tup [.p (.sl 1 (bytesP (if chkC c = 0 then enc (wholeO c) else []))), vI (chkC c)]) := by
  have i1 := hs.issuer
  have i2 := hs.subject
  have hck := certCheck_fv WG g ge c hs.toOkC (by omega) (by omega)
  refine FV.softR (r := .tup [if chkC c = 0 then .p (.sl 1 (bytesP (enc (wholeO c)))) else .p (.v (.slice none 0 0)), vI (chkC c)]) ?_ (soft_nilB _ _ _)
  refine CallT.pure (pure_nilB _ _ _) (CallT_fnT Tryz.func10 (rs := [.tmp 2, .tmp 3]) (n := 36) rfl rfl (Nat.le_of_ble_eq_true rfl) rfl ?_)
  refine T_seqC ?_
  simp only [push_cast, reduceIte, Nat.reduceMul, Nat.reduceEqDiff, Nat.reduceAdd, Nat.reduceLT, Nat.reduceLeDiff, reduceCtorEq, Int.reduceToNat]
  refine T_seqC ?_
  simp only [push_cast, reduceIte, Nat.reduceMul, Nat.reduceEqDiff, Nat.reduceAdd, Nat.reduceLT, Nat.reduceLeDiff, reduceCtorEq, Int.reduceToNat]
  refine hck.call rfl ?_
  simp only [push_cast, reduceIte, Nat.reduceMul, Nat.reduceEqDiff, Nat.reduceAdd, Nat.reduceLT, Nat.reduceLeDiff, reduceCtorEq, Int.reduceToNat]
  refine ⟨fun h => ?_, fun h => ?_⟩
  · have h : ¬ chkC c = 0 := by simpa using h
    simp only [if_neg h]
  · have h : chkC c = 0 := by simpa using h
    obtain ⟨hT, hS⟩ := bounds_of hp h
    have hbd := body_fv WG c hT
    have hen := encode8_fv WG (wholeO c) (smallV (wholeO_vd hT hS) (by omega)) (Nat.lt_of_le_of_lt (wholeO_vd hT hS).depth (by omega))
    rw [(chkO_zero _).2 (wholeO_valid hT hS), if_pos rfl] at hen
    have hi := hS.index
    have w1 : IntKind.u64.wrap c.sig.index = (c.sig.index.toNat : Int) := by rw [wrap_u64 _ (by omega) (by omega)]; omega
    have n1 := num8_fv WG 1 c.sig.index.toNat (by omega)
    have n2 := joinC_fv WG c.sig.chains hS.chains (by have := hS.nc; omega)
    have n3 := str8_fv WG 2 (baL (joinB c.sig.chains))
    have n4 := joinC_fv WG c.sig.path hS.path (by have := hS.np; omega)
    have n5 := str8_fv WG 3 (baL (joinB c.sig.path))
    have n6 := seq8_fv WG 131 [numO 1 c.sig.index.toNat, strO 2 (joinB c.sig.chains), strO 3 (joinB c.sig.path)] (smallV (sigO_vd hS) (by omega))
    have n7 := seq8_fv WG 132 [bodyO c, sigO c.sig] (smallV (wholeO_vd hT hS) (by omega))
    have hv := octP_eta (bodyO c)
    have e1 : octP (sigO c.sig) = octP (.mk 131 [] [numO 1 c.sig.index.toNat, strO 2 (joinB c.sig.chains), strO 3 (joinB c.sig.path)]) := rfl
    have e2 : octP (wholeO c) = octP (.mk 132 [] [bodyO c, sigO c.sig]) := rfl
    rw [e2] at hen
    simp only [List.map_cons, List.map_nil, numO, strO, octP_mk] at n1 n3 n5 n6 n7 hen e1
    simp only [hv, e1] at hbd n7 hen
    refine T_seqC ?_
    refine T_drawS [17, 18] [(2, 18), (3, 18), (7, 18), (12, 18)] mixed (by kernel_rfl) ?_
    simp only [push_cast, reduceIte, Nat.reduceMul, Nat.reduceEqDiff, Nat.reduceAdd, Nat.reduceLT, Nat.reduceLeDiff, reduceCtorEq, Int.reduceToNat, w1]
    refine ⟨_, n1.v rfl, ?_⟩
    simp only [push_cast, reduceIte, Nat.reduceMul, Nat.reduceEqDiff, Nat.reduceAdd, Nat.reduceLT, Nat.reduceLeDiff, reduceCtorEq, Int.reduceToNat]
    refine ⟨_, n2.v rfl, ?_⟩
    simp only [push_cast, reduceIte, Nat.reduceMul, Nat.reduceEqDiff, Nat.reduceAdd, Nat.reduceLT, Nat.reduceLeDiff, reduceCtorEq, Int.reduceToNat]
    refine ⟨_, n3.v rfl, ?_⟩
    simp only [push_cast, reduceIte, Nat.reduceMul, Nat.reduceEqDiff, Nat.reduceAdd, Nat.reduceLT, Nat.reduceLeDiff, reduceCtorEq, Int.reduceToNat]
    refine ⟨_, n4.v rfl, ?_⟩
    simp only [push_cast, reduceIte, Nat.reduceMul, Nat.reduceEqDiff, Nat.reduceAdd, Nat.reduceLT, Nat.reduceLeDiff, reduceCtorEq, Int.reduceToNat]
    refine ⟨_, n5.v rfl, ?_⟩
    simp only [push_cast, reduceIte, Nat.reduceMul, Nat.reduceEqDiff, Nat.reduceAdd, Nat.reduceLT, Nat.reduceLeDiff, reduceCtorEq, Int.reduceToNat]
    refine ⟨_, n6.v rfl, ?_⟩
    simp only [push_cast, reduceIte, Nat.reduceMul, Nat.reduceEqDiff, Nat.reduceAdd, Nat.reduceLT, Nat.reduceLeDiff, reduceCtorEq, Int.reduceToNat]
    refine ⟨by rw [w1], T_seqC ?_⟩
    refine T_drawL [] mixed (by kernel_rfl) ?_
    simp only [push_cast, reduceIte, Nat.reduceMul, Nat.reduceEqDiff, Nat.reduceAdd, Nat.reduceLT, Nat.reduceLeDiff, reduceCtorEq, Int.reduceToNat]
    refine ⟨_, hbd.v rfl, Hold.intro ?_⟩
    simp only [push_cast, reduceIte, Nat.reduceMul, Nat.reduceEqDiff, Nat.reduceAdd, Nat.reduceLT, Nat.reduceLeDiff, reduceCtorEq, Int.reduceToNat]
    refine ⟨_, n7.v rfl, Hold.intro ?_⟩
    simp only [push_cast, reduceIte, Nat.reduceMul, Nat.reduceEqDiff, Nat.reduceAdd, Nat.reduceLT, Nat.reduceLeDiff, reduceCtorEq, Int.reduceToNat]
    refine ⟨_, hen.v rfl, Hold.intro ?_⟩
    simp only [push_cast, reduceIte, Nat.reduceMul, Nat.reduceEqDiff, Nat.reduceAdd, Nat.reduceLT, Nat.reduceLeDiff, reduceCtorEq, Int.reduceToNat]
    refine T_fin ?_
    simp only [push_cast, reduceIte, Nat.reduceMul, Nat.reduceEqDiff, Nat.reduceAdd, Nat.reduceLT, Nat.reduceLeDiff, reduceCtorEq, Int.reduceToNat, h, if_true]
end Go.Proofs.YtgekglfmianoeaaGreatDoor
