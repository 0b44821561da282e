/-
  Signed objects: structures, kinds, checks.
  Signed objects: compared, copied, large ones.
  A copy of a signed object is spoilt; the law of checks; arguments as objects.
  Signed objects as octets; what Decode gives. No program in sight.
  Signed objects encoded: digests joined and split, the body, Body, Encode.
  Signed objects: the body's octets, Body, Encode.
-/
import Derived.Test.YtgekglfmianoeaaGreatDoorCF
import Derived.Test.YtgekglfmianoeaaGreatDoorOB
import Derived.Test.YtgekglfmianoeaaGreatDoorCD
import Derived.Test.YtgekglfmianoeaaGreatDoorCC
import Derived.Test.YtgekglfmianoeaaGreatDoorPE
import Derived.Test.YtgekglfmianoeaaGreatDoorPB
import Derived.Test.YtgekglfmianoeaaGreatDoorPC
import Derived.Test.YtgekglfmianoeaaGreatDoorKE
set_option linter.unusedSimpArgs false
set_option linter.unusedVariables false
set_option maxRecDepth 20000
namespace Go.Proofs.YtgekglfmianoeaaGreatDoor
open Go Go.Gp
structure Sgn where
  kind : Nat
  content : List UInt8
  ee : Crt
  sig : Sig
abbrev sgnP (s : Sgn) : PV := .agg [pU8 s.kind, .sl 1 (bytesP s.content), pU64 s.ee.serial, pS s.ee.issuer, pS s.ee.subject, pI s.ee.frm, pI s.ee.til, pU8 (s.ee.root 0), pU8 (s.ee.root 1), pU8 (s.ee.root 2), pU8 (s.ee.root 3), pU8 (s.ee.root 4), pU8 (s.ee.root 5), pU8 (s.ee.root 6), pU8 (s.ee.root 7), pU8 (s.ee.root 8), pU8 (s.ee.root 9), pU8 (s.ee.root 10), pU8 (s.ee.root 11), pU8 (s.ee.root 12), pU8 (s.ee.root 13), pU8 (s.ee.root 14), pU8 (s.ee.root 15), pI s.ee.height, pB s.ee.ca, pB s.ee.inherit, spansP s.ee.res.v4, spansP s.ee.res.v6, .sl 2 (s.ee.res.as_.map asP), pS s.ee.repo, pS s.ee.manifest, pS s.ee.notify, pS s.ee.crl, pS s.ee.parent, pI s.ee.sig.index, shortsP s.ee.sig.chains, shortsP s.ee.sig.path, pI s.sig.index, shortsP s.sig.chains, shortsP s.sig.path]
abbrev boxG (s : Sgn) : List V := [.p (pU8 s.kind), .p (.sl 1 (bytesP s.content)), .p (pU64 s.ee.serial), .p (pS s.ee.issuer), .p (pS s.ee.subject), .p (pI s.ee.frm), .p (pI s.ee.til), .p (pU8 (s.ee.root 0)), .p (pU8 (s.ee.root 1)), .p (pU8 (s.ee.root 2)), .p (pU8 (s.ee.root 3)), .p (pU8 (s.ee.root 4)), .p (pU8 (s.ee.root 5)), .p (pU8 (s.ee.root 6)), .p (pU8 (s.ee.root 7)), .p (pU8 (s.ee.root 8)), .p (pU8 (s.ee.root 9)), .p (pU8 (s.ee.root 10)), .p (pU8 (s.ee.root 11)), .p (pU8 (s.ee.root 12)), .p (pU8 (s.ee.root 13)), .p (pU8 (s.ee.root 14)), .p (pU8 (s.ee.root 15)), .p (pI s.ee.height), .p (pB s.ee.ca), .p (pB s.ee.inherit), .p (spansP s.ee.res.v4), .p (spansP s.ee.res.v6), .p (.sl 2 (s.ee.res.as_.map asP)), .p (pS s.ee.repo), .p (pS s.ee.manifest), .p (pS s.ee.notify), .p (pS s.ee.crl), .p (pS s.ee.parent), .p (pI s.ee.sig.index), .p (shortsP s.ee.sig.chains), .p (shortsP s.ee.sig.path), .p (pI s.sig.index), .p (shortsP s.sig.chains), .p (shortsP s.sig.path)]
structure OkG (s : Sgn) : Prop where
  ee : OkC s.ee
  sig : OkS s.sig
  content : s.content.length < 1000000

def goodB (s : KSig) : Bool := !signedB s || decide (sigI s.path.length s = 0)
set_option maxHeartbeats 4000000 in
theorem good12_fv (WG : World) (s : KSig) : FV Tryz.prog WG 74 [sigP s] (vB (goodB s)) := by
  refine CallT.pure rfl (CallT_fn Tryz.func74 (rs := [.tmp 2]) (n := 26) rfl rfl (Nat.le_of_ble_eq_true rfl) rfl ?_)
  simp only [push_cast, reduceIte, Nat.reduceMul, Nat.reduceEqDiff, Nat.reduceAdd, Nat.reduceLT, Nat.reduceLeDiff, reduceCtorEq, Int.reduceToNat]
  refine ⟨_, fun _ => (mCheck_fv WG s.path.length s).q rfl, ?_⟩
  simp only [push_cast, reduceIte, Nat.reduceMul, Nat.reduceEqDiff, Nat.reduceAdd, Nat.reduceLT, Nat.reduceLeDiff, reduceCtorEq, Int.reduceToNat]
  have e : ∀ n : Nat, decide ((n : Int) = 0) = !decide ((0 : Int) < n) := fun n => by
    cases n with
    | zero => rfl
    | succ n => simp; omega
  rw [e, e, goodB, signedB, Bool.not_or, Bool.not_or, Bool.not_not]

def kindsM : List (Value × PV) := mset (mset (mset [] (.int .u8 1) (.v (.bool true))) (.int .u8 2) (.v (.bool true))) (.int .u8 3) (.v (.bool true))
def kindB (k : Nat) : Bool := decide (k = 1) || decide (k = 2) || decide (k = 3)
theorem kinds_get (k : Nat) : mget kindsM (.int .u8 k) (.v (.bool false)) = .v (.bool (kindB k)) := by
  by_cases h1 : k = 1
  · subst h1; rfl
  by_cases h2 : k = 2
  · subst h2; rfl
  by_cases h3 : k = 3
  · subst h3; rfl
  have e : kindB k = false := by simp [kindB, h1, h2, h3]
  rw [e]
  have g1 : ¬ (k : Int) = 1 := by omega
  have g2 : ¬ (k : Int) = 2 := by omega
  have g3 : ¬ (k : Int) = 3 := by omega
  simp [kindsM, mget, mfind, mset, keyEq, g1, g2, g3]
set_option maxHeartbeats 4000000 in
theorem kinds_ct0 (WG : World) : CallT Tryz.prog WG 73 ([].map .p) [] 0 (fun r t n => r = .mp 0 ∧ t = [(0, .mp (some .u8) kindsM)] ∧ n = 1) noP := by
  refine CallT_fn Tryz.func73 (rs := [.tmp 0]) (n := 3) rfl rfl (Nat.le_of_ble_eq_true rfl) rfl ?_
  simp only [push_cast, reduceIte, Nat.reduceMul, Nat.reduceEqDiff, Nat.reduceAdd, Nat.reduceLT, Nat.reduceLeDiff, reduceCtorEq, Int.reduceToNat]
  rfl
theorem kinds_ct (WG : World) (tab : Tab) (nx : Nat) : CallT Tryz.prog WG 73 [] tab nx (fun r t n => r = .mp nx ∧ t = tab ++ [(nx, .mp (some .u8) kindsM)] ∧ n = nx + 1) noP :=
  (kinds_ct0 WG).frame (ps := []) (fun r t n ⟨h1, h2, h3⟩ => by subst h1 h2 h3; simp [V.sh, tsh, Blk.sh]) (fun _ _ _ h => h)

set_option maxHeartbeats 4000000 in
theorem or_fv (WG : World) (a b : Int) : FV Tryz.prog WG 50 [.sl 1 [pI a, pI b]] (vI (if a ≠ 0 then a else b)) := by
  refine CallT.pure rfl (CallT_fn Tryz.func50 (rs := [.tmp 2]) (n := 18) rfl rfl (Nat.le_of_ble_eq_true rfl) rfl ?_)
  simp only [push_cast, reduceIte, Nat.reduceMul, Nat.reduceEqDiff, Nat.reduceAdd, Nat.reduceLT, Nat.reduceLeDiff, reduceCtorEq, Int.reduceToNat]
  refine T_loopS (fun i : Nat => ⟨[(0, .p (.sl 1 [pI a, pI b])), (2, vI 0), (3, vI 0), (6, .p (.sl 1 [pI a, pI b])), (7, vI 2), (8, vI i)], [], 0, 0, 18⟩) (fun i => i ≤ 2 ∧ (1 ≤ i → a = 0) ∧ (2 ≤ i → b = 0)) (fun i => 2 - i) 0 ⟨by omega, by omega, by omega⟩ (by simp [Le, subE, aget]) (fun i hi => ?_)
  obtain ⟨hi, ha, hb⟩ := hi
  simp only [push_cast, reduceIte, Nat.reduceMul, Nat.reduceEqDiff, Nat.reduceAdd, Nat.reduceLT, Nat.reduceLeDiff, reduceCtorEq, Int.reduceToNat]
  refine ⟨fun h1 => ?_, fun h1 => ?_⟩
  · have h2 : i < 2 := by simp at h1; omega
    obtain ⟨x, hg, hx⟩ : ∃ x, ([.v (.int .i64 a), .v (.int .i64 b)] : List PV)[i]? = some (.v (.int .i64 x)) ∧ ((i = 0 ∧ x = a) ∨ (i = 1 ∧ x = b)) := by
      have hc : i = 0 ∨ i = 1 := by omega
      rcases hc with rfl | rfl
      · exact ⟨a, rfl, .inl ⟨rfl, rfl⟩⟩
      · exact ⟨b, rfl, .inr ⟨rfl, rfl⟩⟩
    simp only [push_cast, reduceIte, Nat.reduceMul, Nat.reduceEqDiff, Nat.reduceAdd, Nat.reduceLT, Nat.reduceLeDiff, reduceCtorEq, Int.reduceToNat, hg]
    refine ⟨by omega, fun h3 => ?_, fun h3 => ⟨i + 1, ⟨by omega, ?_, ?_⟩, by omega, ?_⟩⟩
    · have h4 : ¬ x = 0 := by simpa using h3
      rcases hx with ⟨rfl, rfl⟩ | ⟨rfl, rfl⟩
      · rw [if_pos h4]
      · rw [if_neg (by have := ha (by omega); omega)]
    · intro _
      have h4 : x = 0 := by simpa using h3
      rcases hx with ⟨rfl, rfl⟩ | ⟨rfl, rfl⟩
      · exact h4
      · exact ha (by omega)
    · intro h5
      have h4 : x = 0 := by simpa using h3
      rcases hx with ⟨rfl, rfl⟩ | ⟨rfl, rfl⟩
      · omega
      · exact h4
    · simp [Le, subE, aget, wrap_i64 (i + 1) (by omega) (by omega)]
  · have h2 : i = 2 := by simp at h1; omega
    subst h2
    have := ha (by omega)
    have := hb (by omega)
    subst a b
    rfl
set_option maxHeartbeats 4000000 in
theorem first_fv (WG : World) (a b : Int) : FV Tryz.prog WG 58 [.sl 1 [pI a, pI b]] (vI (if a ≠ 0 then a else b)) := by
  refine CallT.pure rfl (CallT_fn Tryz.func58 (rs := [.tmp 2]) (n := 5) rfl rfl (Nat.le_of_ble_eq_true rfl) rfl ?_)
  simp only [push_cast, reduceIte, Nat.reduceMul, Nat.reduceEqDiff, Nat.reduceAdd, Nat.reduceLT, Nat.reduceLeDiff, reduceCtorEq, Int.reduceToNat]
  refine (or_fv WG a b).call rfl ?_
  simp only [push_cast, reduceIte, Nat.reduceMul, Nat.reduceEqDiff, Nat.reduceAdd, Nat.reduceLT, Nat.reduceLeDiff, reduceCtorEq, Int.reduceToNat]

def chkG (s : Sgn) : Int := if (32768 : Int) < s.content.length then 4 else if chkC s.ee ≠ 0 then chkC s.ee else if kindB s.kind && goodB (kS s.sig) then 0 else 8
set_option maxHeartbeats 16000000 in
theorem chk12_fv (WG : World) (g : GW WG) (ge : GE WG) (s : Sgn) (h : OkG s) (hi : s.ee.issuer.size < 1000000) (hs : s.ee.subject.size < 1000000) : FV Tryz.prog WG 30 [sgnP s] (vI (chkG s)) := by
  refine CallT.pure rfl (CallT_fnT Tryz.func30 (rs := [.tmp 2]) (n := 25) rfl rfl (Nat.le_of_ble_eq_true rfl) rfl ?_)
  refine T_seqC ?_
  simp only [push_cast, reduceIte, Nat.reduceMul, Nat.reduceEqDiff, Nat.reduceAdd, Nat.reduceLT, Nat.reduceLeDiff, reduceCtorEq, Int.reduceToNat]
  refine T_seqC ?_
  simp only [push_cast, reduceIte, Nat.reduceMul, Nat.reduceEqDiff, Nat.reduceAdd, Nat.reduceLT, Nat.reduceLeDiff, reduceCtorEq, Int.reduceToNat, bytesP_length]
  refine ⟨fun h1 => ?_, fun h1 => ?_⟩
  · rw [chkG, if_pos (by simpa using h1)]
  have h1 : ¬ (32768 : Int) < s.content.length := by simpa using h1
  refine T_seqC ?_
  simp only [push_cast, reduceIte, Nat.reduceMul, Nat.reduceEqDiff, Nat.reduceAdd, Nat.reduceLT, Nat.reduceLeDiff, reduceCtorEq, Int.reduceToNat]
  refine T_seqC ?_
  refine wpC_sound _ _ _ ?_
  simp only [push_cast, reduceIte, Nat.reduceMul, Nat.reduceEqDiff, Nat.reduceAdd, Nat.reduceLT, Nat.reduceLeDiff, reduceCtorEq, Int.reduceToNat]
  refine T_drawS [0] [(2, 0)] mixed (by kernel_rfl) ?_
  simp only [push_cast, reduceIte, Nat.reduceMul, Nat.reduceEqDiff, Nat.reduceAdd, Nat.reduceLT, Nat.reduceLeDiff, reduceCtorEq, Int.reduceToNat]
  refine ⟨_, _, _, kinds_ct WG _ _, ?_⟩
  simp only [push_cast, reduceIte, Nat.reduceMul, Nat.reduceEqDiff, Nat.reduceAdd, Nat.reduceLT, Nat.reduceLeDiff, reduceCtorEq, Int.reduceToNat, kinds_get]
  refine ⟨_, fun _ => (good12_fv WG (kS s.sig)).v rfl, ?_⟩
  simp only [push_cast, reduceIte, Nat.reduceMul, Nat.reduceEqDiff, Nat.reduceAdd, Nat.reduceLT, Nat.reduceLeDiff, reduceCtorEq, Int.reduceToNat, kinds_get]
  refine ⟨fun h2 => ?_, fun h2 => ?_⟩
  · refine T_fin ?_
    simp only [push_cast, reduceIte, Nat.reduceMul, Nat.reduceEqDiff, Nat.reduceAdd, Nat.reduceLT, Nat.reduceLeDiff, reduceCtorEq, Int.reduceToNat]
    refine (certCheck_fv WG g ge s.ee h.ee hi hs).call rfl ?_
    simp only [push_cast, reduceIte, Nat.reduceMul, Nat.reduceEqDiff, Nat.reduceAdd, Nat.reduceLT, Nat.reduceLeDiff, reduceCtorEq, Int.reduceToNat]
    refine CallT.mono (CallT.borrow (first_fv WG (chkC s.ee) 8) rfl (by simp [snapT, snap, snapL, snap1, aget])) (fun r t n hq => ?_) (fun _ _ _ h => h.elim)
    obtain ⟨rfl, rfl, rfl⟩ := hq
    simp only [push_cast, reduceIte, Nat.reduceMul, Nat.reduceEqDiff, Nat.reduceAdd, Nat.reduceLT, Nat.reduceLeDiff, reduceCtorEq, Int.reduceToNat]
    have hk : (kindB s.kind && goodB (kS s.sig)) = false := by
      cases q1 : kindB s.kind <;> cases q2 : goodB (kS s.sig) <;> simp_all
    rw [chkG, if_neg h1, hk]
    rfl
  · refine T_fin ?_
    simp only [push_cast, reduceIte, Nat.reduceMul, Nat.reduceEqDiff, Nat.reduceAdd, Nat.reduceLT, Nat.reduceLeDiff, reduceCtorEq, Int.reduceToNat]
    refine (certCheck_fv WG g ge s.ee h.ee hi hs).call rfl ?_
    simp only [push_cast, reduceIte, Nat.reduceMul, Nat.reduceEqDiff, Nat.reduceAdd, Nat.reduceLT, Nat.reduceLeDiff, reduceCtorEq, Int.reduceToNat]
    refine CallT.mono (CallT.borrow (first_fv WG (chkC s.ee) 0) rfl (by simp [snapT, snap, snapL, snap1, aget])) (fun r t n hq => ?_) (fun _ _ _ h => h.elim)
    obtain ⟨rfl, rfl, rfl⟩ := hq
    simp only [push_cast, reduceIte, Nat.reduceMul, Nat.reduceEqDiff, Nat.reduceAdd, Nat.reduceLT, Nat.reduceLeDiff, reduceCtorEq, Int.reduceToNat]
    have hk : (kindB s.kind && goodB (kS s.sig)) = true := by
      cases q1 : kindB s.kind <;> cases q2 : goodB (kS s.sig) <;> simp_all
    rw [chkG, if_neg h1, hk]
    rfl
end Go.Proofs.YtgekglfmianoeaaGreatDoor

namespace Go.Proofs.YtgekglfmianoeaaGreatDoor
open Go Go.Gp
def sameG (a b : Sgn) : Bool := decide ((a.kind : Int) = b.kind) && decide (a.content = b.content) && sameC a.ee b.ee && sameS a.sig b.sig
set_option maxHeartbeats 16000000 in
theorem rSame12_fv (WG : World) (a b : Sgn) (ha : OkG a) (hb : OkG b) : FV Tryz.prog WG 27 [sgnP a, sgnP b] (vB (sameG a b)) := by
  refine CallT.pure rfl (CallT_fnT Tryz.func27 (rs := [.tmp 4]) (n := 31) rfl rfl (Nat.le_of_ble_eq_true rfl) rfl ?_)
  refine T_seqC ?_
  simp only [push_cast, reduceIte, Nat.reduceMul, Nat.reduceEqDiff, Nat.reduceAdd, Nat.reduceLT, Nat.reduceLeDiff, reduceCtorEq, Int.reduceToNat]
  refine T_fin ?_
  simp only [push_cast, reduceIte, Nat.reduceMul, Nat.reduceEqDiff, Nat.reduceAdd, Nat.reduceLT, Nat.reduceLeDiff, reduceCtorEq, Int.reduceToNat]
  refine ⟨_, fun _ => (sameBytes_fv WG a.content b.content ha.content).q rfl, ?_⟩
  simp only [push_cast, reduceIte, Nat.reduceMul, Nat.reduceEqDiff, Nat.reduceAdd, Nat.reduceLT, Nat.reduceLeDiff, reduceCtorEq, Int.reduceToNat]
  refine ⟨_, fun _ => (rCertSame_fv WG a.ee b.ee ha.ee hb.ee).q rfl, ?_⟩
  simp only [push_cast, reduceIte, Nat.reduceMul, Nat.reduceEqDiff, Nat.reduceAdd, Nat.reduceLT, Nat.reduceLeDiff, reduceCtorEq, Int.reduceToNat]
  refine ⟨_, fun _ => (rSameSig_fv WG a.sig b.sig ha.sig hb.sig).q rfl, ?_⟩
  simp only [push_cast, reduceIte, Nat.reduceMul, Nat.reduceEqDiff, Nat.reduceAdd, Nat.reduceLT, Nat.reduceLeDiff, reduceCtorEq, Int.reduceToNat, sameG]

def greatG (s : Sgn) : Bool := decide ((33000 : Int) < s.content.length) || greatC s.ee || greatS (kS s.sig)
set_option maxHeartbeats 8000000 in
theorem rGreat12_fv (WG : World) (s : Sgn) : FV Tryz.prog WG 19 [sgnP s] (vB (greatG s)) := by
  refine CallT.pure rfl (CallT_fn Tryz.func19 (rs := [.tmp 2]) (n := 17) rfl rfl (Nat.le_of_ble_eq_true rfl) rfl ?_)
  simp only [push_cast, reduceIte, Nat.reduceMul, Nat.reduceEqDiff, Nat.reduceAdd, Nat.reduceLT, Nat.reduceLeDiff, reduceCtorEq, Int.reduceToNat, bytesP_length]
  refine ⟨_, fun _ => (rGreat_fv WG s.ee).q rfl, ?_⟩
  simp only [push_cast, reduceIte, Nat.reduceMul, Nat.reduceEqDiff, Nat.reduceAdd, Nat.reduceLT, Nat.reduceLeDiff, reduceCtorEq, Int.reduceToNat]
  refine ⟨_, fun _ => (greatSig_fv WG (kS s.sig)).q rfl, ?_⟩
  simp only [push_cast, reduceIte, Nat.reduceMul, Nat.reduceEqDiff, Nat.reduceAdd, Nat.reduceLT, Nat.reduceLeDiff, reduceCtorEq, Int.reduceToNat, greatG]

end Go.Proofs.YtgekglfmianoeaaGreatDoor

namespace Go.Proofs.YtgekglfmianoeaaGreatDoor
open Go Go.Gp Go.RowKit
theorem sameG_self (a : Sgn) : sameG a a = true := by
  simp [sameG, sameC_self, sameS]
theorem byte_list {xs : List PV} (h : ∀ x ∈ xs, SInt .u8 x) : ∃ l : List UInt8, xs = bytesP l := by
  obtain ⟨l, rfl, _⟩ := list_of (f := byteP) (Q := fun _ => True) (fun p hp => by
    obtain ⟨n, rfl, hn⟩ := int_of hp rfl
    have e : IntKind.u8.max = 255 := by decide
    rw [e] at hn
    exact ⟨UInt8.ofNat n, by simp only [byteP, ou8_nat (show n < 256 by omega)], trivial⟩) h
  exact ⟨l, rfl⟩
end Go.Proofs.YtgekglfmianoeaaGreatDoor

namespace Go.Proofs.YtgekglfmianoeaaGreatDoor
open Go Go.Gp
theorem lenB_small {n : Nat} (h : n < 128) : (lenB n).length = 1 := by rw [lenB_len, if_pos h]
theorem Vd.num10 {t : UInt8} {x : Nat} (hx : x < 18446744073709551616) (ht : t.toNat < 128) (h0 : t ≠ 0) (d : Nat) : Vd (numO t x) 1 (d + 1) 10 := by
  have h := Vd.num (t := t) x ht h0 d
  refine ⟨h.count, h.depth, h.shape, h.tags, ?_⟩
  have hb := numB_le8 hx
  have hl := lenB_small (n := (numB x).length + sizeL []) (by simp only [sizeL]; omega)
  simp only [numO, sizeO, sizeL, Nat.add_zero] at hl ⊢
  omega
theorem Vd.seq2 {t : UInt8} {l : List Oct} {n d s : Nat} (ht : 128 ≤ t.toNat) (hs : s < 128) (h : VdL l n d s) : Vd (seqO t l) (n + 1) (d + 1) (s + 2) := by
  have k := Vd.seq ht h
  refine ⟨k.count, k.depth, k.shape, k.tags, ?_⟩
  have hz := h.size
  have hl := lenB_small (n := ([] : List UInt8).length + sizeL l) (by simp only [List.length_nil]; omega)
  simp only [seqO, sizeO, List.length_nil, Nat.zero_add] at hl ⊢
  omega
theorem spanO_vd2 {s : Nat × Nat} (h : s.1 < 340282366920938463463374607431768211456 ∧ s.2 < 340282366920938463463374607431768211456) : Vd (spanO s) 5 2 42 :=
  Vd.seq2 (by decide) (by omega) (VdL.cons (Vd.num10 (hiN_lt h.1) (by decide) (by decide) 0) (VdL.cons (Vd.num10 (loN_lt s.1) (by decide) (by decide) 0) (VdL.cons (Vd.num10 (hiN_lt h.2) (by decide) (by decide) 0) (VdL.cons (Vd.num10 (loN_lt s.2) (by decide) (by decide) 0) VdL.nil))))
theorem asO_vd2 {s : Nat × Nat} (h : s.1 < 4294967296 ∧ s.2 < 4294967296) : Vd (asO s) 3 2 22 :=
  Vd.seq2 (by decide) (by omega) (VdL.cons (Vd.num10 (by omega) (by decide) (by decide) 0) (VdL.cons (Vd.num10 (by omega) (by decide) (by decide) 0) VdL.nil))
theorem resO_vd2 {c : Crt} (h : BodyT c) : Vd (resO c.res) 2610 4 21220 := by
  have h4 := h.n4
  have h6 := h.n6
  have ha := h.nas
  have k1 : Vd (seqO 129 (c.res.v4.map spanO)) _ _ _ := Vd.seq (by decide) (VdL.map fun s hs => spanO_vd2 (h.v4 s hs))
  have k2 : Vd (seqO 129 (c.res.v6.map spanO)) _ _ _ := Vd.seq (by decide) (VdL.map fun s hs => spanO_vd2 (h.v6 s hs))
  have k3 : Vd (seqO 129 (c.res.as_.map asO)) _ _ _ := Vd.seq (by decide) (VdL.map fun s hs => asO_vd2 (h.as_ s hs))
  exact (Vd.seq (by decide) (VdL.cons k1 (VdL.cons k2 (VdL.cons k3 VdL.nil)))).mono (by omega) (by omega) (by omega)
theorem bodyO_vd2 {c : Crt} (h : BodyT c) : Vd (bodyO c) 2700 5 23000 := by
  have h1 := h.issuer
  have h2 := h.subject
  have h3 := h.repo
  have h4 := h.manifest
  have h5 := h.notify
  have h6 := h.crl
  have h7 := h.parent
  have hr : (joinB [rootL c.root]).length = 16 := by rw [joinB_len _ (by intro x hx; obtain rfl := List.mem_singleton.1 hx; rfl)]; rfl
  rw [← bsL_len] at h1 h2 h3 h4 h5 h6 h7
  refine (Vd.seq (d := 4) (by decide) (VdL.cons (Vd.num _ (by decide) (by decide) 3) (VdL.cons (Vd.str (by decide) (by decide) 3) (VdL.cons (Vd.str (by decide) (by decide) 3) (VdL.cons (Vd.num _ (by decide) (by decide) 3) (VdL.cons (Vd.num _ (by decide) (by decide) 3)
    (VdL.cons (Vd.str (by decide) (by decide) 3) (VdL.cons (Vd.num _ (by decide) (by decide) 3) (VdL.cons (Vd.num _ (by decide) (by decide) 3) (VdL.cons (resO_vd2 h) (VdL.cons (Vd.str (by decide) (by decide) 3) (VdL.cons (Vd.str (by decide) (by decide) 3)
    (VdL.cons (Vd.str (by decide) (by decide) 3) (VdL.cons (Vd.str (by decide) (by decide) 3) (VdL.cons (Vd.str (by decide) (by decide) 3) VdL.nil))))))))))))))).mono (by omega) (by omega) (by omega)
theorem wholeO_vd2 {c : Crt} (h : BodyT c) (hs : SigT c.sig) : Vd (wholeO c) 2711 6 25005 := Vd.seq (by decide) (VdL.cons (bodyO_vd2 h) (VdL.cons (sigO_vd hs) VdL.nil))

def bodyG (s : Sgn) : Oct := seqO 136 [numO 1 s.kind, strO 2 s.content, numO 3 s.ee.serial, strO 4 (bsL s.ee.issuer), strO 5 (bsL s.ee.subject)]
def wholeG (s : Sgn) : Oct := seqO 137 [bodyG s, strO 6 (enc (wholeO s.ee)), sigO s.sig]
structure PreGD (s : Sgn) : Prop where
  ee : PreD s.ee
  chains : ∀ x ∈ s.sig.chains, x.length = 16 ∧ ∀ y ∈ x, y < 256
  path : ∀ x ∈ s.sig.path, x.length = 16 ∧ ∀ y ∈ x, y < 256
structure SgnT (s : Sgn) : Prop where
  content : s.content.length ≤ 32768
  body : BodyT s.ee
  esig : SigT s.ee.sig
  kind : 1 ≤ s.kind ∧ s.kind ≤ 3
  sig : SigT s.sig
theorem chkG_zero {s : Sgn} (h : chkG s = 0) : s.content.length ≤ 32768 ∧ chkC s.ee = 0 ∧ kindB s.kind = true ∧ goodB (kS s.sig) = true := by
  unfold chkG at h
  split at h
  · simp at h
  · split at h
    · contradiction
    · split at h
      · rename_i h1 h2 h3
        simp only [Bool.and_eq_true] at h3
        exact ⟨by omega, Decidable.not_not.1 h2, h3.1, h3.2⟩
      · simp at h
theorem boundsG {s : Sgn} (hp : PreGD s) (h : chkG s = 0) : SgnT s := by
  obtain ⟨h1, h2, h3, h4⟩ := chkG_zero h
  obtain ⟨hT, hS⟩ := bounds_of hp.ee h2
  have hc : PreD { s.ee with sig := s.sig } := { v4 := hp.ee.v4, v6 := hp.ee.v6, as_ := hp.ee.as_, chains := fun x hx => (hp.chains x hx).1, path := fun x hx => (hp.path x hx).1, serial := hp.ee.serial, root := hp.ee.root, cb := fun x hx => (hp.chains x hx).2, pb := fun x hx => (hp.path x hx).2 }
  have e : (kS s.sig).path.length = s.sig.path.length := by simp [kS]
  rw [goodB, e] at h4
  refine ⟨h1, hT, hS, ?_, sigT_of hc h4⟩
  simp only [kindB, Bool.or_eq_true, decide_eq_true_eq] at h3
  omega
theorem bodyG_vd {s : Sgn} (h : SgnT s) : Vd (bodyG s) 6 5 32896 := by
  have h1 := h.body.issuer
  have h2 := h.body.subject
  have h3 := h.content
  rw [← bsL_len] at h1 h2
  exact (Vd.seq (d := 4) (by decide) (VdL.cons (Vd.num _ (by decide) (by decide) 3) (VdL.cons (Vd.str (by decide) (by decide) 3) (VdL.cons (Vd.num _ (by decide) (by decide) 3) (VdL.cons (Vd.str (by decide) (by decide) 3) (VdL.cons (Vd.str (by decide) (by decide) 3) VdL.nil)))))).mono (by omega) (by omega) (by omega)
theorem wholeG_vd {s : Sgn} (h : SgnT s) : Vd (wholeG s) 18 6 59916 := by
  have hw := (wholeO_vd2 h.body h.esig).size
  rw [← enc_length] at hw
  exact (Vd.seq (d := 5) (by decide) (VdL.cons (bodyG_vd h) (VdL.cons (Vd.str (by decide) (by decide) 4) (VdL.cons (sigO_vd h.sig) VdL.nil)))).mono (by omega) (by omega) (by omega)
theorem bodyG_valid {s : Sgn} (h : SgnT s) : validO (bodyG s) = true := (bodyG_vd h).valid (by omega) (by omega) (by omega)
theorem wholeG_valid {s : Sgn} (h : SgnT s) : validO (wholeG s) = true := (wholeG_vd h).valid (by omega) (by omega) (by omega)

abbrev wG (v : Oct) : List Oct := getSeq 137 3 3 v
abbrev lG (v : Oct) : List Oct := getSeq 136 5 5 (atO (wG v) 0)
abbrev gG (v : Oct) : List Oct := getSeq 131 3 3 (atO (wG v) 2)
abbrev eG (v : Oct) : List UInt8 := getStr 6 65536 (atO (wG v) 1)
theorem wG_len (v : Oct) : (wG v).length = 3 := by have := getSeq_len (t := 137) (Nat.le_refl 3) v; exact Nat.le_antisymm this.2 this.1
theorem lG_len (v : Oct) : (lG v).length = 5 := by have := getSeq_len (t := 136) (Nat.le_refl 5) (atO (wG v) 0); exact Nat.le_antisymm this.2 this.1
theorem gG_len (v : Oct) : (gG v).length = 3 := by have := getSeq_len (t := 131) (Nat.le_refl 3) (atO (wG v) 2); exact Nat.le_antisymm this.2 this.1
theorem list5 {l : List Oct} (h : l.length = 5) : l = [atO l 0, atO l 1, atO l 2, atO l 3, atO l 4] := by
  match l, h with
  | [_, _, _, _, _], _ => rfl
def sG (v : Oct) (ee : Crt) : Sgn := ⟨getNum 1 3 (atO (lG v) 0), getStr 2 32768 (atO (lG v) 1), ee, sigD (gG v)⟩
def sameE (v : Oct) (ee : Crt) : Bool := decide (getNum 3 18446744073709551615 (atO (lG v) 2) = ee.serial) && decide (strD 4 40 (atO (lG v) 3) = ee.issuer) && decide (strD 5 40 (atO (lG v) 4) = ee.subject)
def okGv (v : Oct) : Bool := okSeq 137 3 3 v && okSeq 136 5 5 (atO (wG v) 0) && okSeq 131 3 3 (atO (wG v) 2) && okStr 6 65536 (atO (wG v) 1) && okSigD (gG v) && okNum 1 3 (atO (lG v) 0) && okStr 2 32768 (atO (lG v) 1) && okNum 3 18446744073709551615 (atO (lG v) 2) && okStr 4 40 (atO (lG v) 3) && okStr 5 40 (atO (lG v) 4)
def decG (b : List UInt8) : Option Sgn := match decO false b with
  | none => none
  | some v => match decC (eG v) with
    | none => none
    | some ee => if okGv v = true ∧ sameE v ee = true ∧ chkG (sG v ee) = 0 then some (sG v ee) else none
theorem O_okG {v : Oct} {ee : Crt} (h : okGv v = true) (he : decC (eG v) = some ee) (hs : sameE v ee = true) : wholeG (sG v ee) = v := by
  simp only [okGv, okSigD, Bool.and_eq_true] at h
  obtain ⟨⟨⟨⟨⟨⟨⟨⟨⟨h0, h1⟩, h2⟩, h3⟩, ⟨s0, s1⟩, s2⟩, h5⟩, h6⟩, h7⟩, h8⟩, h9⟩ := h
  simp only [sameE, Bool.and_eq_true, decide_eq_true_eq] at hs
  obtain ⟨⟨e1, e2⟩, e3⟩ := hs
  have hw := (decC_some he).2.2
  have eb : bodyG (sG v ee) = atO (wG v) 0 := by
    simp only [bodyG, sG, ← e1, ← e2, ← e3, strD, bsL_ba, O_okNum h5, O_okStr h6, O_okNum h7, O_okStr h8, O_okStr h9]
    rw [← list5 (l := lG v) (lG_len v), O_okSeq h1]
  have es : sigO (sG v ee).sig = atO (wG v) 2 := by
    simp only [sigO, sG, sigD, toNat_ofNat', O_okNum s0, O_okShorts s1, O_okShorts s2]
    rw [← list3 (l := gG v) (gG_len v), O_okSeq h2]
  have ee1 : strO 6 (enc (wholeO (sG v ee).ee)) = atO (wG v) 1 := by
    show strO 6 (enc (wholeO ee)) = _
    rw [hw, O_okStr h3]
  rw [wholeG, eb, es, ee1, ← list3 (l := wG v) (wG_len v), O_okSeq h0]
def rootG (s : Sgn) : Sgn := { s with ee := { s.ee with root := rootC' s.ee.root } }
theorem okG_O {s : Sgn} (hp : PreGD s) (h : chkG s = 0) : okGv (wholeG s) = true ∧ decC (eG (wholeG s)) = some (rootG s).ee ∧ sameE (wholeG s) (rootG s).ee = true ∧ sG (wholeG s) (rootG s).ee = rootG s := by
  have hT := boundsG hp h
  obtain ⟨q1, q2, q3, q4⟩ := chkG_zero h
  have hk := hT.kind
  have hw := (wholeO_vd2 hT.body hT.esig).size
  rw [← enc_length] at hw
  obtain ⟨e1, e2⟩ := okSeq_O 137 (lo := 3) (hi := 3) (l := [bodyG s, strO 6 (enc (wholeO s.ee)), sigO s.sig]) (by simp) (by simp)
  obtain ⟨f1, f2⟩ := okSeq_O 136 (lo := 5) (hi := 5) (l := [numO 1 s.kind, strO 2 s.content, numO 3 s.ee.serial, strO 4 (bsL s.ee.issuer), strO 5 (bsL s.ee.subject)]) (by simp) (by simp)
  obtain ⟨b1, b2, b3⟩ := okSig_O hT.sig
  obtain ⟨a0, c0⟩ := okNum_O 1 (m := 3) (x := s.kind) (by omega) (by omega)
  obtain ⟨a1, c1⟩ := okStr_O 2 (m := 32768) (s := s.content) q1
  obtain ⟨a2, c2⟩ := okNum_O 3 (m := 18446744073709551615) (x := s.ee.serial) (by have := hT.body.serial; omega) hT.body.serial
  obtain ⟨a3, c3⟩ := okStr_O 4 (m := 40) (s := bsL s.ee.issuer) (by rw [bsL_len]; exact hT.body.issuer)
  obtain ⟨a4, c4⟩ := okStr_O 5 (m := 40) (s := bsL s.ee.subject) (by rw [bsL_len]; exact hT.body.subject)
  obtain ⟨a5, c5⟩ := okStr_O 6 (m := 65536) (s := enc (wholeO s.ee)) (by omega)
  have w0 : atO (wG (wholeG s)) 0 = bodyG s := by simp only [wG, wholeG, e2, atO, List.getD_cons_zero]
  have w1 : atO (wG (wholeG s)) 1 = strO 6 (enc (wholeO s.ee)) := by simp only [wG, wholeG, e2, atO, List.getD_cons_zero, List.getD_cons_succ]
  have w2 : atO (wG (wholeG s)) 2 = sigO s.sig := by simp only [wG, wholeG, e2, atO, List.getD_cons_zero, List.getD_cons_succ]
  have hl : lG (wholeG s) = [numO 1 s.kind, strO 2 s.content, numO 3 s.ee.serial, strO 4 (bsL s.ee.issuer), strO 5 (bsL s.ee.subject)] := by rw [lG, w0, bodyG, f2]
  have hx : okSeq 137 3 3 (wholeG s) = true := e1
  have hy : okSeq 136 5 5 (bodyG s) = true := f1
  have hg : gG (wholeG s) = getSeq 131 3 3 (sigO s.sig) := by rw [gG, w2]
  refine ⟨?_, ?_, ?_, ?_⟩
  · unfold okGv
    rw [hx, w0, hy, w2, b3, w1, a5, hg, b1, hl]
    simp only [atO, List.getD_cons_zero, List.getD_cons_succ, a0, a1, a2, a3, a4, Bool.and_true]
  · rw [eG, w1, c5]
    exact decC_enc hp.ee q2
  · unfold sameE
    rw [hl]
    simp only [atO, List.getD_cons_zero, List.getD_cons_succ, c2, strD, c3, c4, baL_bs, rootG, decide_true, Bool.and_true]
  · unfold sG
    rw [hl, hg, b2]
    simp only [atO, List.getD_cons_zero, List.getD_cons_succ, c0, c1, rootG]
theorem chkG_root (s : Sgn) : chkG (rootG s) = chkG s := rfl
theorem decG_enc {s : Sgn} (hp : PreGD s) (h : chkG s = 0) : decG (enc (wholeG s)) = some (rootG s) := by
  obtain ⟨h1, h2, h3, h4⟩ := okG_O hp h
  rw [decG, (dec_iff false _ _).2 ⟨wholeG_valid (boundsG hp h), rfl⟩]
  simp only
  rw [h2]
  simp only
  rw [h1, h3, h4, chkG_root, h, if_pos ⟨rfl, rfl, rfl⟩]
theorem sG_pre {v : Oct} {ee : Crt} (h : PreD ee) : PreGD (sG v ee) := ⟨h, cutH_all _, cutH_all _⟩
theorem decG_some {b : List UInt8} {s : Sgn} (h : decG b = some s) : PreGD s ∧ chkG s = 0 ∧ enc (wholeG s) = b := by
  unfold decG at h
  cases hd : decO false b with
  | none => rw [hd] at h; cases h
  | some v =>
    rw [hd] at h
    simp only at h
    cases he : decC (eG v) with
    | none => rw [he] at h; cases h
    | some ee =>
      rw [he] at h
      simp only at h
      split at h
      · rename_i hk
        cases h
        exact ⟨sG_pre (decC_some he).1, hk.2.2, by rw [O_okG hk.1 he hk.2.1]; exact ((dec_iff false b v).1 hd).2⟩
      · cases h
def sameBG (a b : Sgn) : Bool := decide (a.kind = b.kind) && decide (a.content = b.content) && decide (a.ee.serial = b.ee.serial) && decide (a.ee.issuer = b.ee.issuer) && decide (a.ee.subject = b.ee.subject)
theorem bodyG_iff {a b : Sgn} (ha : SgnT a) (hb : SgnT b) : decide (enc (bodyG a) = enc (bodyG b)) = sameBG a b := by
  rw [Bool.eq_iff_iff, decide_eq_true_iff]
  simp only [sameBG, Bool.and_eq_true, decide_eq_true_eq]
  constructor
  · intro h
    have e := enc_inj (bodyG_valid ha) (bodyG_valid hb) h
    simp only [bodyG, seqO, numO, strO, Oct.mk.injEq, List.cons.injEq, true_and, and_true] at e
    obtain ⟨e1, e2, e3, e4, e5⟩ := e
    have k1 := ha.kind
    have k2 := hb.kind
    refine ⟨⟨⟨⟨?_, e2⟩, ?_⟩, ?_⟩, ?_⟩
    · rw [← numP_numB (x := a.kind) (by omega), ← numP_numB (x := b.kind) (by omega), e1]
    · rw [← numP_numB ha.body.serial, ← numP_numB hb.body.serial, e3]
    · rw [← baL_bs a.ee.issuer, ← baL_bs b.ee.issuer, e4]
    · rw [← baL_bs a.ee.subject, ← baL_bs b.ee.subject, e5]
  · rintro ⟨⟨⟨⟨e1, e2⟩, e3⟩, e4⟩, e5⟩
    simp only [bodyG, e1, e2, e3, e4, e5]
end Go.Proofs.YtgekglfmianoeaaGreatDoor

namespace Go.Proofs.YtgekglfmianoeaaGreatDoor
open Go Go.Gp
set_option maxHeartbeats 16000000 in
theorem join12_fv (WG : World) (l : List (List Nat)) (hl : ∀ x ∈ l, x.length = 16 ∧ ∀ y ∈ x, y < 256) (hn : l.length < 100000) : FV Tryz.prog WG 56 [shortsP l] (.p (pS (baL (joinB l)))) := by
  refine CallT.pure rfl (CallT_fnT Tryz.func56 (rs := [.tmp 2]) (n := 18) rfl rfl (Nat.le_of_ble_eq_true rfl) rfl ?_)
  refine T_seqC ?_
  simp only [push_cast, reduceIte, Nat.reduceMul, Nat.reduceEqDiff, Nat.reduceAdd, Nat.reduceLT, Nat.reduceLeDiff, reduceCtorEq, Int.reduceToNat]
  refine T_seqC ?_
  simp only [push_cast, reduceIte, Nat.reduceMul, Nat.reduceEqDiff, Nat.reduceAdd, Nat.reduceLT, Nat.reduceLeDiff, reduceCtorEq, Int.reduceToNat]
  refine T_nilT 3 1 rfl ?_
  simp only [push_cast, reduceIte, Nat.reduceMul, Nat.reduceEqDiff, Nat.reduceAdd, Nat.reduceLT, Nat.reduceLeDiff, reduceCtorEq, Int.reduceToNat]
  refine T_seqC ?_
  simp only [push_cast, reduceIte, Nat.reduceMul, Nat.reduceEqDiff, Nat.reduceAdd, Nat.reduceLT, Nat.reduceLeDiff, reduceCtorEq, Int.reduceToNat, List.length_map]
  refine T_loopR (fun i : Nat => ⟨[(3, .osl 0 1 0 (16 * i) none), (6, .p (shortsP l)), (7, vI l.length), (8, vI i)], [(0, .arr 1 (bytesP (joinB (l.take i))) true)], 1, 0, 18⟩) (fun i => i ≤ l.length) (fun i => l.length - i) 0 [] (Nat.zero_le _) (by simp [LeR, rnf, aget, envR, tabR, injR, notIn, loR, V.rn, V.rnL, V.bd, V.bdL, Blk.rn, Blk.bd, envRn, envBd, joinB, bytesP]) (fun i hi => ?_)
  simp only [push_cast, reduceIte, Nat.reduceMul, Nat.reduceEqDiff, Nat.reduceAdd, Nat.reduceLT, Nat.reduceLeDiff, reduceCtorEq, Int.reduceToNat]
  refine ⟨fun h1 => ?_, fun h1 => ?_⟩
  · have h2 : i < l.length := by simpa using h1
    have hg : l[i]? = some l[i] := List.getElem?_eq_getElem h2
    obtain ⟨hx16, hxb⟩ := hl _ (List.mem_of_getElem? hg)
    generalize l[i] = x at hg hx16 hxb
    have hjt := joinB_take hg
    obtain ⟨a0, a1, a2, a3, a4, a5, a6, a7, a8, a9, a10, a11, a12, a13, a14, a15, rfl⟩ := short16 hx16
    simp only [push_cast, reduceIte, Nat.reduceMul, Nat.reduceEqDiff, Nat.reduceAdd, Nat.reduceLT, Nat.reduceLeDiff, reduceCtorEq, Int.reduceToNat, List.getElem?_map, hg, Option.map_some, shortP, List.map_cons, List.map_nil, Int.reduceAdd, Int.reduceToNat, Nat.reduceSub, Nat.sub_zero, List.take_succ_cons, List.take_zero]
    have hbx : bytesP ([a0, a1, a2, a3, a4, a5, a6, a7, a8, a9, a10, a11, a12, a13, a14, a15].map UInt8.ofNat) = [.v (.int .u8 a0), .v (.int .u8 a1), .v (.int .u8 a2), .v (.int .u8 a3), .v (.int .u8 a4), .v (.int .u8 a5), .v (.int .u8 a6), .v (.int .u8 a7), .v (.int .u8 a8), .v (.int .u8 a9), .v (.int .u8 a10), .v (.int .u8 a11), .v (.int .u8 a12), .v (.int .u8 a13), .v (.int .u8 a14), .v (.int .u8 a15)] := by
      simp only [List.mem_cons, List.not_mem_nil, or_false, forall_eq_or_imp, forall_eq] at hxb
      obtain ⟨h0, h1, h2, h3, h4, h5, h6, h7, h8, h9, h10, h11, h12, h13, h14, h15⟩ := hxb
      simp only [List.map_cons, List.map_nil, bytesP, byteP_nat, h0, h1, h2, h3, h4, h5, h6, h7, h8, h9, h10, h11, h12, h13, h14, h15]
    have hjl : (bytesP (joinB (l.take i))).length = 16 * i := by
      rw [bytesP_length, joinB_len _ fun x hx => (hl x (List.mem_of_mem_take hx)).1, List.length_take]; omega
    have hbn : bytesP (joinB (l.take (i + 1))) = (bytesP (joinB (l.take i))).take (16 * i) ++ [.v (.int .u8 a0), .v (.int .u8 a1), .v (.int .u8 a2), .v (.int .u8 a3), .v (.int .u8 a4), .v (.int .u8 a5), .v (.int .u8 a6), .v (.int .u8 a7), .v (.int .u8 a8), .v (.int .u8 a9), .v (.int .u8 a10), .v (.int .u8 a11), .v (.int .u8 a12), .v (.int .u8 a13), .v (.int .u8 a14), .v (.int .u8 a15)] := by
      rw [hjt, List.take_of_length_le (Nat.le_of_eq hjl), ← hbx]; simp [bytesP]
    refine ⟨by omega, ⟨by omega, by omega, by omega⟩, ⟨by omega, by omega⟩, i + 1, by omega, by omega, [(0, 2)], ?_⟩
    rw [hbn]
    simp [LeR, rnf, aget, envR, tabR, injR, notIn, loR, V.rn, V.rnL, V.bd, V.bdL, Blk.rn, Blk.bd, envRn, envBd, Nat.mul_succ, wrap_i64 ((i : Int) + 1) (by omega) (by omega)]
  · have : i = l.length := by simp at h1; omega
    subst this
    refine T_fin ?_
    have hjl : (bytesP (joinB l)).length = 16 * l.length := by
      rw [bytesP_length, joinB_len _ fun x hx => (hl x hx).1]
    simp only [push_cast, reduceIte, Nat.reduceMul, Nat.reduceEqDiff, Nat.reduceAdd, Nat.reduceLT, Nat.reduceLeDiff, reduceCtorEq, Int.reduceToNat, List.take_length]
    rw [List.take_of_length_le (Nat.le_of_eq hjl), byteOf_bytesP]
    exact ⟨⟨by omega, rfl⟩, rfl⟩
def splitK (s : List UInt8) : V → Tab → Nat → Prop := fun r t n => r = .osl 0 16 0 (cutH s).length none ∧ t = [(0, .arr 16 ((cutH s).map shortP) true)] ∧ n = 1
set_option maxHeartbeats 16000000 in
theorem split12_ct (WG : World) (s : List UInt8) (hln : s.length ≤ 65536) : CallT Tryz.prog WG 68 ([pS (baL s)].map .p) [] 0 (splitK s) noP := by
  refine CallT.tidy (CallT_fnT Tryz.func68 (rs := [.tmp 2]) (n := 18) rfl rfl (Nat.le_of_ble_eq_true rfl) rfl ?_)
  have hsz : (baL s).size = s.length := rfl
  have hd : (baL s).data.toList = s := rfl
  have hts : (bytesP s).take s.length = bytesP s := List.take_of_length_le (by rw [bytesP_length]; exact Nat.le_refl _)
  refine T_seqC ?_
  simp only [push_cast, reduceIte, Nat.reduceMul, Nat.reduceEqDiff, Nat.reduceAdd, Nat.reduceLT, Nat.reduceLeDiff, reduceCtorEq, Int.reduceToNat]
  refine T_seqC ?_
  simp only [push_cast, reduceIte, Nat.reduceMul, Nat.reduceEqDiff, Nat.reduceAdd, Nat.reduceLT, Nat.reduceLeDiff, reduceCtorEq, Int.reduceToNat]
  refine T_seq (T_seq (T_region ?_))
  rw [show List.range (Array.size _) = [0, 1, 2] from rfl]
  refine RT_step rfl ?_
  simp only [stepR, push_cast, reduceIte, Nat.reduceMul, Nat.reduceEqDiff, Nat.reduceAdd, Nat.reduceLT, Nat.reduceLeDiff, reduceCtorEq, Int.reduceToNat, fin_yld]
  refine RT_step rfl ?_
  simp only [stepR, push_cast, reduceIte, Nat.reduceMul, Nat.reduceEqDiff, Nat.reduceAdd, Nat.reduceLT, Nat.reduceLeDiff, reduceCtorEq, Int.reduceToNat, fin_yld]
  refine RT_weak (Weak.freeze 1) ?_
  simp only [frzS, frzE, frzL, frzT, frzB, frz1, push_cast, reduceIte, Nat.reduceMul, Nat.reduceEqDiff, Nat.reduceAdd, Nat.reduceLT, Nat.reduceLeDiff, reduceCtorEq, Int.reduceToNat, hd, hsz, bytesP_length, Nat.le_refl, if_true, hts]
  refine RT_step rfl ?_
  simp only [stepR, push_cast, reduceIte, Nat.reduceMul, Nat.reduceEqDiff, Nat.reduceAdd, Nat.reduceLT, Nat.reduceLeDiff, reduceCtorEq, Int.reduceToNat, fin_yld]
  refine (chunk_fv WG s).call rfl ?_
  simp only [push_cast, reduceIte, Nat.reduceMul, Nat.reduceEqDiff, Nat.reduceAdd, Nat.reduceLT, Nat.reduceLeDiff, reduceCtorEq, Int.reduceToNat, fin_yld]
  refine RT_nil ?_
  simp only [push_cast, reduceIte, Nat.reduceMul, Nat.reduceEqDiff, Nat.reduceAdd, Nat.reduceLT, Nat.reduceLeDiff, reduceCtorEq, Int.reduceToNat, fin_yld]
  refine T_nilBox 0 0 16 rfl rfl ?_
  simp only [push_cast, reduceIte, Nat.reduceMul, Nat.reduceEqDiff, Nat.reduceAdd, Nat.reduceLT, Nat.reduceLeDiff, reduceCtorEq, Int.reduceToNat, fin_yld]
  refine T_block ?_
  refine T_rangeP (X := []) (t := [(0, .box [.osl 2 16 0 0 none]), (2, .arr 16 [] true)])
    (J := fun L t n => ∃ pre rest k, pre ++ rest = chunksF s.length s ∧ L = rest.map elB ∧ t = [(0, .box [.osl k 16 0 pre.length none]), (k, .arr 16 (pre.map fun p => shortP (padP p)) true)] ∧ 1 ≤ k ∧ k < n)
    (F := fun _ _ => False) (els := (chunksF s.length s).map elB) (rest := []) (fun x => ∃ p : List UInt8, p.length ≤ 16 ∧ x = elB p) rfl rfl (by kernel_rfl) rfl Beside.nil (fun x hx => ?_) (fun x ⟨p, _, e⟩ => by subst e; rfl) (by kernel_rfl)
    (fun L t n n' hle ⟨pre, rest, k, h1, h2, h3, h4, h5⟩ => ⟨pre, rest, k, h1, h2, h3, h4, by omega⟩)
    (fun J' F' hP' t3 n3 h3 => iterC WG s (by omega) _ J' F' hP' [] t3 n3 (by simpa using h3)) ?_ ⟨[], chunksF s.length s, 2, rfl, by simp, rfl, by omega, by show 2 < 3; omega⟩ ?_ ?_
  · obtain ⟨p, hp, rfl⟩ := List.mem_map.1 hx
    exact ⟨p, chunksF_len _ _ p hp, rfl⟩
  · intro x M t2 m hm _ hE hJ2
    obtain ⟨p, hp16, rfl⟩ := hE
    obtain ⟨pre, rest, k, h1, h2, rfl, h4, h5⟩ := hJ2
    obtain _ | ⟨p', rest⟩ := rest
    · cases h2
    simp only [List.map_cons, List.cons.injEq] at h2
    obtain ⟨hpp, rfl⟩ := h2
    have hpp : p = p' := by
      simp only [elB, List.cons.injEq, V.p.injEq, PV.sl.injEq, true_and, and_true] at hpp
      have := congrArg (List.map Gp.byteOf) hpp
      rwa [byteOf_bytesP, byteOf_bytesP] at this
    subst hpp
    have hput := put_pad hp16
    have hcb := cells_bytes p
    have ht16 : (bytesP p).take 16 = bytesP p := List.take_of_length_le (by rw [bytesP_length]; exact hp16)
    have hpl := padP_len p hp16
    have hsP : shortP (padP p) = .agg ((padP p).map fun x : Nat => pU8 x) := rfl
    obtain ⟨b0, b1, b2, b3, b4, b5, b6, b7, b8, b9, b10, b11, b12, b13, b14, b15, hb⟩ := short16 hpl
    rw [hb] at hput hsP
    simp only [List.map_cons, List.map_nil, List.replicate] at hput hsP
    have na0 : ¬ 0 = m := by omega
    have na3 : ¬ k = m := by omega
    have nb0 : ¬ 0 = k := by omega
    have nc0 : ¬ 0 = m + 1 := by omega
    have nc3 : ¬ k = m + 1 := by omega
    have nc4 : ¬ m = m + 1 := by omega
    have nd0 : ¬ 0 = m + 2 := by omega
    have nd3 : ¬ k = m + 2 := by omega
    have nd4 : ¬ m = m + 2 := by omega
    have nd5 : ¬ m + 1 = m + 2 := by omega
    have ne0 : ¬ m = k := by omega
    have ne1 : ¬ m + 1 = k := by omega
    refine wpC_sound _ _ _ ?_
    simp only [push_cast, reduceIte, Nat.reduceMul, Nat.reduceEqDiff, Nat.reduceAdd, Nat.reduceLT, Nat.reduceLeDiff, reduceCtorEq, Int.reduceToNat, fin_yld, elB, List.cons_append, List.nil_append]
    refine T_block ?_
    refine T_seqC ?_
    simp only [push_cast, reduceIte, Nat.reduceMul, Nat.reduceEqDiff, Nat.reduceAdd, Nat.reduceLT, Nat.reduceLeDiff, reduceCtorEq, Int.reduceToNat, fin_yld, na0, na3, aset, aget, if_false]
    refine T_seqC ?_
    simp only [push_cast, reduceIte, Nat.reduceMul, Nat.reduceEqDiff, Nat.reduceAdd, Nat.reduceLT, Nat.reduceLeDiff, reduceCtorEq, Int.reduceToNat, fin_yld, na0, na3, aset, aget, if_false, if_true, Int.reduceAdd, Int.reduceToNat, Nat.reduceSub, Nat.sub_zero, ht16, hcb, hput]
    refine ⟨by omega, ?_⟩
    refine T_fin ?_
    simp only [push_cast, reduceIte, Nat.reduceMul, Nat.reduceEqDiff, Nat.reduceAdd, Nat.reduceLT, Nat.reduceLeDiff, reduceCtorEq, Int.reduceToNat, fin_yld, na0, na3, nb0, nc0, nc3, nc4, nd0, nd3, nd4, nd5, ne0, ne1, aset, aget, adel, if_false, if_true]
    have hcnt := chunksF_count s.length s
    rw [← h1] at hcnt
    simp only [List.length_append, List.length_cons] at hcnt
    have hml : (pre.map fun p => shortP (padP p)).length = pre.length := by rw [List.length_map]
    refine ⟨by omega, (show 3 < m + 1 + 1 + 1 by simp only at hm; omega), [(0, .box [.osl (m + 1 + 1) 16 0 (pre.length + 1) none]), (m + 1 + 1, .arr 16 ((pre ++ [p]).map fun p => shortP (padP p)) true)], ?_, Beside.nil, pre ++ [p], rest, m + 1 + 1, by rw [← h1]; simp, rfl, by simp, by simp only at hm; omega, by omega⟩
    rw [List.take_of_length_le (Nat.le_of_eq hml), ← hsP, ← hb, List.map_append, List.map_cons, List.map_nil]
    exact SubT.cons _ ((SubT.drop (by simp only [aget]; rw [if_neg (by omega)])).trans (SubT.drop (by simp only [aget]; rw [if_neg (by omega), if_neg (by omega)])))
  · intro t2 n2 t3 _ hn2 hJ2 hs3
    obtain ⟨pre, rest, k, h1, h2, rfl, h4, h5⟩ := hJ2
    have : rest = [] := by cases rest with | nil => rfl | cons a b => cases h2
    subst this
    rw [List.append_nil] at h1
    subst h1
    have nb0 : ¬ 0 = k := by omega
    simp only [push_cast, reduceIte, Nat.reduceMul, Nat.reduceEqDiff, Nat.reduceAdd, Nat.reduceLT, Nat.reduceLeDiff, reduceCtorEq, Int.reduceToNat, fin_yld]
    refine T_weak (Weak.sub hs3) ?_
    refine T_fin ?_
    simp only [push_cast, reduceIte, Nat.reduceMul, Nat.reduceEqDiff, Nat.reduceAdd, Nat.reduceLT, Nat.reduceLeDiff, reduceCtorEq, Int.reduceToNat, fin_yld, nb0, List.nil_append, aget, if_true, if_false]
    have hres : (cutH s).map shortP = (chunksF s.length s).map fun p => shortP (padP p) := by rw [cutH_chunks, List.map_map]; rfl
    have hlr : (cutH s).length = (chunksF s.length s).length := by rw [cutH_chunks, List.length_map]
    refine ⟨[(0, k)], .osl 0 16 0 (cutH s).length none, [(0, .arr 16 ((cutH s).map shortP) true)], 1, ⟨rfl, rfl, rfl⟩, by rw [hlr]; simp [V.rn, rnf, aget], by simp [V.bd], Nat.zero_le _, ?_⟩
    rw [hres]
    simp [LeR, rnf, aget, envR, tabR, injR, notIn, loR, V.rn, V.rnL, V.bd, V.bdL, Blk.rn, Blk.bd, envRn, envBd, nb0]
  · intro t2 n2 t3 _ hn2 hF hs3
    exact hF.elim
theorem split12_fv (WG : World) (s : List UInt8) (hln : s.length ≤ 65536) : FV Tryz.prog WG 68 [pS (baL s)] (.p (shortsP (cutH s))) :=
  CallT.pureS rfl ((split12_ct WG s hln).mono (fun r t n hq => by
    obtain ⟨rfl, rfl, rfl⟩ := hq
    simp [snapR, snap, snapL, snap1, aget, List.take_of_length_le]) (fun _ _ _ h => h))
end Go.Proofs.YtgekglfmianoeaaGreatDoor

namespace Go.Proofs.YtgekglfmianoeaaGreatDoor
open Go Go.Gp
set_option maxHeartbeats 16000000 in
theorem body12_fv (WG : World) (s : Sgn) (hT : SgnT s) : FV Tryz.prog WG 57 [sgnP s] (.p (octP (bodyG s))) := by
  have hk := hT.kind
  have n1 := num8_fv WG 1 s.kind (by omega)
  have n2 := str8_fv WG 2 (baL s.content)
  have n3 := num8_fv WG 3 s.ee.serial hT.body.serial
  have n4 := str8_fv WG 4 s.ee.issuer
  have n5 := str8_fv WG 5 s.ee.subject
  have n6 := seq8_fv WG 136 [numO 1 s.kind, strO 2 s.content, numO 3 s.ee.serial, strO 4 (bsL s.ee.issuer), strO 5 (bsL s.ee.subject)] (smallV (bodyG_vd hT) (by omega))
  have w1 : IntKind.u64.wrap (s.kind : Int) = s.kind := wrap_u64' _ (by omega)
  have e1 : octP (bodyG s) = octP (.mk 136 [] [numO 1 s.kind, strO 2 s.content, numO 3 s.ee.serial, strO 4 (bsL s.ee.issuer), strO 5 (bsL s.ee.subject)]) := rfl
  rw [e1]
  simp only [List.map_cons, List.map_nil, numO, strO, octP_mk] at n1 n2 n3 n4 n5 n6 ⊢
  refine CallT.pure rfl (CallT_fnT Tryz.func57 (rs := [.cell 2 77]) (n := 25) rfl rfl (Nat.le_of_ble_eq_true rfl) rfl ?_)
  refine T_seqC ?_
  simp only [push_cast, reduceIte, Nat.reduceMul, Nat.reduceEqDiff, Nat.reduceAdd, Nat.reduceLT, Nat.reduceLeDiff, reduceCtorEq, Int.reduceToNat]
  refine T_seqC ?_
  refine T_drawL [22] mixed (by kernel_rfl) ?_
  simp only [push_cast, reduceIte, Nat.reduceMul, Nat.reduceEqDiff, Nat.reduceAdd, Nat.reduceLT, Nat.reduceLeDiff, reduceCtorEq, Int.reduceToNat, w1, byteOf_bytesP]
  refine ⟨_, n1.v rfl, Hold.intro ?_⟩
  simp only [push_cast, reduceIte, Nat.reduceMul, Nat.reduceEqDiff, Nat.reduceAdd, Nat.reduceLT, Nat.reduceLeDiff, reduceCtorEq, Int.reduceToNat, w1, byteOf_bytesP]
  refine ⟨_, n2.v rfl, Hold.intro ?_⟩
  simp only [push_cast, reduceIte, Nat.reduceMul, Nat.reduceEqDiff, Nat.reduceAdd, Nat.reduceLT, Nat.reduceLeDiff, reduceCtorEq, Int.reduceToNat]
  refine ⟨_, n3.v rfl, Hold.intro ?_⟩
  simp only [push_cast, reduceIte, Nat.reduceMul, Nat.reduceEqDiff, Nat.reduceAdd, Nat.reduceLT, Nat.reduceLeDiff, reduceCtorEq, Int.reduceToNat]
  refine ⟨_, n4.v rfl, Hold.intro ?_⟩
  simp only [push_cast, reduceIte, Nat.reduceMul, Nat.reduceEqDiff, Nat.reduceAdd, Nat.reduceLT, Nat.reduceLeDiff, reduceCtorEq, Int.reduceToNat]
  refine ⟨_, n5.v rfl, Hold.intro ?_⟩
  simp only [push_cast, reduceIte, Nat.reduceMul, Nat.reduceEqDiff, Nat.reduceAdd, Nat.reduceLT, Nat.reduceLeDiff, reduceCtorEq, Int.reduceToNat]
  refine ⟨_, n6.v rfl, Hold.intro ?_⟩
  simp only [push_cast, reduceIte, Nat.reduceMul, Nat.reduceEqDiff, Nat.reduceAdd, Nat.reduceLT, Nat.reduceLeDiff, reduceCtorEq, Int.reduceToNat]
  refine T_fin ?_
  simp only [push_cast, reduceIte, Nat.reduceMul, Nat.reduceEqDiff, Nat.reduceAdd, Nat.reduceLT, Nat.reduceLeDiff, reduceCtorEq, Int.reduceToNat]
set_option maxHeartbeats 8000000 in
theorem signedBody_fv (WG : World) (g : GW WG) (ge : GE WG) (s : Sgn) (hp : PreGD s) (hs : SmallC s.ee) (ho : OkG s) : FV Tryz.prog WG 23 [sgnP s] (.tup [.p (.sl 1 (bytesP (if chkG s = 0 then enc (bodyG s) else []))), vI (chkG s)]) := by
  have i1 := hs.issuer
  have i2 := hs.subject
  have hck := chk12_fv WG g ge s ho (by omega) (by omega)
  refine FV.softR (r := .tup [if chkG s = 0 then .p (.sl 1 (bytesP (enc (bodyG s)))) else .p (.v (.slice none 0 0)), vI (chkG s)]) ?_ (soft_nilB _ _ _)
  refine CallT.pure (pure_nilB _ _ _) (CallT_fnT Tryz.func23 (rs := [.tmp 2, .tmp 3]) (n := 15) rfl rfl (Nat.le_of_ble_eq_true rfl) rfl ?_)
  refine T_seqC ?_
  simp only [push_cast, reduceIte, Nat.reduceMul, Nat.reduceEqDiff, Nat.reduceAdd, Nat.reduceLT, Nat.reduceLeDiff, reduceCtorEq, Int.reduceToNat]
  refine T_seqC ?_
  simp only [push_cast, reduceIte, Nat.reduceMul, Nat.reduceEqDiff, Nat.reduceAdd, Nat.reduceLT, Nat.reduceLeDiff, reduceCtorEq, Int.reduceToNat]
  refine hck.call rfl ?_
  simp only [push_cast, reduceIte, Nat.reduceMul, Nat.reduceEqDiff, Nat.reduceAdd, Nat.reduceLT, Nat.reduceLeDiff, reduceCtorEq, Int.reduceToNat]
  refine ⟨fun h => ?_, fun h => ?_⟩
  · have h : ¬ chkG s = 0 := by simpa using h
    simp only [if_neg h]
  · have h : chkG s = 0 := by simpa using h
    have hT := boundsG hp h
    have hbd := body12_fv WG s hT
    have hen := encode8_fv WG (bodyG s) (smallV (bodyG_vd hT) (by omega)) (Nat.lt_of_le_of_lt (bodyG_vd hT).depth (by omega))
    rw [(chkO_zero _).2 (bodyG_valid hT), if_pos rfl] at hen
    have hv := octP_eta (bodyG s)
    rw [hv] at hbd hen
    refine T_fin ?_
    simp only [push_cast, reduceIte, Nat.reduceMul, Nat.reduceEqDiff, Nat.reduceAdd, Nat.reduceLT, Nat.reduceLeDiff, reduceCtorEq, Int.reduceToNat]
    refine hbd.call rfl ?_
    simp only [push_cast, reduceIte, Nat.reduceMul, Nat.reduceEqDiff, Nat.reduceAdd, Nat.reduceLT, Nat.reduceLeDiff, reduceCtorEq, Int.reduceToNat]
    refine hen.call rfl ?_
    simp only [push_cast, reduceIte, Nat.reduceMul, Nat.reduceEqDiff, Nat.reduceAdd, Nat.reduceLT, Nat.reduceLeDiff, reduceCtorEq, Int.reduceToNat, h, if_true]
set_option maxHeartbeats 16000000 in
theorem signedEncode_fv (WG : World) (g : GW WG) (ge : GE WG) (s : Sgn) (hp : PreGD s) (hs : SmallC s.ee) (ho : OkG s) : FV Tryz.prog WG 21 [sgnP s] (.tup [.p (.sl 1 (bytesP (if chkG s = 0 then enc (wholeG s) else []))), vI (chkG s)]) := by
  have i1 := hs.issuer
  have i2 := hs.subject
  have hck := chk12_fv WG g ge s ho (by omega) (by omega)
  refine FV.softR (r := .tup [if chkG s = 0 then .p (.sl 1 (bytesP (enc (wholeG s)))) else .p (.v (.slice none 0 0)), vI (chkG s)]) ?_ (soft_nilB _ _ _)
  refine CallT.pure (pure_nilB _ _ _) (CallT_fnT Tryz.func21 (rs := [.tmp 2, .tmp 3]) (n := 55) rfl rfl (Nat.le_of_ble_eq_true rfl) rfl ?_)
  refine T_seqC ?_
  simp only [push_cast, reduceIte, Nat.reduceMul, Nat.reduceEqDiff, Nat.reduceAdd, Nat.reduceLT, Nat.reduceLeDiff, reduceCtorEq, Int.reduceToNat]
  refine T_seqC ?_
  simp only [push_cast, reduceIte, Nat.reduceMul, Nat.reduceEqDiff, Nat.reduceAdd, Nat.reduceLT, Nat.reduceLeDiff, reduceCtorEq, Int.reduceToNat]
  refine hck.call rfl ?_
  simp only [push_cast, reduceIte, Nat.reduceMul, Nat.reduceEqDiff, Nat.reduceAdd, Nat.reduceLT, Nat.reduceLeDiff, reduceCtorEq, Int.reduceToNat]
  refine ⟨fun h => ?_, fun h => ?_⟩
  · have h : ¬ chkG s = 0 := by simpa using h
    simp only [if_neg h]
  · have h : chkG s = 0 := by simpa using h
    have hT := boundsG hp h
    have hS := hT.sig
    have hwl := (wholeO_vd2 hT.body hT.esig).size
    rw [← enc_length] at hwl
    have hce := certEncode_fv WG g ge s.ee hp.ee hs
    rw [(chkG_zero h).2.1, if_pos rfl] at hce
    have hbd := body12_fv WG s hT
    have hen := encode8_fv WG (wholeG s) (smallV (wholeG_vd hT) (by omega)) (Nat.lt_of_le_of_lt (wholeG_vd hT).depth (by omega))
    rw [(chkO_zero _).2 (wholeG_valid hT), if_pos rfl] at hen
    have hi := hS.index
    have w1 : IntKind.u64.wrap s.sig.index = (s.sig.index.toNat : Int) := by rw [wrap_u64 _ (by omega) (by omega)]; omega
    have n1 := num8_fv WG 1 s.sig.index.toNat (by omega)
    have n2 := join12_fv WG s.sig.chains hS.chains (by have := hS.nc; omega)
    have n3 := str8_fv WG 2 (baL (joinB s.sig.chains))
    have n4 := join12_fv WG s.sig.path hS.path (by have := hS.np; omega)
    have n5 := str8_fv WG 3 (baL (joinB s.sig.path))
    have n6 := seq8_fv WG 131 [numO 1 s.sig.index.toNat, strO 2 (joinB s.sig.chains), strO 3 (joinB s.sig.path)] (smallV (sigO_vd hS) (by omega))
    have n7 := str8_fv WG 6 (baL (enc (wholeO s.ee)))
    have n8 := seq8_fv WG 137 [bodyG s, strO 6 (enc (wholeO s.ee)), sigO s.sig] (smallV (wholeG_vd hT) (by omega))
    have nf := first_fv WG 0 0
    have hv := octP_eta (bodyG s)
    have e1 : octP (sigO s.sig) = octP (.mk 131 [] [numO 1 s.sig.index.toNat, strO 2 (joinB s.sig.chains), strO 3 (joinB s.sig.path)]) := rfl
    have e2 : octP (wholeG s) = octP (.mk 137 [] [bodyG s, strO 6 (enc (wholeO s.ee)), sigO s.sig]) := rfl
    rw [e2] at hen
    simp only [List.map_cons, List.map_nil, numO, strO, octP_mk] at n1 n3 n5 n6 n7 n8 hen e1
    simp only [hv, e1] at hbd n8 hen
    generalize enc (wholeO s.ee) = ew at *
    generalize enc (wholeG s) = eg at *
    refine T_seqC ?_
    simp only [push_cast, reduceIte, Nat.reduceMul, Nat.reduceEqDiff, Nat.reduceAdd, Nat.reduceLT, Nat.reduceLeDiff, reduceCtorEq, Int.reduceToNat]
    refine hce.call rfl ?_
    simp only [push_cast, reduceIte, Nat.reduceMul, Nat.reduceEqDiff, Nat.reduceAdd, Nat.reduceLT, Nat.reduceLeDiff, reduceCtorEq, Int.reduceToNat]
    refine T_seqC ?_
    refine T_drawS [17, 18] [(2, 18), (3, 18), (7, 18), (12, 18)] mixed (by kernel_rfl) ?_
    simp only [push_cast, reduceIte, Nat.reduceMul, Nat.reduceEqDiff, Nat.reduceAdd, Nat.reduceLT, Nat.reduceLeDiff, reduceCtorEq, Int.reduceToNat, w1]
    refine ⟨_, n1.v rfl, ?_⟩
    simp only [push_cast, reduceIte, Nat.reduceMul, Nat.reduceEqDiff, Nat.reduceAdd, Nat.reduceLT, Nat.reduceLeDiff, reduceCtorEq, Int.reduceToNat]
    refine ⟨_, n2.v rfl, ?_⟩
    simp only [push_cast, reduceIte, Nat.reduceMul, Nat.reduceEqDiff, Nat.reduceAdd, Nat.reduceLT, Nat.reduceLeDiff, reduceCtorEq, Int.reduceToNat]
    refine ⟨_, n3.v rfl, ?_⟩
    simp only [push_cast, reduceIte, Nat.reduceMul, Nat.reduceEqDiff, Nat.reduceAdd, Nat.reduceLT, Nat.reduceLeDiff, reduceCtorEq, Int.reduceToNat]
    refine ⟨_, n4.v rfl, ?_⟩
    simp only [push_cast, reduceIte, Nat.reduceMul, Nat.reduceEqDiff, Nat.reduceAdd, Nat.reduceLT, Nat.reduceLeDiff, reduceCtorEq, Int.reduceToNat]
    refine ⟨_, n5.v rfl, ?_⟩
    simp only [push_cast, reduceIte, Nat.reduceMul, Nat.reduceEqDiff, Nat.reduceAdd, Nat.reduceLT, Nat.reduceLeDiff, reduceCtorEq, Int.reduceToNat]
    refine ⟨_, n6.v rfl, ?_⟩
    simp only [push_cast, reduceIte, Nat.reduceMul, Nat.reduceEqDiff, Nat.reduceAdd, Nat.reduceLT, Nat.reduceLeDiff, reduceCtorEq, Int.reduceToNat]
    refine ⟨by rw [w1], T_seqC ?_⟩
    refine T_drawL [] mixed (by kernel_rfl) ?_
    simp only [push_cast, reduceIte, Nat.reduceMul, Nat.reduceEqDiff, Nat.reduceAdd, Nat.reduceLT, Nat.reduceLeDiff, reduceCtorEq, Int.reduceToNat, byteOf_bytesP]
    refine ⟨_, hbd.v rfl, Hold.intro ?_⟩
    simp only [push_cast, reduceIte, Nat.reduceMul, Nat.reduceEqDiff, Nat.reduceAdd, Nat.reduceLT, Nat.reduceLeDiff, reduceCtorEq, Int.reduceToNat, byteOf_bytesP]
    refine ⟨_, n7.v rfl, Hold.intro ?_⟩
    simp only [push_cast, reduceIte, Nat.reduceMul, Nat.reduceEqDiff, Nat.reduceAdd, Nat.reduceLT, Nat.reduceLeDiff, reduceCtorEq, Int.reduceToNat]
    refine ⟨_, n8.v rfl, Hold.intro ?_⟩
    simp only [push_cast, reduceIte, Nat.reduceMul, Nat.reduceEqDiff, Nat.reduceAdd, Nat.reduceLT, Nat.reduceLeDiff, reduceCtorEq, Int.reduceToNat]
    refine ⟨_, hen.v rfl, Hold.intro ?_⟩
    simp only [push_cast, reduceIte, Nat.reduceMul, Nat.reduceEqDiff, Nat.reduceAdd, Nat.reduceLT, Nat.reduceLeDiff, reduceCtorEq, Int.reduceToNat]
    refine T_fin ?_
    simp only [push_cast, reduceIte, Nat.reduceMul, Nat.reduceEqDiff, Nat.reduceAdd, Nat.reduceLT, Nat.reduceLeDiff, reduceCtorEq, Int.reduceToNat]
    refine CallT.mono (CallT.borrow nf rfl (by simp [snapT, snap, snapL, snap1, aget])) (fun r t n hq => ?_) (fun _ _ _ h => h.elim)
    obtain ⟨rfl, rfl, rfl⟩ := hq
    simp only [push_cast, reduceIte, Nat.reduceMul, Nat.reduceEqDiff, Nat.reduceAdd, Nat.reduceLT, Nat.reduceLeDiff, reduceCtorEq, Int.reduceToNat, h, if_true]
    rfl
end Go.Proofs.YtgekglfmianoeaaGreatDoor
