/-
  Signed objects: structures, kinds, checks.
  Signed objects: compared, copied, large ones.
  A copy of a signed object is spoilt; the law of checks; arguments as objects.
-/
import Derived.Test.YtplpggeefemelaaGreatDoorCF
import Derived.Test.YtplpggeefemelaaGreatDoorCC
import Derived.Test.YtplpggeefemelaaGreatDoorCD
set_option linter.unusedSimpArgs false
set_option linter.unusedVariables false
set_option maxRecDepth 20000
namespace Go.Proofs.YtplpggeefemelaaGreatDoor
open Go Go.Gp

/-- A signed object. -/
structure Sgn where
  kind : Nat
  content : List UInt8
  ee : Crt
  sig : Sig
abbrev sgnP (s : Sgn) : PV := .agg [pU8 s.kind, .sl 1 (bytesP s.content), pU64 s.ee.serial, pS s.ee.issuer, pS s.ee.subject, pI s.ee.frm, pI s.ee.til, pU8 (s.ee.root 0), pU8 (s.ee.root 1), pU8 (s.ee.root 2), pU8 (s.ee.root 3), pU8 (s.ee.root 4), pU8 (s.ee.root 5), pU8 (s.ee.root 6), pU8 (s.ee.root 7), pU8 (s.ee.root 8), pU8 (s.ee.root 9), pU8 (s.ee.root 10), pU8 (s.ee.root 11), pU8 (s.ee.root 12), pU8 (s.ee.root 13), pU8 (s.ee.root 14), pU8 (s.ee.root 15), pI s.ee.height, pB s.ee.ca, pB s.ee.inherit, spansP s.ee.res.v4, spansP s.ee.res.v6, .sl 2 (s.ee.res.as_.map asP), pS s.ee.repo, pS s.ee.manifest, pS s.ee.notify, pS s.ee.crl, pS s.ee.parent, pI s.ee.sig.index, shortsP s.ee.sig.chains, shortsP s.ee.sig.path, pI s.sig.index, shortsP s.sig.chains, shortsP s.sig.path]
abbrev boxG (s : Sgn) : List V := [.p (pU8 s.kind), .p (.sl 1 (bytesP s.content)), .p (pU64 s.ee.serial), .p (pS s.ee.issuer), .p (pS s.ee.subject), .p (pI s.ee.frm), .p (pI s.ee.til), .p (pU8 (s.ee.root 0)), .p (pU8 (s.ee.root 1)), .p (pU8 (s.ee.root 2)), .p (pU8 (s.ee.root 3)), .p (pU8 (s.ee.root 4)), .p (pU8 (s.ee.root 5)), .p (pU8 (s.ee.root 6)), .p (pU8 (s.ee.root 7)), .p (pU8 (s.ee.root 8)), .p (pU8 (s.ee.root 9)), .p (pU8 (s.ee.root 10)), .p (pU8 (s.ee.root 11)), .p (pU8 (s.ee.root 12)), .p (pU8 (s.ee.root 13)), .p (pU8 (s.ee.root 14)), .p (pU8 (s.ee.root 15)), .p (pI s.ee.height), .p (pB s.ee.ca), .p (pB s.ee.inherit), .p (spansP s.ee.res.v4), .p (spansP s.ee.res.v6), .p (.sl 2 (s.ee.res.as_.map asP)), .p (pS s.ee.repo), .p (pS s.ee.manifest), .p (pS s.ee.notify), .p (pS s.ee.crl), .p (pS s.ee.parent), .p (pI s.ee.sig.index), .p (shortsP s.ee.sig.chains), .p (shortsP s.ee.sig.path), .p (pI s.sig.index), .p (shortsP s.sig.chains), .p (shortsP s.sig.path)]
abbrev twinGL (s : Sgn) (b : Nat) : List V := [.p (pU8 s.kind), .osl b 1 0 s.content.length none, .p (pU64 s.ee.serial), .p (pS s.ee.issuer), .p (pS s.ee.subject), .p (pI s.ee.frm), .p (pI s.ee.til), .p (pU8 (s.ee.root 0)), .p (pU8 (s.ee.root 1)), .p (pU8 (s.ee.root 2)), .p (pU8 (s.ee.root 3)), .p (pU8 (s.ee.root 4)), .p (pU8 (s.ee.root 5)), .p (pU8 (s.ee.root 6)), .p (pU8 (s.ee.root 7)), .p (pU8 (s.ee.root 8)), .p (pU8 (s.ee.root 9)), .p (pU8 (s.ee.root 10)), .p (pU8 (s.ee.root 11)), .p (pU8 (s.ee.root 12)), .p (pU8 (s.ee.root 13)), .p (pU8 (s.ee.root 14)), .p (pU8 (s.ee.root 15)), .p (pI s.ee.height), .p (pB s.ee.ca), .p (pB s.ee.inherit), .osl (b + 1) 4 0 s.ee.res.v4.length none, .osl (b + 2) 4 0 s.ee.res.v6.length none, .osl (b + 3) 2 0 s.ee.res.as_.length none, .p (pS s.ee.repo), .p (pS s.ee.manifest), .p (pS s.ee.notify), .p (pS s.ee.crl), .p (pS s.ee.parent), .p (pI s.ee.sig.index), .osl (b + 4) 16 0 s.ee.sig.chains.length none, .osl (b + 5) 16 0 s.ee.sig.path.length none, .p (pI s.sig.index), .osl (b + 6) 16 0 s.sig.chains.length none, .osl (b + 7) 16 0 s.sig.path.length none]
structure OkG (s : Sgn) : Prop where
  ee : OkC s.ee
  sig : OkS s.sig
  content : s.content.length < 1000000

def goodB (s : KSig) : Bool := !signedB s || decide (sigI s.path.length s = 0)
set_option maxHeartbeats 4000000 in
theorem good12_fv (WG : World) (s : KSig) : FV Tryz.prog WG 43 [sigP s] (vB (goodB s)) := by
  refine CallT.pure rfl (CallT_fn Tryz.func43 (rs := [.tmp 2]) (n := 26) rfl rfl (Nat.le_of_ble_eq_true rfl) rfl ?_)
  simp only [push_cast, reduceIte, Nat.reduceMul, Nat.reduceEqDiff, Nat.reduceAdd, Nat.reduceLT, Nat.reduceLeDiff, reduceCtorEq, Int.reduceToNat]
  refine ⟨_, fun _ => (mCheck_fv WG s.path.length s).q rfl, ?_⟩
  simp only [push_cast, reduceIte, Nat.reduceMul, Nat.reduceEqDiff, Nat.reduceAdd, Nat.reduceLT, Nat.reduceLeDiff, reduceCtorEq, Int.reduceToNat]
  have e : ∀ n : Nat, decide ((n : Int) = 0) = !decide ((0 : Int) < n) := fun n => by
    cases n with
    | zero => rfl
    | succ n => simp; omega
  rw [e, e, goodB, signedB, Bool.not_or, Bool.not_or, Bool.not_not]

def kindsM : List (Value × PV) := mset (mset (mset [] (.int .u8 1) (.v (.bool true))) (.int .u8 2) (.v (.bool true))) (.int .u8 3) (.v (.bool true))
def kindB (k : Nat) : Bool := decide (k = 1) || decide (k = 2) || decide (k = 3)
theorem kinds_get (k : Nat) : mget kindsM (.int .u8 k) (.v (.bool false)) = .v (.bool (kindB k)) := by
  by_cases h1 : k = 1
  · subst h1; rfl
  by_cases h2 : k = 2
  · subst h2; rfl
  by_cases h3 : k = 3
  · subst h3; rfl
  have e : kindB k = false := by simp [kindB, h1, h2, h3]
  rw [e]
  have g1 : ¬ (k : Int) = 1 := by omega
  have g2 : ¬ (k : Int) = 2 := by omega
  have g3 : ¬ (k : Int) = 3 := by omega
  simp [kindsM, mget, mfind, mset, keyEq, g1, g2, g3]
set_option maxHeartbeats 4000000 in
theorem kinds_ct0 (WG : World) : CallT Tryz.prog WG 42 ([].map .p) [] 0 (fun r t n => r = .mp 0 ∧ t = [(0, .mp (some .u8) kindsM)] ∧ n = 1) noP := by
  refine CallT_fn Tryz.func42 (rs := [.tmp 0]) (n := 3) rfl rfl (Nat.le_of_ble_eq_true rfl) rfl ?_
  simp only [push_cast, reduceIte, Nat.reduceMul, Nat.reduceEqDiff, Nat.reduceAdd, Nat.reduceLT, Nat.reduceLeDiff, reduceCtorEq, Int.reduceToNat]
  rfl
theorem kinds_ct (WG : World) (tab : Tab) (nx : Nat) : CallT Tryz.prog WG 42 [] tab nx (fun r t n => r = .mp nx ∧ t = tab ++ [(nx, .mp (some .u8) kindsM)] ∧ n = nx + 1) noP :=
  (kinds_ct0 WG).frame (ps := []) (fun r t n ⟨h1, h2, h3⟩ => by subst h1 h2 h3; simp [V.sh, tsh, Blk.sh]) (fun _ _ _ h => h)

set_option maxHeartbeats 4000000 in
theorem or_fv (WG : World) (a b : Int) : FV Tryz.prog WG 89 [.sl 1 [pI a, pI b]] (vI (if a ≠ 0 then a else b)) := by
  refine CallT.pure rfl (CallT_fn Tryz.func89 (rs := [.tmp 2]) (n := 18) rfl rfl (Nat.le_of_ble_eq_true rfl) rfl ?_)
  simp only [push_cast, reduceIte, Nat.reduceMul, Nat.reduceEqDiff, Nat.reduceAdd, Nat.reduceLT, Nat.reduceLeDiff, reduceCtorEq, Int.reduceToNat]
  refine T_loopS (fun i : Nat => ⟨[(0, .p (.sl 1 [pI a, pI b])), (2, vI 0), (3, vI 0), (6, .p (.sl 1 [pI a, pI b])), (7, vI 2), (8, vI i)], [], 0, 0, 18⟩) (fun i => i ≤ 2 ∧ (1 ≤ i → a = 0) ∧ (2 ≤ i → b = 0)) (fun i => 2 - i) 0 ⟨by omega, by omega, by omega⟩ (by simp [Le, subE, aget]) (fun i hi => ?_)
  obtain ⟨hi, ha, hb⟩ := hi
  simp only [push_cast, reduceIte, Nat.reduceMul, Nat.reduceEqDiff, Nat.reduceAdd, Nat.reduceLT, Nat.reduceLeDiff, reduceCtorEq, Int.reduceToNat]
  refine ⟨fun h1 => ?_, fun h1 => ?_⟩
  · have h2 : i < 2 := by simp at h1; omega
    obtain ⟨x, hg, hx⟩ : ∃ x, ([.v (.int .i64 a), .v (.int .i64 b)] : List PV)[i]? = some (.v (.int .i64 x)) ∧ ((i = 0 ∧ x = a) ∨ (i = 1 ∧ x = b)) := by
      have hc : i = 0 ∨ i = 1 := by omega
      rcases hc with rfl | rfl
      · exact ⟨a, rfl, .inl ⟨rfl, rfl⟩⟩
      · exact ⟨b, rfl, .inr ⟨rfl, rfl⟩⟩
    simp only [push_cast, reduceIte, Nat.reduceMul, Nat.reduceEqDiff, Nat.reduceAdd, Nat.reduceLT, Nat.reduceLeDiff, reduceCtorEq, Int.reduceToNat, hg]
    refine ⟨by omega, fun h3 => ?_, fun h3 => ⟨i + 1, ⟨by omega, ?_, ?_⟩, by omega, ?_⟩⟩
    · have h4 : ¬ x = 0 := by simpa using h3
      rcases hx with ⟨rfl, rfl⟩ | ⟨rfl, rfl⟩
      · rw [if_pos h4]
      · rw [if_neg (by have := ha (by omega); omega)]
    · intro _
      have h4 : x = 0 := by simpa using h3
      rcases hx with ⟨rfl, rfl⟩ | ⟨rfl, rfl⟩
      · exact h4
      · exact ha (by omega)
    · intro h5
      have h4 : x = 0 := by simpa using h3
      rcases hx with ⟨rfl, rfl⟩ | ⟨rfl, rfl⟩
      · omega
      · exact h4
    · simp [Le, subE, aget, wrap_i64 (i + 1) (by omega) (by omega)]
  · have h2 : i = 2 := by simp at h1; omega
    subst h2
    have := ha (by omega)
    have := hb (by omega)
    subst a b
    rfl
set_option maxHeartbeats 4000000 in
theorem first_fv (WG : World) (a b : Int) : FV Tryz.prog WG 44 [.sl 1 [pI a, pI b]] (vI (if a ≠ 0 then a else b)) := by
  refine CallT.pure rfl (CallT_fn Tryz.func44 (rs := [.tmp 2]) (n := 5) rfl rfl (Nat.le_of_ble_eq_true rfl) rfl ?_)
  simp only [push_cast, reduceIte, Nat.reduceMul, Nat.reduceEqDiff, Nat.reduceAdd, Nat.reduceLT, Nat.reduceLeDiff, reduceCtorEq, Int.reduceToNat]
  refine (or_fv WG a b).call rfl ?_
  simp only [push_cast, reduceIte, Nat.reduceMul, Nat.reduceEqDiff, Nat.reduceAdd, Nat.reduceLT, Nat.reduceLeDiff, reduceCtorEq, Int.reduceToNat]

/-- What signed.Check says. -/
def chkG (s : Sgn) : Int := if (32768 : Int) < s.content.length then 4 else if chkC s.ee ≠ 0 then chkC s.ee else if kindB s.kind && goodB (kS s.sig) then 0 else 8
set_option maxHeartbeats 16000000 in
theorem chk12_fv (WG : World) (g : GW WG) (ge : GE WG) (s : Sgn) (h : OkG s) (hi : s.ee.issuer.size < 1000000) (hs : s.ee.subject.size < 1000000) : FV Tryz.prog WG 14 [sgnP s] (vI (chkG s)) := by
  refine CallT.pure rfl (CallT_fnT Tryz.func14 (rs := [.tmp 2]) (n := 25) rfl rfl (Nat.le_of_ble_eq_true rfl) rfl ?_)
  refine T_seqC ?_
  simp only [push_cast, reduceIte, Nat.reduceMul, Nat.reduceEqDiff, Nat.reduceAdd, Nat.reduceLT, Nat.reduceLeDiff, reduceCtorEq, Int.reduceToNat]
  refine T_seqC ?_
  simp only [push_cast, reduceIte, Nat.reduceMul, Nat.reduceEqDiff, Nat.reduceAdd, Nat.reduceLT, Nat.reduceLeDiff, reduceCtorEq, Int.reduceToNat, bytesP_length]
  refine ⟨fun h1 => ?_, fun h1 => ?_⟩
  · rw [chkG, if_pos (by simpa using h1)]
  have h1 : ¬ (32768 : Int) < s.content.length := by simpa using h1
  refine T_seqC ?_
  simp only [push_cast, reduceIte, Nat.reduceMul, Nat.reduceEqDiff, Nat.reduceAdd, Nat.reduceLT, Nat.reduceLeDiff, reduceCtorEq, Int.reduceToNat]
  refine T_seqC ?_
  refine wpC_sound _ _ _ ?_
  simp only [push_cast, reduceIte, Nat.reduceMul, Nat.reduceEqDiff, Nat.reduceAdd, Nat.reduceLT, Nat.reduceLeDiff, reduceCtorEq, Int.reduceToNat]
  refine T_drawS [0] [(2, 0)] mixed (by kernel_rfl) ?_
  simp only [push_cast, reduceIte, Nat.reduceMul, Nat.reduceEqDiff, Nat.reduceAdd, Nat.reduceLT, Nat.reduceLeDiff, reduceCtorEq, Int.reduceToNat]
  refine ⟨_, _, _, kinds_ct WG _ _, ?_⟩
  simp only [push_cast, reduceIte, Nat.reduceMul, Nat.reduceEqDiff, Nat.reduceAdd, Nat.reduceLT, Nat.reduceLeDiff, reduceCtorEq, Int.reduceToNat, kinds_get]
  refine ⟨_, fun _ => (good12_fv WG (kS s.sig)).v rfl, ?_⟩
  simp only [push_cast, reduceIte, Nat.reduceMul, Nat.reduceEqDiff, Nat.reduceAdd, Nat.reduceLT, Nat.reduceLeDiff, reduceCtorEq, Int.reduceToNat, kinds_get]
  refine ⟨fun h2 => ?_, fun h2 => ?_⟩
  · refine T_fin ?_
    simp only [push_cast, reduceIte, Nat.reduceMul, Nat.reduceEqDiff, Nat.reduceAdd, Nat.reduceLT, Nat.reduceLeDiff, reduceCtorEq, Int.reduceToNat]
    refine (certCheck_fv WG g ge s.ee h.ee hi hs).call rfl ?_
    simp only [push_cast, reduceIte, Nat.reduceMul, Nat.reduceEqDiff, Nat.reduceAdd, Nat.reduceLT, Nat.reduceLeDiff, reduceCtorEq, Int.reduceToNat]
    refine CallT.mono (CallT.borrow (first_fv WG (chkC s.ee) 8) rfl (by simp [snapT, snap, snapL, snap1, aget])) (fun r t n hq => ?_) (fun _ _ _ h => h.elim)
    obtain ⟨rfl, rfl, rfl⟩ := hq
    simp only [push_cast, reduceIte, Nat.reduceMul, Nat.reduceEqDiff, Nat.reduceAdd, Nat.reduceLT, Nat.reduceLeDiff, reduceCtorEq, Int.reduceToNat]
    have hk : (kindB s.kind && goodB (kS s.sig)) = false := by
      cases q1 : kindB s.kind <;> cases q2 : goodB (kS s.sig) <;> simp_all
    rw [chkG, if_neg h1, hk]
    rfl
  · refine T_fin ?_
    simp only [push_cast, reduceIte, Nat.reduceMul, Nat.reduceEqDiff, Nat.reduceAdd, Nat.reduceLT, Nat.reduceLeDiff, reduceCtorEq, Int.reduceToNat]
    refine (certCheck_fv WG g ge s.ee h.ee hi hs).call rfl ?_
    simp only [push_cast, reduceIte, Nat.reduceMul, Nat.reduceEqDiff, Nat.reduceAdd, Nat.reduceLT, Nat.reduceLeDiff, reduceCtorEq, Int.reduceToNat]
    refine CallT.mono (CallT.borrow (first_fv WG (chkC s.ee) 0) rfl (by simp [snapT, snap, snapL, snap1, aget])) (fun r t n hq => ?_) (fun _ _ _ h => h.elim)
    obtain ⟨rfl, rfl, rfl⟩ := hq
    simp only [push_cast, reduceIte, Nat.reduceMul, Nat.reduceEqDiff, Nat.reduceAdd, Nat.reduceLT, Nat.reduceLeDiff, reduceCtorEq, Int.reduceToNat]
    have hk : (kindB s.kind && goodB (kS s.sig)) = true := by
      cases q1 : kindB s.kind <;> cases q2 : goodB (kS s.sig) <;> simp_all
    rw [chkG, if_neg h1, hk]
    rfl
set_option maxHeartbeats 16000000 in
theorem rChk12_fv (WG : World) (g : GW WG) (ge : GE WG) (s : Sgn) (h : OkG s) : FV Tryz.prog WG 15 [sgnP s] (vI (chkG s)) := by
  refine CallT.pure rfl (CallT_fnT Tryz.func15 (rs := [.tmp 2]) (n := 28) rfl rfl (Nat.le_of_ble_eq_true rfl) rfl ?_)
  refine T_seqC ?_
  simp only [push_cast, reduceIte, Nat.reduceMul, Nat.reduceEqDiff, Nat.reduceAdd, Nat.reduceLT, Nat.reduceLeDiff, reduceCtorEq, Int.reduceToNat]
  refine T_seqC ?_
  simp only [push_cast, reduceIte, Nat.reduceMul, Nat.reduceEqDiff, Nat.reduceAdd, Nat.reduceLT, Nat.reduceLeDiff, reduceCtorEq, Int.reduceToNat, bytesP_length]
  refine ⟨fun h1 => ?_, fun h1 => ?_⟩
  · rw [chkG, if_pos (by simpa using h1)]
  have h1 : ¬ (32768 : Int) < s.content.length := by simpa using h1
  refine T_seqC ?_
  simp only [push_cast, reduceIte, Nat.reduceMul, Nat.reduceEqDiff, Nat.reduceAdd, Nat.reduceLT, Nat.reduceLeDiff, reduceCtorEq, Int.reduceToNat]
  refine (rCertCheck_fv WG g ge s.ee h.ee).call rfl ?_
  simp only [push_cast, reduceIte, Nat.reduceMul, Nat.reduceEqDiff, Nat.reduceAdd, Nat.reduceLT, Nat.reduceLeDiff, reduceCtorEq, Int.reduceToNat]
  refine T_seqC ?_
  simp only [push_cast, reduceIte, Nat.reduceMul, Nat.reduceEqDiff, Nat.reduceAdd, Nat.reduceLT, Nat.reduceLeDiff, reduceCtorEq, Int.reduceToNat]
  refine ⟨fun h2 => ?_, fun h2 => ?_⟩
  · have h2 : ¬ chkC s.ee = 0 := by simpa using h2
    rw [chkG, if_neg h1, if_pos h2]
  have h2 : chkC s.ee = 0 := by simpa using h2
  refine T_fin ?_
  simp only [push_cast, reduceIte, Nat.reduceMul, Nat.reduceEqDiff, Nat.reduceAdd, Nat.reduceLT, Nat.reduceLeDiff, reduceCtorEq, Int.reduceToNat]
  refine ⟨_, fun _ => (show FV Tryz.prog WG 47 [sigP (kS s.sig)] (vB (goodB (kS s.sig))) from rGoodSig_fv WG (kS s.sig)).q rfl, ?_⟩
  simp only [push_cast, reduceIte, Nat.reduceMul, Nat.reduceEqDiff, Nat.reduceAdd, Nat.reduceLT, Nat.reduceLeDiff, reduceCtorEq, Int.reduceToNat]
  have e : kindB s.kind = !(decide ((s.kind : Int) < 1) || decide ((3 : Int) < s.kind)) := by
    rw [kindB]
    rcases (by omega : s.kind = 0 ∨ s.kind = 1 ∨ s.kind = 2 ∨ s.kind = 3 ∨ 3 < s.kind) with q | q | q | q | q
    · rw [q]; rfl
    · rw [q]; rfl
    · rw [q]; rfl
    · rw [q]; rfl
    · have a1 : ¬ s.kind = 1 := by omega
      have a2 : ¬ s.kind = 2 := by omega
      have a3 : ¬ s.kind = 3 := by omega
      have a4 : (3 : Int) < s.kind := by omega
      rw [decide_eq_false a1, decide_eq_false a2, decide_eq_false a3, decide_eq_true a4]
      simp
  refine ⟨fun h3 => ?_, fun h3 => ?_⟩
  · have hk : (kindB s.kind && goodB (kS s.sig)) = false := by
      rw [e]
      revert h3
      generalize (decide ((s.kind : Int) < 1) || decide ((3 : Int) < s.kind)) = x
      generalize goodB (kS s.sig) = y
      cases x <;> cases y <;> simp
    rw [chkG, if_neg h1, if_neg (by omega), hk]
    rfl
  · have hk : (kindB s.kind && goodB (kS s.sig)) = true := by
      rw [e]
      revert h3
      generalize (decide ((s.kind : Int) < 1) || decide ((3 : Int) < s.kind)) = x
      generalize goodB (kS s.sig) = y
      cases x <;> cases y <;> simp
    rw [chkG, if_neg h1, if_neg (by omega), hk]
    rfl
end Go.Proofs.YtplpggeefemelaaGreatDoor

namespace Go.Proofs.YtplpggeefemelaaGreatDoor
open Go Go.Gp

set_option maxHeartbeats 4000000 in
theorem bytesEqual_fv (WG : World) (a b : List UInt8) (ha : a.length < 1000000) (hb : b.length < 1000000) : FV Tryz.prog WG 48 [.sl 1 (bytesP a), .sl 1 (bytesP b)] (vB (decide (a = b))) := by
  refine CallT.pure rfl (CallT_fn Tryz.func48 (rs := [.tmp 4]) (n := 10) rfl rfl (Nat.le_of_ble_eq_true rfl) rfl ?_)
  simp only [push_cast, reduceIte, Nat.reduceMul, Nat.reduceEqDiff, Nat.reduceAdd, Nat.reduceLT, Nat.reduceLeDiff, reduceCtorEq, Int.reduceToNat, byteOf_bytesP]
  rw [Bool.eq_iff_iff, strEq_iff', decide_eq_true_iff]
  constructor
  · intro e
    injection e with e
    simpa using e
  · rintro rfl; rfl

theorem byteP_inj {a b : UInt8} (h : (a.toNat : Int) = b.toNat) : a = b := UInt8.toNat_inj.1 (by omega)
set_option maxHeartbeats 8000000 in
theorem sameBytes_fv (WG : World) (a b : List UInt8) (hn : a.length < 1000000) : FV Tryz.prog WG 29 [.sl 1 (bytesP a), .sl 1 (bytesP b)] (vB (decide (a = b))) := by
  refine CallT.pure rfl (CallT_fn Tryz.func29 (rs := [.tmp 4]) (n := 26) rfl rfl (Nat.le_of_ble_eq_true rfl) rfl ?_)
  simp only [push_cast, reduceIte, Nat.reduceMul, Nat.reduceEqDiff, Nat.reduceAdd, Nat.reduceLT, Nat.reduceLeDiff, reduceCtorEq, Int.reduceToNat, bytesP_length]
  refine ⟨fun h => ?_, fun h => ?_⟩
  · have : ¬ a = b := fun e => by subst e; simp at h
    rw [decide_eq_false this]
  · have hl : a.length = b.length := by simp at h; omega
    refine T_loopS (fun i : Nat => ⟨[(0, .p (.sl 1 (bytesP a))), (1, .p (.sl 1 (bytesP b))), (5, vI i)], [], 0, 0, 26⟩) (fun i => i ≤ a.length ∧ a.take i = b.take i) (fun i => a.length - i) 0 ⟨Nat.zero_le _, by simp⟩ (by simp [Le, subE, aget]) (fun i hi => ?_)
    simp only [push_cast, reduceIte, Nat.reduceMul, Nat.reduceEqDiff, Nat.reduceAdd, Nat.reduceLT, Nat.reduceLeDiff, reduceCtorEq, Int.reduceToNat, bytesP_length]
    refine ⟨fun h1 => ?_, fun h1 => ?_⟩
    · refine T_drawS [] [] mixed (by kernel_rfl) ?_
      have h2 : i < a.length := by simpa using h1
      have hga : a[i]? = some a[i] := List.getElem?_eq_getElem h2
      have hgb : b[i]? = some (b[i]'(by omega)) := List.getElem?_eq_getElem (by omega)
      generalize a[i] = x at hga
      generalize (b[i]'(by omega)) = y at hgb
      have ea : (bytesP a)[i]? = some (.v (.int .u8 x.toNat)) := by simp [bytesP, hga, byteP]
      have eb : (bytesP b)[i]? = some (.v (.int .u8 y.toNat)) := by simp [bytesP, hgb, byteP]
      simp only [push_cast, reduceIte, Nat.reduceMul, Nat.reduceEqDiff, Nat.reduceAdd, Nat.reduceLT, Nat.reduceLeDiff, reduceCtorEq, Int.reduceToNat, ea, eb, bytesP_length]
      refine ⟨by omega, by omega, fun h3 => ?_, fun h3 => ⟨i + 1, ⟨by omega, ?_⟩, by omega, ?_⟩⟩
      · have hne : ¬ x = y := fun e => by subst e; simp at h3
        have : ¬ a = b := fun e => by subst e; rw [hga] at hgb; cases hgb; exact hne rfl
        rw [decide_eq_false this]
      · have he : x = y := byteP_inj (by simpa using h3)
        rw [List.take_add_one, List.take_add_one, hga, hgb, hi.2, he]
      · simp [Le, subE, aget, wrap_i64 (i + 1) (by omega) (by omega)]
    · have : i = a.length := by simp at h1; omega
      subst this
      have : a = b := by have := hi.2; rwa [List.take_of_length_le (Nat.le_refl _), List.take_of_length_le (by omega)] at this
      rw [decide_eq_true this]

def sameG (a b : Sgn) : Bool := decide ((a.kind : Int) = b.kind) && decide (a.content = b.content) && sameC a.ee b.ee && sameS a.sig b.sig
set_option maxHeartbeats 16000000 in
theorem same12_fv (WG : World) (a b : Sgn) (ha : OkG a) (hb : OkG b) : FV Tryz.prog WG 16 [sgnP a, sgnP b] (vB (sameG a b)) := by
  refine CallT.pure rfl (CallT_fnT Tryz.func16 (rs := [.tmp 4]) (n := 51) rfl rfl (Nat.le_of_ble_eq_true rfl) rfl ?_)
  refine T_seqC ?_
  simp only [push_cast, reduceIte, Nat.reduceMul, Nat.reduceEqDiff, Nat.reduceAdd, Nat.reduceLT, Nat.reduceLeDiff, reduceCtorEq, Int.reduceToNat]
  refine T_fin ?_
  simp only [push_cast, reduceIte, Nat.reduceMul, Nat.reduceEqDiff, Nat.reduceAdd, Nat.reduceLT, Nat.reduceLeDiff, reduceCtorEq, Int.reduceToNat]
  refine ⟨_, fun _ => (bytesEqual_fv WG a.content b.content ha.content hb.content).q rfl, ?_⟩
  simp only [push_cast, reduceIte, Nat.reduceMul, Nat.reduceEqDiff, Nat.reduceAdd, Nat.reduceLT, Nat.reduceLeDiff, reduceCtorEq, Int.reduceToNat]
  refine ⟨_, fun _ => (certSame_fv WG a.ee b.ee ha.ee hb.ee).q rfl, ?_⟩
  simp only [push_cast, reduceIte, Nat.reduceMul, Nat.reduceEqDiff, Nat.reduceAdd, Nat.reduceLT, Nat.reduceLeDiff, reduceCtorEq, Int.reduceToNat]
  refine ⟨_, fun _ => (eqShorts_fv WG a.sig.chains b.sig.chains ha.sig.chains hb.sig.chains ha.sig.nc).q rfl, ?_⟩
  simp only [push_cast, reduceIte, Nat.reduceMul, Nat.reduceEqDiff, Nat.reduceAdd, Nat.reduceLT, Nat.reduceLeDiff, reduceCtorEq, Int.reduceToNat]
  refine ⟨_, fun _ => (eqShorts_fv WG a.sig.path b.sig.path ha.sig.path hb.sig.path ha.sig.np).q rfl, ?_⟩
  simp only [push_cast, reduceIte, Nat.reduceMul, Nat.reduceEqDiff, Nat.reduceAdd, Nat.reduceLT, Nat.reduceLeDiff, reduceCtorEq, Int.reduceToNat, sameG, sameS, Bool.and_assoc]

set_option maxHeartbeats 16000000 in
theorem rSame12_fv (WG : World) (a b : Sgn) (ha : OkG a) (hb : OkG b) : FV Tryz.prog WG 17 [sgnP a, sgnP b] (vB (sameG a b)) := by
  refine CallT.pure rfl (CallT_fnT Tryz.func17 (rs := [.tmp 4]) (n := 31) rfl rfl (Nat.le_of_ble_eq_true rfl) rfl ?_)
  refine T_seqC ?_
  simp only [push_cast, reduceIte, Nat.reduceMul, Nat.reduceEqDiff, Nat.reduceAdd, Nat.reduceLT, Nat.reduceLeDiff, reduceCtorEq, Int.reduceToNat]
  refine T_fin ?_
  simp only [push_cast, reduceIte, Nat.reduceMul, Nat.reduceEqDiff, Nat.reduceAdd, Nat.reduceLT, Nat.reduceLeDiff, reduceCtorEq, Int.reduceToNat]
  refine ⟨_, fun _ => (sameBytes_fv WG a.content b.content ha.content).q rfl, ?_⟩
  simp only [push_cast, reduceIte, Nat.reduceMul, Nat.reduceEqDiff, Nat.reduceAdd, Nat.reduceLT, Nat.reduceLeDiff, reduceCtorEq, Int.reduceToNat]
  refine ⟨_, fun _ => (rCertSame_fv WG a.ee b.ee ha.ee hb.ee).q rfl, ?_⟩
  simp only [push_cast, reduceIte, Nat.reduceMul, Nat.reduceEqDiff, Nat.reduceAdd, Nat.reduceLT, Nat.reduceLeDiff, reduceCtorEq, Int.reduceToNat]
  refine ⟨_, fun _ => (rSameSig_fv WG a.sig b.sig ha.sig hb.sig).q rfl, ?_⟩
  simp only [push_cast, reduceIte, Nat.reduceMul, Nat.reduceEqDiff, Nat.reduceAdd, Nat.reduceLT, Nat.reduceLeDiff, reduceCtorEq, Int.reduceToNat, sameG]

def greatG (s : Sgn) : Bool := decide ((33000 : Int) < s.content.length) || greatC s.ee || greatS (kS s.sig)
set_option maxHeartbeats 8000000 in
theorem rGreat12_fv (WG : World) (s : Sgn) : FV Tryz.prog WG 11 [sgnP s] (vB (greatG s)) := by
  refine CallT.pure rfl (CallT_fn Tryz.func11 (rs := [.tmp 2]) (n := 17) rfl rfl (Nat.le_of_ble_eq_true rfl) rfl ?_)
  simp only [push_cast, reduceIte, Nat.reduceMul, Nat.reduceEqDiff, Nat.reduceAdd, Nat.reduceLT, Nat.reduceLeDiff, reduceCtorEq, Int.reduceToNat, bytesP_length]
  refine ⟨_, fun _ => (rGreat_fv WG s.ee).q rfl, ?_⟩
  simp only [push_cast, reduceIte, Nat.reduceMul, Nat.reduceEqDiff, Nat.reduceAdd, Nat.reduceLT, Nat.reduceLeDiff, reduceCtorEq, Int.reduceToNat]
  refine ⟨_, fun _ => (greatSig_fv WG (kS s.sig)).q rfl, ?_⟩
  simp only [push_cast, reduceIte, Nat.reduceMul, Nat.reduceEqDiff, Nat.reduceAdd, Nat.reduceLT, Nat.reduceLeDiff, reduceCtorEq, Int.reduceToNat, greatG]

def twinGK (s : Sgn) : V → Tab → Nat → Prop := fun r t n => r = .agg (twinGL s 0) ∧ t = [(0, .arr 1 (bytesP s.content) true), (1, .arr 4 (s.ee.res.v4.map spanP) true), (2, .arr 4 (s.ee.res.v6.map spanP) true), (3, .arr 2 (s.ee.res.as_.map asP) true), (4, .arr 16 (s.ee.sig.chains.map shortP) true), (5, .arr 16 (s.ee.sig.path.map shortP) true), (6, .arr 16 (s.sig.chains.map shortP) true), (7, .arr 16 (s.sig.path.map shortP) true)] ∧ n = 8
set_option maxHeartbeats 4000000 in
theorem cloneB_ct (WG : World) (l : List UInt8) (hl : l.length < 1000000) : CallT Tryz.prog WG 39 ([.sl 1 (bytesP l)].map .p) [] 0 (cloneK 1 (bytesP l)) noP := by
  refine CallT.ownNil 1 (CallT.tidy (CallT_fn Tryz.func39 (rs := [.tmp 2]) (n := 8) rfl rfl (Nat.le_of_ble_eq_true rfl) rfl ?_))
  simp only [push_cast, reduceIte, Nat.reduceMul, Nat.reduceEqDiff, Nat.reduceAdd, Nat.reduceLT, Nat.reduceLeDiff, reduceCtorEq, Int.reduceToNat]
  exact ⟨⟨by first | omega | (simp [bytesP]; omega), clone_end (by simp [bytesP])⟩, fun h => clone_nil h⟩
theorem twin_call (WG : World) (c : Crt) (hc : OkC c) (tab : Tab) (nx : Nat) : CallT Tryz.prog WG 40 [.p (crtP c)] tab nx
    (fun r t n => r = twinV c nx ∧ t = tab ++ [(nx, .arr 4 (c.res.v4.map spanP) true), (nx + 1, .arr 4 (c.res.v6.map spanP) true), (nx + 2, .arr 2 (c.res.as_.map asP) true), (nx + 3, .arr 16 (c.sig.chains.map shortP) true), (nx + 4, .arr 16 (c.sig.path.map shortP) true)] ∧ n = nx + 5) noP :=
  CallT.frame (ps := [crtP c]) (certTwin_ct WG c hc) (fun r t n hq => by
    obtain ⟨rfl, rfl, rfl⟩ := hq
    simp [V.sh, V.shL, tsh, Blk.sh, Nat.add_comm]) (fun _ _ _ h => h.elim)
set_option maxHeartbeats 16000000 in
theorem twin12_ct (WG : World) (s : Sgn) (h : OkG s) : CallT Tryz.prog WG 13 ([sgnP s].map .p) [] 0 (twinGK s) noP := by
  refine CallT.tidy (CallT_fnT Tryz.func13 (rs := [.cell 2 40]) (n := 24) rfl rfl (Nat.le_of_ble_eq_true rfl) rfl ?_)
  refine T_seqC ?_
  simp only [push_cast, reduceIte, Nat.reduceMul, Nat.reduceEqDiff, Nat.reduceAdd, Nat.reduceLT, Nat.reduceLeDiff, reduceCtorEq, Int.reduceToNat]
  refine T_seqC ?_
  refine T_drawS [2, 5, 7, 9] [(4, 0)] mixed (by kernel_rfl) ?_
  simp only [push_cast, reduceIte, Nat.reduceMul, Nat.reduceEqDiff, Nat.reduceAdd, Nat.reduceLT, Nat.reduceLeDiff, reduceCtorEq, Int.reduceToNat]
  refine ⟨_, _, _, clone_call (cloneB_ct WG s.content h.content) _ _, ?_⟩
  simp only [push_cast, reduceIte, Nat.reduceMul, Nat.reduceEqDiff, Nat.reduceAdd, Nat.reduceLT, Nat.reduceLeDiff, reduceCtorEq, Int.reduceToNat]
  refine ⟨_, _, _, twin_call WG s.ee h.ee _ _, ?_⟩
  simp only [push_cast, reduceIte, Nat.reduceMul, Nat.reduceEqDiff, Nat.reduceAdd, Nat.reduceLT, Nat.reduceLeDiff, reduceCtorEq, Int.reduceToNat]
  refine T_seqC ?_
  refine T_drawS [3, 7, 10, 13] [(6, 0)] mixed (by kernel_rfl) ?_
  simp only [push_cast, reduceIte, Nat.reduceMul, Nat.reduceEqDiff, Nat.reduceAdd, Nat.reduceLT, Nat.reduceLeDiff, reduceCtorEq, Int.reduceToNat]
  refine ⟨_, _, _, clone_call (cloneShort_ct WG s.sig.chains h.sig.nc) _ _, ?_⟩
  simp only [push_cast, reduceIte, Nat.reduceMul, Nat.reduceEqDiff, Nat.reduceAdd, Nat.reduceLT, Nat.reduceLeDiff, reduceCtorEq, Int.reduceToNat]
  refine ⟨_, _, _, clone_call (cloneShort_ct WG s.sig.path h.sig.np) _ _, ?_⟩
  simp only [push_cast, reduceIte, Nat.reduceMul, Nat.reduceEqDiff, Nat.reduceAdd, Nat.reduceLT, Nat.reduceLeDiff, reduceCtorEq, Int.reduceToNat]
  refine T_fin ?_
  simp only [push_cast, reduceIte, Nat.reduceMul, Nat.reduceEqDiff, Nat.reduceAdd, Nat.reduceLT, Nat.reduceLeDiff, reduceCtorEq, Int.reduceToNat]
  refine ⟨[(0, 2), (1, 3), (2, 4), (3, 5), (4, 6), (5, 7), (6, 8), (7, 9)], .agg (twinGL s 0), _, 8, ⟨rfl, rfl, rfl⟩, ?_, ?_, Nat.zero_le _, ?_⟩
  · simp only [bytesP_length]; rfl
  · simp [V.bd, V.bdL]
  · simp [LeR, rnf, aget, envR, tabR, injR, notIn, loR, V.rn, V.rnL, V.bd, V.bdL, Blk.rn, Blk.bd, envRn, envBd]
set_option maxHeartbeats 16000000 in
theorem rTwin12_fv (WG : World) (s : Sgn) (h : OkG s) : FV Tryz.prog WG 12 [sgnP s] (.p (sgnP s)) := by
  have hc := h.content
  refine CallT.pureS rfl (CallT_fnT Tryz.func12 (rs := [.cell 2 40]) (n := 16) rfl rfl (Nat.le_of_ble_eq_true rfl) rfl ?_)
  refine T_seqC ?_
  simp only [push_cast, reduceIte, Nat.reduceMul, Nat.reduceEqDiff, Nat.reduceAdd, Nat.reduceLT, Nat.reduceLeDiff, reduceCtorEq, Int.reduceToNat]
  refine T_seqC ?_
  refine T_drawS [13] [] mixed (by kernel_rfl) ?_
  simp only [push_cast, reduceIte, Nat.reduceMul, Nat.reduceEqDiff, Nat.reduceAdd, Nat.reduceLT, Nat.reduceLeDiff, reduceCtorEq, Int.reduceToNat, bytesP_length]
  refine ⟨by omega, _, (rCertTwin_fv WG s.ee h.ee).v rfl, _, (rTwinSig_fv WG s.sig h.sig).v rfl, ?_⟩
  simp only [push_cast, reduceIte, Nat.reduceMul, Nat.reduceEqDiff, Nat.reduceAdd, Nat.reduceLT, Nat.reduceLeDiff, reduceCtorEq, Int.reduceToNat]
  refine T_fin ?_
  simp only [push_cast, reduceIte, Nat.reduceMul, Nat.reduceEqDiff, Nat.reduceAdd, Nat.reduceLT, Nat.reduceLeDiff, reduceCtorEq, Int.reduceToNat]
  rfl
end Go.Proofs.YtplpggeefemelaaGreatDoor

namespace Go.Proofs.YtplpggeefemelaaGreatDoor
open Go Go.Gp Go.RowKit

def row1 (x : PV) : Prop := ∃ a : Int, x = .v (.int .u8 a)
theorem bytes_row1 (l : List UInt8) : ∀ x ∈ bytesP l, row1 x := fun x hx => by
  obtain ⟨b, _, rfl⟩ := List.mem_map.1 hx
  exact ⟨_, rfl⟩
set_option maxHeartbeats 16000000 in
theorem spoil12_ct (WG : World) (c a b : Sgn) (hc : OkG c) : CallT Tryz.prog WG 18 [.agg (twinGL c 3)] [(0, .box (boxG a)), (1, .box (boxG b)), (2, .box (boxG a)), (3, .arr 1 (bytesP c.content) true), (4, .arr 4 (c.ee.res.v4.map spanP) true), (5, .arr 4 (c.ee.res.v6.map spanP) true), (6, .arr 2 (c.ee.res.as_.map asP) true), (7, .arr 16 (c.ee.sig.chains.map shortP) true), (8, .arr 16 (c.ee.sig.path.map shortP) true), (9, .arr 16 (c.sig.chains.map shortP) true), (10, .arr 16 (c.sig.path.map shortP) true), (11, .box (twinGL c 3))] 12
    (fun _ t n => ∃ y z, t = [(0, .box (boxG a)), (2, .box (boxG a)), (6, y), (12, z)] ∧ n = 13) noP := by
  have hk := hc.content
  have hA := hc.ee.res.nas
  have hC := hc.ee.sig.nc
  have hC2 := hc.sig.nc
  refine CallT_fnT Tryz.func18 (rs := []) (n := 78) rfl rfl (Nat.le_of_ble_eq_true rfl) rfl ?_
  refine T_seqC ?_
  simp only [push_cast, reduceIte, Nat.reduceMul, Nat.reduceEqDiff, Nat.reduceAdd, Nat.reduceLT, Nat.reduceLeDiff, reduceCtorEq, Int.reduceToNat]
  refine T_seqC ?_
  simp only [push_cast, reduceIte, Nat.reduceMul, Nat.reduceEqDiff, Nat.reduceAdd, Nat.reduceLT, Nat.reduceLeDiff, reduceCtorEq, Int.reduceToNat]
  refine T_loopR (fun p : Nat × List PV => ⟨[(1, .ref 12 0), (2, vI p.1)], [(0, .box (boxG a)), (2, .box (boxG a)), (3, .arr 1 p.2 true), (6, .arr 2 (c.ee.res.as_.map asP) true), (7, .arr 16 (c.ee.sig.chains.map shortP) true), (9, .arr 16 (c.sig.chains.map shortP) true), (12, .box (twinGL c 3))], 13, 12, 78⟩) (fun p => p.1 ≤ c.content.length ∧ p.2.length = c.content.length ∧ ∀ x ∈ p.2, row1 x) (fun p => c.content.length - p.1) (0, (bytesP c.content)) [] ⟨Nat.zero_le _, by simp [bytesP], bytes_row1 c.content⟩ (by simp [LeR, rnf, aget, envR, tabR, injR, notIn, loR, V.rn, V.rnL, V.bd, V.bdL, Blk.rn, Blk.bd, envRn, envBd]) (fun p hp => ?_)
  simp only [push_cast, reduceIte, Nat.reduceMul, Nat.reduceEqDiff, Nat.reduceAdd, Nat.reduceLT, Nat.reduceLeDiff, reduceCtorEq, Int.reduceToNat]
  refine ⟨fun h1 => ?_, fun h1 => ?_⟩
  · have h2 : p.1 < c.content.length := by simpa using h1
    obtain ⟨hp1, hp2, hp3⟩ := hp
    have hg : p.2[p.1]? = some p.2[p.1] := List.getElem?_eq_getElem (by omega)
    obtain ⟨x1, hx⟩ := hp3 _ (List.mem_of_getElem? hg)
    rw [hx] at hg
    simp only [push_cast, reduceIte, Nat.reduceMul, Nat.reduceEqDiff, Nat.reduceAdd, Nat.reduceLT, Nat.reduceLeDiff, reduceCtorEq, Int.reduceToNat, hg]
    refine ⟨by omega, by omega, (p.1 + 1, p.2.set p.1 (.v (.int .u8 (IntKind.u8.wrap (x1 + 1))))), ⟨by omega, by simpa using hp2, set_all hp3 ⟨_, rfl⟩⟩, by omega, [], ?_⟩
    simp [LeR, rnf, aget, envR, tabR, injR, notIn, loR, V.rn, V.rnL, V.bd, V.bdL, Blk.rn, Blk.bd, envRn, envBd, setE, putP, wrap_i64 ((p.1 : Int) + 1) (by omega) (by omega)]
  · clear hp h1
    refine T_seqC ?_
    simp only [push_cast, reduceIte, Nat.reduceMul, Nat.reduceEqDiff, Nat.reduceAdd, Nat.reduceLT, Nat.reduceLeDiff, reduceCtorEq, Int.reduceToNat]
    refine T_loopR (fun p : Nat × List PV => ⟨[(1, .ref 12 0), (3, vI p.1)], [(0, .box (boxG a)), (2, .box (boxG a)), (6, .arr 2 (c.ee.res.as_.map asP) true), (7, .arr 16 (c.ee.sig.chains.map shortP) true), (9, .arr 16 p.2 true), (12, .box (twinGL c 3))], 13, 12, 78⟩) (fun p => p.1 ≤ c.sig.chains.length ∧ p.2.length = c.sig.chains.length ∧ ∀ x ∈ p.2, row8 x) (fun p => c.sig.chains.length - p.1) (0, (c.sig.chains.map shortP)) [] ⟨Nat.zero_le _, by simp, by rintro _ hx; obtain ⟨s, hs, rfl⟩ := List.mem_map.1 hx; have := hc.sig.chains s hs; match s, this with | y :: r, hr => exact ⟨y, r.map fun n : Nat => pU8 n, by simpa using hr, rfl⟩⟩ (by simp [LeR, rnf, aget, envR, tabR, injR, notIn, loR, V.rn, V.rnL, V.bd, V.bdL, Blk.rn, Blk.bd, envRn, envBd]) (fun p hp => ?_)
    simp only [push_cast, reduceIte, Nat.reduceMul, Nat.reduceEqDiff, Nat.reduceAdd, Nat.reduceLT, Nat.reduceLeDiff, reduceCtorEq, Int.reduceToNat]
    refine ⟨fun h1 => ?_, fun h1 => ?_⟩
    · have h2 : p.1 < c.sig.chains.length := by simpa using h1
      obtain ⟨hp1, hp2, hp3⟩ := hp
      have hg : p.2[p.1]? = some p.2[p.1] := List.getElem?_eq_getElem (by omega)
      obtain ⟨x1, r, hr, hx⟩ := hp3 _ (List.mem_of_getElem? hg)
      rw [hx] at hg
      refine T_drawS [10] [] mixed (by kernel_rfl) ?_
      simp only [push_cast, reduceIte, Nat.reduceMul, Nat.reduceEqDiff, Nat.reduceAdd, Nat.reduceLT, Nat.reduceLeDiff, reduceCtorEq, Int.reduceToNat, hg]
      refine ⟨by omega, ⟨by omega, by first | omega | (simp; omega) | simp⟩, by omega, ⟨by omega, by first | omega | (simp; omega) | simp⟩, (p.1 + 1, p.2.set p.1 (.agg (.v (.int .u8 (IntKind.u8.wrap (x1 + 1))) :: r))), ⟨by omega, by simpa using hp2, set_all hp3 ⟨_, _, hr, rfl⟩⟩, by omega, [], ?_⟩
      simp [LeR, rnf, aget, envR, tabR, injR, notIn, loR, V.rn, V.rnL, V.bd, V.bdL, Blk.rn, Blk.bd, envRn, envBd, setE, putP, wrap_i64 ((p.1 : Int) + 1) (by omega) (by omega)]
    · clear hp h1
      refine T_seqC ?_
      simp only [push_cast, reduceIte, Nat.reduceMul, Nat.reduceEqDiff, Nat.reduceAdd, Nat.reduceLT, Nat.reduceLeDiff, reduceCtorEq, Int.reduceToNat]
      refine T_loopR (fun p : Nat × List PV => ⟨[(1, .ref 12 0), (4, vI p.1)], [(0, .box (boxG a)), (2, .box (boxG a)), (6, .arr 2 (c.ee.res.as_.map asP) true), (7, .arr 16 p.2 true), (12, .box (twinGL c 3))], 13, 12, 78⟩) (fun p => p.1 ≤ c.ee.sig.chains.length ∧ p.2.length = c.ee.sig.chains.length ∧ ∀ x ∈ p.2, row8 x) (fun p => c.ee.sig.chains.length - p.1) (0, (c.ee.sig.chains.map shortP)) [] ⟨Nat.zero_le _, by simp, by rintro _ hx; obtain ⟨s, hs, rfl⟩ := List.mem_map.1 hx; have := hc.ee.sig.chains s hs; match s, this with | y :: r, hr => exact ⟨y, r.map fun n : Nat => pU8 n, by simpa using hr, rfl⟩⟩ (by simp [LeR, rnf, aget, envR, tabR, injR, notIn, loR, V.rn, V.rnL, V.bd, V.bdL, Blk.rn, Blk.bd, envRn, envBd]) (fun p hp => ?_)
      simp only [push_cast, reduceIte, Nat.reduceMul, Nat.reduceEqDiff, Nat.reduceAdd, Nat.reduceLT, Nat.reduceLeDiff, reduceCtorEq, Int.reduceToNat]
      refine ⟨fun h1 => ?_, fun h1 => ?_⟩
      · have h2 : p.1 < c.ee.sig.chains.length := by simpa using h1
        obtain ⟨hp1, hp2, hp3⟩ := hp
        have hg : p.2[p.1]? = some p.2[p.1] := List.getElem?_eq_getElem (by omega)
        obtain ⟨x1, r, hr, hx⟩ := hp3 _ (List.mem_of_getElem? hg)
        rw [hx] at hg
        refine T_drawS [11] [] mixed (by kernel_rfl) ?_
        simp only [push_cast, reduceIte, Nat.reduceMul, Nat.reduceEqDiff, Nat.reduceAdd, Nat.reduceLT, Nat.reduceLeDiff, reduceCtorEq, Int.reduceToNat, hg]
        refine ⟨by omega, ⟨by omega, by first | omega | (simp; omega) | simp⟩, by omega, ⟨by omega, by first | omega | (simp; omega) | simp⟩, (p.1 + 1, p.2.set p.1 (.agg (.v (.int .u8 (IntKind.u8.wrap (x1 + 1))) :: r))), ⟨by omega, by simpa using hp2, set_all hp3 ⟨_, _, hr, rfl⟩⟩, by omega, [], ?_⟩
        simp [LeR, rnf, aget, envR, tabR, injR, notIn, loR, V.rn, V.rnL, V.bd, V.bdL, Blk.rn, Blk.bd, envRn, envBd, setE, putP, wrap_i64 ((p.1 : Int) + 1) (by omega) (by omega)]
      · clear hp h1
        refine T_fin ?_
        simp only [push_cast, reduceIte, Nat.reduceMul, Nat.reduceEqDiff, Nat.reduceAdd, Nat.reduceLT, Nat.reduceLeDiff, reduceCtorEq, Int.reduceToNat]
        refine T_loopR (fun p : Nat × List PV => ⟨[(1, .ref 12 0), (5, vI p.1)], [(0, .box (boxG a)), (2, .box (boxG a)), (6, .arr 2 p.2 true), (12, .box (twinGL c 3))], 13, 12, 78⟩) (fun p => p.1 ≤ c.ee.res.as_.length ∧ p.2.length = c.ee.res.as_.length ∧ ∀ x ∈ p.2, row32 x) (fun p => c.ee.res.as_.length - p.1) (0, (c.ee.res.as_.map asP)) [] ⟨Nat.zero_le _, by simp, by rintro _ hx; obtain ⟨s, _, rfl⟩ := List.mem_map.1 hx; exact ⟨_, _, rfl⟩⟩ (by simp [LeR, rnf, aget, envR, tabR, injR, notIn, loR, V.rn, V.rnL, V.bd, V.bdL, Blk.rn, Blk.bd, envRn, envBd]) (fun p hp => ?_)
        simp only [push_cast, reduceIte, Nat.reduceMul, Nat.reduceEqDiff, Nat.reduceAdd, Nat.reduceLT, Nat.reduceLeDiff, reduceCtorEq, Int.reduceToNat]
        refine ⟨fun h1 => ?_, fun h1 => ?_⟩
        · have h2 : p.1 < c.ee.res.as_.length := by simpa using h1
          obtain ⟨hp1, hp2, hp3⟩ := hp
          have hg : p.2[p.1]? = some p.2[p.1] := List.getElem?_eq_getElem (by omega)
          obtain ⟨x1, x2, hx⟩ := hp3 _ (List.mem_of_getElem? hg)
          rw [hx] at hg
          simp only [push_cast, reduceIte, Nat.reduceMul, Nat.reduceEqDiff, Nat.reduceAdd, Nat.reduceLT, Nat.reduceLeDiff, reduceCtorEq, Int.reduceToNat, hg]
          refine ⟨by omega, by omega, (p.1 + 1, p.2.set p.1 (.agg [.v (.int .u32 x1), .v (.int .u32 (IntKind.u32.wrap (x2 + 1)))])), ⟨by omega, by simpa using hp2, set_all hp3 ⟨_, _, rfl⟩⟩, by omega, [], ?_⟩
          simp [LeR, rnf, aget, envR, tabR, injR, notIn, loR, V.rn, V.rnL, V.bd, V.bdL, Blk.rn, Blk.bd, envRn, envBd, setE, putP, wrap_i64 ((p.1 : Int) + 1) (by omega) (by omega)]
        · clear hp h1
          exact ⟨_, _, rfl⟩

structure PreG (s : Sgn) : Prop where
  ee : PreC s.ee
  chains : ∀ x ∈ s.sig.chains, x.length = 16
  path : ∀ x ∈ s.sig.path, x.length = 16
theorem sameG_self (a : Sgn) : sameG a a = true := by
  simp [sameG, sameC_self, sameS]
set_option maxHeartbeats 16000000 in
theorem signedChecks_fv (WG : World) (g : GW WG) (ge : GE WG) (a b : Sgn) (ha : PreG a) (hb : PreG b) : FV Tryz.prog WG 3 [sgnP a, sgnP b] (vB true) := by
  refine CallT.pure rfl (CallT_fnT Tryz.func3 (rs := [.tmp 4]) (n := 50) rfl rfl (Nat.le_of_ble_eq_true rfl) rfl ?_)
  refine T_seqC ?_
  simp only [push_cast, reduceIte, Nat.reduceMul, Nat.reduceEqDiff, Nat.reduceAdd, Nat.reduceLT, Nat.reduceLeDiff, reduceCtorEq, Int.reduceToNat]
  refine T_seqC ?_
  simp only [push_cast, reduceIte, Nat.reduceMul, Nat.reduceEqDiff, Nat.reduceAdd, Nat.reduceLT, Nat.reduceLeDiff, reduceCtorEq, Int.reduceToNat]
  refine (rGreat12_fv WG a).call rfl ?_
  simp only [push_cast, reduceIte, Nat.reduceMul, Nat.reduceEqDiff, Nat.reduceAdd, Nat.reduceLT, Nat.reduceLeDiff, reduceCtorEq, Int.reduceToNat]
  refine ⟨_, fun _ => (rGreat12_fv WG b).q rfl, ?_⟩
  simp only [push_cast, reduceIte, Nat.reduceMul, Nat.reduceEqDiff, Nat.reduceAdd, Nat.reduceLT, Nat.reduceLeDiff, reduceCtorEq, Int.reduceToNat]
  refine fun hgr => ?_
  have hgr' : greatG a = false ∧ greatG b = false := by simpa using hgr
  have small : ∀ s : Sgn, PreG s → greatG s = false → SmallC s.ee ∧ OkG s := fun s hs hq => by
    simp only [greatG, greatS, kS, Bool.or_eq_false_iff, decide_eq_false_iff_not, List.length_map] at hq
    obtain ⟨⟨h1, h2⟩, h3, h4⟩ := hq
    have hsm := small_of hs.ee h2
    exact ⟨hsm, ⟨hsm.toOkC, ⟨hs.chains, hs.path, by omega, by omega⟩, by omega⟩⟩
  obtain ⟨sa, oa⟩ := small a ha hgr'.1
  obtain ⟨sb, ob⟩ := small b hb hgr'.2
  have i1 := sa.issuer
  have i2 := sa.subject
  refine T_seqC ?_
  simp only [push_cast, reduceIte, Nat.reduceMul, Nat.reduceEqDiff, Nat.reduceAdd, Nat.reduceLT, Nat.reduceLeDiff, reduceCtorEq, Int.reduceToNat]
  refine (rTwin12_fv WG a oa).call rfl ?_
  simp only [push_cast, reduceIte, Nat.reduceMul, Nat.reduceEqDiff, Nat.reduceAdd, Nat.reduceLT, Nat.reduceLeDiff, reduceCtorEq, Int.reduceToNat]
  refine T_seqC ?_
  simp only [push_cast, reduceIte, Nat.reduceMul, Nat.reduceEqDiff, Nat.reduceAdd, Nat.reduceLT, Nat.reduceLeDiff, reduceCtorEq, Int.reduceToNat]
  refine CallT.frame (ps := [sgnP a]) (twin12_ct WG a oa) (fun r t n hq => ?_) (fun _ _ _ h => h.elim)
  obtain ⟨rfl, rfl, rfl⟩ := hq
  simp only [V.sh, V.shL, tsh, Blk.sh, push_cast, reduceIte, Nat.reduceMul, Nat.reduceEqDiff, Nat.reduceAdd, Nat.reduceLT, Nat.reduceLeDiff, reduceCtorEq, Int.reduceToNat]
  refine T_seqC ?_
  refine T_drawE mixed (by kernel_rfl) ?_
  simp only [push_cast, reduceIte, Nat.reduceMul, Nat.reduceEqDiff, Nat.reduceAdd, Nat.reduceLT, Nat.reduceLeDiff, reduceCtorEq, Int.reduceToNat]
  refine ⟨_, (chk12_fv WG g ge a oa (by omega) (by omega)).q rfl, ?_⟩
  simp only [push_cast, reduceIte, Nat.reduceMul, Nat.reduceEqDiff, Nat.reduceAdd, Nat.reduceLT, Nat.reduceLeDiff, reduceCtorEq, Int.reduceToNat]
  refine ⟨_, (rChk12_fv WG g ge a oa).q rfl, ?_⟩
  simp only [push_cast, reduceIte, Nat.reduceMul, Nat.reduceEqDiff, Nat.reduceAdd, Nat.reduceLT, Nat.reduceLeDiff, reduceCtorEq, Int.reduceToNat]
  refine ⟨_, (same12_fv WG a b oa ob).q rfl, ?_⟩
  simp only [push_cast, reduceIte, Nat.reduceMul, Nat.reduceEqDiff, Nat.reduceAdd, Nat.reduceLT, Nat.reduceLeDiff, reduceCtorEq, Int.reduceToNat]
  refine ⟨_, (rSame12_fv WG a b oa ob).q rfl, ?_⟩
  simp only [push_cast, reduceIte, Nat.reduceMul, Nat.reduceEqDiff, Nat.reduceAdd, Nat.reduceLT, Nat.reduceLeDiff, reduceCtorEq, Int.reduceToNat]
  refine ⟨_, (same12_fv WG a a oa oa).q rfl, ?_⟩
  simp only [push_cast, reduceIte, Nat.reduceMul, Nat.reduceEqDiff, Nat.reduceAdd, Nat.reduceLT, Nat.reduceLeDiff, reduceCtorEq, Int.reduceToNat]
  refine ⟨_, fun _ => CallT.borrow (rSame12_fv WG a a oa oa) rfl (by simp [snapT, snap, snapL, snap1, aget, List.take_of_length_le, bytesP_length]), ?_⟩
  simp only [push_cast, reduceIte, Nat.reduceMul, Nat.reduceEqDiff, Nat.reduceAdd, Nat.reduceLT, Nat.reduceLeDiff, reduceCtorEq, Int.reduceToNat, sameG_self]
  refine T_seqC ?_
  simp only [push_cast, reduceIte, Nat.reduceMul, Nat.reduceEqDiff, Nat.reduceAdd, Nat.reduceLT, Nat.reduceLeDiff, reduceCtorEq, Int.reduceToNat]
  refine (spoil12_ct WG a a b oa).mono (fun r t n hq => ?_) (fun _ _ _ h => h.elim)
  obtain ⟨y, z, rfl, rfl⟩ := hq
  simp only [push_cast, reduceIte, Nat.reduceMul, Nat.reduceEqDiff, Nat.reduceAdd, Nat.reduceLT, Nat.reduceLeDiff, reduceCtorEq, Int.reduceToNat]
  refine T_fin ?_
  simp only [push_cast, reduceIte, Nat.reduceMul, Nat.reduceEqDiff, Nat.reduceAdd, Nat.reduceLT, Nat.reduceLeDiff, reduceCtorEq, Int.reduceToNat]
  refine ⟨_, (rSame12_fv WG a a oa oa).q rfl, ?_⟩
  simp only [push_cast, reduceIte, Nat.reduceMul, Nat.reduceEqDiff, Nat.reduceAdd, Nat.reduceLT, Nat.reduceLeDiff, reduceCtorEq, Int.reduceToNat, sameG_self]

theorem byte_list {xs : List PV} (h : ∀ x ∈ xs, SInt .u8 x) : ∃ l : List UInt8, xs = bytesP l := by
  obtain ⟨l, rfl, _⟩ := list_of (f := byteP) (Q := fun _ => True) (fun p hp => by
    obtain ⟨n, rfl, hn⟩ := int_of hp rfl
    have e : IntKind.u8.max = 255 := by decide
    rw [e] at hn
    exact ⟨UInt8.ofNat n, by simp only [byteP, ou8_nat (show n < 256 by omega)], trivial⟩) h
  exact ⟨l, rfl⟩
set_option maxHeartbeats 4000000 in
theorem sgn_of {p : PV} (h : S_api_SignedObj p) : ∃ s : Sgn, p = sgnP s ∧ PreG s := by
  obtain ⟨ps, h, rfl⟩ := h
  cases h with | cons h1 h => cases h with | cons h2 h => cases h with | cons h3 h => cases h with | cons h4 h =>
    cases h
    obtain ⟨kind, rfl, _⟩ := int_of h1 rfl
    obtain ⟨xs, rfl, hx, _⟩ := h2
    obtain ⟨content, rfl⟩ := byte_list hx
    obtain ⟨ee, rfl, he⟩ := crt_of h3
    obtain ⟨sig, rfl, hc, hp⟩ := sig_of h4
    exact ⟨⟨kind, content, ee, sig⟩, rfl, ⟨he, hc, hp⟩⟩
end Go.Proofs.YtplpggeefemelaaGreatDoor
