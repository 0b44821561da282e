/-
  Signatures: whether they are well-formed. Names, clocks of the reference.
  The reference's names; comparing.
  Resources compared by the reference.
  Certificates compared.
-/
import Derived.Test.YtgekglfmianoeaaGreatDoorCA
set_option linter.unusedSimpArgs false
set_option linter.unusedVariables false
set_option maxRecDepth 20000
namespace Go.Proofs.YtgekglfmianoeaaGreatDoor
open Go Go.Gp
structure KSig where
  index : Int
  chains : List PV
  path : List PV
abbrev sigP (s : KSig) : PV := .agg [pI s.index, .sl 16 s.chains, .sl 16 s.path]
def signedB (s : KSig) : Bool := !decide (s.index = 0) || decide ((0 : Int) < s.chains.length) || decide ((0 : Int) < s.path.length)
def badG (h : Int) (s : KSig) : Bool := decide (s.index < 0) || decide ((pow2 h.toNat : Int) ≤ s.index) || !decide ((s.chains.length : Int) = 35) || !decide ((s.path.length : Int) = h)
def sigI (h : Int) (s : KSig) : Int := if goodH h = false then 2 else if badG h s then 12 else 0

set_option maxHeartbeats 4000000 in
theorem sEmpty_fv (WG : World) (s : KSig) : FV Tryz.prog WG 83 [sigP s] (vB (!signedB s)) := by
  refine CallT.pure rfl (CallT_fn Tryz.func83 (rs := [.tmp 2]) (n := 18) rfl rfl (Nat.le_of_ble_eq_true rfl) rfl ?_)
  simp only [push_cast, reduceIte, Nat.reduceMul, Nat.reduceEqDiff, Nat.reduceAdd, Nat.reduceLT, Nat.reduceLeDiff, reduceCtorEq, Int.reduceToNat, signedB, Bool.not_or, Bool.not_not]
  have e : ∀ n : Nat, (!decide ((0 : Int) < n)) = decide ((n : Int) = 0) := fun n => by rw [← decide_not]; exact decide_eq_decide.2 (by omega)
  simp only [e]

set_option maxHeartbeats 8000000 in
theorem mCheck_fv (WG : World) (h : Int) (s : KSig) : FV Tryz.prog WG 84 [pI h, sigP s] (vI (sigI h s)) := by
  refine CallT.pure rfl (CallT_fn Tryz.func84 (rs := [.tmp 4]) (n := 31) rfl rfl (Nat.le_of_ble_eq_true rfl) rfl ?_)
  simp only [push_cast, reduceIte, Nat.reduceMul, Nat.reduceEqDiff, Nat.reduceAdd, Nat.reduceLT, Nat.reduceLeDiff, reduceCtorEq, Int.reduceToNat]
  refine (good_fv WG h).call rfl ?_
  simp only [push_cast, reduceIte, Nat.reduceMul, Nat.reduceEqDiff, Nat.reduceAdd, Nat.reduceLT, Nat.reduceLeDiff, reduceCtorEq, Int.reduceToNat]
  refine ⟨fun h1 => ?_, fun h1 => ?_⟩
  · have : goodH h = false := by simpa using h1
    rw [sigI, if_pos this]
  · have hg : goodH h = true := by simpa using h1
    have hb : 0 ≤ h ∧ h ≤ 4 := by simpa [goodH] using hg
    have hs : sigI h s = if badG h s then 12 else 0 := by rw [sigI, if_neg (by rw [hg]; simp)]
    refine T_drawS [] [] mixed (by kernel_rfl) ?_
    simp only [push_cast, reduceIte, Nat.reduceMul, Nat.reduceEqDiff, Nat.reduceAdd, Nat.reduceLT, Nat.reduceLeDiff, reduceCtorEq, Int.reduceToNat]
    have e : IntKind.i64.wrap (1 * 2 ^ shAmt .i64 h) = (pow2 h.toNat : Int) := by
      have : h = 0 ∨ h = 1 ∨ h = 2 ∨ h = 3 ∨ h = 4 := by omega
      rcases this with rfl | rfl | rfl | rfl | rfl <;> rfl
    rw [e, hs]
    refine ⟨fun h2 => ⟨h2, hb.1⟩, fun h2 => ?_, fun h2 => ?_⟩
    · have : badG h s = true := h2
      rw [if_pos this]
    · have : badG h s = false := h2
      rw [this]; simp

end Go.Proofs.YtgekglfmianoeaaGreatDoor

namespace Go.Proofs.YtgekglfmianoeaaGreatDoor
open Go Go.Gp
abbrev shortP (b : List Nat) : PV := .agg (b.map fun x : Nat => pU8 x)
theorem pvs_short : ∀ {x y : List Nat}, x.length = y.length → pvsEq (x.map fun n : Nat => pU8 n) (y.map fun n : Nat => pU8 n) = decide (x = y)
  | [], [], _ => rfl
  | a :: x, b :: y, h => by
    have ih := pvs_short (x := x) (y := y) (by simpa using h)
    simp only [List.map_cons, pvsEq, pvEq, valEq, ih]
    by_cases e : a = b
    · subst e; simp
    · simp [e]; omega
theorem fit_short (n : Nat) : ∀ {x : List Nat}, x.length = n → fitKs (List.replicate n (.int .u8 0)) (x.map fun n : Nat => pU8 n) = true := by
  induction n with
  | zero => intro x h; rw [List.length_eq_zero_iff.1 h]; rfl
  | succ n ih =>
    intro x h
    match x, h with
    | a :: x, h =>
      rw [List.replicate_succ, List.map_cons, fitKs, ih (by simpa using h)]
      rfl
set_option maxHeartbeats 8000000 in
theorem sameShorts_fv (WG : World) (a b : List (List Nat)) (ha : ∀ x ∈ a, x.length = 16) (hb : ∀ x ∈ b, x.length = 16) (hn : a.length < 1000000) : FV Tryz.prog WG 119 [.sl 16 (a.map shortP), .sl 16 (b.map shortP)] (vB (decide (a = b))) := by
  refine CallT.pure rfl (CallT_fn Tryz.func119 (rs := [.tmp 4]) (n := 26) rfl rfl (Nat.le_of_ble_eq_true rfl) rfl ?_)
  simp only [push_cast, reduceIte, Nat.reduceMul, Nat.reduceEqDiff, Nat.reduceAdd, Nat.reduceLT, Nat.reduceLeDiff, reduceCtorEq, Int.reduceToNat]
  refine ⟨fun h => ?_, fun h => ?_⟩
  · have : ¬ a = b := fun e => by subst e; simp at h
    rw [decide_eq_false this]
  · have hl : a.length = b.length := by simp at h; omega
    refine T_loopS (fun i : Nat => ⟨[(0, .p (.sl 16 (a.map shortP))), (1, .p (.sl 16 (b.map shortP))), (5, vI i)], [], 0, 0, 26⟩) (fun i => i ≤ a.length ∧ a.take i = b.take i) (fun i => a.length - i) 0 ⟨Nat.zero_le _, by simp⟩ (by simp [Le, subE, aget]) (fun i hi => ?_)
    simp only [push_cast, reduceIte, Nat.reduceMul, Nat.reduceEqDiff, Nat.reduceAdd, Nat.reduceLT, Nat.reduceLeDiff, reduceCtorEq, Int.reduceToNat]
    refine ⟨fun h1 => ?_, fun h1 => ?_⟩
    · have h2 : i < a.length := by simpa using h1
      have hga : a[i]? = some a[i] := List.getElem?_eq_getElem h2
      have hgb : b[i]? = some (b[i]'(by omega)) := List.getElem?_eq_getElem (by omega)
      have h16a := ha _ (List.mem_of_getElem? hga)
      have h16b := hb _ (List.mem_of_getElem? hgb)
      generalize a[i] = x at hga h16a
      generalize (b[i]'(by omega)) = y at hgb h16b
      refine T_drawS [] [] mixed (by kernel_rfl) ?_
      simp only [push_cast, reduceIte, Nat.reduceMul, Nat.reduceEqDiff, Nat.reduceAdd, Nat.reduceLT, Nat.reduceLeDiff, reduceCtorEq, Int.reduceToNat, List.getElem?_map, hga, hgb, h16a, h16b, pvs_short (h16a.trans h16b.symm)]
      refine ⟨by omega, by omega, ⟨fit_short 16 h16a, fit_short 16 h16b⟩, fun h3 => ?_, fun h3 => ⟨i + 1, ⟨by omega, ?_⟩, by omega, ?_⟩⟩
      · have hne : ¬ x = y := by simpa using h3
        have : ¬ a = b := fun e => by subst e; rw [hga] at hgb; cases hgb; exact hne rfl
        rw [decide_eq_false this]
      · have he : x = y := by simpa using h3
        rw [List.take_add_one, List.take_add_one, hga, hgb, hi.2, he]
      · simp [Le, subE, aget, wrap_i64 (i + 1) (by omega) (by omega)]
    · have : i = a.length := by simp at h1; omega
      subst this
      have : a = b := by have := hi.2; rwa [List.take_of_length_le (Nat.le_refl _), List.take_of_length_le (by omega)] at this
      rw [decide_eq_true this]
end Go.Proofs.YtgekglfmianoeaaGreatDoor

namespace Go.Proofs.YtgekglfmianoeaaGreatDoor
open Go Go.Gp
theorem pvs_span (s t : Nat × Nat) : pvsEq [pU64 (hiN s.1), pU64 (loN s.1), pU64 (hiN s.2), pU64 (loN s.2)] [pU64 (hiN t.1), pU64 (loN t.1), pU64 (hiN t.2), pU64 (loN t.2)] = decide (s = t) := by
  simp only [pvsEq, pvEq, valEq, Bool.and_true]
  have h1 := addr_split s.1
  have h2 := addr_split s.2
  have h3 := addr_split t.1
  have h4 := addr_split t.2
  by_cases e : s = t
  · subst e; simp
  · rw [decide_eq_false e]
    have : ¬ (s.1 = t.1 ∧ s.2 = t.2) := fun h => e (Prod.ext h.1 h.2)
    simp only [Bool.and_eq_false_iff, decide_eq_false_iff_not]
    omega
def sameR (a b : Res) : Bool := decide (a.v4 = b.v4 ∧ a.v6 = b.v6 ∧ a.as_ = b.as_)
theorem sameR_no {a b : Res} {k : Nat} (h : setN a k ≠ setN b k) : sameR a b = false := by
  refine decide_eq_false fun h' => h ?_
  match k with
  | 0 => exact h'.1
  | 1 => exact h'.2.1
  | _ + 2 => exact h'.2.2
theorem sameR_all {a b : Res} (h : ∀ k, k < 3 → setN a k = setN b k) : sameR a b = true := decide_eq_true ⟨h 0 (by omega), h 1 (by omega), h 2 (by omega)⟩

set_option maxHeartbeats 16000000 in
theorem rResSame_fv (WG : World) (a b : Res) (ha : OkR a) (hb : OkR b) : FV Tryz.prog WG 54 [resP a, resP b] (vB (sameR a b)) := by
  refine CallT.pure rfl (CallT_fnT Tryz.func54 (rs := [.tmp 4]) (n := 60) rfl rfl (Nat.le_of_ble_eq_true rfl) rfl ?_)
  refine T_seqC ?_
  simp only [push_cast, reduceIte, Nat.reduceMul, Nat.reduceEqDiff, Nat.reduceAdd, Nat.reduceLT, Nat.reduceLeDiff, reduceCtorEq, Int.reduceToNat]
  refine T_seqC ?_
  simp only [push_cast, reduceIte, Nat.reduceMul, Nat.reduceEqDiff, Nat.reduceAdd, Nat.reduceLT, Nat.reduceLeDiff, reduceCtorEq, Int.reduceToNat]
  refine (lists_fv WG a ha).call rfl ?_
  simp only [push_cast, reduceIte, Nat.reduceMul, Nat.reduceEqDiff, Nat.reduceAdd, Nat.reduceLT, Nat.reduceLeDiff, reduceCtorEq, Int.reduceToNat]
  refine T_seqC ?_
  simp only [push_cast, reduceIte, Nat.reduceMul, Nat.reduceEqDiff, Nat.reduceAdd, Nat.reduceLT, Nat.reduceLeDiff, reduceCtorEq, Int.reduceToNat]
  refine (lists_fv WG b hb).call rfl ?_
  simp only [push_cast, reduceIte, Nat.reduceMul, Nat.reduceEqDiff, Nat.reduceAdd, Nat.reduceLT, Nat.reduceLeDiff, reduceCtorEq, Int.reduceToNat]
  refine T_seqC ?_
  simp only [push_cast, reduceIte, Nat.reduceMul, Nat.reduceEqDiff, Nat.reduceAdd, Nat.reduceLT, Nat.reduceLeDiff, reduceCtorEq, Int.reduceToNat]
  refine T_loopR (fun k : Nat => ⟨[(5, .p (listsP a)), (7, .p (listsP b)), (9, vI k)], [], 0, 0, 60⟩) (fun k => k ≤ 3 ∧ ∀ q, q < k → setN a q = setN b q) (fun k => 3 - k) 0 [] ⟨Nat.zero_le _, fun q hq => absurd hq (Nat.not_lt_zero q)⟩ (by simp [LeR, rnf, aget, envR, tabR, injR, notIn, loR, V.rn, V.rnL, V.bd, V.bdL, Blk.rn, Blk.bd, envRn, envBd]) (fun k hk => ?_)
  simp only [push_cast, reduceIte, Nat.reduceMul, Nat.reduceEqDiff, Nat.reduceAdd, Nat.reduceLT, Nat.reduceLeDiff, reduceCtorEq, Int.reduceToNat]
  refine ⟨fun h1 => ?_, fun h1 => ?_⟩
  · have h2 : k < 3 := by simp at h1; omega
    have hna := setN_len ha k
    refine T_drawS [] [] mixed (by kernel_rfl) ?_
    simp only [push_cast, reduceIte, Nat.reduceMul, Nat.reduceEqDiff, Nat.reduceAdd, Nat.reduceLT, Nat.reduceLeDiff, reduceCtorEq, Int.reduceToNat, lists_at a h2, lists_at b h2]
    refine ⟨by omega, by omega, fun h3 => ?_, fun h3 => ?_⟩
    · rw [sameR_no (k := k) fun e => by rw [e] at h3; simp at h3]
    · have hl : (setN a k).length = (setN b k).length := by simp at h3; omega
      refine T_loopR (fun i : Nat => ⟨[(5, .p (listsP a)), (7, .p (listsP b)), (9, vI k), (10, vI i)], [], 0, 0, 60⟩) (fun i => i ≤ (setN a k).length ∧ (setN a k).take i = (setN b k).take i) (fun i => (setN a k).length - i) 0 [] ⟨Nat.zero_le _, by simp⟩ (by simp [LeR, rnf, aget, envR, tabR, injR, notIn, loR, V.rn, V.rnL, V.bd, V.bdL, Blk.rn, Blk.bd, envRn, envBd]) (fun i hi => ?_)
      simp only [push_cast, reduceIte, Nat.reduceMul, Nat.reduceEqDiff, Nat.reduceAdd, Nat.reduceLT, Nat.reduceLeDiff, reduceCtorEq, Int.reduceToNat, lists_at a h2]
      refine ⟨by omega, fun h4 => ?_, fun h4 => ?_⟩
      · have h4 : i < (setN a k).length := by simpa using h4
        have hga : (setN a k)[i]? = some (setN a k)[i] := List.getElem?_eq_getElem h4
        have hgb : (setN b k)[i]? = some ((setN b k)[i]'(by omega)) := List.getElem?_eq_getElem (by omega)
        generalize (setN a k)[i] = x at hga
        generalize ((setN b k)[i]'(by omega)) = y at hgb
        refine T_drawS [] [] mixed (by kernel_rfl) ?_
        simp only [push_cast, reduceIte, Nat.reduceMul, Nat.reduceEqDiff, Nat.reduceAdd, Nat.reduceLT, Nat.reduceLeDiff, reduceCtorEq, Int.reduceToNat, lists_at a h2, lists_at b h2, List.getElem?_map, hga, hgb, pvs_span]
        refine ⟨by omega, by omega, by omega, by omega, fun h5 => ?_, fun h5 => ⟨i + 1, ⟨by omega, ?_⟩, by omega, [], ?_⟩⟩
        · have hne : ¬ x = y := by simpa using h5
          rw [sameR_no (k := k) fun e => by rw [e, hgb] at hga; cases hga; exact hne rfl]
        · have he : x = y := by simpa using h5
          rw [List.take_add_one, List.take_add_one, hga, hgb, hi.2, he]
        · simp [LeR, rnf, aget, envR, tabR, injR, notIn, loR, V.rn, V.rnL, V.bd, V.bdL, Blk.rn, Blk.bd, envRn, envBd, wrap_i64 (i + 1) (by omega) (by omega)]
      · have h4 : ¬ i < (setN a k).length := by simpa using h4
        have he : setN a k = setN b k := by
          have := hi.2
          rwa [List.take_of_length_le (by omega), List.take_of_length_le (by omega)] at this
        refine ⟨k + 1, ⟨by omega, fun q hq => ?_⟩, by omega, [], ?_⟩
        · by_cases e : q = k
          · subst e; exact he
          · exact hk.2 q (by omega)
        · simp [LeR, rnf, aget, envR, tabR, injR, notIn, loR, V.rn, V.rnL, V.bd, V.bdL, Blk.rn, Blk.bd, envRn, envBd, wrap_i64 (k + 1) (by omega) (by omega)]
  · have h2 : k = 3 := by simp at h1; omega
    subst h2
    rw [sameR_all hk.2]
    refine T_fin ?_
    simp only [push_cast, reduceIte, Nat.reduceMul, Nat.reduceEqDiff, Nat.reduceAdd, Nat.reduceLT, Nat.reduceLeDiff, reduceCtorEq, Int.reduceToNat]

structure Sig where
  index : Int
  chains : List (List Nat)
  path : List (List Nat)
structure OkS (s : Sig) : Prop where
  chains : ∀ x ∈ s.chains, x.length = 16
  path : ∀ x ∈ s.path, x.length = 16
  nc : s.chains.length < 1000000
  np : s.path.length < 1000000
def kS (s : Sig) : KSig := ⟨s.index, s.chains.map shortP, s.path.map shortP⟩
def sameS (a b : Sig) : Bool := decide (a.index = b.index) && decide (a.chains = b.chains) && decide (a.path = b.path)
set_option maxHeartbeats 4000000 in
theorem rSameSig_fv (WG : World) (a b : Sig) (ha : OkS a) (hb : OkS b) : FV Tryz.prog WG 55 [sigP (kS a), sigP (kS b)] (vB (sameS a b)) := by
  refine CallT.pure rfl (CallT_fn Tryz.func55 (rs := [.tmp 4]) (n := 24) rfl rfl (Nat.le_of_ble_eq_true rfl) rfl ?_)
  simp only [kS, push_cast, reduceIte, Nat.reduceMul, Nat.reduceEqDiff, Nat.reduceAdd, Nat.reduceLT, Nat.reduceLeDiff, reduceCtorEq, Int.reduceToNat]
  refine ⟨_, fun _ => (sameShorts_fv WG a.chains b.chains ha.chains hb.chains ha.nc).q rfl, ?_⟩
  simp only [push_cast, reduceIte, Nat.reduceMul, Nat.reduceEqDiff, Nat.reduceAdd, Nat.reduceLT, Nat.reduceLeDiff, reduceCtorEq, Int.reduceToNat]
  refine ⟨_, fun _ => (sameShorts_fv WG a.path b.path ha.path hb.path ha.np).q rfl, ?_⟩
  simp only [push_cast, reduceIte, Nat.reduceMul, Nat.reduceEqDiff, Nat.reduceAdd, Nat.reduceLT, Nat.reduceLeDiff, reduceCtorEq, Int.reduceToNat, sameS]

structure Crt where
  serial : Nat
  issuer : ByteArray
  subject : ByteArray
  frm : Int
  til : Int
  root : Nat → Nat
  height : Int
  ca : Bool
  inherit : Bool
  res : Res
  repo : ByteArray
  manifest : ByteArray
  notify : ByteArray
  crl : ByteArray
  parent : ByteArray
  sig : Sig
abbrev rootC (r : Nat → Nat) : List PV := [pU8 (r 0), pU8 (r 1), pU8 (r 2), pU8 (r 3), pU8 (r 4), pU8 (r 5), pU8 (r 6), pU8 (r 7), pU8 (r 8), pU8 (r 9), pU8 (r 10), pU8 (r 11), pU8 (r 12), pU8 (r 13), pU8 (r 14), pU8 (r 15)]
abbrev shortsP (l : List (List Nat)) : PV := .sl 16 (l.map shortP)
abbrev crtP (c : Crt) : PV := .agg [pU64 c.serial, pS c.issuer, pS c.subject, pI c.frm, pI c.til, pU8 (c.root 0), pU8 (c.root 1), pU8 (c.root 2), pU8 (c.root 3), pU8 (c.root 4), pU8 (c.root 5), pU8 (c.root 6), pU8 (c.root 7), pU8 (c.root 8), pU8 (c.root 9), pU8 (c.root 10), pU8 (c.root 11), pU8 (c.root 12), pU8 (c.root 13), pU8 (c.root 14), pU8 (c.root 15), pI c.height, pB c.ca, pB c.inherit,
  spansP c.res.v4, spansP c.res.v6, .sl 2 (c.res.as_.map asP), pS c.repo, pS c.manifest, pS c.notify, pS c.crl, pS c.parent, pI c.sig.index, shortsP c.sig.chains, shortsP c.sig.path]
structure OkC (c : Crt) : Prop where
  res : OkR c.res
  sig : OkS c.sig
end Go.Proofs.YtgekglfmianoeaaGreatDoor

namespace Go.Proofs.YtgekglfmianoeaaGreatDoor
open Go Go.Gp
def headC (a b : Crt) : Bool :=
  strEq a.repo b.repo && strEq a.manifest b.manifest && strEq a.notify b.notify && strEq a.crl b.crl && strEq a.parent b.parent && decide ((a.serial : Int) = b.serial) && strEq a.issuer b.issuer && strEq a.subject b.subject &&
  pvsEq [pI a.frm, pI a.til] [pI b.frm, pI b.til] &&
  pvsEq [pU8 (a.root 0), pU8 (a.root 1), pU8 (a.root 2), pU8 (a.root 3), pU8 (a.root 4), pU8 (a.root 5), pU8 (a.root 6), pU8 (a.root 7), pU8 (a.root 8), pU8 (a.root 9), pU8 (a.root 10), pU8 (a.root 11), pU8 (a.root 12), pU8 (a.root 13), pU8 (a.root 14), pU8 (a.root 15), pI a.height] [pU8 (b.root 0), pU8 (b.root 1), pU8 (b.root 2), pU8 (b.root 3), pU8 (b.root 4), pU8 (b.root 5), pU8 (b.root 6), pU8 (b.root 7), pU8 (b.root 8), pU8 (b.root 9), pU8 (b.root 10), pU8 (b.root 11), pU8 (b.root 12), pU8 (b.root 13), pU8 (b.root 14), pU8 (b.root 15), pI b.height] &&
  a.ca == b.ca && a.inherit == b.inherit
def sameC (a b : Crt) : Bool := headC a b && sameR a.res b.res && sameS a.sig b.sig
set_option maxHeartbeats 16000000 in
theorem rCertSame_fv (WG : World) (a b : Crt) (ha : OkC a) (hb : OkC b) : FV Tryz.prog WG 17 [crtP a, crtP b] (vB (sameC a b)) := by
  refine CallT.pure rfl (CallT_fnT Tryz.func17 (rs := [.tmp 4]) (n := 103) rfl rfl (Nat.le_of_ble_eq_true rfl) rfl ?_)
  refine T_seqC ?_
  simp only [push_cast, reduceIte, Nat.reduceMul, Nat.reduceEqDiff, Nat.reduceAdd, Nat.reduceLT, Nat.reduceLeDiff, reduceCtorEq, Int.reduceToNat]
  refine T_seqC ?_
  simp only [push_cast, reduceIte, Nat.reduceMul, Nat.reduceEqDiff, Nat.reduceAdd, Nat.reduceLT, Nat.reduceLeDiff, reduceCtorEq, Int.reduceToNat]
  refine T_seqC ?_
  simp only [push_cast, reduceIte, Nat.reduceMul, Nat.reduceEqDiff, Nat.reduceAdd, Nat.reduceLT, Nat.reduceLeDiff, reduceCtorEq, Int.reduceToNat]
  refine ⟨_, fun _ => (rResSame_fv WG a.res b.res ha.res hb.res).q rfl, ?_⟩
  simp only [push_cast, reduceIte, Nat.reduceMul, Nat.reduceEqDiff, Nat.reduceAdd, Nat.reduceLT, Nat.reduceLeDiff, reduceCtorEq, Int.reduceToNat]
  refine ⟨_, fun _ => (rSameSig_fv WG a.sig b.sig ha.sig hb.sig).q rfl, ?_⟩
  simp only [push_cast, reduceIte, Nat.reduceMul, Nat.reduceEqDiff, Nat.reduceAdd, Nat.reduceLT, Nat.reduceLeDiff, reduceCtorEq, Int.reduceToNat]
  refine T_fin ?_
  simp only [push_cast, reduceIte, Nat.reduceMul, Nat.reduceEqDiff, Nat.reduceAdd, Nat.reduceLT, Nat.reduceLeDiff, reduceCtorEq, Int.reduceToNat]
  rfl
end Go.Proofs.YtgekglfmianoeaaGreatDoor
