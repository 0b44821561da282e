/-
  Addresses as numbers: comparing, the next one, spans. Functions of layers 1 and 2.
  Resources: the program's side.
  resource.Check.
  Addresses bit by bit.
  Bits of addresses, the next one.
  The address of bits; the next address.
  Resources: the reference's side.
  Resources: the reference's check.
-/
import Derived.Test.YtplpggeefemelaaGreatDoorKD
set_option linter.unusedSimpArgs false
set_option linter.unusedVariables false
set_option maxRecDepth 20000
namespace Go.Proofs.YtplpggeefemelaaGreatDoor
open Go Go.Gp

abbrev pU64 (n : Int) : PV := .v (.int .u64 n)
abbrev vU64 (n : Int) : V := .p (.v (.int .u64 n))
abbrev pU32 (n : Int) : PV := .v (.int .u32 n)
/-- An address is a number below 2^128. -/
def hiN (v : Nat) : Nat := v / 18446744073709551616
def loN (v : Nat) : Nat := v % 18446744073709551616
def addrC (v : Nat) : List PV := [pU64 (hiN v), pU64 (loN v)]
abbrev addrP (v : Nat) : PV := .agg [pU64 (hiN v), pU64 (loN v)]
abbrev spanP (s : Nat × Nat) : PV := .agg [pU64 (hiN s.1), pU64 (loN s.1), pU64 (hiN s.2), pU64 (loN s.2)]
theorem hiN_lt {v : Nat} (h : v < 340282366920938463463374607431768211456) : hiN v < 18446744073709551616 := by unfold hiN; omega
theorem loN_lt (v : Nat) : loN v < 18446744073709551616 := by unfold loN; omega
theorem addr_split (v : Nat) : v = hiN v * 18446744073709551616 + loN v := by unfold hiN loN; omega

set_option maxHeartbeats 4000000 in
theorem isNaN_fv (WG : World) (n : Int) : FV Tryz.prog WG 276 [pU64 n] (vB false) := by
  refine CallT.pure rfl (CallT_fn Tryz.func276 (rs := [.tmp 2]) (n := 6) rfl rfl (Nat.le_of_ble_eq_true rfl) rfl ?_)
  simp only [push_cast, reduceIte, Nat.reduceMul, Nat.reduceEqDiff, Nat.reduceAdd, Nat.reduceLT, Nat.reduceLeDiff, reduceCtorEq, Int.reduceToNat]

def cmpI (a b : Int) : Int := if a < b then -1 else if b < a then 1 else 0
set_option maxHeartbeats 4000000 in
theorem cmp64_fv (WG : World) (a b : Int) : FV Tryz.prog WG 255 [pU64 a, pU64 b] (vI (cmpI a b)) := by
  refine CallT.pure rfl (CallT_fn Tryz.func255 (rs := [.tmp 4]) (n := 20) rfl rfl (Nat.le_of_ble_eq_true rfl) rfl ?_)
  simp only [push_cast, reduceIte, Nat.reduceMul, Nat.reduceEqDiff, Nat.reduceAdd, Nat.reduceLT, Nat.reduceLeDiff, reduceCtorEq, Int.reduceToNat]
  refine (isNaN_fv WG a).call rfl ?_
  simp only [push_cast, reduceIte, Nat.reduceMul, Nat.reduceEqDiff, Nat.reduceAdd, Nat.reduceLT, Nat.reduceLeDiff, reduceCtorEq, Int.reduceToNat]
  refine (isNaN_fv WG b).call rfl ?_
  simp only [push_cast, reduceIte, Nat.reduceMul, Nat.reduceEqDiff, Nat.reduceAdd, Nat.reduceLT, Nat.reduceLeDiff, reduceCtorEq, Int.reduceToNat, cmpI]
  refine ⟨fun h => ?_, fun h => ⟨fun h2 => ?_, fun h2 => ?_⟩⟩
  · simp at h; simp [h]
  · simp at h h2; simp [h2]; omega
  · simp at h h2; simp [show ¬ a < b by omega, show ¬ b < a by omega]

def cmpN (a b : Nat) : Int := if a < b then -1 else if b < a then 1 else 0
theorem cmpN_split (a b : Nat) : cmpN a b = if cmpI (hiN a) (hiN b) ≠ 0 then cmpI (hiN a) (hiN b) else cmpI (loN a) (loN b) := by
  unfold cmpN cmpI hiN loN
  repeat' split
  all_goals omega

set_option maxHeartbeats 4000000 in
theorem ncompare_fv (WG : World) (a b : Nat) : FV Tryz.prog WG 230 [addrP a, addrP b] (vI (cmpN a b)) := by
  refine CallT.pure rfl (CallT_fn Tryz.func230 (rs := [.tmp 4]) (n := 19) rfl rfl (Nat.le_of_ble_eq_true rfl) rfl ?_)
  simp only [push_cast, reduceIte, Nat.reduceMul, Nat.reduceEqDiff, Nat.reduceAdd, Nat.reduceLT, Nat.reduceLeDiff, reduceCtorEq, Int.reduceToNat]
  refine (cmp64_fv WG _ _).call rfl ?_
  simp only [push_cast, reduceIte, Nat.reduceMul, Nat.reduceEqDiff, Nat.reduceAdd, Nat.reduceLT, Nat.reduceLeDiff, reduceCtorEq, Int.reduceToNat, cmpN_split a b]
  refine ⟨fun h => ?_, fun h => ?_⟩
  · simp at h; simp [h]
  · simp at h
    refine (cmp64_fv WG _ _).call rfl ?_
    simp only [push_cast, reduceIte, Nat.reduceMul, Nat.reduceEqDiff, Nat.reduceAdd, Nat.reduceLT, Nat.reduceLeDiff, reduceCtorEq, Int.reduceToNat, h]
    simp

def addrOk (f : Int) (v : Nat) : Bool := decide (f = 6) || (decide (f = 4) && decide (v < 4294967296))
set_option maxHeartbeats 4000000 in
theorem ncheckAddr_fv (WG : World) (f : Int) (v : Nat) : FV Tryz.prog WG 253 [pU8 f, addrP v] (vB (addrOk f v)) := by
  refine CallT.pure rfl (CallT_fn Tryz.func253 (rs := [.tmp 4]) (n := 21) rfl rfl (Nat.le_of_ble_eq_true rfl) rfl ?_)
  simp only [push_cast, reduceIte, Nat.reduceMul, Nat.reduceEqDiff, Nat.reduceAdd, Nat.reduceLT, Nat.reduceLeDiff, reduceCtorEq, Int.reduceToNat]
  have : addrOk f v = (decide (f = 6) || (decide (f = 4) && decide ((hiN v : Int) = 0)) && decide ((loN v : Int) < 4294967296)) := by
    unfold addrOk
    congr 1
    by_cases h : f = 4
    · simp only [h, decide_true, Bool.true_and]
      rw [← Bool.decide_and]
      refine decide_eq_decide.2 ?_
      unfold hiN loN; omega
    · simp [h]
  rw [this]
  refine ⟨?_, ?_⟩ <;> simp <;> omega

def spanOk (f : Int) (s : Nat × Nat) : Bool := addrOk f s.1 && addrOk f s.2 && decide (s.1 ≤ s.2)
def spanI (f : Int) (s : Nat × Nat) : Int := if f ≠ 4 ∧ f ≠ 6 then 2 else if spanOk f s then 0 else 8
theorem cmpN_pos (a b : Nat) : (0 < cmpN a b) ↔ b < a := by
  unfold cmpN
  by_cases h : a < b
  · simp [h]; omega
  · by_cases h2 : b < a
    · simp [h, h2]
    · simp [h, h2]
set_option maxHeartbeats 4000000 in
theorem spanCheck_fv (WG : World) (f : Int) (s : Nat × Nat) : FV Tryz.prog WG 228 [pU8 f, spanP s] (vI (spanI f s)) := by
  refine CallT.pure rfl (CallT_fn Tryz.func228 (rs := [.tmp 4]) (n := 31) rfl rfl (Nat.le_of_ble_eq_true rfl) rfl ?_)
  simp only [push_cast, reduceIte, Nat.reduceMul, Nat.reduceEqDiff, Nat.reduceAdd, Nat.reduceLT, Nat.reduceLeDiff, reduceCtorEq, Int.reduceToNat]
  refine ⟨fun h => ?_, fun h => ?_⟩
  · simp at h; simp [spanI, h]
  · refine (ncheckAddr_fv WG f s.1).call rfl ?_
    simp only [push_cast, reduceIte, Nat.reduceMul, Nat.reduceEqDiff, Nat.reduceAdd, Nat.reduceLT, Nat.reduceLeDiff, reduceCtorEq, Int.reduceToNat]
    refine ⟨_, fun _ => (ncheckAddr_fv WG f s.2).q rfl, ?_⟩
    simp only [push_cast, reduceIte, Nat.reduceMul, Nat.reduceEqDiff, Nat.reduceAdd, Nat.reduceLT, Nat.reduceLeDiff, reduceCtorEq, Int.reduceToNat]
    refine ⟨_, fun _ => (ncompare_fv WG s.1 s.2).q rfl, ?_⟩
    simp only [push_cast, reduceIte, Nat.reduceMul, Nat.reduceEqDiff, Nat.reduceAdd, Nat.reduceLT, Nat.reduceLeDiff, reduceCtorEq, Int.reduceToNat]
    have key : (!addrOk f s.1 || !addrOk f s.2 || decide (0 < cmpN s.1 s.2)) = !spanOk f s := by
      simp only [spanOk, cmpN_pos, Bool.not_and]
      congr 1
      rw [← decide_not]
      exact decide_eq_decide.2 (by omega)
    have hf : ¬ (f ≠ 4 ∧ f ≠ 6) := by simp at h; omega
    rw [key, spanI, if_neg hf]
    refine ⟨fun h2 => ?_, fun h2 => ?_⟩ <;> simp at h2 <;> simp [h2]

def nextN (f : Int) (v : Nat) : Nat × Bool := if addrOk f v && addrOk f (v + 1) && decide (v + 1 < 340282366920938463463374607431768211456) then (v + 1, true) else (0, false)
set_option maxHeartbeats 4000000 in
theorem spanNext_fv (WG : World) (f : Int) (v : Nat) (h : v < 340282366920938463463374607431768211456) : FV Tryz.prog WG 229 [pU8 f, addrP v] (.tup [.p (addrP (nextN f v).1), vB (nextN f v).2]) := by
  refine CallT.pure rfl (CallT_fn Tryz.func229 (rs := [.cell 4 134, .tmp 5]) (n := 43) rfl rfl (Nat.le_of_ble_eq_true rfl) rfl ?_)
  simp only [push_cast, reduceIte, Nat.reduceMul, Nat.reduceEqDiff, Nat.reduceAdd, Nat.reduceLT, Nat.reduceLeDiff, reduceCtorEq, Int.reduceToNat]
  have hv : v + 1 < 340282366920938463463374607431768211456 ∨ v + 1 = 340282366920938463463374607431768211456 := by omega
  obtain ⟨W, hW⟩ : ∃ W : Nat, W = if v + 1 < 340282366920938463463374607431768211456 then v + 1 else 0 := ⟨_, rfl⟩
  have e1 : ((loN v : Int) + 1 + 0) % 18446744073709551616 = (loN W : Int) := by
    rw [hW]; unfold loN; split <;> omega
  have e2 : ((hiN v : Int) + 0 + ((loN v : Int) + 1 + 0) / 18446744073709551616) % 18446744073709551616 = (hiN W : Int) := by
    rw [hW]; unfold loN hiN; split <;> omega
  have e3 : ((hiN v : Int) + 0 + ((loN v : Int) + 1 + 0) / 18446744073709551616) / 18446744073709551616 = if v + 1 < 340282366920938463463374607431768211456 then 0 else 1 := by
    unfold loN hiN; split <;> omega
  refine ⟨by unfold loN; omega, by unfold loN hiN; omega, ?_⟩
  simp only [e1, e2, e3]
  refine (ncheckAddr_fv WG f v).call rfl ?_
  simp only [push_cast, reduceIte, Nat.reduceMul, Nat.reduceEqDiff, Nat.reduceAdd, Nat.reduceLT, Nat.reduceLeDiff, reduceCtorEq, Int.reduceToNat]
  refine ⟨_, fun _ => (ncheckAddr_fv WG f W).q rfl, ?_⟩
  simp only [push_cast, reduceIte, Nat.reduceMul, Nat.reduceEqDiff, Nat.reduceAdd, Nat.reduceLT, Nat.reduceLeDiff, reduceCtorEq, Int.reduceToNat]
  by_cases hb : v + 1 < 340282366920938463463374607431768211456
  · rw [if_pos hb] at hW
    subst hW
    simp only [nextN, hb, if_true, decide_true, Bool.and_true]
    cases addrOk f v <;> cases addrOk f (v + 1) <;> simp [hiN, loN]
  · simp [nextN, hb, hiN, loN]

def namedB (c : Int) : Bool := (decide (97 ≤ c) && decide (c ≤ 122)) || (decide (65 ≤ c) && decide (c ≤ 90)) || (decide (48 ≤ c) && decide (c ≤ 57)) || decide (c = 45) || decide (c = 95)
set_option maxHeartbeats 4000000 in
theorem nameGood_fv (WG : World) (c : Int) : FV Tryz.prog WG 150 [pU8 c] (vB (namedB c)) := by
  refine CallT.pure rfl (CallT_fn Tryz.func150 (rs := [.tmp 2]) (n := 33) rfl rfl (Nat.le_of_ble_eq_true rfl) rfl ?_)
  simp only [push_cast, reduceIte, Nat.reduceMul, Nat.reduceEqDiff, Nat.reduceAdd, Nat.reduceLT, Nat.reduceLeDiff, reduceCtorEq, Int.reduceToNat]
  simp [namedB]
  omega
def named (s : ByteArray) : Bool := decide (1 ≤ s.size ∧ s.size ≤ 40) && decide (∀ k, k < s.size → namedB ((bAt s k).toNat) = true)
theorem named_false {s : ByteArray} {i : Nat} (h : i < s.size) (hp : namedB ((bAt s i).toNat) = false) : named s = false := by
  have : decide (∀ k, k < s.size → namedB ((bAt s k).toNat) = true) = false := decide_eq_false fun h' => by rw [h' i h] at hp; cases hp
  simp only [named, this, Bool.and_false]

set_option maxHeartbeats 4000000 in
theorem numName_fv (WG : World) (s : ByteArray) (hs : s.size < 1000000) : FV Tryz.prog WG 91 [pS s] (vB (named s)) := by
  refine CallT.pure rfl (CallT_fn Tryz.func91 (rs := [.tmp 2]) (n := 25) rfl rfl (Nat.le_of_ble_eq_true rfl) rfl ?_)
  simp only [push_cast, reduceIte, Nat.reduceMul, Nat.reduceEqDiff, Nat.reduceAdd, Nat.reduceLT, Nat.reduceLeDiff, reduceCtorEq, Int.reduceToNat]
  refine T_loopS (fun i : Nat => ⟨[(0, vS s), (3, .p (.clo (.func 150) [] [])), (6, vI s.size), (7, vI i)], [], 0, 0, 25⟩) (fun i => i ≤ s.size ∧ ∀ k, k < i → namedB ((bAt s k).toNat) = true) (fun i => s.size - i) 0 ⟨Nat.zero_le _, fun k hk => absurd hk (Nat.not_lt_zero k)⟩ (by simp [Le, subE, aget]) (fun i hi => ?_)
  simp only [push_cast, reduceIte, Nat.reduceMul, Nat.reduceEqDiff, Nat.reduceAdd, Nat.reduceLT, Nat.reduceLeDiff, reduceCtorEq, Int.reduceToNat]
  refine ⟨fun h1 => ?_, fun h1 => ?_⟩
  · have h2 : i < s.size := by simpa using h1
    refine ⟨by omega, ?_⟩
    refine (nameGood_fv WG _).call rfl ?_
    simp only [push_cast, reduceIte, Nat.reduceMul, Nat.reduceEqDiff, Nat.reduceAdd, Nat.reduceLT, Nat.reduceLeDiff, reduceCtorEq, Int.reduceToNat]
    refine ⟨fun h4 => ?_, fun h4 => ⟨i + 1, ⟨by omega, fun k hk => ?_⟩, by omega, ?_⟩⟩
    · rw [named_false h2 (by simpa using h4)]
    · by_cases e : k = i
      · subst e; simpa using h4
      · exact hi.2 k (by omega)
    · simp [Le, subE, aget, wrap_i64 (i + 1) (by omega) (by omega)]
  · simp at h1
    have : i = s.size := by omega
    subst this
    have : decide (∀ k, k < s.size → namedB ((bAt s k).toNat) = true) = true := decide_eq_true hi.2
    simp only [named, this, Bool.and_true, Bool.decide_and]
    have e1 : decide ((1 : Int) ≤ s.size) = decide (1 ≤ s.size) := decide_eq_decide.2 (by omega)
    have e2 : decide ((s.size : Int) ≤ 40) = decide (s.size ≤ 40) := decide_eq_decide.2 (by omega)
    simp only [e1, e2]

def timeB (t : Int) : Bool := decide (0 ≤ t) && decide (t ≤ 1099511627776)
set_option maxHeartbeats 4000000 in
theorem isTime_fv (WG : World) (t : Int) : FV Tryz.prog WG 151 [pI t] (vB (timeB t)) := by
  refine CallT.pure rfl (CallT_fn Tryz.func151 (rs := [.tmp 2]) (n := 9) rfl rfl (Nat.le_of_ble_eq_true rfl) rfl ?_)
  simp only [push_cast, reduceIte, Nat.reduceMul, Nat.reduceEqDiff, Nat.reduceAdd, Nat.reduceLT, Nat.reduceLeDiff, reduceCtorEq, Int.reduceToNat, timeB]
def windowB (a b : Int) : Bool := timeB a && timeB b && decide (a ≤ b)
def windowI (a b : Int) : Int := if windowB a b then 0 else 8
set_option maxHeartbeats 4000000 in
theorem clockCheck_fv (WG : World) (a b : Int) : FV Tryz.prog WG 92 [.agg [pI a, pI b]] (vI (windowI a b)) := by
  refine CallT.pure rfl (CallT_fn Tryz.func92 (rs := [.tmp 2]) (n := 20) rfl rfl (Nat.le_of_ble_eq_true rfl) rfl ?_)
  simp only [push_cast, reduceIte, Nat.reduceMul, Nat.reduceEqDiff, Nat.reduceAdd, Nat.reduceLT, Nat.reduceLeDiff, reduceCtorEq, Int.reduceToNat]
  refine (isTime_fv WG a).call rfl ?_
  simp only [push_cast, reduceIte, Nat.reduceMul, Nat.reduceEqDiff, Nat.reduceAdd, Nat.reduceLT, Nat.reduceLeDiff, reduceCtorEq, Int.reduceToNat]
  refine ⟨_, fun _ => (isTime_fv WG b).q rfl, ?_⟩
  simp only [push_cast, reduceIte, Nat.reduceMul, Nat.reduceEqDiff, Nat.reduceAdd, Nat.reduceLT, Nat.reduceLeDiff, reduceCtorEq, Int.reduceToNat]
  have key : (!timeB a || !timeB b || decide (b < a)) = !windowB a b := by
    simp only [windowB, Bool.not_and]
    congr 1
    rw [← decide_not]
    exact decide_eq_decide.2 (by omega)
  rw [key, windowI]
  refine ⟨fun h2 => ?_, fun h2 => ?_⟩ <;> simp at h2 <;> simp [h2]

def goodH (h : Int) : Bool := decide (0 ≤ h) && decide (h ≤ 4)
set_option maxHeartbeats 4000000 in
theorem good_fv (WG : World) (h : Int) : FV Tryz.prog WG 82 [pI h] (vB (goodH h)) := by
  refine CallT.pure rfl (CallT_fn Tryz.func82 (rs := [.tmp 2]) (n := 9) rfl rfl (Nat.le_of_ble_eq_true rfl) rfl ?_)
  simp only [push_cast, reduceIte, Nat.reduceMul, Nat.reduceEqDiff, Nat.reduceAdd, Nat.reduceLT, Nat.reduceLeDiff, reduceCtorEq, Int.reduceToNat, goodH]
end Go.Proofs.YtplpggeefemelaaGreatDoor

namespace Go.Proofs.YtplpggeefemelaaGreatDoor
open Go Go.Gp

abbrev asP (s : Nat × Nat) : PV := .agg [pU32 s.1, pU32 s.2]
structure Res where
  v4 : List (Nat × Nat)
  v6 : List (Nat × Nat)
  as_ : List (Nat × Nat)
abbrev spansP (l : List (Nat × Nat)) : PV := .sl 4 (l.map spanP)
abbrev resP (r : Res) : PV := .agg [spansP r.v4, spansP r.v6, .sl 2 (r.as_.map asP)]
def maxA : Nat := 340282366920938463463374607431768211456
/-- Addresses of 128 bits, numbers of 32; lists that a machine can hold. -/
structure OkR (r : Res) : Prop where
  v4 : ∀ s ∈ r.v4, s.1 < 340282366920938463463374607431768211456 ∧ s.2 < 340282366920938463463374607431768211456
  v6 : ∀ s ∈ r.v6, s.1 < 340282366920938463463374607431768211456 ∧ s.2 < 340282366920938463463374607431768211456
  as_ : ∀ s ∈ r.as_, s.1 < 4294967296 ∧ s.2 < 4294967296
  n4 : r.v4.length < 1000000
  n6 : r.v6.length < 1000000
  nas : r.as_.length < 1000000
theorem hiN_small {v : Nat} (h : v < 4294967296) : hiN v = 0 := by unfold hiN; omega
theorem loN_small {v : Nat} (h : v < 4294967296) : loN v = v := by unfold loN; omega

theorem wrap_u64 (n : Int) (h1 : 0 ≤ n) (h2 : n < 18446744073709551616) : IntKind.u64.wrap n = n := by
  have : IntKind.u64.wrap n = n % 18446744073709551616 := rfl
  rw [this]; omega
set_option maxHeartbeats 4000000 in
theorem wide_fv (WG : World) (s : Nat × Nat) (h : s.1 < 4294967296 ∧ s.2 < 4294967296) : FV Tryz.prog WG 202 [asP s] (.p (spanP s)) := by
  refine CallT.pureS rfl (CallT_fn Tryz.func202 (rs := [.cell 2 136]) (n := 12) rfl rfl (Nat.le_of_ble_eq_true rfl) rfl ?_)
  simp only [push_cast, reduceIte, Nat.reduceMul, Nat.reduceEqDiff, Nat.reduceAdd, Nat.reduceLT, Nat.reduceLeDiff, reduceCtorEq, Int.reduceToNat]
  simp [hiN_small h.1, hiN_small h.2, loN_small h.1, loN_small h.2]
  exact ⟨wrap_u64 _ (by omega) (by omega), wrap_u64 _ (by omega) (by omega)⟩

theorem take_app {α β : Type} (f : α → β) {l : List α} {i : Nat} {x : α} (h : l[i]? = some x) : List.take i (List.map f (List.take i l)) ++ [f x] = List.map f (List.take (i + 1) l) := by
  obtain ⟨h1, h2⟩ := List.getElem?_eq_some_iff.1 h
  rw [List.take_of_length_le (by simp; omega), List.take_add_one, h]
  simp
def wideC : V := .p (.clo (.func 202) [] [])
set_option maxHeartbeats 8000000 in
theorem convert_fv (WG : World) (l : List (Nat × Nat)) (hl : ∀ s ∈ l, s.1 < 4294967296 ∧ s.2 < 4294967296) (hn : l.length < 1000000) : FV Tryz.prog WG 201 [.sl 2 (l.map asP), .clo (.func 202) [] []] (.p (spansP l)) := by
  refine CallT.pureS rfl (CallT_fnT Tryz.func201 (rs := [.tmp 4]) (n := 22) rfl rfl (Nat.le_of_ble_eq_true rfl) rfl ?_)
  refine T_seqC ?_
  simp only [push_cast, reduceIte, Nat.reduceMul, Nat.reduceEqDiff, Nat.reduceAdd, Nat.reduceLT, Nat.reduceLeDiff, reduceCtorEq, Int.reduceToNat]
  refine T_seqC ?_
  simp only [push_cast, reduceIte, Nat.reduceMul, Nat.reduceEqDiff, Nat.reduceAdd, Nat.reduceLT, Nat.reduceLeDiff, reduceCtorEq, Int.reduceToNat]
  refine T_nilT 5 4 rfl ?_
  simp only [push_cast, reduceIte, Nat.reduceMul, Nat.reduceEqDiff, Nat.reduceAdd, Nat.reduceLT, Nat.reduceLeDiff, reduceCtorEq, Int.reduceToNat]
  refine T_seqC ?_
  simp only [push_cast, reduceIte, Nat.reduceMul, Nat.reduceEqDiff, Nat.reduceAdd, Nat.reduceLT, Nat.reduceLeDiff, reduceCtorEq, Int.reduceToNat]
  refine T_loopR (fun i : Nat => ⟨[(1, wideC), (5, .osl 0 4 0 i none), (8, .p (.sl 2 (l.map asP))), (9, vI l.length), (10, vI i)], [(0, .arr 4 ((l.take i).map spanP) true)], 1, 0, 22⟩) (fun i => i ≤ l.length) (fun i => l.length - i) 0 [] (Nat.zero_le _) (by simp [wideC, LeR, rnf, aget, envR, tabR, injR, notIn, loR, V.rn, V.rnL, V.bd, V.bdL, Blk.rn, Blk.bd, envRn, envBd]) (fun i hi => ?_)
  simp only [wideC, push_cast, reduceIte, Nat.reduceMul, Nat.reduceEqDiff, Nat.reduceAdd, Nat.reduceLT, Nat.reduceLeDiff, reduceCtorEq, Int.reduceToNat]
  refine ⟨fun h1 => ?_, fun h1 => ?_⟩
  · have h2 : i < l.length := by simpa using h1
    have hg : l[i]? = some l[i] := List.getElem?_eq_getElem h2
    simp only [List.getElem?_map, hg, push_cast, reduceIte, Nat.reduceMul, Nat.reduceEqDiff, Nat.reduceAdd, Nat.reduceLT, Nat.reduceLeDiff, reduceCtorEq, Int.reduceToNat]
    refine ⟨by omega, ?_⟩
    refine (wide_fv WG l[i] (hl _ (List.getElem_mem h2))).call rfl ?_
    simp only [push_cast, reduceIte, Nat.reduceMul, Nat.reduceEqDiff, Nat.reduceAdd, Nat.reduceLT, Nat.reduceLeDiff, reduceCtorEq, Int.reduceToNat]
    refine ⟨⟨by simp; omega, by omega⟩, i + 1, by omega, by omega, [(0, 3)], ?_⟩
    have e := take_app spanP hg
    simp only [wideC, LeR, rnf, aget, envR, tabR, injR, notIn, loR, V.rn, V.rnL, V.bd, V.bdL, Blk.rn, Blk.bd, envRn, envBd, wrap_i64 (i + 1) (by omega) (by omega), ← e]
    simp
  · have : i = l.length := by simp at h1; omega
    subst this
    refine T_fin ?_
    simp only [push_cast, reduceIte, Nat.reduceMul, Nat.reduceEqDiff, Nat.reduceAdd, Nat.reduceLT, Nat.reduceLeDiff, reduceCtorEq, Int.reduceToNat]
    simp [List.take_of_length_le]

abbrev setsP (r : Res) : PV := .agg [spansP r.v4, spansP r.v6, spansP r.as_]
set_option maxHeartbeats 8000000 in
theorem sets_fv (WG : World) (r : Res) (h : OkR r) : FV Tryz.prog WG 148 [resP r] (.p (setsP r)) := by
  refine CallT.pureS rfl (CallT_fnT Tryz.func148 (rs := [.cell 2 201]) (n := 11) rfl rfl (Nat.le_of_ble_eq_true rfl) rfl ?_)
  refine T_seqC ?_
  simp only [push_cast, reduceIte, Nat.reduceMul, Nat.reduceEqDiff, Nat.reduceAdd, Nat.reduceLT, Nat.reduceLeDiff, reduceCtorEq, Int.reduceToNat]
  refine T_seqC ?_
  refine T_drawS [8] [] mixed (by kernel_rfl) ?_
  simp only [push_cast, reduceIte, Nat.reduceMul, Nat.reduceEqDiff, Nat.reduceAdd, Nat.reduceLT, Nat.reduceLeDiff, reduceCtorEq, Int.reduceToNat]
  refine ⟨_, (convert_fv WG r.as_ h.as_ h.nas).v rfl, ?_⟩
  simp only [push_cast, reduceIte, Nat.reduceMul, Nat.reduceEqDiff, Nat.reduceAdd, Nat.reduceLT, Nat.reduceLeDiff, reduceCtorEq, Int.reduceToNat]
  refine T_fin ?_
  simp only [push_cast, reduceIte, Nat.reduceMul, Nat.reduceEqDiff, Nat.reduceAdd, Nat.reduceLT, Nat.reduceLeDiff, reduceCtorEq, Int.reduceToNat]

def afterB (a b : Nat) : Bool := (nextN 6 b).2 && decide ((nextN 6 b).1 < a)
set_option maxHeartbeats 8000000 in
theorem after_fv (WG : World) (a b : Nat) (hb : b < 340282366920938463463374607431768211456) : FV Tryz.prog WG 203 [addrP a, addrP b] (vB (afterB a b)) := by
  refine CallT.pure rfl (CallT_fn Tryz.func203 (rs := [.tmp 4]) (n := 19) rfl rfl (Nat.le_of_ble_eq_true rfl) rfl ?_)
  simp only [push_cast, reduceIte, Nat.reduceMul, Nat.reduceEqDiff, Nat.reduceAdd, Nat.reduceLT, Nat.reduceLeDiff, reduceCtorEq, Int.reduceToNat]
  refine (spanNext_fv WG 6 b hb).call rfl ?_
  simp only [push_cast, reduceIte, Nat.reduceMul, Nat.reduceEqDiff, Nat.reduceAdd, Nat.reduceLT, Nat.reduceLeDiff, reduceCtorEq, Int.reduceToNat]
  refine ⟨_, fun _ => (ncompare_fv WG a (nextN 6 b).1).q rfl, ?_⟩
  simp only [push_cast, reduceIte, Nat.reduceMul, Nat.reduceEqDiff, Nat.reduceAdd, Nat.reduceLT, Nat.reduceLeDiff, reduceCtorEq, Int.reduceToNat, cmpN_pos, afterB]

set_option maxHeartbeats 8000000 in
theorem empty_fv (WG : World) (r : Res) (h : OkR r) : FV Tryz.prog WG 93 [resP r] (vB (decide (r.v4.length + r.v6.length + r.as_.length = 0))) := by
  refine CallT.pure rfl (CallT_fn Tryz.func93 (rs := [.tmp 2]) (n := 15) rfl rfl (Nat.le_of_ble_eq_true rfl) rfl ?_)
  simp only [push_cast, reduceIte, Nat.reduceMul, Nat.reduceEqDiff, Nat.reduceAdd, Nat.reduceLT, Nat.reduceLeDiff, reduceCtorEq, Int.reduceToNat]
  have := h.n4
  have := h.n6
  have := h.nas
  rw [wrap_i64 (r.v4.length + r.v6.length) (by omega) (by omega), wrap_i64 _ (by omega) (by omega)]
  exact decide_eq_decide.2 (by omega)

/-- Each span is greater than the one before, by at least 2. -/
def normalB (l : List (Nat × Nat)) : Bool := decide (∀ i, i < l.length - 1 → afterB (l.getD (i + 1) (0, 0)).1 (l.getD i (0, 0)).2 = true)
set_option maxHeartbeats 8000000 in
theorem normal_fv (WG : World) (l : List (Nat × Nat)) (hl : ∀ s ∈ l, s.1 < 340282366920938463463374607431768211456 ∧ s.2 < 340282366920938463463374607431768211456) (hn : l.length < 1000000) : FV Tryz.prog WG 149 [spansP l] (vB (normalB l)) := by
  refine CallT.pure rfl (CallT_fnT Tryz.func149 (rs := [.tmp 2]) (n := 23) rfl rfl (Nat.le_of_ble_eq_true rfl) rfl ?_)
  refine T_seqC ?_
  simp only [push_cast, reduceIte, Nat.reduceMul, Nat.reduceEqDiff, Nat.reduceAdd, Nat.reduceLT, Nat.reduceLeDiff, reduceCtorEq, Int.reduceToNat]
  refine T_seqC ?_
  simp only [push_cast, reduceIte, Nat.reduceMul, Nat.reduceEqDiff, Nat.reduceAdd, Nat.reduceLT, Nat.reduceLeDiff, reduceCtorEq, Int.reduceToNat]
  refine T_loopS (fun i : Nat => ⟨[(0, .p (spansP l)), (3, vI i)], [], 0, 0, 23⟩) (fun i => 1 ≤ i ∧ (i ≤ l.length ∨ i = 1) ∧ ∀ k, k < i - 1 → afterB (l.getD (k + 1) (0, 0)).1 (l.getD k (0, 0)).2 = true) (fun i => l.length - i) 1 ⟨Nat.le_refl _, .inr rfl, fun k hk => absurd hk (Nat.not_lt_zero k)⟩ (by simp [Le, subE, aget]) (fun i hi => ?_)
  simp only [push_cast, reduceIte, Nat.reduceMul, Nat.reduceEqDiff, Nat.reduceAdd, Nat.reduceLT, Nat.reduceLeDiff, reduceCtorEq, Int.reduceToNat]
  refine ⟨fun h1 => ?_, fun h1 => ?_⟩
  · have h2 : i < l.length := by simpa using h1
    have hg : l[i]? = some (l.getD i (0, 0)) := by rw [List.getD_eq_getElem?_getD, List.getElem?_eq_getElem h2]; rfl
    have hg' : l[i - 1]? = some (l.getD (i - 1) (0, 0)) := by rw [List.getD_eq_getElem?_getD, List.getElem?_eq_getElem (by omega)]; rfl
    have hi1 : ((i : Int) - 1).toNat = i - 1 := by omega
    have hw := wrap_i64 ((i : Int) - 1) (by omega) (by omega)
    have hw' := wrap_i64 ((i : Int) + 1) (by omega) (by omega)
    refine T_drawS [] [] mixed (by kernel_rfl) ?_
    simp only [push_cast, reduceIte, Nat.reduceMul, Nat.reduceEqDiff, Nat.reduceAdd, Nat.reduceLT, Nat.reduceLeDiff, reduceCtorEq, Int.reduceToNat, List.getElem?_map, hg, hg', hi1, hw]
    refine ⟨by omega, by omega, _, (after_fv WG (l.getD i (0, 0)).1 (l.getD (i - 1) (0, 0)).2 (hl _ (List.mem_of_getElem? hg')).2).v rfl, ?_⟩
    simp only [push_cast, reduceIte, Nat.reduceMul, Nat.reduceEqDiff, Nat.reduceAdd, Nat.reduceLT, Nat.reduceLeDiff, reduceCtorEq, Int.reduceToNat]
    refine ⟨fun h4 => ?_, fun h4 => ⟨i + 1, ⟨by omega, .inl (by omega), fun k hk => ?_⟩, by omega, ?_⟩⟩
    · have : normalB l = false := decide_eq_false fun h' => by
        have := h' (i - 1) (by omega)
        rw [show i - 1 + 1 = i by omega] at this
        rw [this] at h4; cases h4
      rw [this]
    · by_cases e : k = i - 1
      · subst e
        rw [show i - 1 + 1 = i by omega]
        simpa using h4
      · exact hi.2.2 k (by omega)
    · simp [Le, subE, aget, hw']
  · simp at h1
    have : normalB l = true := decide_eq_true fun k hk => hi.2.2 k (by omega)
    rw [this]
    refine T_fin ?_
    simp only [push_cast, reduceIte, Nat.reduceMul, Nat.reduceEqDiff, Nat.reduceAdd, Nat.reduceLT, Nat.reduceLeDiff, reduceCtorEq, Int.reduceToNat]
end Go.Proofs.YtplpggeefemelaaGreatDoor

namespace Go.Proofs.YtplpggeefemelaaGreatDoor
open Go Go.Gp

/-- The first element of which 'f' holds. -/
def idxG {α : Type} (f : α → Bool) (xs : List α) : Int := match xs.findIdx? f with | some i => i | none => -1
theorem idxG_some {α : Type} {f : α → Bool} {xs : List α} {i : Nat} {x : α} (h : xs[i]? = some x) (hf : f x = true) (hp : ∀ k y, k < i → xs[k]? = some y → f y = false) : idxG f xs = i := by
  obtain ⟨hlt, hx⟩ := List.getElem?_eq_some_iff.1 h
  have : xs.findIdx? f = some i := by
    rw [List.findIdx?_eq_some_iff_getElem]
    refine ⟨hlt, by rw [hx]; exact hf, fun j hj => ?_⟩
    have := hp j xs[j] hj (by simp)
    simp [this]
  simp only [idxG, this]
theorem idxG_none {α : Type} {f : α → Bool} {xs : List α} (hp : ∀ k y, k < xs.length → xs[k]? = some y → f y = false) : idxG f xs = -1 := by
  have : xs.findIdx? f = none := by
    rw [List.findIdx?_eq_none_iff]
    intro q hq
    obtain ⟨k, hk⟩ := List.mem_iff_getElem?.1 hq
    exact hp k q (List.getElem?_eq_some_iff.1 hk).1 hk
  simp only [idxG, this]
theorem idxG_ge {α : Type} (f : α → Bool) (xs : List α) : decide (0 ≤ idxG f xs) = xs.any f := by
  unfold idxG
  cases h : xs.findIdx? f with
  | none =>
    rw [List.findIdx?_eq_none_iff] at h
    have : xs.any f = false := List.any_eq_false.2 fun x hx => by rw [h x hx]; simp
    rw [this]; rfl
  | some i =>
    rw [List.findIdx?_eq_some_iff_getElem] at h
    obtain ⟨hlt, hf, _⟩ := h
    have : xs.any f = true := List.any_eq_true.2 ⟨xs[i], List.getElem_mem hlt, hf⟩
    rw [this]; exact decide_eq_true (Int.natCast_nonneg i)

def badS (f : Int) (s : Nat × Nat) : Bool := decide (spanI f s ≠ 0)
abbrev famP (f : Int) : PV := .ptr (.agg [pU8 f]) 0
abbrev goodC (f : Int) : PV := .clo (.func 227) [] [famP f]
set_option maxHeartbeats 4000000 in
theorem good1_fv (WG : World) (f : Int) (s : Nat × Nat) : FV Tryz.prog WG 227 [spanP s, famP f] (vB (badS f s)) := by
  refine CallT.pure rfl (CallT_fn Tryz.func227 (rs := [.tmp 3]) (n := 8) rfl rfl (Nat.le_of_ble_eq_true rfl) rfl ?_)
  simp only [push_cast, reduceIte, Nat.reduceMul, Nat.reduceEqDiff, Nat.reduceAdd, Nat.reduceLT, Nat.reduceLeDiff, reduceCtorEq, Int.reduceToNat]
  refine (spanCheck_fv WG f s).call rfl ?_
  simp only [push_cast, reduceIte, Nat.reduceMul, Nat.reduceEqDiff, Nat.reduceAdd, Nat.reduceLT, Nat.reduceLeDiff, reduceCtorEq, Int.reduceToNat, badS]
  simp

set_option maxHeartbeats 8000000 in
theorem setIndexFunc_fv (WG : World) (f : Int) (l : List (Nat × Nat)) (hn : l.length < 1000000) : FV Tryz.prog WG 252 [spansP l, goodC f] (vI (idxG (badS f) l)) := by
  refine CallT.pure rfl (CallT_fn Tryz.func252 (rs := [.tmp 4]) (n := 19) rfl rfl (Nat.le_of_ble_eq_true rfl) rfl ?_)
  simp only [push_cast, reduceIte, Nat.reduceMul, Nat.reduceEqDiff, Nat.reduceAdd, Nat.reduceLT, Nat.reduceLeDiff, reduceCtorEq, Int.reduceToNat]
  refine T_loopS (fun i : Nat => ⟨[(0, .p (spansP l)), (1, .p (goodC f)), (7, vI l.length), (8, vI i)], [], 0, 0, 19⟩) (fun i => i ≤ l.length ∧ ∀ k p, k < i → l[k]? = some p → badS f p = false) (fun i => l.length - i) 0 ⟨Nat.zero_le _, fun k p hk => absurd hk (Nat.not_lt_zero k)⟩ (by simp [Le, subE, aget]) (fun i hi => ?_)
  simp only [push_cast, reduceIte, Nat.reduceMul, Nat.reduceEqDiff, Nat.reduceAdd, Nat.reduceLT, Nat.reduceLeDiff, reduceCtorEq, Int.reduceToNat]
  refine ⟨fun h1 => ?_, fun h1 => ?_⟩
  · have h2 : i < l.length := by simpa using h1
    have h3 : l[i]? = some l[i] := by simp [h2]
    generalize l[i] = p at h3
    simp only [push_cast, reduceIte, Nat.reduceMul, Nat.reduceEqDiff, Nat.reduceAdd, Nat.reduceLT, Nat.reduceLeDiff, reduceCtorEq, Int.reduceToNat, List.getElem?_map, h3]
    refine ⟨by omega, ?_⟩
    refine (good1_fv WG f p).call rfl ?_
    simp only [push_cast, reduceIte, Nat.reduceMul, Nat.reduceEqDiff, Nat.reduceAdd, Nat.reduceLT, Nat.reduceLeDiff, reduceCtorEq, Int.reduceToNat]
    refine ⟨fun h4 => ?_, fun h4 => ⟨i + 1, ⟨by omega, fun k q hk hq => ?_⟩, by omega, ?_⟩⟩
    · rw [idxG_some h3 h4 hi.2]
    · by_cases e : k = i
      · subst e; rw [h3] at hq; cases hq; simpa using h4
      · exact hi.2 k q (by omega) hq
    · simp [Le, subE, aget, wrap_i64 (i + 1) (by omega) (by omega)]
  · have h2 : ¬ i < l.length := by simpa using h1
    rw [idxG_none fun k y hk hy => hi.2 k y (by omega) hy]

set_option maxHeartbeats 8000000 in
theorem setContains_fv (WG : World) (f : Int) (l : List (Nat × Nat)) (hn : l.length < 1000000) : FV Tryz.prog WG 226 [spansP l, goodC f] (vB (l.any (badS f))) := by
  refine CallT.pure rfl (CallT_fn Tryz.func226 (rs := [.tmp 4]) (n := 9) rfl rfl (Nat.le_of_ble_eq_true rfl) rfl ?_)
  simp only [push_cast, reduceIte, Nat.reduceMul, Nat.reduceEqDiff, Nat.reduceAdd, Nat.reduceLT, Nat.reduceLeDiff, reduceCtorEq, Int.reduceToNat]
  refine (setIndexFunc_fv WG f l hn).call rfl ?_
  simp only [push_cast, reduceIte, Nat.reduceMul, Nat.reduceEqDiff, Nat.reduceAdd, Nat.reduceLT, Nat.reduceLeDiff, reduceCtorEq, Int.reduceToNat, idxG_ge]

def famN : Nat → Int | 0 => 4 | 1 => 6 | _ => 4
set_option maxHeartbeats 8000000 in
theorem rgood_fv (WG : World) (k : Nat) (hk : k < 3) (l : List (Nat × Nat)) (hn : l.length < 1000000) : FV Tryz.prog WG 200 [pI k, spansP l] (vB (!l.any (badS (famN k)))) := by
  refine CallT.pure rfl (CallT_fn Tryz.func200 (rs := [.tmp 4]) (n := 14) rfl rfl (Nat.le_of_ble_eq_true rfl) rfl ?_)
  have e : ([.v (.int .u8 4), .v (.int .u8 6), .v (.int .u8 4)] : List PV)[k]? = some (.v (.int .u8 (famN k))) := by
    match k, hk with
    | 0, _ => rfl
    | 1, _ => rfl
    | 2, _ => rfl
  simp only [push_cast, reduceIte, Nat.reduceMul, Nat.reduceEqDiff, Nat.reduceAdd, Nat.reduceLT, Nat.reduceLeDiff, reduceCtorEq, Int.reduceToNat, e]
  refine ⟨by omega, ?_⟩
  refine (setContains_fv WG (famN k) l hn).lend rfl (by simp [snapT, snap, snapL, snap1, aget, allP]) ?_
  simp only [push_cast, reduceIte, Nat.reduceMul, Nat.reduceEqDiff, Nat.reduceAdd, Nat.reduceLT, Nat.reduceLeDiff, reduceCtorEq, Int.reduceToNat]

/-- The k-th set. -/
def setN (r : Res) : Nat → List (Nat × Nat) | 0 => r.v4 | 1 => r.v6 | _ => r.as_
def badR (r : Res) : Bool := r.v4.any (badS 4) || r.v6.any (badS 6) || r.as_.any (badS 4)
def manyR (r : Res) : Bool := decide (200 < r.v4.length ∨ 200 < r.v6.length ∨ 200 < r.as_.length)
def validI (r : Res) : Int := if manyR r then 4 else if badR r then 8 else 0
theorem setN_len {r : Res} (h : OkR r) (k : Nat) : (setN r k).length < 1000000 := by
  match k with
  | 0 => exact h.n4
  | 1 => exact h.n6
  | _ + 2 => exact h.nas
theorem badR_at {r : Res} {k : Nat} (hk : k < 3) (h : (setN r k).any (badS (famN k)) = true) : badR r = true := by
  match k, hk with
  | 0, _ => simp only [setN, famN] at h; simp [badR, h]
  | 1, _ => simp only [setN, famN] at h; simp [badR, h]
  | 2, _ => simp only [setN, famN] at h; simp [badR, h]
theorem badR_no {r : Res} (h : ∀ k, k < 3 → (setN r k).any (badS (famN k)) = false) : badR r = false := by
  have h0 := h 0 (by omega)
  have h1 := h 1 (by omega)
  have h2 := h 2 (by omega)
  simp only [setN, famN] at h0 h1 h2
  simp only [badR, h0, h1, h2, Bool.or_false]
theorem sets_at (r : Res) {k : Nat} (hk : k < 3) (d : V) : ([.p (spansP r.v4), .p (spansP r.v6), .p (spansP r.as_)] : List V).getD k d = .p (spansP (setN r k)) := by
  match k, hk with
  | 0, _ => rfl
  | 1, _ => rfl
  | 2, _ => rfl

set_option maxHeartbeats 8000000 in
theorem checked_fv (WG : World) (r : Res) (h : OkR r) : FV Tryz.prog WG 147 [resP r] (vI (validI r)) := by
  refine CallT.pure rfl (CallT_fn Tryz.func147 (rs := [.tmp 2]) (n := 27) rfl rfl (Nat.le_of_ble_eq_true rfl) rfl ?_)
  simp only [push_cast, reduceIte, Nat.reduceMul, Nat.reduceEqDiff, Nat.reduceAdd, Nat.reduceLT, Nat.reduceLeDiff, reduceCtorEq, Int.reduceToNat]
  have h4 := h.n4
  have h6 := h.n6
  have ha := h.nas
  refine ⟨fun hm => ?_, fun hm => ?_⟩
  · have : manyR r = true := by
      refine decide_eq_true ?_
      simp only [decide_eq_true_eq] at hm
      repeat' split at hm
      all_goals omega
    simp only [validI, this, if_true]
  · have : manyR r = false := by
      refine decide_eq_false ?_
      simp only [decide_eq_false_iff_not] at hm
      repeat' split at hm
      all_goals omega
    refine (sets_fv WG r h).call rfl ?_
    simp only [push_cast, reduceIte, Nat.reduceMul, Nat.reduceEqDiff, Nat.reduceAdd, Nat.reduceLT, Nat.reduceLeDiff, reduceCtorEq, Int.reduceToNat]
    have hv : validI r = if badR r then 8 else 0 := by simp only [validI, this, Bool.false_eq_true, if_false]
    refine T_loopR (fun i : Nat => ⟨[(17, .p (setsP r)), (18, vI i)], [], 0, 0, 27⟩) (fun i => i ≤ 3 ∧ ∀ k, k < i → (setN r k).any (badS (famN k)) = false) (fun i => 3 - i) 0 [] ⟨Nat.zero_le _, fun k hk => absurd hk (Nat.not_lt_zero k)⟩ (by simp [LeR, rnf, aget, envR, tabR, injR, notIn, loR, V.rn, V.rnL, V.bd, V.bdL, Blk.rn, Blk.bd, envRn, envBd]) (fun i hi => ?_)
    simp only [push_cast, reduceIte, Nat.reduceMul, Nat.reduceEqDiff, Nat.reduceAdd, Nat.reduceLT, Nat.reduceLeDiff, reduceCtorEq, Int.reduceToNat]
    refine ⟨fun h1 => ?_, fun h1 => ?_⟩
    · have h2 : i < 3 := by simp at h1; omega
      simp only [sets_at r h2, push_cast, reduceIte, Nat.reduceMul, Nat.reduceEqDiff, Nat.reduceAdd, Nat.reduceLT, Nat.reduceLeDiff, reduceCtorEq, Int.reduceToNat]
      refine ⟨by omega, ?_⟩
      refine (rgood_fv WG i h2 (setN r i) (setN_len h i)).call rfl ?_
      simp only [push_cast, reduceIte, Nat.reduceMul, Nat.reduceEqDiff, Nat.reduceAdd, Nat.reduceLT, Nat.reduceLeDiff, reduceCtorEq, Int.reduceToNat]
      refine ⟨fun h3 => ?_, fun h3 => ⟨i + 1, ⟨by omega, fun k hk => ?_⟩, by omega, [], ?_⟩⟩
      · rw [hv, badR_at h2 (by simpa using h3), if_pos rfl]
      · by_cases e : k = i
        · subst e; simpa using h3
        · exact hi.2 k (by omega)
      · simp [LeR, rnf, aget, envR, tabR, injR, notIn, loR, V.rn, V.rnL, V.bd, V.bdL, Blk.rn, Blk.bd, envRn, envBd, wrap_i64 (i + 1) (by omega) (by omega)]
    · have h2 : i = 3 := by simp at h1; omega
      subst h2
      rw [hv, badR_no hi.2]
      simp

def normR (r : Res) : Bool := normalB r.v4 && normalB r.v6 && normalB r.as_
/-- What resource.Check says. -/
def resI (r : Res) : Int := if validI r ≠ 0 then validI r else if normR r then 0 else 8
theorem normR_at {r : Res} {k : Nat} (hk : k < 3) (h : normalB (setN r k) = false) : normR r = false := by
  match k, hk with
  | 0, _ => simp only [setN] at h; simp [normR, h]
  | 1, _ => simp only [setN] at h; simp [normR, h]
  | 2, _ => simp only [setN] at h; simp [normR, h]
theorem normR_all {r : Res} (h : ∀ k, k < 3 → normalB (setN r k) = true) : normR r = true := by
  have h0 := h 0 (by omega)
  have h1 := h 1 (by omega)
  have h2 := h 2 (by omega)
  simp only [setN] at h0 h1 h2
  simp only [normR, h0, h1, h2, Bool.and_true]
theorem setN_ok {r : Res} (h : OkR r) (k : Nat) : ∀ s ∈ setN r k, s.1 < 340282366920938463463374607431768211456 ∧ s.2 < 340282366920938463463374607431768211456 := by
  intro s hs
  match k with
  | 0 => exact h.v4 s hs
  | 1 => exact h.v6 s hs
  | _ + 2 => have := h.as_ s hs; omega

set_option maxHeartbeats 8000000 in
theorem rcheck_fv (WG : World) (r : Res) (h : OkR r) : FV Tryz.prog WG 90 [resP r] (vI (resI r)) := by
  refine CallT.pure rfl (CallT_fn Tryz.func90 (rs := [.tmp 2]) (n := 20) rfl rfl (Nat.le_of_ble_eq_true rfl) rfl ?_)
  simp only [push_cast, reduceIte, Nat.reduceMul, Nat.reduceEqDiff, Nat.reduceAdd, Nat.reduceLT, Nat.reduceLeDiff, reduceCtorEq, Int.reduceToNat]
  refine (checked_fv WG r h).call rfl ?_
  simp only [push_cast, reduceIte, Nat.reduceMul, Nat.reduceEqDiff, Nat.reduceAdd, Nat.reduceLT, Nat.reduceLeDiff, reduceCtorEq, Int.reduceToNat]
  refine ⟨fun h1 => ?_, fun h1 => ?_⟩
  · have : validI r ≠ 0 := by simpa using h1
    rw [resI, if_pos this]
  · have h0 : validI r = 0 := by simpa using h1
    have hv : resI r = if normR r then 0 else 8 := by rw [resI, if_neg (by omega)]
    refine (sets_fv WG r h).call rfl ?_
    simp only [push_cast, reduceIte, Nat.reduceMul, Nat.reduceEqDiff, Nat.reduceAdd, Nat.reduceLT, Nat.reduceLeDiff, reduceCtorEq, Int.reduceToNat]
    refine T_loopR (fun i : Nat => ⟨[(12, .p (setsP r)), (13, vI i)], [], 0, 0, 20⟩) (fun i => i ≤ 3 ∧ ∀ k, k < i → normalB (setN r k) = true) (fun i => 3 - i) 0 [] ⟨Nat.zero_le _, fun k hk => absurd hk (Nat.not_lt_zero k)⟩ (by simp [LeR, rnf, aget, envR, tabR, injR, notIn, loR, V.rn, V.rnL, V.bd, V.bdL, Blk.rn, Blk.bd, envRn, envBd]) (fun i hi => ?_)
    simp only [push_cast, reduceIte, Nat.reduceMul, Nat.reduceEqDiff, Nat.reduceAdd, Nat.reduceLT, Nat.reduceLeDiff, reduceCtorEq, Int.reduceToNat]
    refine ⟨fun h1 => ?_, fun h1 => ?_⟩
    · have h2 : i < 3 := by simp at h1; omega
      simp only [sets_at r h2, push_cast, reduceIte, Nat.reduceMul, Nat.reduceEqDiff, Nat.reduceAdd, Nat.reduceLT, Nat.reduceLeDiff, reduceCtorEq, Int.reduceToNat]
      refine ⟨by omega, ?_⟩
      refine (normal_fv WG (setN r i) (setN_ok h i) (setN_len h i)).call rfl ?_
      simp only [push_cast, reduceIte, Nat.reduceMul, Nat.reduceEqDiff, Nat.reduceAdd, Nat.reduceLT, Nat.reduceLeDiff, reduceCtorEq, Int.reduceToNat]
      refine ⟨fun h3 => ?_, fun h3 => ⟨i + 1, ⟨by omega, fun k hk => ?_⟩, by omega, [], ?_⟩⟩
      · rw [hv, normR_at h2 (by simpa using h3)]; simp
      · by_cases e : k = i
        · subst e; simpa using h3
        · exact hi.2 k (by omega)
      · simp [LeR, rnf, aget, envR, tabR, injR, notIn, loR, V.rn, V.rnL, V.bd, V.bdL, Blk.rn, Blk.bd, envRn, envBd, wrap_i64 (i + 1) (by omega) (by omega)]
    · have h2 : i = 3 := by simp at h1; omega
      subst h2
      rw [hv, normR_all hi.2]
      simp
end Go.Proofs.YtplpggeefemelaaGreatDoor

namespace Go.Proofs.YtplpggeefemelaaGreatDoor
open Go Go.Gp

set_option maxHeartbeats 4000000 in
theorem rCheckAddr_fv (WG : World) (f : Int) (v : Nat) : FV Tryz.prog WG 211 [pU8 f, addrP v] (vB (addrOk f v)) := by
  refine CallT.pure rfl (CallT_fn Tryz.func211 (rs := [.tmp 4]) (n := 17) rfl rfl (Nat.le_of_ble_eq_true rfl) rfl ?_)
  simp only [push_cast, reduceIte, Nat.reduceMul, Nat.reduceEqDiff, Nat.reduceAdd, Nat.reduceLT, Nat.reduceLeDiff, reduceCtorEq, Int.reduceToNat]
  refine ⟨fun h => ?_, fun h => ?_⟩
  · have h : f = 4 := by simpa using h
    subst h
    simp only [addrOk]
    have : (decide (hiN v = 0) && decide (loN v ≤ 4294967295)) = decide (v < 4294967296) := by
      rw [← Bool.decide_and]
      refine decide_eq_decide.2 ?_
      unfold hiN loN; omega
    simp [← this]
    congr 1
    exact decide_eq_decide.2 (by omega)
  · have h : ¬ f = 4 := by simpa using h
    simp [addrOk, h]

set_option maxHeartbeats 4000000 in
theorem rCompare_fv (WG : World) (a b : Nat) : FV Tryz.prog WG 156 [addrP a, addrP b] (vI (cmpN a b)) := by
  refine CallT.pure rfl (CallT_fn Tryz.func156 (rs := [.tmp 4]) (n := 29) rfl rfl (Nat.le_of_ble_eq_true rfl) rfl ?_)
  simp only [push_cast, reduceIte, Nat.reduceMul, Nat.reduceEqDiff, Nat.reduceAdd, Nat.reduceLT, Nat.reduceLeDiff, reduceCtorEq, Int.reduceToNat]
  have e : pvsEq [pU64 (hiN a), pU64 (loN a)] [pU64 (hiN b), pU64 (loN b)] = decide (a = b) := by
    simp only [pvsEq, pvEq, valEq, Bool.and_true]
    have := addr_split a
    have := addr_split b
    rw [← Bool.decide_and]
    exact decide_eq_decide.2 ⟨fun h => by omega, fun h => by subst h; simp⟩
  have k1 : cmpN a b = if a = b then 0 else if (decide ((hiN a : Int) < hiN b) || decide ((hiN a : Int) = hiN b) && decide ((loN a : Int) < loN b)) = true then -1 else 1 := by
    unfold cmpN
    simp only [Bool.or_eq_true, Bool.and_eq_true, decide_eq_true_eq]
    unfold hiN loN
    repeat' split
    all_goals omega
  rw [e, k1]
  refine ⟨fun h => ?_, fun h => ⟨fun h1 => ⟨h1, fun h2 => by simp only [h1, h2, Bool.and_self]⟩, fun h1 => ?_, fun h1 => ?_⟩⟩
  · simp only [decide_eq_true_eq] at h; rw [if_pos h]
  · simp only [decide_eq_false_iff_not] at h; rw [if_neg h, if_pos h1]
  · simp only [decide_eq_false_iff_not] at h; rw [if_neg h, h1]; simp

def widthN (f : Int) : Nat := if f = 4 then 32 else if f = 6 then 128 else 0
set_option maxHeartbeats 4000000 in
theorem rWidth_fv (WG : World) (f : Int) : FV Tryz.prog WG 240 [pU8 f] (vI (widthN f)) := by
  refine CallT.pure rfl (CallT_fn Tryz.func240 (rs := [.tmp 2]) (n := 7) rfl rfl (Nat.le_of_ble_eq_true rfl) rfl ?_)
  simp only [push_cast, reduceIte, Nat.reduceMul, Nat.reduceEqDiff, Nat.reduceAdd, Nat.reduceLT, Nat.reduceLeDiff, reduceCtorEq, Int.reduceToNat]
  unfold widthN
  refine ⟨fun h => ?_, fun h => ⟨fun h2 => ?_, fun h2 => ?_⟩⟩
  · have h : f = 4 := by simpa using h
    simp [h]
  · have h : ¬ f = 4 := by simpa using h
    have h2 : f = 6 := by simpa using h2
    simp [h2]
  · have h : ¬ f = 4 := by simpa using h
    have h2 : ¬ f = 6 := by simpa using h2
    simp [h, h2]

set_option maxHeartbeats 4000000 in
theorem rpower_fv (WG : World) (n : Nat) (hn : n < 64) : FV Tryz.prog WG 241 [pI n] (vU64 (2 ^ n : Nat)) := by
  refine CallT.pure rfl (CallT_fn Tryz.func241 (rs := [.tmp 2]) (n := 14) rfl rfl (Nat.le_of_ble_eq_true rfl) rfl ?_)
  simp only [push_cast, reduceIte, Nat.reduceMul, Nat.reduceEqDiff, Nat.reduceAdd, Nat.reduceLT, Nat.reduceLeDiff, reduceCtorEq, Int.reduceToNat]
  refine T_loopS (fun i : Nat => ⟨[(0, vI n), (3, vU64 (2 ^ i : Nat)), (4, vI i)], [], 0, 0, 14⟩) (fun i => i ≤ n) (fun i => n - i) 0 (Nat.zero_le _) (by simp [Le, subE, aget]) (fun i hi => ?_)
  simp only [push_cast, reduceIte, Nat.reduceMul, Nat.reduceEqDiff, Nat.reduceAdd, Nat.reduceLT, Nat.reduceLeDiff, reduceCtorEq, Int.reduceToNat]
  refine ⟨fun h1 => ?_, fun h1 => ?_⟩
  · have h2 : i < n := by simpa using h1
    refine ⟨i + 1, by omega, by omega, ?_⟩
    have hp : 2 ^ (i + 1) < 18446744073709551616 := Nat.lt_of_le_of_lt (Nat.pow_le_pow_right (by omega) (show i + 1 ≤ 63 by omega)) (by decide)
    have hq : 2 ^ (i + 1) = 2 ^ i + 2 ^ i := by rw [Nat.pow_succ]; omega
    simp only [Le, subE, aget, wrap_i64 (i + 1) (by omega) (by omega)]
    have hw : IntKind.u64.wrap ((2 : Int) ^ i + 2 ^ i) = 2 ^ (i + 1) := by
      have c : ∀ k : Nat, (2 : Int) ^ k = ((2 ^ k : Nat) : Int) := fun k => by simp
      rw [c i, c (i + 1), hq]
      generalize 2 ^ i = a at hq
      rw [wrap_u64 _ (by omega) (by omega)]
      omega
    simp [hw]
  · have : i = n := by simp at h1; omega
    subst this
    trivial
end Go.Proofs.YtplpggeefemelaaGreatDoor

namespace Go.Proofs.YtplpggeefemelaaGreatDoor
open Go Go.Gp

def bitsL (w v : Nat) : List Nat := (List.range w).map fun i => v / 2 ^ (w - 1 - i) % 2
def valB (l : List Nat) : Nat := l.foldl (fun a b => 2 * a + b) 0
theorem bitsL_len (w v : Nat) : (bitsL w v).length = w := by simp [bitsL]
theorem bitsL_get {w v i : Nat} (h : i < w) : (bitsL w v)[i]? = some (v / 2 ^ (w - 1 - i) % 2) := by
  simp [bitsL, List.getElem?_map, List.getElem?_range h]
theorem bitsL_lt {w v : Nat} : ∀ b ∈ bitsL w v, b < 2 := by
  intro b hb
  simp only [bitsL, List.mem_map] at hb
  obtain ⟨i, _, rfl⟩ := hb
  exact Nat.mod_lt _ (by omega)
theorem valB_snoc (l : List Nat) (b : Nat) : valB (l ++ [b]) = 2 * valB l + b := by simp [valB, List.foldl_append]
theorem valB_take {l : List Nat} {i b : Nat} (h : l[i]? = some b) : valB (l.take (i + 1)) = 2 * valB (l.take i) + b := by
  rw [List.take_add_one, h, Option.toList_some, valB_snoc]
theorem valB_take_lt {l : List Nat} (h : ∀ b ∈ l, b < 2) : ∀ i, i ≤ l.length → valB (l.take i) < 2 ^ i := by
  intro i
  induction i with
  | zero => intro _; simp [valB]
  | succ i ih =>
    intro hi
    have h1 := ih (by omega)
    have h2 := h l[i] (List.getElem_mem (by omega))
    rw [valB_take (List.getElem?_eq_getElem (by omega)), Nat.pow_succ]
    omega
theorem valB_bits {w v : Nat} : ∀ i, i ≤ w → valB ((bitsL w v).take i) = v / 2 ^ (w - i) % 2 ^ i := by
  intro i
  induction i with
  | zero => intro _; simp [valB, Nat.mod_one]
  | succ i ih =>
    intro hi
    rw [valB_take (bitsL_get (by omega)), ih (by omega)]
    have e : w - i = (w - 1 - i) + 1 := by omega
    have e2 : w - (i + 1) = w - 1 - i := by omega
    rw [e, e2, Nat.pow_succ, ← Nat.div_div_eq_div_mul, Nat.pow_succ, Nat.mul_comm (2 ^ i) 2]
    generalize v / 2 ^ (w - 1 - i) = x
    rw [Nat.mod_mul]
    omega
theorem valB_zeros (l : List Nat) : ∀ n, valB (l ++ List.replicate n 0) = valB l * 2 ^ n := by
  intro n
  induction n with
  | zero => simp
  | succ n ih => rw [List.replicate_succ', ← List.append_assoc, valB_snoc, ih, Nat.pow_succ, Nat.mul_comm 2, Nat.mul_assoc, Nat.add_zero]

/-- Where the last bits are ones and one is zero, the next number has ones there. -/
theorem val_next {w v i : Nat} (hi : i < w) (hv : v < 2 ^ w) (h0 : v / 2 ^ (w - 1 - i) % 2 = 0) (h1 : v % 2 ^ (w - 1 - i) = 2 ^ (w - 1 - i) - 1) :
    valB ((bitsL w v).take i ++ [1] ++ List.replicate (w - 1 - i) 0) = v + 1 := by
  rw [valB_zeros, valB_snoc, valB_bits i (by omega)]
  have e : w - i = (w - 1 - i) + 1 := by omega
  have hlt : v / 2 ^ (w - i) < 2 ^ i := by
    rw [Nat.div_lt_iff_lt_mul (Nat.two_pow_pos _), ← Nat.pow_add]
    rwa [show i + (w - i) = w by omega]
  rw [Nat.mod_eq_of_lt hlt, e, Nat.pow_succ, ← Nat.div_div_eq_div_mul]
  have hp := Nat.two_pow_pos (w - 1 - i)
  generalize 2 ^ (w - 1 - i) = p at *
  have h2 := Nat.div_add_mod v p
  have h3 : 2 * (v / p / 2) = v / p := by omega
  rw [h3, Nat.add_mul, Nat.mul_comm (v / p) p]
  omega

def pow2 (n : Nat) : Nat := 2 ^ n
theorem pow2_pos (n : Nat) : 0 < pow2 n := Nat.two_pow_pos n
theorem rpower (WG : World) (n : Nat) (hn : n < 64) : FV Tryz.prog WG 241 [pI n] (vU64 (pow2 n : Nat)) := rpower_fv WG n hn
theorem rem2 (x p : Nat) (h : x < 18446744073709551616) : IntKind.i64.wrap (Int.tmod (IntKind.u64.wrap (Int.tdiv x p)) 2) = ((x / p % 2 : Nat) : Int) := by
  have hd := Nat.div_le_self x p
  rw [show Int.tdiv (x : Int) p = ((x / p : Nat) : Int) from rfl]
  generalize x / p = q at hd
  rw [wrap_u64 _ (by omega) (by omega), show Int.tmod (q : Int) 2 = ((q % 2 : Nat) : Int) from rfl, wrap_i64 _ (by omega) (by omega)]
theorem take_appN {l : List Nat} {i b : Nat} (h : l[i]? = some b) : List.take i (List.map (fun b : Nat => pI b) (List.take i l)) ++ [pI b] = List.map (fun b : Nat => pI b) (List.take (i + 1) l) := take_app (fun b : Nat => pI b) h
def bitsT (w v : Nat) : Tab := [(0, .arr 1 ((bitsL w v).map fun b : Nat => pI b) true)]
theorem bits_at {v k : Nat} (hv : v < 340282366920938463463374607431768211456) (hk : k < 64) : loN v / 2 ^ k % 2 = v / 2 ^ k % 2 := by
  have : 18446744073709551616 = 2 ^ k * (2 * 2 ^ (63 - k)) := by
    rw [← Nat.mul_assoc, Nat.mul_comm _ 2, Nat.mul_assoc, ← Nat.pow_add, show k + (63 - k) = 63 by omega]
  unfold loN
  rw [this, Nat.mod_mul_right_div_self, Nat.mod_mul_right_mod]
theorem bits_hi {v k : Nat} (hk : 64 ≤ k) : hiN v / 2 ^ (k - 64) % 2 = v / 2 ^ k % 2 := by
  unfold hiN
  rw [Nat.div_div_eq_div_mul, show (18446744073709551616 : Nat) = 2 ^ 64 by rfl, ← Nat.pow_add, show 64 + (k - 64) = k by omega]

set_option maxHeartbeats 8000000 in
theorem rBits_ct (WG : World) (f : Int) (v : Nat) (hf : f = 4 ∨ f = 6) (hv : v < 340282366920938463463374607431768211456) : CallT Tryz.prog WG 212 [vU8 f, .p (addrP v)] [] 0 (fun r t n => r = .osl 0 1 0 (widthN f) none ∧ t = bitsT (widthN f) v ∧ n = 1) noP := by
  refine CallT.tidy (CallT_fnT Tryz.func212 (rs := [.tmp 4]) (n := 39) rfl rfl (Nat.le_of_ble_eq_true rfl) rfl ?_)
  refine T_seqC ?_
  simp only [push_cast, reduceIte, Nat.reduceMul, Nat.reduceEqDiff, Nat.reduceAdd, Nat.reduceLT, Nat.reduceLeDiff, reduceCtorEq, Int.reduceToNat]
  refine T_seqC ?_
  simp only [push_cast, reduceIte, Nat.reduceMul, Nat.reduceEqDiff, Nat.reduceAdd, Nat.reduceLT, Nat.reduceLeDiff, reduceCtorEq, Int.reduceToNat]
  refine T_nilT 5 1 rfl ?_
  refine T_seqC ?_
  simp only [push_cast, reduceIte, Nat.reduceMul, Nat.reduceEqDiff, Nat.reduceAdd, Nat.reduceLT, Nat.reduceLeDiff, reduceCtorEq, Int.reduceToNat]
  refine (rWidth_fv WG f).call rfl ?_
  simp only [push_cast, reduceIte, Nat.reduceMul, Nat.reduceEqDiff, Nat.reduceAdd, Nat.reduceLT, Nat.reduceLeDiff, reduceCtorEq, Int.reduceToNat]
  have hw : widthN f ≤ 128 := by rcases hf with rfl | rfl <;> decide
  generalize widthN f = w at hw
  refine T_seqC ?_
  simp only [push_cast, reduceIte, Nat.reduceMul, Nat.reduceEqDiff, Nat.reduceAdd, Nat.reduceLT, Nat.reduceLeDiff, reduceCtorEq, Int.reduceToNat]
  refine T_loopR (fun i : Nat => ⟨[(3, .ref 0 0), (5, .osl 1 1 0 i none), (6, vI w), (7, vI i)], [(0, .box [vU64 (hiN v), vU64 (loN v)]), (1, .arr 1 (((bitsL w v).take i).map fun b : Nat => pI b) true)], 2, 0, 39⟩) (fun i => i ≤ w) (fun i => w - i) 0 [] (Nat.zero_le _) (by simp [LeR, rnf, aget, envR, tabR, injR, notIn, loR, V.rn, V.rnL, V.bd, V.bdL, Blk.rn, Blk.bd, envRn, envBd]) (fun i hi => ?_)
  simp only [push_cast, reduceIte, Nat.reduceMul, Nat.reduceEqDiff, Nat.reduceAdd, Nat.reduceLT, Nat.reduceLeDiff, reduceCtorEq, Int.reduceToNat]
  refine ⟨fun h1 => ?_, fun h1 => ?_⟩
  · have h2 : i < w := by simpa using h1
    have hk : IntKind.i64.wrap (IntKind.i64.wrap ((w : Int) - 1) - i) = ((w - 1 - i : Nat) : Int) := by
      rw [wrap_i64 ((w : Int) - 1) (by omega) (by omega), wrap_i64 _ (by omega) (by omega)]; omega
    rw [hk]
    refine ⟨fun h3 => ?_, fun h3 => ?_⟩
    · have h3 : 63 < w - 1 - i := by simp at h3; omega
      have hk2 : IntKind.i64.wrap (((w - 1 - i : Nat) : Int) - 64) = ((w - 1 - i - 64 : Nat) : Int) := by
        rw [wrap_i64 _ (by omega) (by omega)]; omega
      rw [hk2]
      refine (rpower WG (w - 1 - i - 64) (by omega)).call rfl ?_
      simp only [push_cast, reduceIte, Nat.reduceMul, Nat.reduceEqDiff, Nat.reduceAdd, Nat.reduceLT, Nat.reduceLeDiff, reduceCtorEq, Int.reduceToNat]
      have b : hiN v / pow2 (w - 1 - i - 64) % 2 = v / 2 ^ (w - 1 - i) % 2 := bits_hi (by omega)
      have e := take_appN (bitsL_get (v := v) h2)
      have hp := pow2_pos (w - 1 - i - 64)
      refine ⟨by omega, by omega, ⟨by simp [bitsL_len]; omega, by omega⟩, i + 1, by omega, by omega, [(1, 3)], ?_⟩
      simp only [LeR, rnf, aget, envR, tabR, injR, notIn, loR, V.rn, V.rnL, V.bd, V.bdL, Blk.rn, Blk.bd, envRn, envBd, wrap_i64 (i + 1) (by omega) (by omega), rem2 _ _ (hiN_lt hv), b, ← e]
      simp
    · have h3 : w - 1 - i ≤ 63 := by simp at h3; omega
      refine (rpower WG (w - 1 - i) (by omega)).call rfl ?_
      simp only [push_cast, reduceIte, Nat.reduceMul, Nat.reduceEqDiff, Nat.reduceAdd, Nat.reduceLT, Nat.reduceLeDiff, reduceCtorEq, Int.reduceToNat]
      have b : loN v / pow2 (w - 1 - i) % 2 = v / 2 ^ (w - 1 - i) % 2 := bits_at hv (by omega)
      have e := take_appN (bitsL_get (v := v) h2)
      have hp := pow2_pos (w - 1 - i)
      refine ⟨by omega, by omega, ⟨by simp [bitsL_len]; omega, by omega⟩, i + 1, by omega, by omega, [(1, 3)], ?_⟩
      simp only [LeR, rnf, aget, envR, tabR, injR, notIn, loR, V.rn, V.rnL, V.bd, V.bdL, Blk.rn, Blk.bd, envRn, envBd, wrap_i64 (i + 1) (by omega) (by omega), rem2 _ _ (loN_lt v), b, ← e]
      simp
  · have : i = w := by simp at h1; omega
    subst this
    refine T_fin ?_
    simp only [push_cast, reduceIte, Nat.reduceMul, Nat.reduceEqDiff, Nat.reduceAdd, Nat.reduceLT, Nat.reduceLeDiff, reduceCtorEq, Int.reduceToNat]
    refine ⟨[(0, 1)], .osl 0 1 0 i none, bitsT i v, 1, ⟨rfl, rfl, rfl⟩, rfl, ?_, Nat.zero_le _, ?_⟩
    · simp [V.bd]
    · simp [bitsT, LeR, rnf, aget, envR, tabR, injR, notIn, loR, V.rn, V.rnL, V.bd, V.bdL, Blk.rn, Blk.bd, envRn, envBd, List.take_of_length_le, bitsL_len]
end Go.Proofs.YtplpggeefemelaaGreatDoor

namespace Go.Proofs.YtplpggeefemelaaGreatDoor
open Go Go.Gp

theorem u64_mod (n : Int) : IntKind.u64.wrap n = n % 18446744073709551616 := rfl
/-- A number doubled, and a bit. -/
theorem dbl (A b : Nat) (hA : A < 2 ^ 127) (hb : b < 2) : IntKind.u64.wrap (IntKind.u64.wrap ((hiN A : Int) + hiN A) + IntKind.u64.wrap (Int.tdiv (loN A) (pow2 63))) = hiN (2 * A + b) ∧ IntKind.u64.wrap (IntKind.u64.wrap ((loN A : Int) + loN A) + IntKind.u64.wrap b) = loN (2 * A + b) := by
  have hA : A < 170141183460469231731687303715884105728 := hA
  rw [show Int.tdiv (loN A : Int) (pow2 63) = ((loN A / 9223372036854775808 : Nat) : Int) from rfl]
  simp only [u64_mod]
  unfold hiN loN
  omega
set_option maxHeartbeats 8000000 in
theorem rAddr_fv (WG : World) (l : List Nat) (hl : ∀ b ∈ l, b < 2) (hn : l.length ≤ 128) : FV Tryz.prog WG 213 [.sl 1 (l.map fun b : Nat => pI b)] (.p (addrP (valB l))) := by
  refine CallT.pureS rfl (CallT_fnT Tryz.func213 (rs := [.cell 2 134]) (n := 35) rfl rfl (Nat.le_of_ble_eq_true rfl) rfl ?_)
  refine T_seqC ?_
  simp only [push_cast, reduceIte, Nat.reduceMul, Nat.reduceEqDiff, Nat.reduceAdd, Nat.reduceLT, Nat.reduceLeDiff, reduceCtorEq, Int.reduceToNat]
  refine T_seqC ?_
  simp only [push_cast, reduceIte, Nat.reduceMul, Nat.reduceEqDiff, Nat.reduceAdd, Nat.reduceLT, Nat.reduceLeDiff, reduceCtorEq, Int.reduceToNat]
  refine T_seqC ?_
  simp only [push_cast, reduceIte, Nat.reduceMul, Nat.reduceEqDiff, Nat.reduceAdd, Nat.reduceLT, Nat.reduceLeDiff, reduceCtorEq, Int.reduceToNat]
  refine T_loopR (fun i : Nat => ⟨[(0, .p (.sl 1 (l.map fun b : Nat => pI b))), (2, .ref 0 0), (3, .ref 1 0), (4, vI i)], [(0, .box [vU64 0, vU64 0]), (1, .box [vU64 (hiN (valB (l.take i))), vU64 (loN (valB (l.take i)))])], 2, 0, 35⟩) (fun i => i ≤ l.length) (fun i => l.length - i) 0 [] (Nat.zero_le _) (by simp [LeR, rnf, aget, envR, tabR, injR, notIn, loR, V.rn, V.rnL, V.bd, V.bdL, Blk.rn, Blk.bd, envRn, envBd, valB, hiN, loN]) (fun i hi => ?_)
  simp only [push_cast, reduceIte, Nat.reduceMul, Nat.reduceEqDiff, Nat.reduceAdd, Nat.reduceLT, Nat.reduceLeDiff, reduceCtorEq, Int.reduceToNat]
  refine ⟨fun h1 => ?_, fun h1 => ?_⟩
  · have h2 : i < l.length := by simpa using h1
    have hg : l[i]? = some l[i] := List.getElem?_eq_getElem h2
    generalize l[i] = b at hg
    refine T_drawS [11] [] mixed (by kernel_rfl) ?_
    simp only [push_cast, reduceIte, Nat.reduceMul, Nat.reduceEqDiff, Nat.reduceAdd, Nat.reduceLT, Nat.reduceLeDiff, reduceCtorEq, Int.reduceToNat]
    refine ⟨_, (rpower WG 63 (by omega)).v rfl, ?_⟩
    simp only [push_cast, reduceIte, Nat.reduceMul, Nat.reduceEqDiff, Nat.reduceAdd, Nat.reduceLT, Nat.reduceLeDiff, reduceCtorEq, Int.reduceToNat]
    refine ⟨by have := pow2_pos 63; omega, ?_⟩
    refine T_drawS [12] [] mixed (by kernel_rfl) ?_
    simp only [push_cast, reduceIte, Nat.reduceMul, Nat.reduceEqDiff, Nat.reduceAdd, Nat.reduceLT, Nat.reduceLeDiff, reduceCtorEq, Int.reduceToNat, List.getElem?_map, hg]
    refine ⟨by omega, i + 1, by omega, by omega, [], ?_⟩
    have hA := valB_take_lt hl i hi
    have hA2 : 2 ^ i ≤ 2 ^ 127 := Nat.pow_le_pow_right (by omega) (by omega)
    have hb := hl b (List.mem_of_getElem? hg)
    have e := dbl (valB (l.take i)) b (by omega) hb
    simp only [LeR, rnf, aget, envR, tabR, injR, notIn, loR, V.rn, V.rnL, V.bd, V.bdL, Blk.rn, Blk.bd, envRn, envBd, wrap_i64 (i + 1) (by omega) (by omega), e.1, e.2, valB_take hg]
    simp
  · have : i = l.length := by simp at h1; omega
    subst this
    refine T_fin ?_
    simp only [push_cast, reduceIte, Nat.reduceMul, Nat.reduceEqDiff, Nat.reduceAdd, Nat.reduceLT, Nat.reduceLeDiff, reduceCtorEq, Int.reduceToNat]

/-- The bits, of which the last j are cleared. -/
def clr (w v j : Nat) : List Nat := (bitsL w v).take (w - j) ++ List.replicate j 0
theorem clr_zero (w v : Nat) : clr w v 0 = bitsL w v := by simp [clr, List.take_of_length_le, bitsL_len]
theorem clr_len {w v j : Nat} (h : j ≤ w) : (clr w v j).length = w := by simp [clr, bitsL_len]; omega
theorem clr_get {w v j : Nat} (h : j < w) : (clr w v j)[w - 1 - j]? = some (v / 2 ^ j % 2) := by
  rw [clr, List.getElem?_append_left (by simp [bitsL_len]; omega), List.getElem?_take, if_pos (by omega), bitsL_get (by omega), show w - 1 - (w - 1 - j) = j by omega]
theorem clr_set {w v j x : Nat} (h : j < w) : (clr w v j).set (w - 1 - j) x = (bitsL w v).take (w - 1 - j) ++ [x] ++ List.replicate j 0 := by
  have e : (bitsL w v).take (w - j) = (bitsL w v).take (w - 1 - j) ++ [v / 2 ^ j % 2] := by
    rw [show w - j = (w - 1 - j) + 1 by omega, List.take_add_one, bitsL_get (by omega), show w - 1 - (w - 1 - j) = j by omega]; rfl
  have hl : ((bitsL w v).take (w - 1 - j)).length = w - 1 - j := by simp [bitsL_len]; omega
  rw [clr, e, List.append_assoc, List.set_append, if_neg (by omega), hl, Nat.sub_self]
  simp
theorem clr_next {w v j : Nat} (h : j < w) : (clr w v j).set (w - 1 - j) 0 = clr w v (j + 1) := by
  rw [clr_set h, clr, show w - (j + 1) = w - 1 - j by omega, List.append_assoc]; rfl
theorem clr_val {w v j : Nat} (h : j < w) (hv : v < 2 ^ w) (h0 : v / 2 ^ j % 2 = 0) (h1 : v % 2 ^ j = 2 ^ j - 1) : valB ((clr w v j).set (w - 1 - j) 1) = v + 1 := by
  have e : w - 1 - (w - 1 - j) = j := by omega
  have := val_next (w := w) (v := v) (i := w - 1 - j) (by omega) hv (by rwa [e]) (by rwa [e])
  rw [e] at this
  rw [clr_set h, this]
theorem clr_lt {w v j : Nat} : ∀ b ∈ clr w v j, b < 2 := by
  intro b hb
  simp only [clr, List.mem_append, List.mem_replicate] at hb
  rcases hb with hb | ⟨_, rfl⟩
  · exact bitsL_lt b (List.mem_of_mem_take hb)
  · omega
theorem ones_next {v j : Nat} (h0 : v / 2 ^ j % 2 ≠ 0) (h1 : v % 2 ^ j = 2 ^ j - 1) : v % 2 ^ (j + 1) = 2 ^ (j + 1) - 1 := by
  rw [Nat.pow_succ, Nat.mod_mul, h1]
  have := Nat.two_pow_pos j
  generalize 2 ^ j = p at *
  have : v / p % 2 = 1 := by omega
  rw [this]; omega
theorem addr_width {f : Int} {v : Nat} (hf : f = 4 ∨ f = 6) (hv : v < 340282366920938463463374607431768211456) (h : addrOk f v = true) : v < 2 ^ widthN f := by
  rcases hf with rfl | rfl
  · simp [addrOk] at h; exact h
  · exact hv
theorem next_some {f : Int} {v : Nat} (hf : f = 4 ∨ f = 6) (h : addrOk f v = true) (h1 : v + 1 < 2 ^ widthN f) : nextN f v = (v + 1, true) := by
  have h1' : v + 1 < 340282366920938463463374607431768211456 := Nat.lt_of_lt_of_le h1 (by rcases hf with rfl | rfl <;> decide)
  have h2 : addrOk f (v + 1) = true := by
    rcases hf with rfl | rfl
    · have : v + 1 < 4294967296 := h1
      simp [addrOk, this]
    · simp [addrOk]
  simp [nextN, h, h2, h1']
theorem next_none {f : Int} {v : Nat} (hf : f = 4 ∨ f = 6) (h1 : ¬ v + 1 < 2 ^ widthN f) : nextN f v = (0, false) := by
  rcases hf with rfl | rfl
  · have : ¬ v + 1 < 4294967296 := h1
    have h2 : addrOk 4 (v + 1) = false := by simp [addrOk]; omega
    simp [nextN, h2]
  · have : ¬ v + 1 < 340282366920938463463374607431768211456 := h1
    simp [nextN, this]

/-- Bits called over any local memory. -/
theorem rBits_call (WG : World) {f : Int} {v : Nat} (hf : f = 4 ∨ f = 6) (hv : v < 340282366920938463463374607431768211456) {tab : Tab} {nx : Nat} {K KP : V → Tab → Nat → Prop}
    (h : K (.osl nx 1 0 (widthN f) none) (tab ++ [(nx, .arr 1 ((bitsL (widthN f) v).map fun b : Nat => pI b) true)]) (nx + 1)) : CallT Tryz.prog WG 212 [vU8 f, .p (addrP v)] tab nx K KP :=
  CallT.frame (ps := [pU8 f, addrP v]) (rBits_ct WG f v hf hv) (fun r t n hq => by
    obtain ⟨rfl, rfl, rfl⟩ := hq
    simpa [V.sh, V.shL, tsh, bitsT, Blk.sh] using h) (fun _ _ _ h => h.elim)

set_option maxHeartbeats 8000000 in
theorem rNext_fv (WG : World) (f : Int) (hf : f = 4 ∨ f = 6) (v : Nat) (hv : v < 340282366920938463463374607431768211456) : FV Tryz.prog WG 155 [pU8 f, addrP v] (.tup [.p (addrP (nextN f v).1), vB (nextN f v).2]) := by
  refine CallT.pureS rfl (CallT_fnT Tryz.func155 (rs := [.cell 4 134, .tmp 5]) (n := 37) rfl rfl (Nat.le_of_ble_eq_true rfl) rfl ?_)
  refine T_seqC ?_
  simp only [push_cast, reduceIte, Nat.reduceMul, Nat.reduceEqDiff, Nat.reduceAdd, Nat.reduceLT, Nat.reduceLeDiff, reduceCtorEq, Int.reduceToNat]
  refine T_seqC ?_
  simp only [push_cast, reduceIte, Nat.reduceMul, Nat.reduceEqDiff, Nat.reduceAdd, Nat.reduceLT, Nat.reduceLeDiff, reduceCtorEq, Int.reduceToNat]
  refine (rCheckAddr_fv WG f v).call rfl ?_
  simp only [push_cast, reduceIte, Nat.reduceMul, Nat.reduceEqDiff, Nat.reduceAdd, Nat.reduceLT, Nat.reduceLeDiff, reduceCtorEq, Int.reduceToNat]
  refine ⟨fun h => ?_, fun h => ?_⟩
  · have : nextN f v = (0, false) := by
      have : addrOk f v = false := by simpa using h
      simp [nextN, this]
    rw [this]
    rfl
  · have h0 : addrOk f v = true := by simpa using h
    have hw := addr_width hf hv h0
    have hwn : widthN f ≤ 128 ∧ 1 ≤ widthN f := by rcases hf with rfl | rfl <;> decide
    have hsome := fun h1 => next_some hf h0 h1
    have hnone := fun h1 => next_none (v := v) hf h1
    refine T_seqC ?_
    simp only [push_cast, reduceIte, Nat.reduceMul, Nat.reduceEqDiff, Nat.reduceAdd, Nat.reduceLT, Nat.reduceLeDiff, reduceCtorEq, Int.reduceToNat]
    refine rBits_call WG hf hv ?_
    simp only [push_cast, reduceIte, Nat.reduceMul, Nat.reduceEqDiff, Nat.reduceAdd, Nat.reduceLT, Nat.reduceLeDiff, reduceCtorEq, Int.reduceToNat]
    generalize widthN f = w at *
    refine T_seqC ?_
    simp only [push_cast, reduceIte, Nat.reduceMul, Nat.reduceEqDiff, Nat.reduceAdd, Nat.reduceLT, Nat.reduceLeDiff, reduceCtorEq, Int.reduceToNat]
    refine T_loopR (fun j : Nat => ⟨[(4, .ref 1 0), (6, .osl 2 1 0 w none), (7, vI ((w : Int) - 1 - j))], [(1, .box [vU64 0, vU64 0]), (2, .arr 1 ((clr w v j).map fun b : Nat => pI b) true)], 3, 0, 37⟩) (fun j => j ≤ w ∧ v % 2 ^ j = 2 ^ j - 1) (fun j => w - j) 0 [] ⟨Nat.zero_le _, by simp [Nat.mod_one]⟩ (by simp [LeR, rnf, aget, envR, tabR, injR, notIn, loR, V.rn, V.rnL, V.bd, V.bdL, Blk.rn, Blk.bd, envRn, envBd, clr_zero, wrap_i64 ((w : Int) - 1) (by omega) (by omega)]) (fun j hj => ?_)
    simp only [push_cast, reduceIte, Nat.reduceMul, Nat.reduceEqDiff, Nat.reduceAdd, Nat.reduceLT, Nat.reduceLeDiff, reduceCtorEq, Int.reduceToNat]
    refine ⟨fun h1 => ?_, fun h1 => ?_⟩
    · have h2 : j < w := by simp at h1; omega
      have hi : ((w : Int) - 1 - j).toNat = w - 1 - j := by omega
      have hq := clr_get (v := v) h2
      generalize hx : v / 2 ^ j % 2 = q at hq
      have hset : ∀ x : Nat, ((clr w v j).map fun b : Nat => pI b).set (w - 1 - j) (pI x) = (((clr w v j).set (w - 1 - j) x).map fun b : Nat => pI b) := fun x => by rw [List.map_set]
      have hset0 := hset 0
      have hset1 := hset 1
      simp only [push_cast, reduceIte, Nat.reduceMul, Nat.reduceEqDiff, Nat.reduceAdd, Nat.reduceLT, Nat.reduceLeDiff, reduceCtorEq, Int.reduceToNat, hi, List.getElem?_map, hq, List.headD_cons]
      refine ⟨by omega, fun h3 => ⟨by omega, ?_⟩, fun h3 => ⟨by omega, j + 1, ⟨by omega, ones_next (by simp at h3; omega) hj.2⟩, by omega, [], ?_⟩⟩
      · have hq0 : v / 2 ^ j % 2 = 0 := by simp at h3; omega
        have hc := clr_val h2 hw hq0 hj.2
        have hb : ∀ b ∈ (clr w v j).set (w - 1 - j) 1, b < 2 := fun b hb => by
          rcases List.mem_or_eq_of_mem_set hb with hb | rfl
          · exact clr_lt b hb
          · omega
        have hlen : ((clr w v j).set (w - 1 - j) 1).length = w := by rw [List.length_set, clr_len (by omega)]
        have hlt := valB_take_lt hb w (by omega)
        rw [List.take_of_length_le (by omega), hc] at hlt
        refine (rAddr_fv WG ((clr w v j).set (w - 1 - j) 1) hb (by omega)).lend rfl (by simp [snapT, snap, snap1, aget, ← hset1, clr_len hj.1, List.take_of_length_le]) ?_
        simp only [push_cast, reduceIte, Nat.reduceMul, Nat.reduceEqDiff, Nat.reduceAdd, Nat.reduceLT, Nat.reduceLeDiff, reduceCtorEq, Int.reduceToNat, hc, hsome hlt]
      · have hset0' : ((clr w v j).map fun b : Nat => pI b).set (w - 1 - j) (.v (.int .i64 0)) = ((clr w v (j + 1)).map fun b : Nat => pI b) := by rw [← clr_next h2]; exact hset0
        have e : (w : Int) - 1 - j - 1 = (w : Int) - 1 - ((j : Nat) + 1) := by omega
        simp only [LeR, rnf, aget, envR, tabR, injR, notIn, loR, V.rn, V.rnL, V.bd, V.bdL, Blk.rn, Blk.bd, envRn, envBd, hset0', wrap_i64 ((w : Int) - 1 - j - 1) (by omega) (by omega), e]
        simp [wrap_i64 ((w : Int) - 1 - ((j : Int) + 1)) (by omega) (by omega)]
    · have h2 : j = w := by simp at h1; omega
      subst h2
      have : ¬ v + 1 < 2 ^ j := by have := hj.2; rw [Nat.mod_eq_of_lt hw] at this; have := Nat.two_pow_pos j; omega
      rw [hnone this]
      refine T_fin ?_
      simp only [push_cast, reduceIte, Nat.reduceMul, Nat.reduceEqDiff, Nat.reduceAdd, Nat.reduceLT, Nat.reduceLeDiff, reduceCtorEq, Int.reduceToNat]
      rfl
end Go.Proofs.YtplpggeefemelaaGreatDoor

namespace Go.Proofs.YtplpggeefemelaaGreatDoor
open Go Go.Gp

set_option maxHeartbeats 4000000 in
theorem rSpanCheck_fv (WG : World) (f : Int) (s : Nat × Nat) : FV Tryz.prog WG 209 [pU8 f, spanP s] (vI (spanI f s)) := by
  refine CallT.pure rfl (CallT_fn Tryz.func209 (rs := [.tmp 4]) (n := 28) rfl rfl (Nat.le_of_ble_eq_true rfl) rfl ?_)
  simp only [push_cast, reduceIte, Nat.reduceMul, Nat.reduceEqDiff, Nat.reduceAdd, Nat.reduceLT, Nat.reduceLeDiff, reduceCtorEq, Int.reduceToNat]
  refine (rWidth_fv WG f).call rfl ?_
  simp only [push_cast, reduceIte, Nat.reduceMul, Nat.reduceEqDiff, Nat.reduceAdd, Nat.reduceLT, Nat.reduceLeDiff, reduceCtorEq, Int.reduceToNat]
  have hw : ((widthN f : Int) = 0) ↔ (f ≠ 4 ∧ f ≠ 6) := by
    unfold widthN
    by_cases h4 : f = 4
    · simp [h4]
    · by_cases h6 : f = 6
      · simp [h6]
      · simp [h4, h6]
  refine ⟨fun h => ?_, fun h => ?_⟩
  · simp only [decide_eq_true_eq] at h
    rw [spanI, if_pos (hw.1 h)]
  · simp only [decide_eq_false_iff_not] at h
    have hf : ¬ (f ≠ 4 ∧ f ≠ 6) := fun h' => h (hw.2 h')
    refine (rCheckAddr_fv WG f s.1).call rfl ?_
    simp only [push_cast, reduceIte, Nat.reduceMul, Nat.reduceEqDiff, Nat.reduceAdd, Nat.reduceLT, Nat.reduceLeDiff, reduceCtorEq, Int.reduceToNat]
    refine ⟨_, fun _ => (rCheckAddr_fv WG f s.2).q rfl, ?_⟩
    simp only [push_cast, reduceIte, Nat.reduceMul, Nat.reduceEqDiff, Nat.reduceAdd, Nat.reduceLT, Nat.reduceLeDiff, reduceCtorEq, Int.reduceToNat]
    refine ⟨_, fun _ => (rCompare_fv WG s.1 s.2).q rfl, ?_⟩
    simp only [push_cast, reduceIte, Nat.reduceMul, Nat.reduceEqDiff, Nat.reduceAdd, Nat.reduceLT, Nat.reduceLeDiff, reduceCtorEq, Int.reduceToNat]
    have key : (!addrOk f s.1 || !addrOk f s.2 || decide (0 < cmpN s.1 s.2)) = !spanOk f s := by
      simp only [spanOk, cmpN_pos, Bool.not_and]
      congr 1
      rw [← decide_not]
      exact decide_eq_decide.2 (by omega)
    rw [key, spanI, if_neg hf]
    refine ⟨fun h2 => ?_, fun h2 => ?_⟩ <;> simp at h2 <;> simp [h2]

set_option maxHeartbeats 8000000 in
theorem rwide_fv (WG : World) (l : List (Nat × Nat)) (hl : ∀ s ∈ l, s.1 < 4294967296 ∧ s.2 < 4294967296) (hn : l.length < 1000000) : FV Tryz.prog WG 210 [.sl 2 (l.map asP)] (.p (spansP l)) := by
  refine CallT.pureS rfl (CallT_fnT Tryz.func210 (rs := [.tmp 2]) (n := 30) rfl rfl (Nat.le_of_ble_eq_true rfl) rfl ?_)
  refine T_seqC ?_
  simp only [push_cast, reduceIte, Nat.reduceMul, Nat.reduceEqDiff, Nat.reduceAdd, Nat.reduceLT, Nat.reduceLeDiff, reduceCtorEq, Int.reduceToNat]
  refine T_seqC ?_
  simp only [push_cast, reduceIte, Nat.reduceMul, Nat.reduceEqDiff, Nat.reduceAdd, Nat.reduceLT, Nat.reduceLeDiff, reduceCtorEq, Int.reduceToNat]
  refine T_nilT 3 4 rfl ?_
  refine T_seqC ?_
  simp only [push_cast, reduceIte, Nat.reduceMul, Nat.reduceEqDiff, Nat.reduceAdd, Nat.reduceLT, Nat.reduceLeDiff, reduceCtorEq, Int.reduceToNat]
  refine T_loopR (fun i : Nat => ⟨[(0, .p (.sl 2 (l.map asP))), (3, .osl 0 4 0 i none), (4, vI i)], [(0, .arr 4 ((l.take i).map spanP) true)], 1, 0, 30⟩) (fun i => i ≤ l.length) (fun i => l.length - i) 0 [] (Nat.zero_le _) (by simp [LeR, rnf, aget, envR, tabR, injR, notIn, loR, V.rn, V.rnL, V.bd, V.bdL, Blk.rn, Blk.bd, envRn, envBd]) (fun i hi => ?_)
  simp only [push_cast, reduceIte, Nat.reduceMul, Nat.reduceEqDiff, Nat.reduceAdd, Nat.reduceLT, Nat.reduceLeDiff, reduceCtorEq, Int.reduceToNat]
  refine ⟨fun h1 => ?_, fun h1 => ?_⟩
  · have h2 : i < l.length := by simpa using h1
    have hg : l[i]? = some l[i] := List.getElem?_eq_getElem h2
    have hs := hl l[i] (List.getElem_mem h2)
    generalize l[i] = s at hg hs
    refine T_drawS [16, 17] [] mixed (by kernel_rfl) ?_
    simp only [push_cast, reduceIte, Nat.reduceMul, Nat.reduceEqDiff, Nat.reduceAdd, Nat.reduceLT, Nat.reduceLeDiff, reduceCtorEq, Int.reduceToNat, List.getElem?_map, hg]
    have e := take_app spanP hg
    have e' : spanP s = .agg [pU64 0, pU64 s.1, pU64 0, pU64 s.2] := by simp [hiN_small hs.1, hiN_small hs.2, loN_small hs.1, loN_small hs.2]
    refine ⟨by omega, by omega, ⟨by simp; omega, by omega⟩, i + 1, by omega, by omega, [(0, 2)], ?_⟩
    simp only [LeR, rnf, aget, envR, tabR, injR, notIn, loR, V.rn, V.rnL, V.bd, V.bdL, Blk.rn, Blk.bd, envRn, envBd, wrap_i64 (i + 1) (by omega) (by omega), ← e, e', wrap_u64 (s.1 : Int) (by omega) (by omega), wrap_u64 (s.2 : Int) (by omega) (by omega)]
    simp
  · have : i = l.length := by simp at h1; omega
    subst this
    refine T_fin ?_
    simp only [push_cast, reduceIte, Nat.reduceMul, Nat.reduceEqDiff, Nat.reduceAdd, Nat.reduceLT, Nat.reduceLeDiff, reduceCtorEq, Int.reduceToNat]
    simp [List.take_of_length_le]

abbrev listsV (r : Res) : V := .tup [.p (.sl 1 [spansP r.v4, spansP r.v6, spansP r.as_]), .p (.sl 1 [pU8 4, pU8 6, pU8 4])]
set_option maxHeartbeats 8000000 in
theorem lists_fv (WG : World) (r : Res) (h : OkR r) : FV Tryz.prog WG 154 [resP r] (listsV r) := by
  refine CallT.pureS rfl (CallT_fnT Tryz.func154 (rs := [.tmp 2, .tmp 3]) (n := 13) rfl rfl (Nat.le_of_ble_eq_true rfl) rfl ?_)
  refine T_seqC ?_
  simp only [push_cast, reduceIte, Nat.reduceMul, Nat.reduceEqDiff, Nat.reduceAdd, Nat.reduceLT, Nat.reduceLeDiff, reduceCtorEq, Int.reduceToNat]
  refine T_seqC ?_
  refine T_drawS [7] [] mixed (by kernel_rfl) ?_
  simp only [push_cast, reduceIte, Nat.reduceMul, Nat.reduceEqDiff, Nat.reduceAdd, Nat.reduceLT, Nat.reduceLeDiff, reduceCtorEq, Int.reduceToNat]
  refine ⟨_, (rwide_fv WG r.as_ h.as_ h.nas).v rfl, ?_⟩
  simp only [push_cast, reduceIte, Nat.reduceMul, Nat.reduceEqDiff, Nat.reduceAdd, Nat.reduceLT, Nat.reduceLeDiff, reduceCtorEq, Int.reduceToNat]
  refine T_fin ?_
  simp only [push_cast, reduceIte, Nat.reduceMul, Nat.reduceEqDiff, Nat.reduceAdd, Nat.reduceLT, Nat.reduceLeDiff, reduceCtorEq, Int.reduceToNat]
end Go.Proofs.YtplpggeefemelaaGreatDoor

namespace Go.Proofs.YtplpggeefemelaaGreatDoor
open Go Go.Gp

abbrev listsP (r : Res) : PV := .sl 1 [spansP r.v4, spansP r.v6, spansP r.as_]
abbrev famsP : PV := .sl 1 [pU8 4, pU8 6, pU8 4]
theorem lists_at (r : Res) {k : Nat} (hk : k < 3) : ([spansP r.v4, spansP r.v6, spansP r.as_] : List PV)[k]? = some (spansP (setN r k)) := by
  match k, hk with
  | 0, _ => rfl
  | 1, _ => rfl
  | 2, _ => rfl
theorem fams_at {k : Nat} (hk : k < 3) : ([.v (.int .u8 4), .v (.int .u8 6), .v (.int .u8 4)] : List PV)[k]? = some (.v (.int .u8 (famN k))) := by
  match k, hk with
  | 0, _ => rfl
  | 1, _ => rfl
  | 2, _ => rfl
theorem manyR_at {r : Res} {k : Nat} (hk : k < 3) (h : 200 < (setN r k).length) : manyR r = true := by
  refine decide_eq_true ?_
  match k, hk with
  | 0, _ => exact .inl h
  | 1, _ => exact .inr (.inl h)
  | 2, _ => exact .inr (.inr h)
theorem manyR_no {r : Res} (h : ∀ k, k < 3 → ¬ 200 < (setN r k).length) : manyR r = false := by
  have h0 := h 0 (by omega)
  have h1 := h 1 (by omega)
  have h2 := h 2 (by omega)
  simp only [setN] at h0 h1 h2
  exact decide_eq_false (by omega)

set_option maxHeartbeats 16000000 in
theorem rValid_fv (WG : World) (r : Res) (h : OkR r) : FV Tryz.prog WG 153 [resP r] (vI (validI r)) := by
  refine CallT.pure rfl (CallT_fnT Tryz.func153 (rs := [.tmp 2]) (n := 49) rfl rfl (Nat.le_of_ble_eq_true rfl) rfl ?_)
  refine T_seqC ?_
  simp only [push_cast, reduceIte, Nat.reduceMul, Nat.reduceEqDiff, Nat.reduceAdd, Nat.reduceLT, Nat.reduceLeDiff, reduceCtorEq, Int.reduceToNat]
  refine T_seqC ?_
  simp only [push_cast, reduceIte, Nat.reduceMul, Nat.reduceEqDiff, Nat.reduceAdd, Nat.reduceLT, Nat.reduceLeDiff, reduceCtorEq, Int.reduceToNat]
  refine (lists_fv WG r h).call rfl ?_
  simp only [push_cast, reduceIte, Nat.reduceMul, Nat.reduceEqDiff, Nat.reduceAdd, Nat.reduceLT, Nat.reduceLeDiff, reduceCtorEq, Int.reduceToNat]
  refine T_seqC ?_
  simp only [push_cast, reduceIte, Nat.reduceMul, Nat.reduceEqDiff, Nat.reduceAdd, Nat.reduceLT, Nat.reduceLeDiff, reduceCtorEq, Int.reduceToNat]
  refine T_loopR (fun k : Nat => ⟨[(3, .p (listsP r)), (4, .p famsP), (5, vI k)], [], 0, 0, 49⟩) (fun k => k ≤ 3 ∧ ∀ q, q < k → ¬ 200 < (setN r q).length) (fun k => 3 - k) 0 [] ⟨Nat.zero_le _, fun q hq => absurd hq (Nat.not_lt_zero q)⟩ (by simp [LeR, rnf, aget, envR, tabR, injR, notIn, loR, V.rn, V.rnL, V.bd, V.bdL, Blk.rn, Blk.bd, envRn, envBd]) (fun k hk => ?_)
  simp only [push_cast, reduceIte, Nat.reduceMul, Nat.reduceEqDiff, Nat.reduceAdd, Nat.reduceLT, Nat.reduceLeDiff, reduceCtorEq, Int.reduceToNat]
  refine ⟨fun h1 => ?_, fun h1 => ?_⟩
  · have h2 : k < 3 := by simp at h1; omega
    simp only [lists_at r h2, push_cast, reduceIte, Nat.reduceMul, Nat.reduceEqDiff, Nat.reduceAdd, Nat.reduceLT, Nat.reduceLeDiff, reduceCtorEq, Int.reduceToNat]
    refine ⟨by omega, fun h3 => ?_, fun h3 => ⟨k + 1, ⟨by omega, fun q hq => ?_⟩, by omega, [], ?_⟩⟩
    · rw [validI, manyR_at h2 (by simp at h3; omega), if_pos rfl]
    · by_cases e : q = k
      · subst e; simp at h3; omega
      · exact hk.2 q (by omega)
    · simp [LeR, rnf, aget, envR, tabR, injR, notIn, loR, V.rn, V.rnL, V.bd, V.bdL, Blk.rn, Blk.bd, envRn, envBd, wrap_i64 (k + 1) (by omega) (by omega)]
  · have h2 : k = 3 := by simp at h1; omega
    subst h2
    have hno := manyR_no hk.2
    have hv : validI r = if badR r then 8 else 0 := by simp only [validI, hno, Bool.false_eq_true, if_false]
    clear hk h1
    refine T_seqC ?_
    simp only [push_cast, reduceIte, Nat.reduceMul, Nat.reduceEqDiff, Nat.reduceAdd, Nat.reduceLT, Nat.reduceLeDiff, reduceCtorEq, Int.reduceToNat]
    refine T_loopR (fun k : Nat => ⟨[(3, .p (listsP r)), (4, .p famsP), (6, vI k)], [], 0, 0, 49⟩) (fun k => k ≤ 3 ∧ ∀ q, q < k → (setN r q).any (badS (famN q)) = false) (fun k => 3 - k) 0 [] ⟨Nat.zero_le _, fun q hq => absurd hq (Nat.not_lt_zero q)⟩ (by simp [LeR, rnf, aget, envR, tabR, injR, notIn, loR, V.rn, V.rnL, V.bd, V.bdL, Blk.rn, Blk.bd, envRn, envBd]) (fun k hk => ?_)
    simp only [push_cast, reduceIte, Nat.reduceMul, Nat.reduceEqDiff, Nat.reduceAdd, Nat.reduceLT, Nat.reduceLeDiff, reduceCtorEq, Int.reduceToNat]
    refine ⟨fun h1 => ?_, fun h1 => ?_⟩
    · have h2 : k < 3 := by simp at h1; omega
      have hn := setN_len h k
      refine T_loopR (fun i : Nat => ⟨[(3, .p (listsP r)), (4, .p famsP), (6, vI k), (7, vI i)], [], 0, 0, 49⟩) (fun i => i ≤ (setN r k).length ∧ ∀ q p, q < i → (setN r k)[q]? = some p → badS (famN k) p = false) (fun i => (setN r k).length - i) 0 [] ⟨Nat.zero_le _, fun q p hq => absurd hq (Nat.not_lt_zero q)⟩ (by simp [LeR, rnf, aget, envR, tabR, injR, notIn, loR, V.rn, V.rnL, V.bd, V.bdL, Blk.rn, Blk.bd, envRn, envBd]) (fun i hi => ?_)
      simp only [push_cast, reduceIte, Nat.reduceMul, Nat.reduceEqDiff, Nat.reduceAdd, Nat.reduceLT, Nat.reduceLeDiff, reduceCtorEq, Int.reduceToNat, lists_at r h2]
      refine ⟨by omega, fun h3 => ?_, fun h3 => ?_⟩
      · have h3 : i < (setN r k).length := by simpa using h3
        have hg : (setN r k)[i]? = some (setN r k)[i] := List.getElem?_eq_getElem h3
        generalize (setN r k)[i] = s at hg
        refine T_drawS [] [] mixed (by kernel_rfl) ?_
        simp only [push_cast, reduceIte, Nat.reduceMul, Nat.reduceEqDiff, Nat.reduceAdd, Nat.reduceLT, Nat.reduceLeDiff, reduceCtorEq, Int.reduceToNat, lists_at r h2, fams_at h2, List.getElem?_map, hg]
        refine ⟨by omega, by omega, by omega, _, (rSpanCheck_fv WG (famN k) s).v rfl, ?_⟩
        simp only [push_cast, reduceIte, Nat.reduceMul, Nat.reduceEqDiff, Nat.reduceAdd, Nat.reduceLT, Nat.reduceLeDiff, reduceCtorEq, Int.reduceToNat]
        refine ⟨fun h4 => ?_, fun h4 => ⟨i + 1, ⟨by omega, fun q p hq hp => ?_⟩, by omega, [], ?_⟩⟩
        · rw [hv, badR_at h2 (List.any_eq_true.2 ⟨s, List.mem_of_getElem? hg, by simpa [badS] using h4⟩), if_pos rfl]
        · by_cases e : q = i
          · subst e; rw [hg] at hp; cases hp; simpa [badS] using h4
          · exact hi.2 q p (by omega) hp
        · simp [LeR, rnf, aget, envR, tabR, injR, notIn, loR, V.rn, V.rnL, V.bd, V.bdL, Blk.rn, Blk.bd, envRn, envBd, wrap_i64 (i + 1) (by omega) (by omega)]
      · have h3 : ¬ i < (setN r k).length := by simpa using h3
        refine ⟨k + 1, ⟨by omega, fun q hq => ?_⟩, by omega, [], ?_⟩
        · by_cases e : q = k
          · subst e
            refine List.any_eq_false.2 fun p hp => ?_
            obtain ⟨q', hq'⟩ := List.mem_iff_getElem?.1 hp
            rw [hi.2 q' p (by have := (List.getElem?_eq_some_iff.1 hq').1; omega) hq']; simp
          · exact hk.2 q (by omega)
        · simp [LeR, rnf, aget, envR, tabR, injR, notIn, loR, V.rn, V.rnL, V.bd, V.bdL, Blk.rn, Blk.bd, envRn, envBd, wrap_i64 (k + 1) (by omega) (by omega)]
    · have h2 : k = 3 := by simp at h1; omega
      subst h2
      rw [hv, badR_no hk.2]
      refine T_fin ?_
      simp only [push_cast, reduceIte, Nat.reduceMul, Nat.reduceEqDiff, Nat.reduceAdd, Nat.reduceLT, Nat.reduceLeDiff, reduceCtorEq, Int.reduceToNat]

/-- The reference asks the next address of the set's own family: it is the same where the spans are valid. -/
theorem after_fam {f : Int} (hf : f = 4 ∨ f = 6) {a b : Nat} (ha : addrOk f a = true) (hb : addrOk f b = true) : ((nextN f b).2 && decide (cmpN (nextN f b).1 a < 0)) = afterB a b := by
  have hc : ∀ x y : Nat, decide (cmpN x y < 0) = decide (x < y) := fun x y => decide_eq_decide.2 (by unfold cmpN; repeat' split <;> omega)
  rcases hf with rfl | rfl
  · simp [addrOk] at ha hb
    unfold afterB nextN
    simp only [hc, addrOk]
    by_cases h : b + 1 < 4294967296
    · simp [hb, h, show b + 1 < 340282366920938463463374607431768211456 by omega]
    · simp [hb, h, show b + 1 < 340282366920938463463374607431768211456 by omega]; omega
  · simp only [afterB, hc]
theorem bad_addr {f : Int} (hf : f = 4 ∨ f = 6) {s : Nat × Nat} (h : badS f s = false) : addrOk f s.1 = true ∧ addrOk f s.2 = true := by
  have hf' : ¬ (f ≠ 4 ∧ f ≠ 6) := by rcases hf with rfl | rfl <;> simp
  have : spanOk f s = true := by
    cases e : spanOk f s with
    | true => rfl
    | false => simp [badS, spanI, if_neg hf', e] at h
  simp only [spanOk, Bool.and_eq_true] at this
  exact this.1
theorem famN_or (k : Nat) : famN k = 4 ∨ famN k = 6 := by unfold famN; split <;> simp
theorem valid_at {r : Res} (h : validI r = 0) {k : Nat} (hk : k < 3) {s : Nat × Nat} (hs : s ∈ setN r k) : badS (famN k) s = false := by
  have : badR r = false := by
    unfold validI at h
    split at h
    · cases h
    · cases hb : badR r with
      | false => rfl
      | true => rw [hb] at h; cases h
  cases hb : badS (famN k) s with
  | false => rfl
  | true => rw [badR_at hk (List.any_eq_true.2 ⟨s, hs, hb⟩)] at this; cases this

set_option maxHeartbeats 16000000 in
theorem refResCheck_fv (WG : World) (r : Res) (h : OkR r) : FV Tryz.prog WG 99 [resP r] (vI (resI r)) := by
  refine CallT.pure rfl (CallT_fnT Tryz.func99 (rs := [.tmp 2]) (n := 64) rfl rfl (Nat.le_of_ble_eq_true rfl) rfl ?_)
  refine T_seqC ?_
  simp only [push_cast, reduceIte, Nat.reduceMul, Nat.reduceEqDiff, Nat.reduceAdd, Nat.reduceLT, Nat.reduceLeDiff, reduceCtorEq, Int.reduceToNat]
  refine T_seqC ?_
  simp only [push_cast, reduceIte, Nat.reduceMul, Nat.reduceEqDiff, Nat.reduceAdd, Nat.reduceLT, Nat.reduceLeDiff, reduceCtorEq, Int.reduceToNat]
  refine (rValid_fv WG r h).call rfl ?_
  simp only [push_cast, reduceIte, Nat.reduceMul, Nat.reduceEqDiff, Nat.reduceAdd, Nat.reduceLT, Nat.reduceLeDiff, reduceCtorEq, Int.reduceToNat]
  refine ⟨fun h1 => ?_, fun h1 => ?_⟩
  · refine (rValid_fv WG r h).call rfl ?_
    simp only [push_cast, reduceIte, Nat.reduceMul, Nat.reduceEqDiff, Nat.reduceAdd, Nat.reduceLT, Nat.reduceLeDiff, reduceCtorEq, Int.reduceToNat]
    have : validI r ≠ 0 := by simpa using h1
    rw [resI, if_pos this]
  · have h0 : validI r = 0 := by simpa using h1
    have hv : resI r = if normR r then 0 else 8 := by rw [resI, if_neg (by omega)]
    refine T_seqC ?_
    simp only [push_cast, reduceIte, Nat.reduceMul, Nat.reduceEqDiff, Nat.reduceAdd, Nat.reduceLT, Nat.reduceLeDiff, reduceCtorEq, Int.reduceToNat]
    refine (lists_fv WG r h).call rfl ?_
    simp only [push_cast, reduceIte, Nat.reduceMul, Nat.reduceEqDiff, Nat.reduceAdd, Nat.reduceLT, Nat.reduceLeDiff, reduceCtorEq, Int.reduceToNat]
    refine T_seqC ?_
    simp only [push_cast, reduceIte, Nat.reduceMul, Nat.reduceEqDiff, Nat.reduceAdd, Nat.reduceLT, Nat.reduceLeDiff, reduceCtorEq, Int.reduceToNat]
    refine T_loopR (fun k : Nat => ⟨[(3, .p (listsP r)), (4, .p famsP), (5, vI k)], [], 0, 0, 64⟩) (fun k => k ≤ 3 ∧ ∀ q, q < k → normalB (setN r q) = true) (fun k => 3 - k) 0 [] ⟨Nat.zero_le _, fun q hq => absurd hq (Nat.not_lt_zero q)⟩ (by simp [LeR, rnf, aget, envR, tabR, injR, notIn, loR, V.rn, V.rnL, V.bd, V.bdL, Blk.rn, Blk.bd, envRn, envBd]) (fun k hk => ?_)
    simp only [push_cast, reduceIte, Nat.reduceMul, Nat.reduceEqDiff, Nat.reduceAdd, Nat.reduceLT, Nat.reduceLeDiff, reduceCtorEq, Int.reduceToNat]
    refine ⟨fun h1 => ?_, fun h1 => ?_⟩
    · have h2 : k < 3 := by simp at h1; omega
      have hn := setN_len h k
      have hsok := setN_ok h k
      have hval := fun s hs => valid_at h0 h2 (s := s) hs
      refine T_loopR (fun i : Nat => ⟨[(3, .p (listsP r)), (4, .p famsP), (5, vI k), (6, vI i)], [], 0, 0, 64⟩) (fun i => 1 ≤ i ∧ (i ≤ (setN r k).length ∨ i = 1) ∧ ∀ q, q < i - 1 → afterB ((setN r k).getD (q + 1) (0, 0)).1 ((setN r k).getD q (0, 0)).2 = true) (fun i => (setN r k).length - i) 1 [] ⟨Nat.le_refl _, .inr rfl, fun q hq => absurd hq (Nat.not_lt_zero q)⟩ (by simp [LeR, rnf, aget, envR, tabR, injR, notIn, loR, V.rn, V.rnL, V.bd, V.bdL, Blk.rn, Blk.bd, envRn, envBd]) (fun i hi => ?_)
      simp only [push_cast, reduceIte, Nat.reduceMul, Nat.reduceEqDiff, Nat.reduceAdd, Nat.reduceLT, Nat.reduceLeDiff, reduceCtorEq, Int.reduceToNat, lists_at r h2]
      refine ⟨by omega, fun h3 => ?_, fun h3 => ?_⟩
      · have h3 : i < (setN r k).length := by simpa using h3
        have hg : (setN r k)[i]? = some ((setN r k).getD i (0, 0)) := by rw [List.getD_eq_getElem?_getD, List.getElem?_eq_getElem h3]; rfl
        have hg' : (setN r k)[i - 1]? = some ((setN r k).getD (i - 1) (0, 0)) := by rw [List.getD_eq_getElem?_getD, List.getElem?_eq_getElem (by omega)]; rfl
        have hi1 : ((i : Int) - 1).toNat = i - 1 := by omega
        have hw := wrap_i64 ((i : Int) - 1) (by omega) (by omega)
        have hA := fun hx => after_fam (famN_or k) (bad_addr (famN_or k) (hval ((setN r k).getD i (0, 0)) (List.mem_of_getElem? hg))).1 (b := ((setN r k).getD (i - 1) (0, 0)).2) hx
        have hA := hA (bad_addr (famN_or k) (hval _ (List.mem_of_getElem? hg'))).2
        refine T_drawS [17, 18] [(3, 18), (7, 18), (12, 18)] mixed (by kernel_rfl) ?_
        simp only [push_cast, reduceIte, Nat.reduceMul, Nat.reduceEqDiff, Nat.reduceAdd, Nat.reduceLT, Nat.reduceLeDiff, reduceCtorEq, Int.reduceToNat, lists_at r h2, fams_at h2, List.getElem?_map, hg', hw, hi1]
        refine ⟨by omega, by omega, by omega, _, (rNext_fv WG (famN k) (famN_or k) _ (hsok _ (List.mem_of_getElem? hg')).2).v rfl, ?_⟩
        simp only [push_cast, reduceIte, Nat.reduceMul, Nat.reduceEqDiff, Nat.reduceAdd, Nat.reduceLT, Nat.reduceLeDiff, reduceCtorEq, Int.reduceToNat, lists_at r h2, fams_at h2, List.getElem?_map, hg', hw, hi1]
        refine T_drawS [] [] mixed (by kernel_rfl) ?_
        simp only [push_cast, reduceIte, Nat.reduceMul, Nat.reduceEqDiff, Nat.reduceAdd, Nat.reduceLT, Nat.reduceLeDiff, reduceCtorEq, Int.reduceToNat, lists_at r h2, fams_at h2, List.getElem?_map, hg, hw, hi1]
        refine ⟨fun h => ⟨h, by omega⟩, fun h => ⟨h, by omega⟩, _, fun _ => (rCompare_fv WG (nextN (famN k) ((setN r k).getD (i - 1) (0, 0)).2).1 ((setN r k).getD i (0, 0)).1).v rfl, ?_⟩
        simp only [push_cast, reduceIte, Nat.reduceMul, Nat.reduceEqDiff, Nat.reduceAdd, Nat.reduceLT, Nat.reduceLeDiff, reduceCtorEq, Int.reduceToNat]
        have hcond : (!(nextN (famN k) ((setN r k).getD (i - 1) (0, 0)).2).2 || decide (0 ≤ cmpN (nextN (famN k) ((setN r k).getD (i - 1) (0, 0)).2).1 ((setN r k).getD i (0, 0)).1)) = !afterB ((setN r k).getD i (0, 0)).1 ((setN r k).getD (i - 1) (0, 0)).2 := by
          rw [← hA, Bool.not_and]
          congr 1
          rw [← decide_not]
          exact decide_eq_decide.2 (by omega)
        rw [hcond]
        refine ⟨fun h4 => ?_, fun h4 => ⟨i + 1, ⟨by omega, .inl (by omega), fun q hq => ?_⟩, by omega, [], ?_⟩⟩
        · have : normalB (setN r k) = false := decide_eq_false fun h' => by
            have := h' (i - 1) (by omega)
            rw [show i - 1 + 1 = i by omega] at this
            rw [this] at h4; cases h4
          rw [hv, normR_at h2 this]; simp
        · by_cases e : q = i - 1
          · subst e
            rw [show i - 1 + 1 = i by omega]
            simpa using h4
          · exact hi.2.2 q (by omega)
        · simp [LeR, rnf, aget, envR, tabR, injR, notIn, loR, V.rn, V.rnL, V.bd, V.bdL, Blk.rn, Blk.bd, envRn, envBd, wrap_i64 (i + 1) (by omega) (by omega)]
      · have h3 : ¬ i < (setN r k).length := by simpa using h3
        refine ⟨k + 1, ⟨by omega, fun q hq => ?_⟩, by omega, [], ?_⟩
        · by_cases e : q = k
          · subst e
            exact decide_eq_true fun q' hq' => hi.2.2 q' (by omega)
          · exact hk.2 q (by omega)
        · simp [LeR, rnf, aget, envR, tabR, injR, notIn, loR, V.rn, V.rnL, V.bd, V.bdL, Blk.rn, Blk.bd, envRn, envBd, wrap_i64 (k + 1) (by omega) (by omega)]
    · have h2 : k = 3 := by simp at h1; omega
      subst h2
      rw [hv, normR_all hk.2]
      refine T_fin ?_
      simp only [push_cast, reduceIte, Nat.reduceMul, Nat.reduceEqDiff, Nat.reduceAdd, Nat.reduceLT, Nat.reduceLeDiff, reduceCtorEq, Int.reduceToNat]
end Go.Proofs.YtplpggeefemelaaGreatDoor
