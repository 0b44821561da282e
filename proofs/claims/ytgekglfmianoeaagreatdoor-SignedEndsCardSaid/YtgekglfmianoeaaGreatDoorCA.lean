/-
  Addresses as numbers: comparing, the next one, spans. Functions of layers 1 and 2.
  Resources: the program's side.
  resource.Check.
  Addresses bit by bit.
  Bits of addresses, the next one.
  The address of bits; the next address.
  Resources: the reference's side.
  Resources: the reference's check.
-/
import Derived.Test.YtgekglfmianoeaaGreatDoorKD
set_option linter.unusedSimpArgs false
set_option linter.unusedVariables false
set_option maxRecDepth 20000
namespace Go.Proofs.YtgekglfmianoeaaGreatDoor
open Go Go.Gp
abbrev pU64 (n : Int) : PV := .v (.int .u64 n)
abbrev pU32 (n : Int) : PV := .v (.int .u32 n)
def hiN (v : Nat) : Nat := v / 18446744073709551616
def loN (v : Nat) : Nat := v % 18446744073709551616
abbrev addrP (v : Nat) : PV := .agg [pU64 (hiN v), pU64 (loN v)]
abbrev spanP (s : Nat × Nat) : PV := .agg [pU64 (hiN s.1), pU64 (loN s.1), pU64 (hiN s.2), pU64 (loN s.2)]
theorem hiN_lt {v : Nat} (h : v < 340282366920938463463374607431768211456) : hiN v < 18446744073709551616 := by unfold hiN; omega
theorem loN_lt (v : Nat) : loN v < 18446744073709551616 := by unfold loN; omega
theorem addr_split (v : Nat) : v = hiN v * 18446744073709551616 + loN v := by unfold hiN loN; omega

set_option maxHeartbeats 4000000 in
theorem isNaN_fv (WG : World) (n : Int) : FV Tryz.prog WG 211 [pU64 n] (vB false) := by
  refine CallT.pure rfl (CallT_fn Tryz.func211 (rs := [.tmp 2]) (n := 6) rfl rfl (Nat.le_of_ble_eq_true rfl) rfl ?_)
  simp only [push_cast, reduceIte, Nat.reduceMul, Nat.reduceEqDiff, Nat.reduceAdd, Nat.reduceLT, Nat.reduceLeDiff, reduceCtorEq, Int.reduceToNat]

def cmpI (a b : Int) : Int := if a < b then -1 else if b < a then 1 else 0
set_option maxHeartbeats 4000000 in
theorem cmp64_fv (WG : World) (a b : Int) : FV Tryz.prog WG 194 [pU64 a, pU64 b] (vI (cmpI a b)) := by
  refine CallT.pure rfl (CallT_fn Tryz.func194 (rs := [.tmp 4]) (n := 20) rfl rfl (Nat.le_of_ble_eq_true rfl) rfl ?_)
  simp only [push_cast, reduceIte, Nat.reduceMul, Nat.reduceEqDiff, Nat.reduceAdd, Nat.reduceLT, Nat.reduceLeDiff, reduceCtorEq, Int.reduceToNat]
  refine (isNaN_fv WG a).call rfl ?_
  simp only [push_cast, reduceIte, Nat.reduceMul, Nat.reduceEqDiff, Nat.reduceAdd, Nat.reduceLT, Nat.reduceLeDiff, reduceCtorEq, Int.reduceToNat]
  refine (isNaN_fv WG b).call rfl ?_
  simp only [push_cast, reduceIte, Nat.reduceMul, Nat.reduceEqDiff, Nat.reduceAdd, Nat.reduceLT, Nat.reduceLeDiff, reduceCtorEq, Int.reduceToNat, cmpI]
  refine ⟨fun h => ?_, fun h => ⟨fun h2 => ?_, fun h2 => ?_⟩⟩
  · simp at h; simp [h]
  · simp at h h2; simp [h2]; omega
  · simp at h h2; simp [show ¬ a < b by omega, show ¬ b < a by omega]

def cmpN (a b : Nat) : Int := if a < b then -1 else if b < a then 1 else 0
theorem cmpN_split (a b : Nat) : cmpN a b = if cmpI (hiN a) (hiN b) ≠ 0 then cmpI (hiN a) (hiN b) else cmpI (loN a) (loN b) := by
  unfold cmpN cmpI hiN loN
  repeat' split
  all_goals omega

set_option maxHeartbeats 4000000 in
theorem ncompare_fv (WG : World) (a b : Nat) : FV Tryz.prog WG 174 [addrP a, addrP b] (vI (cmpN a b)) := by
  refine CallT.pure rfl (CallT_fn Tryz.func174 (rs := [.tmp 4]) (n := 19) rfl rfl (Nat.le_of_ble_eq_true rfl) rfl ?_)
  simp only [push_cast, reduceIte, Nat.reduceMul, Nat.reduceEqDiff, Nat.reduceAdd, Nat.reduceLT, Nat.reduceLeDiff, reduceCtorEq, Int.reduceToNat]
  refine (cmp64_fv WG _ _).call rfl ?_
  simp only [push_cast, reduceIte, Nat.reduceMul, Nat.reduceEqDiff, Nat.reduceAdd, Nat.reduceLT, Nat.reduceLeDiff, reduceCtorEq, Int.reduceToNat, cmpN_split a b]
  refine ⟨fun h => ?_, fun h => ?_⟩
  · simp at h; simp [h]
  · simp at h
    refine (cmp64_fv WG _ _).call rfl ?_
    simp only [push_cast, reduceIte, Nat.reduceMul, Nat.reduceEqDiff, Nat.reduceAdd, Nat.reduceLT, Nat.reduceLeDiff, reduceCtorEq, Int.reduceToNat, h]
    simp

def addrOk (f : Int) (v : Nat) : Bool := decide (f = 6) || (decide (f = 4) && decide (v < 4294967296))
set_option maxHeartbeats 4000000 in
theorem ncheckAddr_fv (WG : World) (f : Int) (v : Nat) : FV Tryz.prog WG 192 [pU8 f, addrP v] (vB (addrOk f v)) := by
  refine CallT.pure rfl (CallT_fn Tryz.func192 (rs := [.tmp 4]) (n := 21) rfl rfl (Nat.le_of_ble_eq_true rfl) rfl ?_)
  simp only [push_cast, reduceIte, Nat.reduceMul, Nat.reduceEqDiff, Nat.reduceAdd, Nat.reduceLT, Nat.reduceLeDiff, reduceCtorEq, Int.reduceToNat]
  have : addrOk f v = (decide (f = 6) || (decide (f = 4) && decide ((hiN v : Int) = 0)) && decide ((loN v : Int) < 4294967296)) := by
    unfold addrOk
    congr 1
    by_cases h : f = 4
    · simp only [h, decide_true, Bool.true_and]
      rw [← Bool.decide_and]
      refine decide_eq_decide.2 ?_
      unfold hiN loN; omega
    · simp [h]
  rw [this]
  refine ⟨?_, ?_⟩ <;> simp <;> omega

def spanOk (f : Int) (s : Nat × Nat) : Bool := addrOk f s.1 && addrOk f s.2 && decide (s.1 ≤ s.2)
def spanI (f : Int) (s : Nat × Nat) : Int := if f ≠ 4 ∧ f ≠ 6 then 2 else if spanOk f s then 0 else 8
theorem cmpN_pos (a b : Nat) : (0 < cmpN a b) ↔ b < a := by
  unfold cmpN
  by_cases h : a < b
  · simp [h]; omega
  · by_cases h2 : b < a
    · simp [h, h2]
    · simp [h, h2]
set_option maxHeartbeats 4000000 in
theorem spanCheck_fv (WG : World) (f : Int) (s : Nat × Nat) : FV Tryz.prog WG 172 [pU8 f, spanP s] (vI (spanI f s)) := by
  refine CallT.pure rfl (CallT_fn Tryz.func172 (rs := [.tmp 4]) (n := 31) rfl rfl (Nat.le_of_ble_eq_true rfl) rfl ?_)
  simp only [push_cast, reduceIte, Nat.reduceMul, Nat.reduceEqDiff, Nat.reduceAdd, Nat.reduceLT, Nat.reduceLeDiff, reduceCtorEq, Int.reduceToNat]
  refine ⟨fun h => ?_, fun h => ?_⟩
  · simp at h; simp [spanI, h]
  · refine (ncheckAddr_fv WG f s.1).call rfl ?_
    simp only [push_cast, reduceIte, Nat.reduceMul, Nat.reduceEqDiff, Nat.reduceAdd, Nat.reduceLT, Nat.reduceLeDiff, reduceCtorEq, Int.reduceToNat]
    refine ⟨_, fun _ => (ncheckAddr_fv WG f s.2).q rfl, ?_⟩
    simp only [push_cast, reduceIte, Nat.reduceMul, Nat.reduceEqDiff, Nat.reduceAdd, Nat.reduceLT, Nat.reduceLeDiff, reduceCtorEq, Int.reduceToNat]
    refine ⟨_, fun _ => (ncompare_fv WG s.1 s.2).q rfl, ?_⟩
    simp only [push_cast, reduceIte, Nat.reduceMul, Nat.reduceEqDiff, Nat.reduceAdd, Nat.reduceLT, Nat.reduceLeDiff, reduceCtorEq, Int.reduceToNat]
    have key : (!addrOk f s.1 || !addrOk f s.2 || decide (0 < cmpN s.1 s.2)) = !spanOk f s := by
      simp only [spanOk, cmpN_pos, Bool.not_and]
      congr 1
      rw [← decide_not]
      exact decide_eq_decide.2 (by omega)
    have hf : ¬ (f ≠ 4 ∧ f ≠ 6) := by simp at h; omega
    rw [key, spanI, if_neg hf]
    refine ⟨fun h2 => ?_, fun h2 => ?_⟩ <;> simp at h2 <;> simp [h2]

def nextN (f : Int) (v : Nat) : Nat × Bool := if addrOk f v && addrOk f (v + 1) && decide (v + 1 < 340282366920938463463374607431768211456) then (v + 1, true) else (0, false)
set_option maxHeartbeats 4000000 in
theorem spanNext_fv (WG : World) (f : Int) (v : Nat) (h : v < 340282366920938463463374607431768211456) : FV Tryz.prog WG 173 [pU8 f, addrP v] (.tup [.p (addrP (nextN f v).1), vB (nextN f v).2]) := by
  refine CallT.pure rfl (CallT_fn Tryz.func173 (rs := [.cell 4 108, .tmp 5]) (n := 43) rfl rfl (Nat.le_of_ble_eq_true rfl) rfl ?_)
  simp only [push_cast, reduceIte, Nat.reduceMul, Nat.reduceEqDiff, Nat.reduceAdd, Nat.reduceLT, Nat.reduceLeDiff, reduceCtorEq, Int.reduceToNat]
  have hv : v + 1 < 340282366920938463463374607431768211456 ∨ v + 1 = 340282366920938463463374607431768211456 := by omega
  obtain ⟨W, hW⟩ : ∃ W : Nat, W = if v + 1 < 340282366920938463463374607431768211456 then v + 1 else 0 := ⟨_, rfl⟩
  have e1 : ((loN v : Int) + 1 + 0) % 18446744073709551616 = (loN W : Int) := by
    rw [hW]; unfold loN; split <;> omega
  have e2 : ((hiN v : Int) + 0 + ((loN v : Int) + 1 + 0) / 18446744073709551616) % 18446744073709551616 = (hiN W : Int) := by
    rw [hW]; unfold loN hiN; split <;> omega
  have e3 : ((hiN v : Int) + 0 + ((loN v : Int) + 1 + 0) / 18446744073709551616) / 18446744073709551616 = if v + 1 < 340282366920938463463374607431768211456 then 0 else 1 := by
    unfold loN hiN; split <;> omega
  refine ⟨by unfold loN; omega, by unfold loN hiN; omega, ?_⟩
  simp only [e1, e2, e3]
  refine (ncheckAddr_fv WG f v).call rfl ?_
  simp only [push_cast, reduceIte, Nat.reduceMul, Nat.reduceEqDiff, Nat.reduceAdd, Nat.reduceLT, Nat.reduceLeDiff, reduceCtorEq, Int.reduceToNat]
  refine ⟨_, fun _ => (ncheckAddr_fv WG f W).q rfl, ?_⟩
  simp only [push_cast, reduceIte, Nat.reduceMul, Nat.reduceEqDiff, Nat.reduceAdd, Nat.reduceLT, Nat.reduceLeDiff, reduceCtorEq, Int.reduceToNat]
  by_cases hb : v + 1 < 340282366920938463463374607431768211456
  · rw [if_pos hb] at hW
    subst hW
    simp only [nextN, hb, if_true, decide_true, Bool.and_true]
    cases addrOk f v <;> cases addrOk f (v + 1) <;> simp [hiN, loN]
  · simp [nextN, hb, hiN, loN]

def namedB (c : Int) : Bool := (decide (97 ≤ c) && decide (c ≤ 122)) || (decide (65 ≤ c) && decide (c ≤ 90)) || (decide (48 ≤ c) && decide (c ≤ 57)) || decide (c = 45) || decide (c = 95)
set_option maxHeartbeats 4000000 in
theorem nameGood_fv (WG : World) (c : Int) : FV Tryz.prog WG 124 [pU8 c] (vB (namedB c)) := by
  refine CallT.pure rfl (CallT_fn Tryz.func124 (rs := [.tmp 2]) (n := 33) rfl rfl (Nat.le_of_ble_eq_true rfl) rfl ?_)
  simp only [push_cast, reduceIte, Nat.reduceMul, Nat.reduceEqDiff, Nat.reduceAdd, Nat.reduceLT, Nat.reduceLeDiff, reduceCtorEq, Int.reduceToNat]
  simp [namedB]
  omega
def named (s : ByteArray) : Bool := decide (1 ≤ s.size ∧ s.size ≤ 40) && decide (∀ k, k < s.size → namedB ((bAt s k).toNat) = true)
theorem named_false {s : ByteArray} {i : Nat} (h : i < s.size) (hp : namedB ((bAt s i).toNat) = false) : named s = false := by
  have : decide (∀ k, k < s.size → namedB ((bAt s k).toNat) = true) = false := decide_eq_false fun h' => by rw [h' i h] at hp; cases hp
  simp only [named, this, Bool.and_false]

set_option maxHeartbeats 4000000 in
theorem numName_fv (WG : World) (s : ByteArray) (hs : s.size < 1000000) : FV Tryz.prog WG 76 [pS s] (vB (named s)) := by
  refine CallT.pure rfl (CallT_fn Tryz.func76 (rs := [.tmp 2]) (n := 25) rfl rfl (Nat.le_of_ble_eq_true rfl) rfl ?_)
  simp only [push_cast, reduceIte, Nat.reduceMul, Nat.reduceEqDiff, Nat.reduceAdd, Nat.reduceLT, Nat.reduceLeDiff, reduceCtorEq, Int.reduceToNat]
  refine T_loopS (fun i : Nat => ⟨[(0, vS s), (3, .p (.clo (.func 124) [] [])), (6, vI s.size), (7, vI i)], [], 0, 0, 25⟩) (fun i => i ≤ s.size ∧ ∀ k, k < i → namedB ((bAt s k).toNat) = true) (fun i => s.size - i) 0 ⟨Nat.zero_le _, fun k hk => absurd hk (Nat.not_lt_zero k)⟩ (by simp [Le, subE, aget]) (fun i hi => ?_)
  simp only [push_cast, reduceIte, Nat.reduceMul, Nat.reduceEqDiff, Nat.reduceAdd, Nat.reduceLT, Nat.reduceLeDiff, reduceCtorEq, Int.reduceToNat]
  refine ⟨fun h1 => ?_, fun h1 => ?_⟩
  · have h2 : i < s.size := by simpa using h1
    refine ⟨by omega, ?_⟩
    refine (nameGood_fv WG _).call rfl ?_
    simp only [push_cast, reduceIte, Nat.reduceMul, Nat.reduceEqDiff, Nat.reduceAdd, Nat.reduceLT, Nat.reduceLeDiff, reduceCtorEq, Int.reduceToNat]
    refine ⟨fun h4 => ?_, fun h4 => ⟨i + 1, ⟨by omega, fun k hk => ?_⟩, by omega, ?_⟩⟩
    · rw [named_false h2 (by simpa using h4)]
    · by_cases e : k = i
      · subst e; simpa using h4
      · exact hi.2 k (by omega)
    · simp [Le, subE, aget, wrap_i64 (i + 1) (by omega) (by omega)]
  · simp at h1
    have : i = s.size := by omega
    subst this
    have : decide (∀ k, k < s.size → namedB ((bAt s k).toNat) = true) = true := decide_eq_true hi.2
    simp only [named, this, Bool.and_true, Bool.decide_and]
    have e1 : decide ((1 : Int) ≤ s.size) = decide (1 ≤ s.size) := decide_eq_decide.2 (by omega)
    have e2 : decide ((s.size : Int) ≤ 40) = decide (s.size ≤ 40) := decide_eq_decide.2 (by omega)
    simp only [e1, e2]

def timeB (t : Int) : Bool := decide (0 ≤ t) && decide (t ≤ 1099511627776)
set_option maxHeartbeats 4000000 in
theorem isTime_fv (WG : World) (t : Int) : FV Tryz.prog WG 125 [pI t] (vB (timeB t)) := by
  refine CallT.pure rfl (CallT_fn Tryz.func125 (rs := [.tmp 2]) (n := 9) rfl rfl (Nat.le_of_ble_eq_true rfl) rfl ?_)
  simp only [push_cast, reduceIte, Nat.reduceMul, Nat.reduceEqDiff, Nat.reduceAdd, Nat.reduceLT, Nat.reduceLeDiff, reduceCtorEq, Int.reduceToNat, timeB]
def windowB (a b : Int) : Bool := timeB a && timeB b && decide (a ≤ b)
def windowI (a b : Int) : Int := if windowB a b then 0 else 8
set_option maxHeartbeats 4000000 in
theorem clockCheck_fv (WG : World) (a b : Int) : FV Tryz.prog WG 77 [.agg [pI a, pI b]] (vI (windowI a b)) := by
  refine CallT.pure rfl (CallT_fn Tryz.func77 (rs := [.tmp 2]) (n := 20) rfl rfl (Nat.le_of_ble_eq_true rfl) rfl ?_)
  simp only [push_cast, reduceIte, Nat.reduceMul, Nat.reduceEqDiff, Nat.reduceAdd, Nat.reduceLT, Nat.reduceLeDiff, reduceCtorEq, Int.reduceToNat]
  refine (isTime_fv WG a).call rfl ?_
  simp only [push_cast, reduceIte, Nat.reduceMul, Nat.reduceEqDiff, Nat.reduceAdd, Nat.reduceLT, Nat.reduceLeDiff, reduceCtorEq, Int.reduceToNat]
  refine ⟨_, fun _ => (isTime_fv WG b).q rfl, ?_⟩
  simp only [push_cast, reduceIte, Nat.reduceMul, Nat.reduceEqDiff, Nat.reduceAdd, Nat.reduceLT, Nat.reduceLeDiff, reduceCtorEq, Int.reduceToNat]
  have key : (!timeB a || !timeB b || decide (b < a)) = !windowB a b := by
    simp only [windowB, Bool.not_and]
    congr 1
    rw [← decide_not]
    exact decide_eq_decide.2 (by omega)
  rw [key, windowI]
  refine ⟨fun h2 => ?_, fun h2 => ?_⟩ <;> simp at h2 <;> simp [h2]

def goodH (h : Int) : Bool := decide (0 ≤ h) && decide (h ≤ 4)
set_option maxHeartbeats 4000000 in
theorem good_fv (WG : World) (h : Int) : FV Tryz.prog WG 127 [pI h] (vB (goodH h)) := by
  refine CallT.pure rfl (CallT_fn Tryz.func127 (rs := [.tmp 2]) (n := 9) rfl rfl (Nat.le_of_ble_eq_true rfl) rfl ?_)
  simp only [push_cast, reduceIte, Nat.reduceMul, Nat.reduceEqDiff, Nat.reduceAdd, Nat.reduceLT, Nat.reduceLeDiff, reduceCtorEq, Int.reduceToNat, goodH]
end Go.Proofs.YtgekglfmianoeaaGreatDoor

namespace Go.Proofs.YtgekglfmianoeaaGreatDoor
open Go Go.Gp
abbrev asP (s : Nat × Nat) : PV := .agg [pU32 s.1, pU32 s.2]
structure Res where
  v4 : List (Nat × Nat)
  v6 : List (Nat × Nat)
  as_ : List (Nat × Nat)
abbrev spansP (l : List (Nat × Nat)) : PV := .sl 4 (l.map spanP)
abbrev resP (r : Res) : PV := .agg [spansP r.v4, spansP r.v6, .sl 2 (r.as_.map asP)]
structure OkR (r : Res) : Prop where
  v4 : ∀ s ∈ r.v4, s.1 < 340282366920938463463374607431768211456 ∧ s.2 < 340282366920938463463374607431768211456
  v6 : ∀ s ∈ r.v6, s.1 < 340282366920938463463374607431768211456 ∧ s.2 < 340282366920938463463374607431768211456
  as_ : ∀ s ∈ r.as_, s.1 < 4294967296 ∧ s.2 < 4294967296
  n4 : r.v4.length < 1000000
  n6 : r.v6.length < 1000000
  nas : r.as_.length < 1000000
theorem hiN_small {v : Nat} (h : v < 4294967296) : hiN v = 0 := by unfold hiN; omega
theorem loN_small {v : Nat} (h : v < 4294967296) : loN v = v := by unfold loN; omega

theorem wrap_u64 (n : Int) (h1 : 0 ≤ n) (h2 : n < 18446744073709551616) : IntKind.u64.wrap n = n := by
  have : IntKind.u64.wrap n = n % 18446744073709551616 := rfl
  rw [this]; omega
set_option maxHeartbeats 4000000 in
theorem wide_fv (WG : World) (s : Nat × Nat) (h : s.1 < 4294967296 ∧ s.2 < 4294967296) : FV Tryz.prog WG 153 [asP s] (.p (spanP s)) := by
  refine CallT.pureS rfl (CallT_fn Tryz.func153 (rs := [.cell 2 110]) (n := 12) rfl rfl (Nat.le_of_ble_eq_true rfl) rfl ?_)
  simp only [push_cast, reduceIte, Nat.reduceMul, Nat.reduceEqDiff, Nat.reduceAdd, Nat.reduceLT, Nat.reduceLeDiff, reduceCtorEq, Int.reduceToNat]
  simp [hiN_small h.1, hiN_small h.2, loN_small h.1, loN_small h.2]
  exact ⟨wrap_u64 _ (by omega) (by omega), wrap_u64 _ (by omega) (by omega)⟩

theorem take_app {α β : Type} (f : α → β) {l : List α} {i : Nat} {x : α} (h : l[i]? = some x) : List.take i (List.map f (List.take i l)) ++ [f x] = List.map f (List.take (i + 1) l) := by
  obtain ⟨h1, h2⟩ := List.getElem?_eq_some_iff.1 h
  rw [List.take_of_length_le (by simp; omega), List.take_add_one, h]
  simp
def wideC : V := .p (.clo (.func 153) [] [])
set_option maxHeartbeats 8000000 in
theorem convert_fv (WG : World) (l : List (Nat × Nat)) (hl : ∀ s ∈ l, s.1 < 4294967296 ∧ s.2 < 4294967296) (hn : l.length < 1000000) : FV Tryz.prog WG 152 [.sl 2 (l.map asP), .clo (.func 153) [] []] (.p (spansP l)) := by
  refine CallT.pureS rfl (CallT_fnT Tryz.func152 (rs := [.tmp 4]) (n := 22) rfl rfl (Nat.le_of_ble_eq_true rfl) rfl ?_)
  refine T_seqC ?_
  simp only [push_cast, reduceIte, Nat.reduceMul, Nat.reduceEqDiff, Nat.reduceAdd, Nat.reduceLT, Nat.reduceLeDiff, reduceCtorEq, Int.reduceToNat]
  refine T_seqC ?_
  simp only [push_cast, reduceIte, Nat.reduceMul, Nat.reduceEqDiff, Nat.reduceAdd, Nat.reduceLT, Nat.reduceLeDiff, reduceCtorEq, Int.reduceToNat]
  refine T_nilT 5 4 rfl ?_
  simp only [push_cast, reduceIte, Nat.reduceMul, Nat.reduceEqDiff, Nat.reduceAdd, Nat.reduceLT, Nat.reduceLeDiff, reduceCtorEq, Int.reduceToNat]
  refine T_seqC ?_
  simp only [push_cast, reduceIte, Nat.reduceMul, Nat.reduceEqDiff, Nat.reduceAdd, Nat.reduceLT, Nat.reduceLeDiff, reduceCtorEq, Int.reduceToNat]
  refine T_loopR (fun i : Nat => ⟨[(1, wideC), (5, .osl 0 4 0 i none), (8, .p (.sl 2 (l.map asP))), (9, vI l.length), (10, vI i)], [(0, .arr 4 ((l.take i).map spanP) true)], 1, 0, 22⟩) (fun i => i ≤ l.length) (fun i => l.length - i) 0 [] (Nat.zero_le _) (by simp [wideC, LeR, rnf, aget, envR, tabR, injR, notIn, loR, V.rn, V.rnL, V.bd, V.bdL, Blk.rn, Blk.bd, envRn, envBd]) (fun i hi => ?_)
  simp only [wideC, push_cast, reduceIte, Nat.reduceMul, Nat.reduceEqDiff, Nat.reduceAdd, Nat.reduceLT, Nat.reduceLeDiff, reduceCtorEq, Int.reduceToNat]
  refine ⟨fun h1 => ?_, fun h1 => ?_⟩
  · have h2 : i < l.length := by simpa using h1
    have hg : l[i]? = some l[i] := List.getElem?_eq_getElem h2
    simp only [List.getElem?_map, hg, push_cast, reduceIte, Nat.reduceMul, Nat.reduceEqDiff, Nat.reduceAdd, Nat.reduceLT, Nat.reduceLeDiff, reduceCtorEq, Int.reduceToNat]
    refine ⟨by omega, ?_⟩
    refine (wide_fv WG l[i] (hl _ (List.getElem_mem h2))).call rfl ?_
    simp only [push_cast, reduceIte, Nat.reduceMul, Nat.reduceEqDiff, Nat.reduceAdd, Nat.reduceLT, Nat.reduceLeDiff, reduceCtorEq, Int.reduceToNat]
    refine ⟨⟨by simp; omega, by omega⟩, i + 1, by omega, by omega, [(0, 3)], ?_⟩
    have e := take_app spanP hg
    simp only [wideC, LeR, rnf, aget, envR, tabR, injR, notIn, loR, V.rn, V.rnL, V.bd, V.bdL, Blk.rn, Blk.bd, envRn, envBd, wrap_i64 (i + 1) (by omega) (by omega), ← e]
    simp
  · have : i = l.length := by simp at h1; omega
    subst this
    refine T_fin ?_
    simp only [push_cast, reduceIte, Nat.reduceMul, Nat.reduceEqDiff, Nat.reduceAdd, Nat.reduceLT, Nat.reduceLeDiff, reduceCtorEq, Int.reduceToNat]
    simp [List.take_of_length_le]

abbrev setsP (r : Res) : PV := .agg [spansP r.v4, spansP r.v6, spansP r.as_]
set_option maxHeartbeats 8000000 in
theorem sets_fv (WG : World) (r : Res) (h : OkR r) : FV Tryz.prog WG 122 [resP r] (.p (setsP r)) := by
  refine CallT.pureS rfl (CallT_fnT Tryz.func122 (rs := [.cell 2 181]) (n := 11) rfl rfl (Nat.le_of_ble_eq_true rfl) rfl ?_)
  refine T_seqC ?_
  simp only [push_cast, reduceIte, Nat.reduceMul, Nat.reduceEqDiff, Nat.reduceAdd, Nat.reduceLT, Nat.reduceLeDiff, reduceCtorEq, Int.reduceToNat]
  refine T_seqC ?_
  refine T_drawS [8] [] mixed (by kernel_rfl) ?_
  simp only [push_cast, reduceIte, Nat.reduceMul, Nat.reduceEqDiff, Nat.reduceAdd, Nat.reduceLT, Nat.reduceLeDiff, reduceCtorEq, Int.reduceToNat]
  refine ⟨_, (convert_fv WG r.as_ h.as_ h.nas).v rfl, ?_⟩
  simp only [push_cast, reduceIte, Nat.reduceMul, Nat.reduceEqDiff, Nat.reduceAdd, Nat.reduceLT, Nat.reduceLeDiff, reduceCtorEq, Int.reduceToNat]
  refine T_fin ?_
  simp only [push_cast, reduceIte, Nat.reduceMul, Nat.reduceEqDiff, Nat.reduceAdd, Nat.reduceLT, Nat.reduceLeDiff, reduceCtorEq, Int.reduceToNat]

def afterB (a b : Nat) : Bool := (nextN 6 b).2 && decide ((nextN 6 b).1 < a)
set_option maxHeartbeats 8000000 in
theorem after_fv (WG : World) (a b : Nat) (hb : b < 340282366920938463463374607431768211456) : FV Tryz.prog WG 154 [addrP a, addrP b] (vB (afterB a b)) := by
  refine CallT.pure rfl (CallT_fn Tryz.func154 (rs := [.tmp 4]) (n := 19) rfl rfl (Nat.le_of_ble_eq_true rfl) rfl ?_)
  simp only [push_cast, reduceIte, Nat.reduceMul, Nat.reduceEqDiff, Nat.reduceAdd, Nat.reduceLT, Nat.reduceLeDiff, reduceCtorEq, Int.reduceToNat]
  refine (spanNext_fv WG 6 b hb).call rfl ?_
  simp only [push_cast, reduceIte, Nat.reduceMul, Nat.reduceEqDiff, Nat.reduceAdd, Nat.reduceLT, Nat.reduceLeDiff, reduceCtorEq, Int.reduceToNat]
  refine ⟨_, fun _ => (ncompare_fv WG a (nextN 6 b).1).q rfl, ?_⟩
  simp only [push_cast, reduceIte, Nat.reduceMul, Nat.reduceEqDiff, Nat.reduceAdd, Nat.reduceLT, Nat.reduceLeDiff, reduceCtorEq, Int.reduceToNat, cmpN_pos, afterB]

set_option maxHeartbeats 8000000 in
theorem empty_fv (WG : World) (r : Res) (h : OkR r) : FV Tryz.prog WG 78 [resP r] (vB (decide (r.v4.length + r.v6.length + r.as_.length = 0))) := by
  refine CallT.pure rfl (CallT_fn Tryz.func78 (rs := [.tmp 2]) (n := 15) rfl rfl (Nat.le_of_ble_eq_true rfl) rfl ?_)
  simp only [push_cast, reduceIte, Nat.reduceMul, Nat.reduceEqDiff, Nat.reduceAdd, Nat.reduceLT, Nat.reduceLeDiff, reduceCtorEq, Int.reduceToNat]
  have := h.n4
  have := h.n6
  have := h.nas
  rw [wrap_i64 (r.v4.length + r.v6.length) (by omega) (by omega), wrap_i64 _ (by omega) (by omega)]
  exact decide_eq_decide.2 (by omega)

def normalB (l : List (Nat × Nat)) : Bool := decide (∀ i, i < l.length - 1 → afterB (l.getD (i + 1) (0, 0)).1 (l.getD i (0, 0)).2 = true)
set_option maxHeartbeats 8000000 in
theorem normal_fv (WG : World) (l : List (Nat × Nat)) (hl : ∀ s ∈ l, s.1 < 340282366920938463463374607431768211456 ∧ s.2 < 340282366920938463463374607431768211456) (hn : l.length < 1000000) : FV Tryz.prog WG 123 [spansP l] (vB (normalB l)) := by
  refine CallT.pure rfl (CallT_fnT Tryz.func123 (rs := [.tmp 2]) (n := 23) rfl rfl (Nat.le_of_ble_eq_true rfl) rfl ?_)
  refine T_seqC ?_
  simp only [push_cast, reduceIte, Nat.reduceMul, Nat.reduceEqDiff, Nat.reduceAdd, Nat.reduceLT, Nat.reduceLeDiff, reduceCtorEq, Int.reduceToNat]
  refine T_seqC ?_
  simp only [push_cast, reduceIte, Nat.reduceMul, Nat.reduceEqDiff, Nat.reduceAdd, Nat.reduceLT, Nat.reduceLeDiff, reduceCtorEq, Int.reduceToNat]
  refine T_loopS (fun i : Nat => ⟨[(0, .p (spansP l)), (3, vI i)], [], 0, 0, 23⟩) (fun i => 1 ≤ i ∧ (i ≤ l.length ∨ i = 1) ∧ ∀ k, k < i - 1 → afterB (l.getD (k + 1) (0, 0)).1 (l.getD k (0, 0)).2 = true) (fun i => l.length - i) 1 ⟨Nat.le_refl _, .inr rfl, fun k hk => absurd hk (Nat.not_lt_zero k)⟩ (by simp [Le, subE, aget]) (fun i hi => ?_)
  simp only [push_cast, reduceIte, Nat.reduceMul, Nat.reduceEqDiff, Nat.reduceAdd, Nat.reduceLT, Nat.reduceLeDiff, reduceCtorEq, Int.reduceToNat]
  refine ⟨fun h1 => ?_, fun h1 => ?_⟩
  · have h2 : i < l.length := by simpa using h1
    have hg : l[i]? = some (l.getD i (0, 0)) := by rw [List.getD_eq_getElem?_getD, List.getElem?_eq_getElem h2]; rfl
    have hg' : l[i - 1]? = some (l.getD (i - 1) (0, 0)) := by rw [List.getD_eq_getElem?_getD, List.getElem?_eq_getElem (by omega)]; rfl
    have hi1 : ((i : Int) - 1).toNat = i - 1 := by omega
    have hw := wrap_i64 ((i : Int) - 1) (by omega) (by omega)
    have hw' := wrap_i64 ((i : Int) + 1) (by omega) (by omega)
    refine T_drawS [] [] mixed (by kernel_rfl) ?_
    simp only [push_cast, reduceIte, Nat.reduceMul, Nat.reduceEqDiff, Nat.reduceAdd, Nat.reduceLT, Nat.reduceLeDiff, reduceCtorEq, Int.reduceToNat, List.getElem?_map, hg, hg', hi1, hw]
    refine ⟨by omega, by omega, _, (after_fv WG (l.getD i (0, 0)).1 (l.getD (i - 1) (0, 0)).2 (hl _ (List.mem_of_getElem? hg')).2).v rfl, ?_⟩
    simp only [push_cast, reduceIte, Nat.reduceMul, Nat.reduceEqDiff, Nat.reduceAdd, Nat.reduceLT, Nat.reduceLeDiff, reduceCtorEq, Int.reduceToNat]
    refine ⟨fun h4 => ?_, fun h4 => ⟨i + 1, ⟨by omega, .inl (by omega), fun k hk => ?_⟩, by omega, ?_⟩⟩
    · have : normalB l = false := decide_eq_false fun h' => by
        have := h' (i - 1) (by omega)
        rw [show i - 1 + 1 = i by omega] at this
        rw [this] at h4; cases h4
      rw [this]
    · by_cases e : k = i - 1
      · subst e
        rw [show i - 1 + 1 = i by omega]
        simpa using h4
      · exact hi.2.2 k (by omega)
    · simp [Le, subE, aget, hw']
  · simp at h1
    have : normalB l = true := decide_eq_true fun k hk => hi.2.2 k (by omega)
    rw [this]
    refine T_fin ?_
    simp only [push_cast, reduceIte, Nat.reduceMul, Nat.reduceEqDiff, Nat.reduceAdd, Nat.reduceLT, Nat.reduceLeDiff, reduceCtorEq, Int.reduceToNat]
end Go.Proofs.YtgekglfmianoeaaGreatDoor

namespace Go.Proofs.YtgekglfmianoeaaGreatDoor
open Go Go.Gp
def idxG {α : Type} (f : α → Bool) (xs : List α) : Int := match xs.findIdx? f with | some i => i | none => -1
theorem idxG_some {α : Type} {f : α → Bool} {xs : List α} {i : Nat} {x : α} (h : xs[i]? = some x) (hf : f x = true) (hp : ∀ k y, k < i → xs[k]? = some y → f y = false) : idxG f xs = i := by
  obtain ⟨hlt, hx⟩ := List.getElem?_eq_some_iff.1 h
  have : xs.findIdx? f = some i := by
    rw [List.findIdx?_eq_some_iff_getElem]
    refine ⟨hlt, by rw [hx]; exact hf, fun j hj => ?_⟩
    have := hp j xs[j] hj (by simp)
    simp [this]
  simp only [idxG, this]
theorem idxG_none {α : Type} {f : α → Bool} {xs : List α} (hp : ∀ k y, k < xs.length → xs[k]? = some y → f y = false) : idxG f xs = -1 := by
  have : xs.findIdx? f = none := by
    rw [List.findIdx?_eq_none_iff]
    intro q hq
    obtain ⟨k, hk⟩ := List.mem_iff_getElem?.1 hq
    exact hp k q (List.getElem?_eq_some_iff.1 hk).1 hk
  simp only [idxG, this]
theorem idxG_ge {α : Type} (f : α → Bool) (xs : List α) : decide (0 ≤ idxG f xs) = xs.any f := by
  unfold idxG
  cases h : xs.findIdx? f with
  | none =>
    rw [List.findIdx?_eq_none_iff] at h
    have : xs.any f = false := List.any_eq_false.2 fun x hx => by rw [h x hx]; simp
    rw [this]; rfl
  | some i =>
    rw [List.findIdx?_eq_some_iff_getElem] at h
    obtain ⟨hlt, hf, _⟩ := h
    have : xs.any f = true := List.any_eq_true.2 ⟨xs[i], List.getElem_mem hlt, hf⟩
    rw [this]; exact decide_eq_true (Int.natCast_nonneg i)

def badS (f : Int) (s : Nat × Nat) : Bool := decide (spanI f s ≠ 0)
abbrev famP (f : Int) : PV := .ptr (.agg [pU8 f]) 0
abbrev goodC (f : Int) : PV := .clo (.func 171) [] [famP f]
set_option maxHeartbeats 4000000 in
theorem good1_fv (WG : World) (f : Int) (s : Nat × Nat) : FV Tryz.prog WG 171 [spanP s, famP f] (vB (badS f s)) := by
  refine CallT.pure rfl (CallT_fn Tryz.func171 (rs := [.tmp 3]) (n := 8) rfl rfl (Nat.le_of_ble_eq_true rfl) rfl ?_)
  simp only [push_cast, reduceIte, Nat.reduceMul, Nat.reduceEqDiff, Nat.reduceAdd, Nat.reduceLT, Nat.reduceLeDiff, reduceCtorEq, Int.reduceToNat]
  refine (spanCheck_fv WG f s).call rfl ?_
  simp only [push_cast, reduceIte, Nat.reduceMul, Nat.reduceEqDiff, Nat.reduceAdd, Nat.reduceLT, Nat.reduceLeDiff, reduceCtorEq, Int.reduceToNat, badS]
  simp

set_option maxHeartbeats 8000000 in
theorem setIndexFunc_fv (WG : World) (f : Int) (l : List (Nat × Nat)) (hn : l.length < 1000000) : FV Tryz.prog WG 191 [spansP l, goodC f] (vI (idxG (badS f) l)) := by
  refine CallT.pure rfl (CallT_fn Tryz.func191 (rs := [.tmp 4]) (n := 19) rfl rfl (Nat.le_of_ble_eq_true rfl) rfl ?_)
  simp only [push_cast, reduceIte, Nat.reduceMul, Nat.reduceEqDiff, Nat.reduceAdd, Nat.reduceLT, Nat.reduceLeDiff, reduceCtorEq, Int.reduceToNat]
  refine T_loopS (fun i : Nat => ⟨[(0, .p (spansP l)), (1, .p (goodC f)), (7, vI l.length), (8, vI i)], [], 0, 0, 19⟩) (fun i => i ≤ l.length ∧ ∀ k p, k < i → l[k]? = some p → badS f p = false) (fun i => l.length - i) 0 ⟨Nat.zero_le _, fun k p hk => absurd hk (Nat.not_lt_zero k)⟩ (by simp [Le, subE, aget]) (fun i hi => ?_)
  simp only [push_cast, reduceIte, Nat.reduceMul, Nat.reduceEqDiff, Nat.reduceAdd, Nat.reduceLT, Nat.reduceLeDiff, reduceCtorEq, Int.reduceToNat]
  refine ⟨fun h1 => ?_, fun h1 => ?_⟩
  · have h2 : i < l.length := by simpa using h1
    have h3 : l[i]? = some l[i] := by simp [h2]
    generalize l[i] = p at h3
    simp only [push_cast, reduceIte, Nat.reduceMul, Nat.reduceEqDiff, Nat.reduceAdd, Nat.reduceLT, Nat.reduceLeDiff, reduceCtorEq, Int.reduceToNat, List.getElem?_map, h3]
    refine ⟨by omega, ?_⟩
    refine (good1_fv WG f p).call rfl ?_
    simp only [push_cast, reduceIte, Nat.reduceMul, Nat.reduceEqDiff, Nat.reduceAdd, Nat.reduceLT, Nat.reduceLeDiff, reduceCtorEq, Int.reduceToNat]
    refine ⟨fun h4 => ?_, fun h4 => ⟨i + 1, ⟨by omega, fun k q hk hq => ?_⟩, by omega, ?_⟩⟩
    · rw [idxG_some h3 h4 hi.2]
    · by_cases e : k = i
      · subst e; rw [h3] at hq; cases hq; simpa using h4
      · exact hi.2 k q (by omega) hq
    · simp [Le, subE, aget, wrap_i64 (i + 1) (by omega) (by omega)]
  · have h2 : ¬ i < l.length := by simpa using h1
    rw [idxG_none fun k y hk hy => hi.2 k y (by omega) hy]

set_option maxHeartbeats 8000000 in
theorem setContains_fv (WG : World) (f : Int) (l : List (Nat × Nat)) (hn : l.length < 1000000) : FV Tryz.prog WG 170 [spansP l, goodC f] (vB (l.any (badS f))) := by
  refine CallT.pure rfl (CallT_fn Tryz.func170 (rs := [.tmp 4]) (n := 9) rfl rfl (Nat.le_of_ble_eq_true rfl) rfl ?_)
  simp only [push_cast, reduceIte, Nat.reduceMul, Nat.reduceEqDiff, Nat.reduceAdd, Nat.reduceLT, Nat.reduceLeDiff, reduceCtorEq, Int.reduceToNat]
  refine (setIndexFunc_fv WG f l hn).call rfl ?_
  simp only [push_cast, reduceIte, Nat.reduceMul, Nat.reduceEqDiff, Nat.reduceAdd, Nat.reduceLT, Nat.reduceLeDiff, reduceCtorEq, Int.reduceToNat, idxG_ge]

def famN : Nat → Int | 0 => 4 | 1 => 6 | _ => 4
set_option maxHeartbeats 8000000 in
theorem rgood_fv (WG : World) (k : Nat) (hk : k < 3) (l : List (Nat × Nat)) (hn : l.length < 1000000) : FV Tryz.prog WG 151 [pI k, spansP l] (vB (!l.any (badS (famN k)))) := by
  refine CallT.pure rfl (CallT_fn Tryz.func151 (rs := [.tmp 4]) (n := 14) rfl rfl (Nat.le_of_ble_eq_true rfl) rfl ?_)
  have e : ([.v (.int .u8 4), .v (.int .u8 6), .v (.int .u8 4)] : List PV)[k]? = some (.v (.int .u8 (famN k))) := by
    match k, hk with
    | 0, _ => rfl
    | 1, _ => rfl
    | 2, _ => rfl
  simp only [push_cast, reduceIte, Nat.reduceMul, Nat.reduceEqDiff, Nat.reduceAdd, Nat.reduceLT, Nat.reduceLeDiff, reduceCtorEq, Int.reduceToNat, e]
  refine ⟨by omega, ?_⟩
  refine (setContains_fv WG (famN k) l hn).lend rfl (by simp [snapT, snap, snapL, snap1, aget, allP]) ?_
  simp only [push_cast, reduceIte, Nat.reduceMul, Nat.reduceEqDiff, Nat.reduceAdd, Nat.reduceLT, Nat.reduceLeDiff, reduceCtorEq, Int.reduceToNat]

def setN (r : Res) : Nat → List (Nat × Nat) | 0 => r.v4 | 1 => r.v6 | _ => r.as_
def badR (r : Res) : Bool := r.v4.any (badS 4) || r.v6.any (badS 6) || r.as_.any (badS 4)
def manyR (r : Res) : Bool := decide (200 < r.v4.length ∨ 200 < r.v6.length ∨ 200 < r.as_.length)
def validI (r : Res) : Int := if manyR r then 4 else if badR r then 8 else 0
theorem setN_len {r : Res} (h : OkR r) (k : Nat) : (setN r k).length < 1000000 := by
  match k with
  | 0 => exact h.n4
  | 1 => exact h.n6
  | _ + 2 => exact h.nas
theorem badR_at {r : Res} {k : Nat} (hk : k < 3) (h : (setN r k).any (badS (famN k)) = true) : badR r = true := by
  match k, hk with
  | 0, _ => simp only [setN, famN] at h; simp [badR, h]
  | 1, _ => simp only [setN, famN] at h; simp [badR, h]
  | 2, _ => simp only [setN, famN] at h; simp [badR, h]
theorem badR_no {r : Res} (h : ∀ k, k < 3 → (setN r k).any (badS (famN k)) = false) : badR r = false := by
  have h0 := h 0 (by omega)
  have h1 := h 1 (by omega)
  have h2 := h 2 (by omega)
  simp only [setN, famN] at h0 h1 h2
  simp only [badR, h0, h1, h2, Bool.or_false]
theorem sets_at (r : Res) {k : Nat} (hk : k < 3) (d : V) : ([.p (spansP r.v4), .p (spansP r.v6), .p (spansP r.as_)] : List V).getD k d = .p (spansP (setN r k)) := by
  match k, hk with
  | 0, _ => rfl
  | 1, _ => rfl
  | 2, _ => rfl

set_option maxHeartbeats 8000000 in
theorem checked_fv (WG : World) (r : Res) (h : OkR r) : FV Tryz.prog WG 121 [resP r] (vI (validI r)) := by
  refine CallT.pure rfl (CallT_fn Tryz.func121 (rs := [.tmp 2]) (n := 27) rfl rfl (Nat.le_of_ble_eq_true rfl) rfl ?_)
  simp only [push_cast, reduceIte, Nat.reduceMul, Nat.reduceEqDiff, Nat.reduceAdd, Nat.reduceLT, Nat.reduceLeDiff, reduceCtorEq, Int.reduceToNat]
  have h4 := h.n4
  have h6 := h.n6
  have ha := h.nas
  refine ⟨fun hm => ?_, fun hm => ?_⟩
  · have : manyR r = true := by
      refine decide_eq_true ?_
      simp only [decide_eq_true_eq] at hm
      repeat' split at hm
      all_goals omega
    simp only [validI, this, if_true]
  · have : manyR r = false := by
      refine decide_eq_false ?_
      simp only [decide_eq_false_iff_not] at hm
      repeat' split at hm
      all_goals omega
    refine (sets_fv WG r h).call rfl ?_
    simp only [push_cast, reduceIte, Nat.reduceMul, Nat.reduceEqDiff, Nat.reduceAdd, Nat.reduceLT, Nat.reduceLeDiff, reduceCtorEq, Int.reduceToNat]
    have hv : validI r = if badR r then 8 else 0 := by simp only [validI, this, Bool.false_eq_true, if_false]
    refine T_loopR (fun i : Nat => ⟨[(17, .p (setsP r)), (18, vI i)], [], 0, 0, 27⟩) (fun i => i ≤ 3 ∧ ∀ k, k < i → (setN r k).any (badS (famN k)) = false) (fun i => 3 - i) 0 [] ⟨Nat.zero_le _, fun k hk => absurd hk (Nat.not_lt_zero k)⟩ (by simp [LeR, rnf, aget, envR, tabR, injR, notIn, loR, V.rn, V.rnL, V.bd, V.bdL, Blk.rn, Blk.bd, envRn, envBd]) (fun i hi => ?_)
    simp only [push_cast, reduceIte, Nat.reduceMul, Nat.reduceEqDiff, Nat.reduceAdd, Nat.reduceLT, Nat.reduceLeDiff, reduceCtorEq, Int.reduceToNat]
    refine ⟨fun h1 => ?_, fun h1 => ?_⟩
    · have h2 : i < 3 := by simp at h1; omega
      simp only [sets_at r h2, push_cast, reduceIte, Nat.reduceMul, Nat.reduceEqDiff, Nat.reduceAdd, Nat.reduceLT, Nat.reduceLeDiff, reduceCtorEq, Int.reduceToNat]
      refine ⟨by omega, ?_⟩
      refine (rgood_fv WG i h2 (setN r i) (setN_len h i)).call rfl ?_
      simp only [push_cast, reduceIte, Nat.reduceMul, Nat.reduceEqDiff, Nat.reduceAdd, Nat.reduceLT, Nat.reduceLeDiff, reduceCtorEq, Int.reduceToNat]
      refine ⟨fun h3 => ?_, fun h3 => ⟨i + 1, ⟨by omega, fun k hk => ?_⟩, by omega, [], ?_⟩⟩
      · rw [hv, badR_at h2 (by simpa using h3), if_pos rfl]
      · by_cases e : k = i
        · subst e; simpa using h3
        · exact hi.2 k (by omega)
      · simp [LeR, rnf, aget, envR, tabR, injR, notIn, loR, V.rn, V.rnL, V.bd, V.bdL, Blk.rn, Blk.bd, envRn, envBd, wrap_i64 (i + 1) (by omega) (by omega)]
    · have h2 : i = 3 := by simp at h1; omega
      subst h2
      rw [hv, badR_no hi.2]
      simp

def normR (r : Res) : Bool := normalB r.v4 && normalB r.v6 && normalB r.as_
def resI (r : Res) : Int := if validI r ≠ 0 then validI r else if normR r then 0 else 8
theorem normR_at {r : Res} {k : Nat} (hk : k < 3) (h : normalB (setN r k) = false) : normR r = false := by
  match k, hk with
  | 0, _ => simp only [setN] at h; simp [normR, h]
  | 1, _ => simp only [setN] at h; simp [normR, h]
  | 2, _ => simp only [setN] at h; simp [normR, h]
theorem normR_all {r : Res} (h : ∀ k, k < 3 → normalB (setN r k) = true) : normR r = true := by
  have h0 := h 0 (by omega)
  have h1 := h 1 (by omega)
  have h2 := h 2 (by omega)
  simp only [setN] at h0 h1 h2
  simp only [normR, h0, h1, h2, Bool.and_true]
theorem setN_ok {r : Res} (h : OkR r) (k : Nat) : ∀ s ∈ setN r k, s.1 < 340282366920938463463374607431768211456 ∧ s.2 < 340282366920938463463374607431768211456 := by
  intro s hs
  match k with
  | 0 => exact h.v4 s hs
  | 1 => exact h.v6 s hs
  | _ + 2 => have := h.as_ s hs; omega

set_option maxHeartbeats 8000000 in
theorem rcheck_fv (WG : World) (r : Res) (h : OkR r) : FV Tryz.prog WG 75 [resP r] (vI (resI r)) := by
  refine CallT.pure rfl (CallT_fn Tryz.func75 (rs := [.tmp 2]) (n := 20) rfl rfl (Nat.le_of_ble_eq_true rfl) rfl ?_)
  simp only [push_cast, reduceIte, Nat.reduceMul, Nat.reduceEqDiff, Nat.reduceAdd, Nat.reduceLT, Nat.reduceLeDiff, reduceCtorEq, Int.reduceToNat]
  refine (checked_fv WG r h).call rfl ?_
  simp only [push_cast, reduceIte, Nat.reduceMul, Nat.reduceEqDiff, Nat.reduceAdd, Nat.reduceLT, Nat.reduceLeDiff, reduceCtorEq, Int.reduceToNat]
  refine ⟨fun h1 => ?_, fun h1 => ?_⟩
  · have : validI r ≠ 0 := by simpa using h1
    rw [resI, if_pos this]
  · have h0 : validI r = 0 := by simpa using h1
    have hv : resI r = if normR r then 0 else 8 := by rw [resI, if_neg (by omega)]
    refine (sets_fv WG r h).call rfl ?_
    simp only [push_cast, reduceIte, Nat.reduceMul, Nat.reduceEqDiff, Nat.reduceAdd, Nat.reduceLT, Nat.reduceLeDiff, reduceCtorEq, Int.reduceToNat]
    refine T_loopR (fun i : Nat => ⟨[(12, .p (setsP r)), (13, vI i)], [], 0, 0, 20⟩) (fun i => i ≤ 3 ∧ ∀ k, k < i → normalB (setN r k) = true) (fun i => 3 - i) 0 [] ⟨Nat.zero_le _, fun k hk => absurd hk (Nat.not_lt_zero k)⟩ (by simp [LeR, rnf, aget, envR, tabR, injR, notIn, loR, V.rn, V.rnL, V.bd, V.bdL, Blk.rn, Blk.bd, envRn, envBd]) (fun i hi => ?_)
    simp only [push_cast, reduceIte, Nat.reduceMul, Nat.reduceEqDiff, Nat.reduceAdd, Nat.reduceLT, Nat.reduceLeDiff, reduceCtorEq, Int.reduceToNat]
    refine ⟨fun h1 => ?_, fun h1 => ?_⟩
    · have h2 : i < 3 := by simp at h1; omega
      simp only [sets_at r h2, push_cast, reduceIte, Nat.reduceMul, Nat.reduceEqDiff, Nat.reduceAdd, Nat.reduceLT, Nat.reduceLeDiff, reduceCtorEq, Int.reduceToNat]
      refine ⟨by omega, ?_⟩
      refine (normal_fv WG (setN r i) (setN_ok h i) (setN_len h i)).call rfl ?_
      simp only [push_cast, reduceIte, Nat.reduceMul, Nat.reduceEqDiff, Nat.reduceAdd, Nat.reduceLT, Nat.reduceLeDiff, reduceCtorEq, Int.reduceToNat]
      refine ⟨fun h3 => ?_, fun h3 => ⟨i + 1, ⟨by omega, fun k hk => ?_⟩, by omega, [], ?_⟩⟩
      · rw [hv, normR_at h2 (by simpa using h3)]; simp
      · by_cases e : k = i
        · subst e; simpa using h3
        · exact hi.2 k (by omega)
      · simp [LeR, rnf, aget, envR, tabR, injR, notIn, loR, V.rn, V.rnL, V.bd, V.bdL, Blk.rn, Blk.bd, envRn, envBd, wrap_i64 (i + 1) (by omega) (by omega)]
    · have h2 : i = 3 := by simp at h1; omega
      subst h2
      rw [hv, normR_all hi.2]
      simp
end Go.Proofs.YtgekglfmianoeaaGreatDoor

namespace Go.Proofs.YtgekglfmianoeaaGreatDoor
open Go Go.Gp
end Go.Proofs.YtgekglfmianoeaaGreatDoor

namespace Go.Proofs.YtgekglfmianoeaaGreatDoor
open Go Go.Gp
def pow2 (n : Nat) : Nat := 2 ^ n
end Go.Proofs.YtgekglfmianoeaaGreatDoor

namespace Go.Proofs.YtgekglfmianoeaaGreatDoor
open Go Go.Gp
end Go.Proofs.YtgekglfmianoeaaGreatDoor

namespace Go.Proofs.YtgekglfmianoeaaGreatDoor
open Go Go.Gp
set_option maxHeartbeats 8000000 in
theorem rwide_fv (WG : World) (l : List (Nat × Nat)) (hl : ∀ s ∈ l, s.1 < 4294967296 ∧ s.2 < 4294967296) (hn : l.length < 1000000) : FV Tryz.prog WG 150 [.sl 2 (l.map asP)] (.p (spansP l)) := by
  refine CallT.pureS rfl (CallT_fnT Tryz.func150 (rs := [.tmp 2]) (n := 30) rfl rfl (Nat.le_of_ble_eq_true rfl) rfl ?_)
  refine T_seqC ?_
  simp only [push_cast, reduceIte, Nat.reduceMul, Nat.reduceEqDiff, Nat.reduceAdd, Nat.reduceLT, Nat.reduceLeDiff, reduceCtorEq, Int.reduceToNat]
  refine T_seqC ?_
  simp only [push_cast, reduceIte, Nat.reduceMul, Nat.reduceEqDiff, Nat.reduceAdd, Nat.reduceLT, Nat.reduceLeDiff, reduceCtorEq, Int.reduceToNat]
  refine T_nilT 3 4 rfl ?_
  refine T_seqC ?_
  simp only [push_cast, reduceIte, Nat.reduceMul, Nat.reduceEqDiff, Nat.reduceAdd, Nat.reduceLT, Nat.reduceLeDiff, reduceCtorEq, Int.reduceToNat]
  refine T_loopR (fun i : Nat => ⟨[(0, .p (.sl 2 (l.map asP))), (3, .osl 0 4 0 i none), (4, vI i)], [(0, .arr 4 ((l.take i).map spanP) true)], 1, 0, 30⟩) (fun i => i ≤ l.length) (fun i => l.length - i) 0 [] (Nat.zero_le _) (by simp [LeR, rnf, aget, envR, tabR, injR, notIn, loR, V.rn, V.rnL, V.bd, V.bdL, Blk.rn, Blk.bd, envRn, envBd]) (fun i hi => ?_)
  simp only [push_cast, reduceIte, Nat.reduceMul, Nat.reduceEqDiff, Nat.reduceAdd, Nat.reduceLT, Nat.reduceLeDiff, reduceCtorEq, Int.reduceToNat]
  refine ⟨fun h1 => ?_, fun h1 => ?_⟩
  · have h2 : i < l.length := by simpa using h1
    have hg : l[i]? = some l[i] := List.getElem?_eq_getElem h2
    have hs := hl l[i] (List.getElem_mem h2)
    generalize l[i] = s at hg hs
    refine T_drawS [16, 17] [] mixed (by kernel_rfl) ?_
    simp only [push_cast, reduceIte, Nat.reduceMul, Nat.reduceEqDiff, Nat.reduceAdd, Nat.reduceLT, Nat.reduceLeDiff, reduceCtorEq, Int.reduceToNat, List.getElem?_map, hg]
    have e := take_app spanP hg
    have e' : spanP s = .agg [pU64 0, pU64 s.1, pU64 0, pU64 s.2] := by simp [hiN_small hs.1, hiN_small hs.2, loN_small hs.1, loN_small hs.2]
    refine ⟨by omega, by omega, ⟨by simp; omega, by omega⟩, i + 1, by omega, by omega, [(0, 2)], ?_⟩
    simp only [LeR, rnf, aget, envR, tabR, injR, notIn, loR, V.rn, V.rnL, V.bd, V.bdL, Blk.rn, Blk.bd, envRn, envBd, wrap_i64 (i + 1) (by omega) (by omega), ← e, e', wrap_u64 (s.1 : Int) (by omega) (by omega), wrap_u64 (s.2 : Int) (by omega) (by omega)]
    simp
  · have : i = l.length := by simp at h1; omega
    subst this
    refine T_fin ?_
    simp only [push_cast, reduceIte, Nat.reduceMul, Nat.reduceEqDiff, Nat.reduceAdd, Nat.reduceLT, Nat.reduceLeDiff, reduceCtorEq, Int.reduceToNat]
    simp [List.take_of_length_le]

abbrev listsV (r : Res) : V := .tup [.p (.sl 1 [spansP r.v4, spansP r.v6, spansP r.as_]), .p (.sl 1 [pU8 4, pU8 6, pU8 4])]
set_option maxHeartbeats 8000000 in
theorem lists_fv (WG : World) (r : Res) (h : OkR r) : FV Tryz.prog WG 118 [resP r] (listsV r) := by
  refine CallT.pureS rfl (CallT_fnT Tryz.func118 (rs := [.tmp 2, .tmp 3]) (n := 13) rfl rfl (Nat.le_of_ble_eq_true rfl) rfl ?_)
  refine T_seqC ?_
  simp only [push_cast, reduceIte, Nat.reduceMul, Nat.reduceEqDiff, Nat.reduceAdd, Nat.reduceLT, Nat.reduceLeDiff, reduceCtorEq, Int.reduceToNat]
  refine T_seqC ?_
  refine T_drawS [7] [] mixed (by kernel_rfl) ?_
  simp only [push_cast, reduceIte, Nat.reduceMul, Nat.reduceEqDiff, Nat.reduceAdd, Nat.reduceLT, Nat.reduceLeDiff, reduceCtorEq, Int.reduceToNat]
  refine ⟨_, (rwide_fv WG r.as_ h.as_ h.nas).v rfl, ?_⟩
  simp only [push_cast, reduceIte, Nat.reduceMul, Nat.reduceEqDiff, Nat.reduceAdd, Nat.reduceLT, Nat.reduceLeDiff, reduceCtorEq, Int.reduceToNat]
  refine T_fin ?_
  simp only [push_cast, reduceIte, Nat.reduceMul, Nat.reduceEqDiff, Nat.reduceAdd, Nat.reduceLT, Nat.reduceLeDiff, reduceCtorEq, Int.reduceToNat]
end Go.Proofs.YtgekglfmianoeaaGreatDoor

namespace Go.Proofs.YtgekglfmianoeaaGreatDoor
open Go Go.Gp
abbrev listsP (r : Res) : PV := .sl 1 [spansP r.v4, spansP r.v6, spansP r.as_]
theorem lists_at (r : Res) {k : Nat} (hk : k < 3) : ([spansP r.v4, spansP r.v6, spansP r.as_] : List PV)[k]? = some (spansP (setN r k)) := by
  match k, hk with
  | 0, _ => rfl
  | 1, _ => rfl
  | 2, _ => rfl
end Go.Proofs.YtgekglfmianoeaaGreatDoor
