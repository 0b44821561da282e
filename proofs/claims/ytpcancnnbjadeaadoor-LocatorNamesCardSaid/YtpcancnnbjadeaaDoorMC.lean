/-
  Split, Join, Within.
-/
import Derived.Test.YtpcancnnbjadeaaDoorMB
set_option linter.unusedSimpArgs false
set_option linter.unusedVariables false
set_option maxRecDepth 20000
namespace Go.Proofs.YtpcancnnbjadeaaDoor
open Go Go.Gp

def splitO (s : ByteArray) : ByteArray × ByteArray × Int :=
  match lParse s with
  | none => (eB, eB, 12)
  | some l => if l.dir then (eB, eB, 2) else (refW ⟨l.scheme, l.host, l.port, l.parts.take (l.parts.length - 1), true⟩, l.parts.getD (l.parts.length - 1) eB, 0)

theorem val_len {l : Locator} (h : checkI l = 0) (hd : l.dir = false) : 1 ≤ l.parts.length := by
  have v := val_of h
  rcases Nat.eq_zero_or_pos l.parts.length with h0 | h0
  · have := v.some h0; rw [hd] at this; cases this
  · exact h0
theorem val_part {l : Locator} (h : checkI l = 0) {p : ByteArray} (hp : p ∈ l.parts) : p.size ≤ 40 := by
  have := (val_of h).part p hp
  simp only [nameB, Bool.and_eq_true, decide_eq_true_eq] at this
  exact this.1.1.1.2
theorem val_ok {l : Locator} (h : checkI l = 0) : OkL l := by
  have v := val_of h
  have := v.host
  simp only [hostB, Bool.and_eq_true, decide_eq_true_eq] at this
  exact ⟨by have := v.parts; omega, by omega, fun i p hp => Nat.le_trans (val_part h (List.mem_of_getElem? hp)) (by omega)⟩

set_option maxHeartbeats 8000000 in
theorem lsplit_fv (WG : World) (g : GW WG) (ge : GE WG) (s : ByteArray) : FV Tryd.prog WG 20 [.v (.string s)] (.tup [vS (splitO s).1, vS (splitO s).2.1, vI (splitO s).2.2]) := by
  refine CallT.pure rfl (CallT_fn Tryd.func20 (rs := [.tmp 2, .tmp 3, .tmp 4]) (n := 35) rfl rfl (Nat.le_of_ble_eq_true rfl) rfl ?_)
  simp only [push_cast, reduceIte, Nat.reduceEqDiff, Nat.reduceAdd, Nat.reduceLT, Nat.reduceLeDiff, reduceCtorEq, Int.reduceToNat]
  refine parse_call (lParse_ct0 WG g ge s) (fun h => ?_) (fun l h => ?_)
  · simp only [locZ, push_cast, reduceIte, Nat.reduceEqDiff, Nat.reduceAdd, Nat.reduceLT, Nat.reduceLeDiff, reduceCtorEq, Int.reduceToNat]
    have : splitO s = (eB, eB, 12) := by simp only [splitO, h]
    rw [this]
    simp [eB]
  · have hv := (lParse_some h).1
    have v := val_of hv
    have hpl := v.parts
    simp only [locO, arrO, push_cast, reduceIte, Nat.reduceEqDiff, Nat.reduceAdd, Nat.reduceLT, Nat.reduceLeDiff, reduceCtorEq, Int.reduceToNat]
    refine ⟨fun hd => ?_, fun hd => ?_⟩
    · have : splitO s = (eB, eB, 2) := by simp only [splitO, h, hd, if_true]
      rw [this]
      simp [eB]
    · have h1 := val_len hv hd
      have hw : IntKind.i64.wrap ((l.parts.length : Int) - 1) = ((l.parts.length - 1 : Nat) : Int) := by rw [wrap_i64 _ (by omega) (by omega)]; omega
      have hg : l.parts[l.parts.length - 1]? = some (l.parts.getD (l.parts.length - 1) eB) := by
        rw [List.getD_eq_getElem?_getD, List.getElem?_eq_getElem (by omega)]; rfl
      have vo := val_ok hv
      have hok : OkL ⟨l.scheme, l.host, l.port, l.parts.take (l.parts.length - 1), true⟩ := ⟨by simp; omega, vo.host, fun i p hp => Nat.le_trans (val_part hv (List.mem_of_mem_take (List.mem_of_getElem? hp))) (by omega)⟩
      refine T_drawS [11, 13] [] mixed (by kernel_rfl) ?_
      simp only [push_cast, reduceIte, Nat.reduceEqDiff, Nat.reduceAdd, Nat.reduceLT, Nat.reduceLeDiff, reduceCtorEq, Int.reduceToNat, hw, List.getElem?_map, hg]
      refine ⟨by omega, by omega, ?_⟩
      refine (write_fv WG g _ hok v.port.1 v.port.2).lend rfl (by simp [snapT, snap, snapL, snap1, aget, locP, List.map_take]) ?_
      simp only [push_cast, reduceIte, Nat.reduceEqDiff, Nat.reduceAdd, Nat.reduceLT, Nat.reduceLeDiff, reduceCtorEq, Int.reduceToNat]
      have : splitO s = (refW ⟨l.scheme, l.host, l.port, l.parts.take (l.parts.length - 1), true⟩, l.parts.getD (l.parts.length - 1) eB, 0) := by simp only [splitO, h, hd, Bool.false_eq_true, if_false]
      rw [this]

set_option maxHeartbeats 8000000 in
theorem refSplit_fv (WG : World) (g : GW WG) (ge : GE WG) (s : ByteArray) : FV Tryd.prog WG 21 [.v (.string s)] (.tup [vS (splitO s).1, vS (splitO s).2.1, vI (splitO s).2.2]) := by
  refine CallT.pure rfl (CallT_fn Tryd.func21 (rs := [.tmp 2, .tmp 3, .tmp 4]) (n := 37) rfl rfl (Nat.le_of_ble_eq_true rfl) rfl ?_)
  simp only [push_cast, reduceIte, Nat.reduceEqDiff, Nat.reduceAdd, Nat.reduceLT, Nat.reduceLeDiff, reduceCtorEq, Int.reduceToNat]
  refine parse_call (o := lParse s) (by rw [← parse_eq]; exact refParse_ct0 WG s) (fun h => ?_) (fun l h => ?_)
  · simp only [locZ, push_cast, reduceIte, Nat.reduceEqDiff, Nat.reduceAdd, Nat.reduceLT, Nat.reduceLeDiff, reduceCtorEq, Int.reduceToNat]
    have : splitO s = (eB, eB, 12) := by simp only [splitO, h]
    rw [this]
    simp [eB]
  · have hv := (lParse_some h).1
    have v := val_of hv
    have hpl := v.parts
    simp only [locO, arrO, push_cast, reduceIte, Nat.reduceEqDiff, Nat.reduceAdd, Nat.reduceLT, Nat.reduceLeDiff, reduceCtorEq, Int.reduceToNat]
    refine ⟨fun hd => ?_, fun hd => ?_⟩
    · have : splitO s = (eB, eB, 2) := by simp only [splitO, h, hd, if_true]
      rw [this]
      simp [eB]
    · have h1 := val_len hv hd
      have hw : IntKind.i64.wrap ((l.parts.length : Int) - 1) = ((l.parts.length - 1 : Nat) : Int) := by rw [wrap_i64 _ (by omega) (by omega)]; omega
      have hg : l.parts[l.parts.length - 1]? = some (l.parts.getD (l.parts.length - 1) eB) := by
        rw [List.getD_eq_getElem?_getD, List.getElem?_eq_getElem (by omega)]; rfl
      have vo := val_ok hv
      have hok : OkL ⟨l.scheme, l.host, l.port, l.parts.take (l.parts.length - 1), true⟩ := ⟨by simp; omega, vo.host, fun i p hp => Nat.le_trans (val_part hv (List.mem_of_mem_take (List.mem_of_getElem? hp))) (by omega)⟩
      simp only [push_cast, reduceIte, Nat.reduceEqDiff, Nat.reduceAdd, Nat.reduceLT, Nat.reduceLeDiff, reduceCtorEq, Int.reduceToNat, hw, List.getElem?_map, hg]
      refine ⟨by omega, by omega, ?_⟩
      refine (refWrite_fv WG _ hok v.port.1 v.port.2).lend rfl (by simp [snapT, snap, snapL, snap1, aget, locP, List.map_take]) ?_
      simp only [push_cast, reduceIte, Nat.reduceEqDiff, Nat.reduceAdd, Nat.reduceLT, Nat.reduceLeDiff, reduceCtorEq, Int.reduceToNat]
      have : splitO s = (refW ⟨l.scheme, l.host, l.port, l.parts.take (l.parts.length - 1), true⟩, l.parts.getD (l.parts.length - 1) eB, 0) := by simp only [splitO, h, hd, Bool.false_eq_true, if_false]
      rw [this]

def textO (l : Locator) : ByteArray × Int := if checkI l = 0 then (refW l, 0) else (eB, checkI l)
theorem textV_eq (l : Locator) : textV l = .tup [vS (textO l).1, vI (textO l).2] := by unfold textV textO; split <;> rfl
theorem textV_flat (l : Locator) : flatR (textV l) = true := by rw [textV_eq]; rfl
theorem refTextV (WG : World) (l : Locator) (h : OkL l) : FV Tryd.prog WG 14 [locP l] (textV l) := refText_fv WG l h
def joinO (s t : ByteArray) : ByteArray × Int :=
  match lParse s with
  | none => (eB, 12)
  | some l => if l.dir = false ∨ nameB t = false then (eB, 2) else textO ⟨l.scheme, l.host, l.port, l.parts ++ [t], false⟩

set_option maxHeartbeats 8000000 in
theorem ljoin_fv (WG : World) (g : GW WG) (ge : GE WG) (s t : ByteArray) (ht : t.size ≤ 500) : FV Tryd.prog WG 28 [.v (.string s), .v (.string t)] (.tup [vS (joinO s t).1, vI (joinO s t).2]) := by
  refine CallT.pure rfl (CallT_fn Tryd.func28 (rs := [.tmp 4, .tmp 5]) (n := 35) rfl rfl (Nat.le_of_ble_eq_true rfl) rfl ?_)
  simp only [push_cast, reduceIte, Nat.reduceEqDiff, Nat.reduceAdd, Nat.reduceLT, Nat.reduceLeDiff, reduceCtorEq, Int.reduceToNat]
  refine parse_call (lParse_ct0 WG g ge s) (fun h => ?_) (fun l h => ?_)
  · simp only [locZ, push_cast, reduceIte, Nat.reduceEqDiff, Nat.reduceAdd, Nat.reduceLT, Nat.reduceLeDiff, reduceCtorEq, Int.reduceToNat]
    have : joinO s t = (eB, 12) := by simp only [joinO, h]
    rw [this]
    simp [eB]
  · have hv := (lParse_some h).1
    have v := val_of hv
    have hpl := v.parts
    have vo := val_ok hv
    simp only [locO, arrO, push_cast, reduceIte, Nat.reduceEqDiff, Nat.reduceAdd, Nat.reduceLT, Nat.reduceLeDiff, reduceCtorEq, Int.reduceToNat]
    refine ⟨vB (nameB t), fun _ => (lname_fv WG t).q rfl, ?_⟩
    simp only [push_cast, reduceIte, Nat.reduceEqDiff, Nat.reduceAdd, Nat.reduceLT, Nat.reduceLeDiff, reduceCtorEq, Int.reduceToNat]
    refine ⟨fun hd => ?_, fun hd => ?_⟩
    · have : joinO s t = (eB, 2) := by
        simp only [joinO, h]; rw [if_pos]
        simp only [Bool.or_eq_true, Bool.not_eq_true'] at hd; exact hd
      rw [this]
      simp [eB]
    · have hj : joinO s t = textO ⟨l.scheme, l.host, l.port, l.parts ++ [t], false⟩ := by
        simp only [joinO, h]; rw [if_neg]
        simp only [Bool.or_eq_false_iff, Bool.not_eq_false'] at hd; rw [hd.1, hd.2]; simp
      have hok : OkL ⟨l.scheme, l.host, l.port, l.parts ++ [t], false⟩ := ⟨by simp; omega, vo.host, fun i p hp => by
        rcases List.mem_append.1 (List.mem_of_getElem? hp) with hq | hq
        · exact Nat.le_trans (val_part hv hq) (by omega)
        · rw [List.mem_singleton.1 hq]; exact ht⟩
      have htk : List.take l.parts.length (l.parts.map pS) = l.parts.map pS := List.take_of_length_le (by simp)
      refine ⟨by omega, ?_⟩
      refine (ltext_fv WG g _ hok).lend (textV_flat _) (by simp [snapT, snap, snapL, snap1, aget, locP, htk]; exact List.take_of_length_le (by simp)) ?_
      rw [textV_eq, hj]
      simp only [push_cast, reduceIte, Nat.reduceEqDiff, Nat.reduceAdd, Nat.reduceLT, Nat.reduceLeDiff, reduceCtorEq, Int.reduceToNat]

set_option maxHeartbeats 8000000 in
theorem refJoin_fv (WG : World) (g : GW WG) (ge : GE WG) (s t : ByteArray) (ht : t.size ≤ 500) : FV Tryd.prog WG 29 [.v (.string s), .v (.string t)] (.tup [vS (joinO s t).1, vI (joinO s t).2]) := by
  refine CallT.pure rfl (CallT_fn Tryd.func29 (rs := [.tmp 4, .tmp 5]) (n := 35) rfl rfl (Nat.le_of_ble_eq_true rfl) rfl ?_)
  simp only [push_cast, reduceIte, Nat.reduceEqDiff, Nat.reduceAdd, Nat.reduceLT, Nat.reduceLeDiff, reduceCtorEq, Int.reduceToNat]
  refine parse_call (o := lParse s) (by rw [← parse_eq]; exact refParse_ct0 WG s) (fun h => ?_) (fun l h => ?_)
  · simp only [locZ, push_cast, reduceIte, Nat.reduceEqDiff, Nat.reduceAdd, Nat.reduceLT, Nat.reduceLeDiff, reduceCtorEq, Int.reduceToNat]
    have : joinO s t = (eB, 12) := by simp only [joinO, h]
    rw [this]
    simp [eB]
  · have hv := (lParse_some h).1
    have v := val_of hv
    have hpl := v.parts
    have vo := val_ok hv
    simp only [locO, arrO, push_cast, reduceIte, Nat.reduceEqDiff, Nat.reduceAdd, Nat.reduceLT, Nat.reduceLeDiff, reduceCtorEq, Int.reduceToNat]
    refine ⟨vB (nameB t), fun _ => (name_fv WG t).q rfl, ?_⟩
    simp only [push_cast, reduceIte, Nat.reduceEqDiff, Nat.reduceAdd, Nat.reduceLT, Nat.reduceLeDiff, reduceCtorEq, Int.reduceToNat]
    refine ⟨fun hd => ?_, fun hd => ?_⟩
    · have : joinO s t = (eB, 2) := by
        simp only [joinO, h]; rw [if_pos]
        simp only [Bool.or_eq_true, Bool.not_eq_true'] at hd; exact hd
      rw [this]
      simp [eB]
    · have hj : joinO s t = textO ⟨l.scheme, l.host, l.port, l.parts ++ [t], false⟩ := by
        simp only [joinO, h]; rw [if_neg]
        simp only [Bool.or_eq_false_iff, Bool.not_eq_false'] at hd; rw [hd.1, hd.2]; simp
      have hok : OkL ⟨l.scheme, l.host, l.port, l.parts ++ [t], false⟩ := ⟨by simp; omega, vo.host, fun i p hp => by
        rcases List.mem_append.1 (List.mem_of_getElem? hp) with hq | hq
        · exact Nat.le_trans (val_part hv hq) (by omega)
        · rw [List.mem_singleton.1 hq]; exact ht⟩
      have htk : List.take l.parts.length (l.parts.map pS) = l.parts.map pS := List.take_of_length_le (by simp)
      refine ⟨by omega, ?_⟩
      refine (refTextV WG _ hok).lend (textV_flat _) (by simp [snapT, snap, snapL, snap1, aget, locP, htk]; exact List.take_of_length_le (by simp)) ?_
      rw [textV_eq, hj]
      simp only [push_cast, reduceIte, Nat.reduceEqDiff, Nat.reduceAdd, Nat.reduceLT, Nat.reduceLeDiff, reduceCtorEq, Int.reduceToNat]

def withinO (s t : ByteArray) : Bool × Int :=
  match lParse s, lParse t with
  | some d, some l => if d.dir then (holdsB d l, 0) else (false, 2)
  | _, _ => (false, 12)

set_option maxHeartbeats 8000000 in
theorem refWithin_fv (WG : World) (g : GW WG) (ge : GE WG) (s t : ByteArray) : FV Tryd.prog WG 30 [.v (.string s), .v (.string t)] (.tup [vB (withinO s t).1, vI (withinO s t).2]) := by
  refine CallT.pure rfl (CallT_fn Tryd.func30 (rs := [.tmp 4, .tmp 5]) (n := 32) rfl rfl (Nat.le_of_ble_eq_true rfl) rfl ?_)
  simp only [push_cast, reduceIte, Nat.reduceEqDiff, Nat.reduceAdd, Nat.reduceLT, Nat.reduceLeDiff, reduceCtorEq, Int.reduceToNat]
  refine parse_call (o := lParse s) (by rw [← parse_eq]; exact refParse_ct0 WG s) (fun h => ?_) (fun d h => ?_)
  · simp only [locZ, push_cast, reduceIte, Nat.reduceEqDiff, Nat.reduceAdd, Nat.reduceLT, Nat.reduceLeDiff, reduceCtorEq, Int.reduceToNat]
    have hw : withinO s t = (false, 12) := by simp only [withinO, h]
    refine parse_call (o := lParse t) (by rw [← parse_eq]; exact refParse_ct0 WG t) (fun h2 => ?_) (fun l h2 => ?_)
    · simp only [locZ, push_cast, reduceIte, Nat.reduceEqDiff, Nat.reduceAdd, Nat.reduceLT, Nat.reduceLeDiff, reduceCtorEq, Int.reduceToNat, hw]
      intro hx; exact absurd hx (by decide)
    · simp only [locO, arrO, push_cast, reduceIte, Nat.reduceEqDiff, Nat.reduceAdd, Nat.reduceLT, Nat.reduceLeDiff, reduceCtorEq, Int.reduceToNat, hw]
      intro hx; exact absurd hx (by decide)
  · have hv := (lParse_some h).1
    have hpl := (val_of hv).parts
    simp only [locO, arrO, push_cast, reduceIte, Nat.reduceEqDiff, Nat.reduceAdd, Nat.reduceLT, Nat.reduceLeDiff, reduceCtorEq, Int.reduceToNat]
    refine parse_call (o := lParse t) (by rw [← parse_eq]; exact refParse_ct0 WG t) (fun h2 => ?_) (fun l h2 => ?_)
    · have hw : withinO s t = (false, 12) := by simp only [withinO, h, h2]
      simp only [locZ, push_cast, reduceIte, Nat.reduceEqDiff, Nat.reduceAdd, Nat.reduceLT, Nat.reduceLeDiff, reduceCtorEq, Int.reduceToNat, hw]
      intro hx; exact absurd hx (by decide)
    · have hv2 := (lParse_some h2).1
      have hpl2 := (val_of hv2).parts
      simp only [locO, arrO, push_cast, reduceIte, Nat.reduceEqDiff, Nat.reduceAdd, Nat.reduceLT, Nat.reduceLeDiff, reduceCtorEq, Int.reduceToNat]
      refine ⟨fun hd => ?_, fun hd => ?_⟩
      · have hd' : d.dir = false := by simpa using hd
        have hw : withinO s t = (false, 2) := by simp only [withinO, h, h2, hd', Bool.false_eq_true, if_false]
        rw [hw]
      · have hd' : d.dir = true := by simpa using hd
        refine (holds_fv WG d l (by omega)).lend rfl (by simp [snapT, snap, snapL, snap1, aget, locP]; exact ⟨List.take_of_length_le (by simp), List.take_of_length_le (by simp)⟩) ?_
        simp only [push_cast, reduceIte, Nat.reduceEqDiff, Nat.reduceAdd, Nat.reduceLT, Nat.reduceLeDiff, reduceCtorEq, Int.reduceToNat]
        have hw : withinO s t = (holdsB d l, 0) := by simp only [withinO, h, h2, hd', if_true]
        rw [hw]

set_option maxHeartbeats 8000000 in
theorem lwithin_fv (WG : World) (g : GW WG) (ge : GE WG) (s t : ByteArray) : FV Tryd.prog WG 27 [.v (.string s), .v (.string t)] (.tup [vB (withinO s t).1, vI (withinO s t).2]) := by
  refine CallT.pure rfl (CallT_fn Tryd.func27 (rs := [.tmp 4, .tmp 5]) (n := 78) rfl rfl (Nat.le_of_ble_eq_true rfl) rfl ?_)
  simp only [push_cast, reduceIte, Nat.reduceEqDiff, Nat.reduceAdd, Nat.reduceLT, Nat.reduceLeDiff, reduceCtorEq, Int.reduceToNat]
  refine parse_call (lParse_ct0 WG g ge s) (fun h => ?_) (fun d h => ?_)
  · simp only [locZ, push_cast, reduceIte, Nat.reduceEqDiff, Nat.reduceAdd, Nat.reduceLT, Nat.reduceLeDiff, reduceCtorEq, Int.reduceToNat]
    have hw : withinO s t = (false, 12) := by simp only [withinO, h]
    refine parse_call (lParse_ct0 WG g ge t) (fun h2 => ?_) (fun l h2 => ?_)
    · simp only [locZ, push_cast, reduceIte, Nat.reduceEqDiff, Nat.reduceAdd, Nat.reduceLT, Nat.reduceLeDiff, reduceCtorEq, Int.reduceToNat, hw]
      intro hx; exact absurd hx (by decide)
    · simp only [locO, arrO, push_cast, reduceIte, Nat.reduceEqDiff, Nat.reduceAdd, Nat.reduceLT, Nat.reduceLeDiff, reduceCtorEq, Int.reduceToNat, hw]
      intro hx; exact absurd hx (by decide)
  · have hv := (lParse_some h).1
    have hpl := (val_of hv).parts
    simp only [locO, arrO, push_cast, reduceIte, Nat.reduceEqDiff, Nat.reduceAdd, Nat.reduceLT, Nat.reduceLeDiff, reduceCtorEq, Int.reduceToNat]
    refine parse_call (lParse_ct0 WG g ge t) (fun h2 => ?_) (fun l h2 => ?_)
    · have hw : withinO s t = (false, 12) := by simp only [withinO, h, h2]
      simp only [locZ, push_cast, reduceIte, Nat.reduceEqDiff, Nat.reduceAdd, Nat.reduceLT, Nat.reduceLeDiff, reduceCtorEq, Int.reduceToNat, hw]
      intro hx; exact absurd hx (by decide)
    · have hv2 := (lParse_some h2).1
      have hpl2 := (val_of hv2).parts
      simp only [locO, arrO, push_cast, reduceIte, Nat.reduceEqDiff, Nat.reduceAdd, Nat.reduceLT, Nat.reduceLeDiff, reduceCtorEq, Int.reduceToNat]
      refine ⟨fun hd => ?_, fun hd => ?_⟩
      · have hd' : d.dir = false := by simpa using hd
        have hw : withinO s t = (false, 2) := by simp only [withinO, h, h2, hd', Bool.false_eq_true, if_false]
        rw [hw]
      · have hd' : d.dir = true := by simpa using hd
        have hw : withinO s t = (holdsB d l, 0) := by simp only [withinO, h, h2, hd', if_true]
        rw [hw]
        refine ⟨fun h1 => ⟨h1, fun h2 => ?_⟩, fun h1 => ?_, fun h1 => ?_⟩
        · simp only [Bool.and_eq_true]; exact ⟨h1, h2⟩
        · rw [show holdsB d l = false by
            simp only [Bool.or_eq_true, Bool.not_eq_true', decide_eq_false_iff_not, strEq_false, decide_eq_true_eq, Bool.and_eq_true] at h1
            simp only [holdsB, Bool.and_eq_false_iff, Bool.or_eq_false_iff, decide_eq_false_iff_not]
            rcases h1 with (((h1 | h1) | h1) | h1) | h1
            · exact .inl (.inl (.inl (.inl (.inl h1))))
            · exact .inl (.inl (.inl (.inl (.inr h1))))
            · exact .inl (.inl (.inl (.inr h1)))
            · exact .inl (.inl (.inr (by omega)))
            · exact .inr ⟨by omega, h1.2⟩]
        · simp only [Bool.or_eq_false_iff, Bool.not_eq_false', decide_eq_true_eq, strEq_iff, decide_eq_false_iff_not, Bool.and_eq_false_iff] at h1
          obtain ⟨⟨⟨⟨e1, e2⟩, e3⟩, hle⟩, hlt⟩ := h1
          have hle' : d.parts.length ≤ l.parts.length := by omega
          have hlt' : d.parts.length < l.parts.length ∨ l.dir = true := by
            rcases hlt with h | h
            · exact .inl (by omega)
            · exact .inr h
          have hh : holdsB d l = decide (d.parts = l.parts.take d.parts.length) := by
            simp only [holdsB, e1, e2, e3, decide_true, Bool.true_and, hle', Bool.and_true, eq_comm]
            rcases hlt' with h | h <;> simp [h]
          refine T_drawS [6] [] mixed (by kernel_rfl) ?_
          simp only [push_cast, reduceIte, Nat.reduceEqDiff, Nat.reduceAdd, Nat.reduceLT, Nat.reduceLeDiff, reduceCtorEq, Int.reduceToNat]
          refine ⟨by omega, vB (decide (d.parts = l.parts.take d.parts.length)), _, _, CallT.borrow (equal_fv WG d.parts (l.parts.take d.parts.length) (by omega)) rfl ?_, ?_⟩
          · simp [snapT, snap, snapL, snap1, aget, locP, List.map_take, hle']
            exact List.take_of_length_le (by simp)
          · simp only [push_cast, reduceIte, Nat.reduceEqDiff, Nat.reduceAdd, Nat.reduceLT, Nat.reduceLeDiff, reduceCtorEq, Int.reduceToNat, hh]
end Go.Proofs.YtpcancnnbjadeaaDoor
