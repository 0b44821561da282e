/-
  Letters.
  The law LocatorNames.
-/
import Derived.Test.YtpcancnnbjadeaaDoorMB
import Derived.Test.YtpcancnnbjadeaaDoorME
set_option linter.unusedSimpArgs false
set_option linter.unusedVariables false
set_option maxRecDepth 20000
namespace Go.Proofs.YtpcancnnbjadeaaDoor
open Go Go.Gp

abbrev p97 : PV := .v (.int .u8 97)
abbrev p0 : PV := .v (.int .u8 0)
def let1 (x y : PV) (n i : Nat) : List PV := List.replicate i x ++ List.replicate (n - i) y
theorem let1_zero (x y : PV) (n : Nat) : let1 x y n 0 = List.replicate n y := by simp [let1]
theorem let1_at {x y : PV} {n i : Nat} (h : i ≤ n) (k : Nat) : (let1 x y n i)[k]? = if k < i then some x else if k < n then some y else none := by
  simp only [let1, List.getElem?_append, List.getElem?_replicate, List.length_replicate]
  by_cases h1 : k < i
  · rw [if_pos h1, if_pos h1, if_pos h1]
  · rw [if_neg h1, if_neg h1]
    by_cases h2 : k < n
    · rw [if_pos h2, if_pos (by omega)]
    · rw [if_neg h2, if_neg (by omega)]
theorem let1_len {x y : PV} {n i : Nat} (h : i ≤ n) : (let1 x y n i).length = n := by simp [let1]; omega
theorem let1_get {x y : PV} {n i : Nat} (h : i < n) : (let1 x y n i)[i]? = some y := by
  rw [let1_at (by omega), if_neg (by omega), if_pos h]
theorem let1_set {x y : PV} {n i : Nat} (h : i < n) : (let1 x y n i).set i x = let1 x y n (i + 1) := by
  apply List.ext_getElem?
  intro k
  rw [List.getElem?_set, let1_at (by omega), let1_at (by omega), let1_len (by omega)]
  by_cases h1 : i = k
  · subst h1; rw [if_pos rfl, if_pos h, if_pos (by omega)]
  · rw [if_neg h1]
    by_cases h2 : k < i
    · rw [if_pos h2, if_pos (by omega)]
    · rw [if_neg h2, if_neg (show ¬ k < i + 1 by omega)]
def letB (n : Nat) : ByteArray := ⟨(List.replicate n 97).toArray⟩

set_option maxHeartbeats 4000000 in
theorem letters_fv (WG : World) (n : Nat) (hn : n ≤ 200) : FV Tryd.prog WG 31 [.v (.int .i64 n)] (vS (letB n)) := by
  refine CallT.pure rfl (CallT_fn Tryd.func31 (rs := [.tmp 2]) (n := 17) rfl rfl (Nat.le_of_ble_eq_true rfl) rfl ?_)
  simp only [push_cast, reduceIte, Nat.reduceEqDiff, Nat.reduceAdd, Nat.reduceLT, Nat.reduceLeDiff, reduceCtorEq, Int.reduceToNat]
  refine ⟨⟨by omega, by omega, by omega, by omega⟩, ?_⟩
  refine T_loopS (fun i : Nat => ⟨[(0, vI n), (3, .osl 0 1 0 n (some n)), (4, vI i)], [(0, .arr 1 (let1 p97 p0 n i) false)], 1, 0, 17⟩) (fun i => i ≤ n) (fun i => n - i) 0 (Nat.zero_le _) (by simp [Le, subE, aget, let1_zero, p0]) (fun i hi => ?_)
  simp only [push_cast, reduceIte, Nat.reduceEqDiff, Nat.reduceAdd, Nat.reduceLT, Nat.reduceLeDiff, reduceCtorEq, Int.reduceToNat]
  refine ⟨fun h1 => ?_, fun h1 => ?_⟩
  · have h2 : i < n := by simpa using h1
    simp only [let1_get h2, push_cast, reduceIte, Nat.reduceEqDiff, Nat.reduceAdd, Nat.reduceLT, Nat.reduceLeDiff, reduceCtorEq, Int.reduceToNat, List.headD_cons]
    refine ⟨by omega, i + 1, by omega, by omega, ?_⟩
    rw [let1_set h2]
    simp [Le, subE, aget, wrap_i64 (i + 1) (by omega) (by omega)]
  · have : i = n := by simp at h1; omega
    subst this
    have e : List.take i (let1 p97 p0 i i) = List.replicate i p97 := by
      rw [List.take_of_length_le (by rw [let1_len (Nat.le_refl _)]; exact Nat.le_refl _)]
      simp [let1]
    refine ⟨⟨by rw [let1_len (Nat.le_refl _)]; exact Nat.le_refl _, ?_⟩, ?_⟩
    · rw [e]; simp [bytesP, byteP, Gp.byteOf]
    · rw [e]; simp [letB, Gp.byteOf]
end Go.Proofs.YtpcancnnbjadeaaDoor

namespace Go.Proofs.YtpcancnnbjadeaaDoor
open Go Go.Gp

abbrev pP : PV := .v (.string ⟨#[112]⟩)
abbrev pE : PV := .v (.string ⟨#[]⟩)
def hB : ByteArray := ⟨#[104]⟩
def lFull (d : Bool) : Locator := ⟨2, hB, 0, List.replicate 10 ⟨#[112]⟩, d⟩
theorem okFull : OkL (lFull false) := ⟨by decide, by decide, fun i p hp => by
  have := List.eq_of_mem_replicate (List.mem_of_getElem? hp); subst this; decide⟩
theorem okFull2 : OkL (lFull true) := ⟨by decide, by decide, fun i p hp => by
  have := List.eq_of_mem_replicate (List.mem_of_getElem? hp); subst this; decide⟩
def lLong (n : Nat) : Locator := ⟨1, letB 60, 0, [letB 40, letB 40, letB 40, letB n], false⟩
theorem okLong {n : Nat} (h : (letB n).size ≤ 500) : OkL (lLong n) := ⟨by simp [lLong], (by decide : (letB 60).size ≤ 500), fun i p hp => by
  have hm := List.mem_of_getElem? hp
  simp only [lLong, List.mem_cons, List.not_mem_nil, or_false] at hm
  rcases hm with rfl | rfl | rfl | rfl
  · decide
  · decide
  · decide
  · exact h⟩
def lOver : Locator := ⟨9, hB, 0, List.replicate 10 ⟨#[112]⟩ ++ [⟨#[112]⟩], false⟩
theorem over_fv (WG : World) (g : GW WG) : FV Tryd.prog WG 15 [locP lOver] (vI 4) := by
  have := lcheck_fv WG g lOver ⟨by simp [lOver], (by decide : hB.size ≤ 500), fun i p hp => by
    have hm := List.mem_of_getElem? hp
    simp only [lOver, List.mem_append, List.mem_singleton, List.mem_replicate] at hm
    rcases hm with ⟨_, rfl⟩ | rfl <;> decide⟩
  rwa [show checkI lOver = 4 by decide +kernel] at this
def badN (s : Int) (h : ByteArray) (p : Int) (d : Bool) : PV := .agg [pU8 s, pS h, pI p, .v (.slice none 0 0), pB d]
def badS (ps : List ByteArray) : PV := .agg [pU8 1, pS hB, pI 0, .sl 1 (ps.map pS), pB false]
def badP : List PV := [badN 0 ⟨#[]⟩ 0 false, badN 3 hB 0 true, badN 1 ⟨#[]⟩ 0 true, badN 1 (letB 61) 0 true, badN 1 hB 0 false, badN 1 hB 873 true, badN 2 hB 443 true, badN 1 hB 65536 true, badN 1 hB (-1) true, badN 1 ⟨#[45, 104]⟩ 0 true, badN 1 ⟨#[104, 45]⟩ 0 true, badN 1 ⟨#[46, 104]⟩ 0 true, badN 1 ⟨#[104, 46]⟩ 0 true, badN 1 ⟨#[97, 46, 45, 98]⟩ 0 true, badN 1 ⟨#[104, 95]⟩ 0 true, badS [⟨#[]⟩], badS [⟨#[46]⟩], badS [⟨#[97]⟩, ⟨#[46, 46]⟩], badS [letB 41], badS [⟨#[97, 32, 98]⟩]]
theorem badN_fv (WG : World) (g : GW WG) {s : Int} {h : ByteArray} {p : Int} {d : Bool} (hh : h.size ≤ 500) (hc : checkI ⟨s, h, p, [], d⟩ = 8) : FV Tryd.prog WG 15 [badN s h p d] (vI 8) := by
  have := lcheck_fv WG g ⟨s, h, p, [], d⟩ ⟨Nat.zero_le _, hh, fun i q hq => by simp at hq⟩
  rw [hc] at this
  exact this.soft (by simp [softA, soft1, softL, softV, locP, badN])
theorem badS_fv (WG : World) (g : GW WG) {ps : List ByteArray} (hl : ps.length ≤ 300) (hp : ∀ q ∈ ps, q.size ≤ 500) (hc : checkI ⟨1, hB, 0, ps, false⟩ = 8) : FV Tryd.prog WG 15 [badS ps] (vI 8) := by
  have := lcheck_fv WG g ⟨1, hB, 0, ps, false⟩ ⟨hl, (by decide : hB.size ≤ 500), fun i q hq => hp q (List.mem_of_getElem? hq)⟩
  rw [hc] at this
  exact this
theorem bad_at (WG : World) (g : GW WG) : ∀ i, i < 20 → ∃ x : PV, mkAgg (List.take 5 (List.drop (i * 5) (List.map V.p (List.flatMap PV.cells badP)))) = V.p x ∧ FV Tryd.prog WG 15 [x] (vI 8)
  | 0, _ => ⟨badN 0 ⟨#[]⟩ 0 false, rfl, badN_fv WG g (by decide) (by decide +kernel)⟩
  | 1, _ => ⟨badN 3 hB 0 true, rfl, badN_fv WG g (by decide) (by decide +kernel)⟩
  | 2, _ => ⟨badN 1 ⟨#[]⟩ 0 true, rfl, badN_fv WG g (by decide) (by decide +kernel)⟩
  | 3, _ => ⟨badN 1 (letB 61) 0 true, rfl, badN_fv WG g (by decide) (by decide +kernel)⟩
  | 4, _ => ⟨badN 1 hB 0 false, rfl, badN_fv WG g (by decide) (by decide +kernel)⟩
  | 5, _ => ⟨badN 1 hB 873 true, rfl, badN_fv WG g (by decide) (by decide +kernel)⟩
  | 6, _ => ⟨badN 2 hB 443 true, rfl, badN_fv WG g (by decide) (by decide +kernel)⟩
  | 7, _ => ⟨badN 1 hB 65536 true, rfl, badN_fv WG g (by decide) (by decide +kernel)⟩
  | 8, _ => ⟨badN 1 hB (-1) true, rfl, badN_fv WG g (by decide) (by decide +kernel)⟩
  | 9, _ => ⟨badN 1 ⟨#[45, 104]⟩ 0 true, rfl, badN_fv WG g (by decide) (by decide +kernel)⟩
  | 10, _ => ⟨badN 1 ⟨#[104, 45]⟩ 0 true, rfl, badN_fv WG g (by decide) (by decide +kernel)⟩
  | 11, _ => ⟨badN 1 ⟨#[46, 104]⟩ 0 true, rfl, badN_fv WG g (by decide) (by decide +kernel)⟩
  | 12, _ => ⟨badN 1 ⟨#[104, 46]⟩ 0 true, rfl, badN_fv WG g (by decide) (by decide +kernel)⟩
  | 13, _ => ⟨badN 1 ⟨#[97, 46, 45, 98]⟩ 0 true, rfl, badN_fv WG g (by decide) (by decide +kernel)⟩
  | 14, _ => ⟨badN 1 ⟨#[104, 95]⟩ 0 true, rfl, badN_fv WG g (by decide) (by decide +kernel)⟩
  | 15, _ => ⟨badS [⟨#[]⟩], rfl, badS_fv WG g (by decide) (by decide +kernel) (by decide +kernel)⟩
  | 16, _ => ⟨badS [⟨#[46]⟩], rfl, badS_fv WG g (by decide) (by decide +kernel) (by decide +kernel)⟩
  | 17, _ => ⟨badS [⟨#[97]⟩, ⟨#[46, 46]⟩], rfl, badS_fv WG g (by decide) (by decide +kernel) (by decide +kernel)⟩
  | 18, _ => ⟨badS [letB 41], rfl, badS_fv WG g (by decide) (by decide +kernel) (by decide +kernel)⟩
  | 19, _ => ⟨badS [⟨#[97, 32, 98]⟩], rfl, badS_fv WG g (by decide) (by decide +kernel) (by decide +kernel)⟩
  | i + 20, h => absurd h (by omega)
theorem refC (WG : World) (g : GW WG) (ge : GE WG) {s : ByteArray} (h : lParse s = none) : FV Tryd.prog WG 32 [.v (.string s)] (vB true) := by
  have := refused_fv WG g ge s
  rw [h] at this
  simpa using this
theorem kindT (WG : World) {s : ByteArray} {k : Int} (hs : s.size < 1000000) (h : kindI s = k) : FV Tryd.prog WG 24 [.v (.string s)] (.p (.v (.int .u8 k))) := by
  rw [← h]; exact lkind_fv WG s hs
theorem nameT (WG : World) {s : ByteArray} {b : Bool} (h : nameB s = b) : FV Tryd.prog WG 22 [.v (.string s)] (vB b) := by
  rw [← h]; exact lname_fv WG s
def fullS : ByteArray := ⟨#[104, 116, 116, 112, 115, 58, 47, 47, 104, 47, 112, 47, 112, 47, 112, 47, 112, 47, 112, 47, 112, 47, 112, 47, 112, 47, 112, 47, 112]⟩
def dirS : ByteArray := ⟨#[104, 116, 116, 112, 115, 58, 47, 47, 104, 47, 112, 47, 112, 47, 112, 47, 112, 47, 112, 47, 112, 47, 112, 47, 112, 47, 112, 47, 112, 47]⟩

set_option maxHeartbeats 8000000 in
theorem names_fv (WG : World) (g : GW WG) (ge : GE WG) : FV Tryd.prog WG 9 [] (vB true) := by
  refine CallT.pure rfl (CallT_fnT Tryd.func9 (rs := [.tmp 0]) (n := 345) rfl rfl (Nat.le_of_ble_eq_true rfl) rfl ?_)
  refine T_seqC ?_
  simp only [push_cast, reduceIte, Nat.reduceEqDiff, Nat.reduceAdd, Nat.reduceLT, Nat.reduceLeDiff, reduceCtorEq, Int.reduceToNat]
  refine T_seqC ?_
  simp only [push_cast, reduceIte, Nat.reduceEqDiff, Nat.reduceAdd, Nat.reduceLT, Nat.reduceLeDiff, reduceCtorEq, Int.reduceToNat]
  refine ⟨by decide, ?_⟩
  refine T_cut1 ⟨[(0, vB false), (1, .osl 0 1 0 10 (some 10))], [(0, .arr 1 (List.replicate 10 pP) false)], 1, 0, 345⟩ ?_ ?_
  · simp only [push_cast, reduceIte, Nat.reduceEqDiff, Nat.reduceAdd, Nat.reduceLT, Nat.reduceLeDiff, reduceCtorEq, Int.reduceToNat]
    refine T_loopS (fun i : Nat => ⟨[(0, vB false), (1, .osl 0 1 0 10 (some 10)), (2, vI i)], [(0, .arr 1 (let1 pP pE 10 i) false)], 1, 0, 345⟩) (fun i => i ≤ 10) (fun i => 10 - i) 0 (Nat.zero_le _) (by simp [Le, subE, aget, let1_zero]) (fun i hi => ?_)
    simp only [push_cast, reduceIte, Nat.reduceEqDiff, Nat.reduceAdd, Nat.reduceLT, Nat.reduceLeDiff, reduceCtorEq, Int.reduceToNat]
    refine ⟨fun h1 => ?_, fun h1 => ?_⟩
    · have h2 : i < 10 := by simp at h1; omega
      simp only [let1_get h2, push_cast, reduceIte, Nat.reduceEqDiff, Nat.reduceAdd, Nat.reduceLT, Nat.reduceLeDiff, reduceCtorEq, Int.reduceToNat, List.headD_cons]
      refine ⟨by omega, i + 1, by omega, by omega, ?_⟩
      rw [let1_set h2]
      simp [Le, subE, aget, wrap_i64 (i + 1) (by omega) (by omega)]
    · have : i = 10 := by simp at h1; omega
      subst this
      simp [Le, subE, aget, let1]
  refine T_seqC ?_
  simp only [push_cast, reduceIte, Nat.reduceEqDiff, Nat.reduceAdd, Nat.reduceLT, Nat.reduceLeDiff, reduceCtorEq, Int.reduceToNat]
  refine T_seqC ?_
  simp only [push_cast, reduceIte, Nat.reduceEqDiff, Nat.reduceAdd, Nat.reduceLT, Nat.reduceLeDiff, reduceCtorEq, Int.reduceToNat]
  refine (ltext_fv WG g (lFull false) okFull).lend (textV_flat _) (by simp [snapT, snap, snapL, snap1, aget, locP, lFull, hB]) ?_
  rw [textV_eq, show textO (lFull false) = (fullS, 0) by decide +kernel]
  simp only [push_cast, reduceIte, Nat.reduceEqDiff, Nat.reduceAdd, Nat.reduceLT, Nat.reduceLeDiff, reduceCtorEq, Int.reduceToNat]
  refine T_cutR (fun _ : Unit => ⟨[(0, vB false), (1, .osl 0 1 0 10 (some 10)), (4, vS fullS), (5, vI 0), (6, .ref 2 0)], [(0, .arr 1 (List.replicate 10 pP) false), (1, .arr 1 (List.replicate 10 pP ++ [pP]) true), (2, .box [vU8 9, vS hB, vI 0, .osl 1 1 0 11 none, vB false])], 3, 0, 345⟩) (fun _ => True) ?_ (fun _ _ => ?_)
  · simp only [push_cast, reduceIte, Nat.reduceEqDiff, Nat.reduceAdd, Nat.reduceLT, Nat.reduceLeDiff, reduceCtorEq, Int.reduceToNat]
    refine ⟨⟨by decide, by decide⟩, by decide, (), [(1, 5), (2, 6)], ?_⟩
    simp [hB, LeR, rnf, aget, envR, tabR, injR, notIn, loR, V.rn, V.rnL, V.bd, V.bdL, Blk.rn, Blk.bd, envRn, envBd]
  refine T_seqC ?_
  simp only [push_cast, reduceIte, Nat.reduceEqDiff, Nat.reduceAdd, Nat.reduceLT, Nat.reduceLeDiff, reduceCtorEq, Int.reduceToNat]
  refine (ltext_fv WG g (lFull true) okFull2).lend (textV_flat _) (by simp [snapT, snap, snapL, snap1, aget, locP, lFull, hB]) ?_
  rw [textV_eq, show textO (lFull true) = (dirS, 0) by decide +kernel]
  simp only [push_cast, reduceIte, Nat.reduceEqDiff, Nat.reduceAdd, Nat.reduceLT, Nat.reduceLeDiff, reduceCtorEq, Int.reduceToNat]
  refine T_seqC ?_
  simp only [push_cast, reduceIte, Nat.reduceEqDiff, Nat.reduceAdd, Nat.reduceLT, Nat.reduceLeDiff, reduceCtorEq, Int.reduceToNat]
  refine (ljoin_fv WG g ge _ _ (by decide)).call rfl ?_
  rw [show joinO dirS ⟨#[120]⟩ = (eB, 4) by decide +kernel]
  simp only [push_cast, reduceIte, Nat.reduceEqDiff, Nat.reduceAdd, Nat.reduceLT, Nat.reduceLeDiff, reduceCtorEq, Int.reduceToNat]
  refine T_seqC ?_
  simp only [push_cast, reduceIte, Nat.reduceEqDiff, Nat.reduceAdd, Nat.reduceLT, Nat.reduceLeDiff, reduceCtorEq, Int.reduceToNat]
  refine (letters_fv WG 60 (by decide)).call rfl ?_
  simp only [push_cast, reduceIte, Nat.reduceEqDiff, Nat.reduceAdd, Nat.reduceLT, Nat.reduceLeDiff, reduceCtorEq, Int.reduceToNat]
  refine (letters_fv WG 40 (by decide)).call rfl ?_
  simp only [push_cast, reduceIte, Nat.reduceEqDiff, Nat.reduceAdd, Nat.reduceLT, Nat.reduceLeDiff, reduceCtorEq, Int.reduceToNat]
  refine (letters_fv WG 40 (by decide)).call rfl ?_
  simp only [push_cast, reduceIte, Nat.reduceEqDiff, Nat.reduceAdd, Nat.reduceLT, Nat.reduceLeDiff, reduceCtorEq, Int.reduceToNat]
  refine (letters_fv WG 40 (by decide)).call rfl ?_
  simp only [push_cast, reduceIte, Nat.reduceEqDiff, Nat.reduceAdd, Nat.reduceLT, Nat.reduceLeDiff, reduceCtorEq, Int.reduceToNat]
  refine (letters_fv WG 8 (by decide)).call rfl ?_
  simp only [push_cast, reduceIte, Nat.reduceEqDiff, Nat.reduceAdd, Nat.reduceLT, Nat.reduceLeDiff, reduceCtorEq, Int.reduceToNat]
  refine T_seqC ?_
  simp only [push_cast, reduceIte, Nat.reduceEqDiff, Nat.reduceAdd, Nat.reduceLT, Nat.reduceLeDiff, reduceCtorEq, Int.reduceToNat]
  refine (ltext_fv WG g (lLong 8) (okLong (by decide))).lend (textV_flat _) (by simp [snapT, snap, snapL, snap1, aget, locP, lLong]) ?_
  rw [textV_eq, show textO (lLong 8) = (refW (lLong 8), 0) by decide +kernel]
  simp only [push_cast, reduceIte, Nat.reduceEqDiff, Nat.reduceAdd, Nat.reduceLT, Nat.reduceLeDiff, reduceCtorEq, Int.reduceToNat]
  refine T_seqC ?_
  simp only [push_cast, reduceIte, Nat.reduceEqDiff, Nat.reduceAdd, Nat.reduceLT, Nat.reduceLeDiff, reduceCtorEq, Int.reduceToNat]
  refine T_drawS [4] [] mixed (by kernel_rfl) ?_
  simp only [push_cast, reduceIte, Nat.reduceEqDiff, Nat.reduceAdd, Nat.reduceLT, Nat.reduceLeDiff, reduceCtorEq, Int.reduceToNat]
  refine ⟨_, (letters_fv WG 9 (by decide)).v rfl, ?_⟩
  simp only [push_cast, reduceIte, Nat.reduceEqDiff, Nat.reduceAdd, Nat.reduceLT, Nat.reduceLeDiff, reduceCtorEq, Int.reduceToNat, List.headD_cons]
  refine ⟨by decide, ?_⟩
  refine T_cutR (fun _ : Unit => ⟨[(0, vB false), (4, vS fullS), (5, vI 0), (6, .ref 1 0), (7, vS dirS), (8, vI 0), (10, vI 4), (12, vS (refW (lLong 8))), (13, vI 0), (15, vI 4)], [(0, .arr 1 (List.replicate 10 pP ++ [pP]) true), (1, .box [vU8 9, vS hB, vI 0, .osl 0 1 0 11 none, vB false])], 2, 0, 345⟩) (fun _ => True) ?_ (fun _ _ => ?_)
  · simp only [push_cast, reduceIte, Nat.reduceEqDiff, Nat.reduceAdd, Nat.reduceLT, Nat.reduceLeDiff, reduceCtorEq, Int.reduceToNat]
    refine (ltext_fv WG g (lLong 9) (okLong (by decide))).lend (textV_flat _) (by simp [snapT, snap, snapL, snap1, aget, locP, lLong]) ?_
    rw [textV_eq, show textO (lLong 9) = (eB, 4) by decide +kernel]
    simp only [push_cast, reduceIte, Nat.reduceEqDiff, Nat.reduceAdd, Nat.reduceLT, Nat.reduceLeDiff, reduceCtorEq, Int.reduceToNat]
    refine ⟨(), [(0, 1), (1, 2)], ?_⟩
    simp [hB, LeR, rnf, aget, envR, tabR, injR, notIn, loR, V.rn, V.rnL, V.bd, V.bdL, Blk.rn, Blk.bd, envRn, envBd]
  refine T_cutR (fun _ : Unit => ⟨[(0, vB false), (16, vB true)], [], 0, 0, 345⟩) (fun _ => True) ?_ (fun _ _ => ?_)
  · simp only [push_cast, reduceIte, Nat.reduceEqDiff, Nat.reduceAdd, Nat.reduceLT, Nat.reduceLeDiff, reduceCtorEq, Int.reduceToNat]
    have f1 : strEq fullS ⟨#[104, 116, 116, 112, 115, 58, 47, 47, 104, 47, 112, 47, 112, 47, 112, 47, 112, 47, 112, 47, 112, 47, 112, 47, 112, 47, 112, 47, 112]⟩ = true := by decide +kernel
    have f2 : strEq dirS (fullS ++ ⟨#[47]⟩) = true := by decide +kernel
    have f3 : (refW (lLong 8)).size = 200 := by decide +kernel
    refine ⟨fun h => ⟨h, by decide +kernel⟩, vI 4, fun _ => CallT.borrow (over_fv WG g) rfl ?_, ?_⟩
    · simp [snapT, snap, snapL, snap1, aget, locP, lOver]
    simp only [f1, f2, f3, push_cast, reduceIte, Nat.reduceEqDiff, Nat.reduceAdd, Nat.reduceLT, Nat.reduceLeDiff, reduceCtorEq, Int.reduceToNat]
    refine ⟨(), [], ?_⟩
    simp [LeR, rnf, aget, envR, tabR, injR, notIn, loR, V.rn, V.rnL, V.bd, V.bdL, Blk.rn, Blk.bd, envRn, envBd]
  refine T_seqC ?_
  simp only [push_cast, reduceIte, Nat.reduceEqDiff, Nat.reduceAdd, Nat.reduceLT, Nat.reduceLeDiff, reduceCtorEq, Int.reduceToNat]
  refine (letters_fv WG 61 (by decide)).call rfl ?_
  simp only [push_cast, reduceIte, Nat.reduceEqDiff, Nat.reduceAdd, Nat.reduceLT, Nat.reduceLeDiff, reduceCtorEq, Int.reduceToNat]
  refine (letters_fv WG 41 (by decide)).call rfl ?_
  simp only [push_cast, reduceIte, Nat.reduceEqDiff, Nat.reduceAdd, Nat.reduceLT, Nat.reduceLeDiff, reduceCtorEq, Int.reduceToNat, Nat.reduceMul]
  refine T_freeze 0 (T_freeze 1 (T_freeze 2 (T_freeze 3 (T_freeze 4 ?_))))
  simp only [push_cast, reduceIte, Nat.reduceEqDiff, Nat.reduceAdd, Nat.reduceLT, Nat.reduceLeDiff, reduceCtorEq, Int.reduceToNat]
  refine T_cutR (fun _ : Unit => ⟨[(0, vB false), (16, vB true)], [], 0, 0, 345⟩) (fun _ => True) ?_ (fun _ _ => ?_)
  · simp only [push_cast, reduceIte, Nat.reduceEqDiff, Nat.reduceAdd, Nat.reduceLT, Nat.reduceLeDiff, reduceCtorEq, Int.reduceToNat]
    refine T_loopR (fun i : Nat => ⟨[(0, vB false), (16, vB true), (17, .bsl 0 0 5 20 20), (18, vI i)], [(0, .box ((badP.flatMap PV.cells).map V.p))], 1, 0, 345⟩) (fun i => i ≤ 20) (fun i => 20 - i) 0 [(0, 5)] (Nat.zero_le _) ?_ (fun i hi => ?_)
    · simp [badP, badN, badS, hB, pU8, pS, pI, pB, PV.cells, LeR, rnf, aget, envR, tabR, injR, notIn, loR, V.rn, V.rnL, V.bd, V.bdL, Blk.rn, Blk.bd, envRn, envBd]
    · simp only [push_cast, reduceIte, Nat.reduceEqDiff, Nat.reduceAdd, Nat.reduceLT, Nat.reduceLeDiff, reduceCtorEq, Int.reduceToNat]
      refine ⟨fun h1 => ?_, fun h1 => ?_⟩
      · have h2 : i < 20 := by simp at h1; omega
        obtain ⟨x, hx, hf⟩ := bad_at WG g i h2
        simp only [mkAgg] at hx
        rw [hx]
        refine ⟨by omega, ?_, hf.call rfl ?_⟩
        · have : (List.flatMap PV.cells badP).length = 100 := rfl
          omega
        · simp only [push_cast, reduceIte, Nat.reduceEqDiff, Nat.reduceAdd, Nat.reduceLT, Nat.reduceLeDiff, reduceCtorEq, Int.reduceToNat]
          refine ⟨i + 1, by omega, by omega, [], ?_⟩
          simp [badP, badN, badS, hB, pU8, pS, pI, pB, PV.cells, wrap_i64 (i + 1) (by omega) (by omega), LeR, rnf, aget, envR, tabR, injR, notIn, loR, V.rn, V.rnL, V.bd, V.bdL, Blk.rn, Blk.bd, envRn, envBd]
      · exact ⟨(), [], by simp [LeR, rnf, aget, envR, tabR, injR, notIn, loR, V.rn, V.rnL, V.bd, V.bdL, Blk.rn, Blk.bd, envRn, envBd]⟩
  refine T_cutR (fun _ : Unit => ⟨[(0, vB false), (16, vB true), (19, vB true)], [], 0, 0, 345⟩) (fun _ => True) ?_ (fun _ _ => ?_)
  · simp only [push_cast, reduceIte, Nat.reduceEqDiff, Nat.reduceAdd, Nat.reduceLT, Nat.reduceLeDiff, reduceCtorEq, Int.reduceToNat]
    refine (refC WG g ge (by decide +kernel)).call rfl ?_
    simp only [push_cast, reduceIte, Nat.reduceEqDiff, Nat.reduceAdd, Nat.reduceLT, Nat.reduceLeDiff, reduceCtorEq, Int.reduceToNat]
    iterate 12
      refine ⟨vB true, refT WG g ge (by decide +kernel), ?_⟩
      simp only [push_cast, reduceIte, Nat.reduceEqDiff, Nat.reduceAdd, Nat.reduceLT, Nat.reduceLeDiff, reduceCtorEq, Int.reduceToNat]
    exact ⟨(), [], by simp [LeR, rnf, aget, envR, tabR, injR, notIn, loR, V.rn, V.rnL, V.bd, V.bdL, Blk.rn, Blk.bd, envRn, envBd]⟩
  refine T_cutR (fun _ : Unit => ⟨[(0, vB false), (16, vB true), (19, vB true), (20, vB true)], [], 0, 0, 345⟩) (fun _ => True) ?_ (fun _ _ => ?_)
  · simp only [push_cast, reduceIte, Nat.reduceEqDiff, Nat.reduceAdd, Nat.reduceLT, Nat.reduceLeDiff, reduceCtorEq, Int.reduceToNat]
    refine (kindT WG (k := 2) (by decide) (by decide +kernel)).call rfl ?_
    simp only [eq_self, push_cast, reduceIte, Nat.reduceEqDiff, Nat.reduceAdd, Nat.reduceLT, Nat.reduceLeDiff, reduceCtorEq, Int.reduceToNat]
    refine ⟨_, (kindT WG (k := 3) (by decide) (by decide +kernel)).q rfl, ?_⟩
    simp only [eq_self, push_cast, reduceIte, Nat.reduceEqDiff, Nat.reduceAdd, Nat.reduceLT, Nat.reduceLeDiff, reduceCtorEq, Int.reduceToNat]
    refine ⟨_, (kindT WG (k := 4) (by decide) (by decide +kernel)).q rfl, ?_⟩
    simp only [eq_self, push_cast, reduceIte, Nat.reduceEqDiff, Nat.reduceAdd, Nat.reduceLT, Nat.reduceLeDiff, reduceCtorEq, Int.reduceToNat]
    refine ⟨_, (kindT WG (k := 5) (by decide) (by decide +kernel)).q rfl, ?_⟩
    simp only [eq_self, push_cast, reduceIte, Nat.reduceEqDiff, Nat.reduceAdd, Nat.reduceLT, Nat.reduceLeDiff, reduceCtorEq, Int.reduceToNat]
    iterate 4
      refine ⟨_, (kindT WG (k := 0) (by decide) (by decide +kernel)).q rfl, ?_⟩
      simp only [eq_self, push_cast, reduceIte, Nat.reduceEqDiff, Nat.reduceAdd, Nat.reduceLT, Nat.reduceLeDiff, reduceCtorEq, Int.reduceToNat]
    refine ⟨_, (nameT WG (b := true) (by decide +kernel)).q rfl, ?_⟩
    simp only [eq_self, push_cast, reduceIte, Nat.reduceEqDiff, Nat.reduceAdd, Nat.reduceLT, Nat.reduceLeDiff, reduceCtorEq, Int.reduceToNat]
    refine ⟨_, (nameT WG (b := false) (by decide +kernel)).q rfl, ?_⟩
    simp only [eq_self, push_cast, reduceIte, Nat.reduceEqDiff, Nat.reduceAdd, Nat.reduceLT, Nat.reduceLeDiff, reduceCtorEq, Int.reduceToNat]
    exact ⟨(), [], by simp [LeR, rnf, aget, envR, tabR, injR, notIn, loR, V.rn, V.rnL, V.bd, V.bdL, Blk.rn, Blk.bd, envRn, envBd]⟩
  refine T_seqC ?_
  simp only [push_cast, reduceIte, Nat.reduceEqDiff, Nat.reduceAdd, Nat.reduceLT, Nat.reduceLeDiff, reduceCtorEq, Int.reduceToNat]
  refine (lsplit_fv WG g ge _).call rfl ?_
  rw [show splitO _ = (⟨#[104, 116, 116, 112, 115, 58, 47, 47, 104, 58, 49, 47]⟩, ⟨#[120]⟩, 0) by decide +kernel]
  simp only [push_cast, reduceIte, Nat.reduceEqDiff, Nat.reduceAdd, Nat.reduceLT, Nat.reduceLeDiff, reduceCtorEq, Int.reduceToNat]
  refine T_seqC ?_
  simp only [push_cast, reduceIte, Nat.reduceEqDiff, Nat.reduceAdd, Nat.reduceLT, Nat.reduceLeDiff, reduceCtorEq, Int.reduceToNat]
  refine (lsplit_fv WG g ge _).call rfl ?_
  rw [show splitO _ = (eB, eB, 2) by decide +kernel]
  simp only [push_cast, reduceIte, Nat.reduceEqDiff, Nat.reduceAdd, Nat.reduceLT, Nat.reduceLeDiff, reduceCtorEq, Int.reduceToNat]
  refine T_seqC ?_
  simp only [push_cast, reduceIte, Nat.reduceEqDiff, Nat.reduceAdd, Nat.reduceLT, Nat.reduceLeDiff, reduceCtorEq, Int.reduceToNat]
  refine (ljoin_fv WG g ge _ _ (by decide)).call rfl ?_
  rw [show joinO _ _ = (eB, 2) by decide +kernel]
  simp only [push_cast, reduceIte, Nat.reduceEqDiff, Nat.reduceAdd, Nat.reduceLT, Nat.reduceLeDiff, reduceCtorEq, Int.reduceToNat]
  refine T_seqC ?_
  simp only [push_cast, reduceIte, Nat.reduceEqDiff, Nat.reduceAdd, Nat.reduceLT, Nat.reduceLeDiff, reduceCtorEq, Int.reduceToNat]
  refine (ljoin_fv WG g ge _ _ (by decide)).call rfl ?_
  rw [show joinO _ _ = (eB, 2) by decide +kernel]
  simp only [push_cast, reduceIte, Nat.reduceEqDiff, Nat.reduceAdd, Nat.reduceLT, Nat.reduceLeDiff, reduceCtorEq, Int.reduceToNat]
  refine T_seqC ?_
  simp only [push_cast, reduceIte, Nat.reduceEqDiff, Nat.reduceAdd, Nat.reduceLT, Nat.reduceLeDiff, reduceCtorEq, Int.reduceToNat]
  refine (lwithin_fv WG g ge _ _).call rfl ?_
  rw [show withinO _ _ = (false, 2) by decide +kernel]
  simp only [push_cast, reduceIte, Nat.reduceEqDiff, Nat.reduceAdd, Nat.reduceLT, Nat.reduceLeDiff, reduceCtorEq, Int.reduceToNat]
  refine T_seqC ?_
  simp only [push_cast, reduceIte, Nat.reduceEqDiff, Nat.reduceAdd, Nat.reduceLT, Nat.reduceLeDiff, reduceCtorEq, Int.reduceToNat]
  refine (lwithin_fv WG g ge _ _).call rfl ?_
  rw [show withinO _ _ = (false, 0) by decide +kernel]
  simp only [push_cast, reduceIte, Nat.reduceEqDiff, Nat.reduceAdd, Nat.reduceLT, Nat.reduceLeDiff, reduceCtorEq, Int.reduceToNat]
  refine T_seqC ?_
  simp only [push_cast, reduceIte, Nat.reduceEqDiff, Nat.reduceAdd, Nat.reduceLT, Nat.reduceLeDiff, reduceCtorEq, Int.reduceToNat]
  refine (lwithin_fv WG g ge _ _).call rfl ?_
  rw [show withinO _ _ = (true, 0) by decide +kernel]
  simp only [push_cast, reduceIte, Nat.reduceEqDiff, Nat.reduceAdd, Nat.reduceLT, Nat.reduceLeDiff, reduceCtorEq, Int.reduceToNat]
  refine T_seqC ?_
  simp only [push_cast, reduceIte, Nat.reduceEqDiff, Nat.reduceAdd, Nat.reduceLT, Nat.reduceLeDiff, reduceCtorEq, Int.reduceToNat]
  refine (lwithin_fv WG g ge _ _).call rfl ?_
  rw [show withinO _ _ = (false, 0) by decide +kernel]
  simp only [push_cast, reduceIte, Nat.reduceEqDiff, Nat.reduceAdd, Nat.reduceLT, Nat.reduceLeDiff, reduceCtorEq, Int.reduceToNat]
  refine T_cutR (fun _ : Unit => ⟨[(0, vB false), (16, vB true), (19, vB true), (20, vB true), (39, vB true)], [], 0, 0, 345⟩) (fun _ => True) ?_ (fun _ _ => ?_)
  · simp only [eq_self, push_cast, reduceIte, Nat.reduceEqDiff, Nat.reduceAdd, Nat.reduceLT, Nat.reduceLeDiff, reduceCtorEq, Int.reduceToNat]
    exact ⟨(), [], by simp [strEq, eB, LeR, rnf, aget, envR, tabR, injR, notIn, loR, V.rn, V.rnL, V.bd, V.bdL, Blk.rn, Blk.bd, envRn, envBd]⟩
  refine T_fin ?_
  simp only [push_cast, reduceIte, Nat.reduceEqDiff, Nat.reduceAdd, Nat.reduceLT, Nat.reduceLeDiff, reduceCtorEq, Int.reduceToNat]
  refine ⟨vB true, (alive_fv WG g ge).q rfl, ?_⟩
  simp only [push_cast, reduceIte, Nat.reduceEqDiff, Nat.reduceAdd, Nat.reduceLT, Nat.reduceLeDiff, reduceCtorEq, Int.reduceToNat]
end Go.Proofs.YtpcancnnbjadeaaDoor
