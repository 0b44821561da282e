/-
  Octets: lengths, sizes, copies.
  Octets: the reference's copies, encodings, lists of values.
  Octets: the program's encodings.
  The loop over all values of a value.
  octet.Check.
  The reader of octets: must, cut, length.
  The reader of octets: a value.
-/
import Derived.Test.YtgekglfmianoeaaGreatDoorOA
import Derived.Test.YtgekglfmianoeaaGreatDoorCC
import Derived.Test.YtgekglfmianoeaaGreatDoorKE
set_option linter.unusedSimpArgs false
set_option linter.unusedVariables false
set_option maxRecDepth 20000
namespace Go.Proofs.YtgekglfmianoeaaGreatDoor
open Go Go.Gp
theorem countL_mem : ∀ {l : List Oct}, ∀ x ∈ l, countO x ≤ countL l
  | [], x, hx => by simp at hx
  | y :: r, x, hx => by
    simp only [countL]
    rcases List.mem_cons.1 hx with h | h
    · rw [h]; omega
    · have := countL_mem x h; omega
theorem oct_ind {Q : Oct → Prop} (h : ∀ t b l, (∀ x ∈ l, Q x) → Q (.mk t b l)) (v : Oct) : Q v := by
  suffices ∀ n, ∀ v, countO v ≤ n → Q v from this _ v (Nat.le_refl _)
  intro n
  induction n with
  | zero => intro v hv; cases v with | mk t b l => simp only [countO] at hv; omega
  | succ n ih =>
    intro v hv
    cases v with
    | mk t b l =>
      simp only [countO] at hv
      exact h t b l fun x hx => ih x (by have := countL_mem x hx; omega)
theorem sizeL_append : ∀ (a b : List Oct), sizeL (a ++ b) = sizeL a + sizeL b
  | [], b => by simp [sizeL]
  | x :: a, b => by simp only [List.cons_append, sizeL, sizeL_append a b]; omega
theorem encL_append : ∀ (a b : List Oct), encL (a ++ b) = encL a ++ encL b
  | [], b => rfl
  | x :: a, b => by simp only [List.cons_append, encL, encL_append a b, List.append_assoc]
theorem sizeL_take {l : List Oct} {i : Nat} {x : Oct} (h : l[i]? = some x) : sizeL (l.take (i + 1)) = sizeL (l.take i) + sizeO x := by
  rw [List.take_add_one, h, sizeL_append]; simp [sizeL]
theorem sizeL_le (l : List Oct) (i : Nat) : sizeL (l.take i) ≤ sizeL l := by
  have := sizeL_append (l.take i) (l.drop i)
  rw [List.take_append_drop] at this; omega
theorem lenB_pos (n : Nat) : 1 ≤ (lenB n).length := by
  rw [lenB_len]
  split
  · omega
  · split
    · omega
    · split <;> omega

theorem lenB_le4 (n : Nat) : (lenB n).length ≤ 4 := by
  rw [lenB_len]
  split
  · omega
  · split
    · omega
    · split <;> omega
def smallO (v : Oct) : Prop := sizeO v < 16777216
theorem smallO_mem {t : UInt8} {b : List UInt8} {l : List Oct} (h : smallO (.mk t b l)) : (∀ x ∈ l, smallO x) ∧ b.length < 16777216 ∧ l.length < 16777216 ∧ b.length + sizeL l < 16777216 := by
  unfold smallO at h
  simp only [sizeO] at h
  have := len_sizeL l
  exact ⟨fun x hx => by unfold smallO; have := sizeL_mem x hx; omega, by omega, by omega, by omega⟩

set_option maxHeartbeats 8000000 in
theorem size8_fv (WG : World) : ∀ v : Oct, smallO v → FV Tryz.prog WG 131 [octP v] (vI (sizeO v)) := by
  refine oct_ind fun t b l ih hs => ?_
  obtain ⟨hm, hb, hl, hsz⟩ := smallO_mem hs
  rw [octP_mk]
  refine CallT.pure rfl (CallT_fnT Tryz.func131 (rs := [.tmp 2]) (n := 26) rfl rfl (Nat.le_of_ble_eq_true rfl) rfl ?_)
  refine T_seqC ?_
  simp only [push_cast, reduceIte, Nat.reduceMul, Nat.reduceEqDiff, Nat.reduceAdd, Nat.reduceLT, Nat.reduceLeDiff, reduceCtorEq, Int.reduceToNat]
  refine T_seqC ?_
  simp only [push_cast, reduceIte, Nat.reduceMul, Nat.reduceEqDiff, Nat.reduceAdd, Nat.reduceLT, Nat.reduceLeDiff, reduceCtorEq, Int.reduceToNat]
  refine T_seqC ?_
  simp only [push_cast, reduceIte, Nat.reduceMul, Nat.reduceEqDiff, Nat.reduceAdd, Nat.reduceLT, Nat.reduceLeDiff, reduceCtorEq, Int.reduceToNat]
  refine T_loopR (fun i : Nat => ⟨[(1, .ref 0 0), (3, vI ((b.length + sizeL (l.take i) : Nat) : Int)), (10, .p (.sl 3 (l.map octP))), (11, vI l.length), (12, vI i)], [(0, .box [.p (pU8 t.toNat), .p (.sl 1 (bytesP b)), .p (.sl 3 (l.map octP))])], 1, 0, 26⟩)
    (fun i => i ≤ l.length) (fun i => l.length - i) 0 [] (Nat.zero_le _) (by simp [LeR, rnf, aget, envR, tabR, injR, notIn, loR, V.rn, V.rnL, V.bd, V.bdL, Blk.rn, Blk.bd, envRn, envBd, sizeL, bytesP_length]) (fun i hi => ?_)
  simp only [push_cast, reduceIte, Nat.reduceMul, Nat.reduceEqDiff, Nat.reduceAdd, Nat.reduceLT, Nat.reduceLeDiff, reduceCtorEq, Int.reduceToNat]
  refine ⟨fun h1 => ?_, fun h1 => ?_⟩
  · have h2 : i < l.length := by simpa using h1
    have hg : l[i]? = some l[i] := List.getElem?_eq_getElem h2
    have hst := sizeL_take hg
    have hle := sizeL_le l (i + 1)
    have ihx := ih _ (List.mem_of_getElem? hg) (hm _ (List.mem_of_getElem? hg))
    generalize l[i] = x at hg hst ihx
    obtain ⟨t', b', l'⟩ := x
    rw [octP_mk] at ihx
    simp only [push_cast, reduceIte, Nat.reduceMul, Nat.reduceEqDiff, Nat.reduceAdd, Nat.reduceLT, Nat.reduceLeDiff, reduceCtorEq, Int.reduceToNat, List.getElem?_map, hg, Option.map_some, octP_mk]
    refine ⟨by omega, ?_⟩
    refine ihx.call rfl ?_
    simp only [push_cast, reduceIte, Nat.reduceMul, Nat.reduceEqDiff, Nat.reduceAdd, Nat.reduceLT, Nat.reduceLeDiff, reduceCtorEq, Int.reduceToNat]
    have hw : IntKind.i64.wrap ((b.length : Int) + (sizeL (l.take i) : Int) + (sizeO (.mk t' b' l') : Int)) = (b.length : Int) + (sizeL (l.take (i + 1)) : Int) := by
      rw [hst, wrap_i64 _ (by omega) (by omega)]; omega
    refine ⟨i + 1, by omega, by omega, [], ?_⟩
    simp [LeR, rnf, aget, envR, tabR, injR, notIn, loR, V.rn, V.rnL, V.bd, V.bdL, Blk.rn, Blk.bd, envRn, envBd, hw, wrap_i64 ((i : Int) + 1) (by omega) (by omega)]
  · have : i = l.length := by simp at h1; omega
    subst this
    rw [List.take_of_length_le (Nat.le_refl _)]
    refine T_fin ?_
    simp only [push_cast, reduceIte, Nat.reduceMul, Nat.reduceEqDiff, Nat.reduceAdd, Nat.reduceLT, Nat.reduceLeDiff, reduceCtorEq, Int.reduceToNat]
    refine (wide8_fv WG (b.length + sizeL l) (by omega)).call rfl ?_
    simp only [push_cast, reduceIte, Nat.reduceMul, Nat.reduceEqDiff, Nat.reduceAdd, Nat.reduceLT, Nat.reduceLeDiff, reduceCtorEq, Int.reduceToNat]
    have hwl := wide_len (n := b.length + sizeL l) (by omega)
    have hw4 : wideN (b.length + sizeL l) ≤ 4 := by rw [hwl]; exact lenB_le4 _
    rw [wrap_i64 (1 + (wideN (b.length + sizeL l) : Int)) (by omega) (by omega), wrap_i64 _ (by omega) (by omega)]
    have : sizeO (.mk t b l) = 1 + wideN (b.length + sizeL l) + (b.length + sizeL l) := by rw [sizeO, hwl]
    rw [this]; simp

set_option maxHeartbeats 8000000 in
theorem cloneOct_ct (WG : World) (l : List Oct) (hl : l.length < 16777216) : CallT Tryz.prog WG 129 ([.sl 3 (l.map octP)].map .p) [] 0 (cloneK 3 (l.map octP)) noP := by
  refine CallT.ownNil 3 (CallT.tidy (CallT_fn Tryz.func129 (rs := [.tmp 2]) (n := 8) rfl rfl (Nat.le_of_ble_eq_true rfl) rfl ?_))
  simp only [push_cast, reduceIte, Nat.reduceMul, Nat.reduceEqDiff, Nat.reduceAdd, Nat.reduceLT, Nat.reduceLeDiff, reduceCtorEq, Int.reduceToNat]
  exact ⟨⟨by first | omega | (simp; omega), clone_end (by simp)⟩, fun h => clone_nil h⟩
set_option maxHeartbeats 8000000 in
theorem cloneBs_ct (WG : World) (l : List UInt8) (hl : l.length < 16777216) : CallT Tryz.prog WG 128 ([.sl 1 (bytesP l)].map .p) [] 0 (cloneK 1 (bytesP l)) noP := by
  refine CallT.ownNil 1 (CallT.tidy (CallT_fn Tryz.func128 (rs := [.tmp 2]) (n := 8) rfl rfl (Nat.le_of_ble_eq_true rfl) rfl ?_))
  simp only [push_cast, reduceIte, Nat.reduceMul, Nat.reduceEqDiff, Nat.reduceAdd, Nat.reduceLT, Nat.reduceLeDiff, reduceCtorEq, Int.reduceToNat]
  exact ⟨⟨by first | omega | (simp [bytesP]; omega), clone_end (by simp [bytesP])⟩, fun h => clone_nil h⟩

set_option maxHeartbeats 16000000 in
theorem twin8_fv (WG : World) : ∀ v : Oct, smallO v → FV Tryz.prog WG 85 [octP v] (.p (octP v)) := by
  refine oct_ind fun t b l ih hs => ?_
  obtain ⟨hm, hb, hl, hsz⟩ := smallO_mem hs
  rw [octP_mk]
  refine CallT.pureS rfl (CallT_fnT Tryz.func85 (rs := [.cell 2 77]) (n := 29) rfl rfl (Nat.le_of_ble_eq_true rfl) rfl ?_)
  refine T_seqC ?_
  simp only [push_cast, reduceIte, Nat.reduceMul, Nat.reduceEqDiff, Nat.reduceAdd, Nat.reduceLT, Nat.reduceLeDiff, reduceCtorEq, Int.reduceToNat]
  refine T_seqC ?_
  refine T_drawS [2, 5, 7, 9] [(4, 0)] mixed (by kernel_rfl) ?_
  simp only [push_cast, reduceIte, Nat.reduceMul, Nat.reduceEqDiff, Nat.reduceAdd, Nat.reduceLT, Nat.reduceLeDiff, reduceCtorEq, Int.reduceToNat]
  refine ⟨_, _, _, clone_call (cloneBs_ct WG b (by omega)) _ _, ?_⟩
  simp only [push_cast, reduceIte, Nat.reduceMul, Nat.reduceEqDiff, Nat.reduceAdd, Nat.reduceLT, Nat.reduceLeDiff, reduceCtorEq, Int.reduceToNat]
  refine ⟨_, _, _, clone_call (cloneOct_ct WG l (by omega)) _ _, ?_⟩
  simp only [push_cast, reduceIte, Nat.reduceMul, Nat.reduceEqDiff, Nat.reduceAdd, Nat.reduceLT, Nat.reduceLeDiff, reduceCtorEq, Int.reduceToNat]
  refine T_seqC ?_
  simp only [push_cast, reduceIte, Nat.reduceMul, Nat.reduceEqDiff, Nat.reduceAdd, Nat.reduceLT, Nat.reduceLeDiff, reduceCtorEq, Int.reduceToNat]
  refine T_loopR (fun i : Nat => ⟨[(1, .ref 0 0), (2, .ref 1 0), (14, .osl 3 3 0 l.length none), (15, vI l.length), (16, vI i)], [(0, .box [.p (pU8 t.toNat), .osl 2 1 0 (bytesP b).length none, .osl 3 3 0 l.length none]), (1, .box [.p (pU8 0), .p (.v (.slice none 0 0)), .p (.v (.slice none 0 0))]), (2, .arr 1 (bytesP b) true), (3, .arr 3 (l.map octP) true)], 4, 0, 29⟩)
    (fun i => i ≤ l.length) (fun i => l.length - i) 0 [] (Nat.zero_le _) (by simp [LeR, rnf, aget, envR, tabR, injR, notIn, loR, V.rn, V.rnL, V.bd, V.bdL, Blk.rn, Blk.bd, envRn, envBd]) (fun i hi => ?_)
  simp only [push_cast, reduceIte, Nat.reduceMul, Nat.reduceEqDiff, Nat.reduceAdd, Nat.reduceLT, Nat.reduceLeDiff, reduceCtorEq, Int.reduceToNat]
  refine ⟨fun h1 => ?_, fun h1 => ?_⟩
  · have h2 : i < l.length := by simpa using h1
    have hg : l[i]? = some l[i] := List.getElem?_eq_getElem h2
    have ihx := ih _ (List.mem_of_getElem? hg) (hm _ (List.mem_of_getElem? hg))
    generalize l[i] = x at hg ihx
    have hset : (l.map octP).set i (octP x) = l.map octP := by
      apply List.ext_getElem?
      intro k
      rw [List.getElem?_set]
      split
      · rename_i e; subst e; rw [List.getElem?_map, hg]; simp [h2]
      · rfl
    obtain ⟨t', b', l'⟩ := x
    rw [octP_mk] at ihx hset
    simp only [push_cast, reduceIte, Nat.reduceMul, Nat.reduceEqDiff, Nat.reduceAdd, Nat.reduceLT, Nat.reduceLeDiff, reduceCtorEq, Int.reduceToNat, List.getElem?_map, hg, Option.map_some, octP_mk]
    refine ⟨by omega, ?_⟩
    refine T_drawS [6] [] mixed (by kernel_rfl) ?_
    simp only [push_cast, reduceIte, Nat.reduceMul, Nat.reduceEqDiff, Nat.reduceAdd, Nat.reduceLT, Nat.reduceLeDiff, reduceCtorEq, Int.reduceToNat]
    refine ⟨_, ihx.v rfl, ?_⟩
    simp only [push_cast, reduceIte, Nat.reduceMul, Nat.reduceEqDiff, Nat.reduceAdd, Nat.reduceLT, Nat.reduceLeDiff, reduceCtorEq, Int.reduceToNat, List.getElem?_map, hg, Option.map_some, octP_mk]
    refine ⟨by omega, i + 1, by omega, by omega, [], ?_⟩
    simp [LeR, rnf, aget, envR, tabR, injR, notIn, loR, V.rn, V.rnL, V.bd, V.bdL, Blk.rn, Blk.bd, envRn, envBd, setE, putP, hset, wrap_i64 ((i : Int) + 1) (by omega) (by omega)]
  · have : i = l.length := by simp at h1; omega
    subst this
    refine T_fin ?_
    simp only [push_cast, reduceIte, Nat.reduceMul, Nat.reduceEqDiff, Nat.reduceAdd, Nat.reduceLT, Nat.reduceLeDiff, reduceCtorEq, Int.reduceToNat]
    simp [List.take_of_length_le]
end Go.Proofs.YtgekglfmianoeaaGreatDoor

namespace Go.Proofs.YtgekglfmianoeaaGreatDoor
open Go Go.Gp
set_option maxHeartbeats 8000000 in
theorem seq8_fv (WG : World) (t : UInt8) (l : List Oct) (hs : smallO (.mk t [] l)) : FV Tryz.prog WG 35 [pU8 t.toNat, .sl 3 (l.map octP)] (.p (octP (.mk t [] l))) := by
  refine CallT.pureS rfl (CallT_fnT Tryz.func35 (rs := [.cell 4 77]) (n := 9) rfl rfl (Nat.le_of_ble_eq_true rfl) rfl ?_)
  refine T_seqC ?_
  simp only [push_cast, reduceIte, Nat.reduceMul, Nat.reduceEqDiff, Nat.reduceAdd, Nat.reduceLT, Nat.reduceLeDiff, reduceCtorEq, Int.reduceToNat]
  refine T_seqC ?_
  simp only [push_cast, reduceIte, Nat.reduceMul, Nat.reduceEqDiff, Nat.reduceAdd, Nat.reduceLT, Nat.reduceLeDiff, reduceCtorEq, Int.reduceToNat]
  have htw := twin8_fv WG (.mk t [] l) hs
  rw [octP_mk] at htw
  refine (htw.soft (ps := [.agg [pU8 t.toNat, .v (.slice none 0 0), .sl 3 (l.map octP)]]) (by simp [softA, soft1, softL, softV, bytesP])).call rfl ?_
  simp only [push_cast, reduceIte, Nat.reduceMul, Nat.reduceEqDiff, Nat.reduceAdd, Nat.reduceLT, Nat.reduceLeDiff, reduceCtorEq, Int.reduceToNat]
  refine T_fin ?_
  simp only [push_cast, reduceIte, Nat.reduceMul, Nat.reduceEqDiff, Nat.reduceAdd, Nat.reduceLT, Nat.reduceLeDiff, reduceCtorEq, Int.reduceToNat]
  simp [octP_mk]
end Go.Proofs.YtgekglfmianoeaaGreatDoor

namespace Go.Proofs.YtgekglfmianoeaaGreatDoor
open Go Go.Gp
theorem numB_lenB {n : Nat} (h : 128 ≤ n) (h2 : n < 16777216) : lenB n = UInt8.ofNat (128 + nbN n) :: numB n ∧ (numB n).length = nbN n := by
  have st : ∀ x : Nat, x ≠ 0 → x < 16777216 → numB x = numB (x / 256) ++ [UInt8.ofNat x] := fun x hx h => numB_step hx (by omega)
  by_cases h3 : n < 256
  · have e1 := nbN_le (x := n) (k := 1) (by omega)
    have e2 := nbN_gt (x := n) (k := 0) (by omega)
    have e : nbN n = 1 := by omega
    have z : n / 256 = 0 := by omega
    have : numB n = [UInt8.ofNat n] := by rw [st n (by omega) h2, z, numB_zero]; rfl
    rw [this, e, lenB, if_neg (by omega), if_pos h3]
    exact ⟨rfl, rfl⟩
  · by_cases h4 : n < 65536
    · have e1 := nbN_le (x := n) (k := 2) (by omega)
      have e2 := nbN_gt (x := n) (k := 1) (by omega)
      have e : nbN n = 2 := by omega
      have z : n / 256 / 256 = 0 := by omega
      have : numB n = [UInt8.ofNat (n / 256), UInt8.ofNat n] := by rw [st n (by omega) h2, st (n / 256) (by omega) (by omega), z, numB_zero]; rfl
      rw [this, e, lenB, if_neg (by omega), if_neg h3, if_pos h4]
      exact ⟨rfl, rfl⟩
    · have e1 := nbN_le (x := n) (k := 3) (by omega)
      have e2 := nbN_gt (x := n) (k := 2) (by omega)
      have e : nbN n = 3 := by omega
      have z : n / 256 / 256 / 256 = 0 := by omega
      have : numB n = [UInt8.ofNat (n / 65536), UInt8.ofNat (n / 256), UInt8.ofNat n] := by
        rw [st n (by omega) h2, st (n / 256) (by omega) (by omega), st (n / 256 / 256) (by omega) (by omega), z, numB_zero, Nat.div_div_eq_div_mul]; rfl
      rw [this, e, lenB, if_neg (by omega), if_neg h3, if_neg h4]
      exact ⟨rfl, rfl⟩

theorem rn1 {b nx : Nat} (h : b < nx) : ∀ k, k < 1 → rnf [(0, b)] k < nx := fun k hk => by
  obtain rfl : k = 0 := by omega
  simpa [rnf, aget] using h
def putK (ys : List PV) : V → Tab → Nat → Prop := fun r t n => r = .osl 1 1 0 ys.length none ∧ t = [(1, .arr 1 ys true)] ∧ n = 2
set_option maxHeartbeats 16000000 in
theorem put8_ct (WG : World) : ∀ v : Oct, smallO v → ∀ pre : List UInt8, pre.length + sizeO v < 1000000000 → CallT Tryz.prog WG 88 [.osl 0 1 0 pre.length none, .p (octP v)] [(0, .arr 1 (bytesP pre) true)] 1 (putK (bytesP (pre ++ enc v))) noP := by
  refine oct_ind fun t b l ih hs pre hpre => ?_
  obtain ⟨hm, hb, hl, hsz⟩ := smallO_mem hs
  simp only [sizeO] at hpre
  rw [octP_mk]
  refine CallT.tidy (CallT_fnT Tryz.func88 (rs := [.tmp 4]) (n := 78) rfl rfl (Nat.le_of_ble_eq_true rfl) rfl ?_)
  refine T_seqC ?_
  simp only [push_cast, reduceIte, Nat.reduceMul, Nat.reduceEqDiff, Nat.reduceAdd, Nat.reduceLT, Nat.reduceLeDiff, reduceCtorEq, Int.reduceToNat]
  refine T_seqC ?_
  simp only [push_cast, reduceIte, Nat.reduceMul, Nat.reduceEqDiff, Nat.reduceAdd, Nat.reduceLT, Nat.reduceLeDiff, reduceCtorEq, Int.reduceToNat]
  refine T_seqC ?_
  simp only [push_cast, reduceIte, Nat.reduceMul, Nat.reduceEqDiff, Nat.reduceAdd, Nat.reduceLT, Nat.reduceLeDiff, reduceCtorEq, Int.reduceToNat]
  refine T_loopR (fun i : Nat => ⟨[(0, .osl 0 1 0 pre.length none), (3, .ref 1 0), (5, vI ((b.length + sizeL (l.take i) : Nat) : Int)), (16, .p (.sl 3 (l.map octP))), (17, vI l.length), (18, vI i)], [(0, .arr 1 (bytesP pre) true), (1, .box [.p (pU8 t.toNat), .p (.sl 1 (bytesP b)), .p (.sl 3 (l.map octP))])], 2, 1, 78⟩)
    (fun i => i ≤ l.length) (fun i => l.length - i) 0 [] (Nat.zero_le _) (by simp [LeR, rnf, aget, envR, tabR, injR, notIn, loR, V.rn, V.rnL, V.bd, V.bdL, Blk.rn, Blk.bd, envRn, envBd, sizeL, bytesP_length]) (fun i hi => ?_)
  simp only [push_cast, reduceIte, Nat.reduceMul, Nat.reduceEqDiff, Nat.reduceAdd, Nat.reduceLT, Nat.reduceLeDiff, reduceCtorEq, Int.reduceToNat]
  refine ⟨fun h1 => ?_, fun h1 => ?_⟩
  · have h2 : i < l.length := by simpa using h1
    have hg : l[i]? = some l[i] := List.getElem?_eq_getElem h2
    have hst := sizeL_take hg
    have hle := sizeL_le l (i + 1)
    have ihx := size8_fv WG _ (hm _ (List.mem_of_getElem? hg))
    generalize l[i] = x at hg hst ihx
    obtain ⟨t', b', l'⟩ := x
    rw [octP_mk] at ihx
    simp only [push_cast, reduceIte, Nat.reduceMul, Nat.reduceEqDiff, Nat.reduceAdd, Nat.reduceLT, Nat.reduceLeDiff, reduceCtorEq, Int.reduceToNat, List.getElem?_map, hg, Option.map_some, octP_mk]
    refine ⟨by omega, ?_⟩
    refine ihx.call rfl ?_
    simp only [push_cast, reduceIte, Nat.reduceMul, Nat.reduceEqDiff, Nat.reduceAdd, Nat.reduceLT, Nat.reduceLeDiff, reduceCtorEq, Int.reduceToNat]
    have hw : IntKind.i64.wrap ((b.length : Int) + (sizeL (l.take i) : Int) + (sizeO (.mk t' b' l') : Int)) = (b.length : Int) + (sizeL (l.take (i + 1)) : Int) := by
      rw [hst, wrap_i64 _ (by omega) (by omega)]; omega
    refine ⟨i + 1, by omega, by omega, [], ?_⟩
    simp [LeR, rnf, aget, envR, tabR, injR, notIn, loR, V.rn, V.rnL, V.bd, V.bdL, Blk.rn, Blk.bd, envRn, envBd, hw, wrap_i64 ((i : Int) + 1) (by omega) (by omega)]
  · have : i = l.length := by simp at h1; omega
    subst this
    rw [List.take_of_length_le (Nat.le_refl _)]
    refine T_seqC ?_
    simp only [push_cast, reduceIte, Nat.reduceMul, Nat.reduceEqDiff, Nat.reduceAdd, Nat.reduceLT, Nat.reduceLeDiff, reduceCtorEq, Int.reduceToNat]
    have hpl : (bytesP pre).length = pre.length := bytesP_length pre
    have ht : (bytesP pre).take pre.length = bytesP pre := List.take_of_length_le (Nat.le_of_eq hpl)
    refine ⟨⟨by omega, by omega⟩, ?_⟩
    generalize hn : b.length + sizeL l = n at hsz hpre
    have h4 := lenB_le4 n
    have h4p := lenB_pos n
    have cast : ((b.length : Int) + (sizeL l : Int)) = (n : Int) := by omega
    refine T_cutR (fun _ : Unit => ⟨[(0, .osl 2 1 0 (pre.length + 1 + (lenB n).length) none), (3, .ref 1 0)], [(1, .box [.p (pU8 t.toNat), .p (.sl 1 (bytesP b)), .p (.sl 3 (l.map octP))]), (2, .arr 1 (bytesP (pre ++ t :: lenB n)) true)], 3, 1, 78⟩) (fun _ => True) ?_ (fun _ _ => ?_)
    · simp only [push_cast, reduceIte, Nat.reduceMul, Nat.reduceEqDiff, Nat.reduceAdd, Nat.reduceLT, Nat.reduceLeDiff, reduceCtorEq, Int.reduceToNat, cast]
      refine (wide8_fv WG n (by omega)).call rfl ?_
      simp only [push_cast, reduceIte, Nat.reduceMul, Nat.reduceEqDiff, Nat.reduceAdd, Nat.reduceLT, Nat.reduceLeDiff, reduceCtorEq, Int.reduceToNat]
      have hwl := wide_len (n := n) (by omega)
      rw [wrap_i64 ((wideN n : Int) - 1) (by omega) (by omega)]
      refine ⟨fun h2 => ?_, fun h2 => ?_⟩
      · have hlt : n < 128 := by
          have : wideN n = 1 := by simp at h2; omega
          rw [hwl, lenB_len] at this
          split at this
          · assumption
          · split at this
            · omega
            · split at this <;> omega
        have e : lenB n = [UInt8.ofNat n] := by rw [lenB, if_pos hlt]
        have ht2 : (bytesP pre ++ [PV.v (.int .u8 t.toNat)]).take (pre.length + 1) = bytesP pre ++ [PV.v (.int .u8 t.toNat)] := List.take_of_length_le (by simp [hpl])
        have hc : bytesP pre ++ [PV.v (.int .u8 t.toNat)] ++ [PV.v (.int .u8 ((n % 256 : Nat) : Int))] = bytesP (pre ++ t :: lenB n) := by
          rw [e]; simp [bytesP, byteP]
        rw [ht, ht2, wrap_u8, hc]
        refine ⟨⟨by simp [hpl], by omega⟩, (), [(2, 5)], ?_⟩
        simp [LeR, rnf, aget, envR, tabR, injR, notIn, loR, V.rn, V.rnL, V.bd, V.bdL, Blk.rn, Blk.bd, envRn, envBd, e]
      · have hge : 128 ≤ n := by
          have : wideN n ≠ 1 := by simp at h2; omega
          rw [hwl, lenB_len] at this
          split at this
          · exact absurd rfl this
          · omega
        obtain ⟨hlb, hnl⟩ := numB_lenB hge (by omega)
        have hk : (wideN n : Int) - 1 = nbN n := by rw [wideN, if_neg (by omega)]; simp; omega
        have hk4 : nbN n ≤ 3 := by rw [hlb] at h4; simp [hnl] at h4; omega
        rw [hk, ht]
        have ht2 : (bytesP pre ++ [PV.v (.int .u8 t.toNat)]).take (pre.length + 1) = bytesP pre ++ [PV.v (.int .u8 t.toNat)] := List.take_of_length_le (by simp [hpl])
        have hw1 : IntKind.u8.wrap (IntKind.i64.wrap (128 + (nbN n : Int))) = (((128 + nbN n) % 256 : Nat) : Int) := by
          rw [wrap_i64 _ (by omega) (by omega), show (128 : Int) + (nbN n : Int) = ((128 + nbN n : Nat) : Int) by omega, wrap_u8]
        have hc : bytesP pre ++ [PV.v (.int .u8 t.toNat)] ++ [PV.v (.int .u8 (((128 + nbN n) % 256 : Nat) : Int))] = bytesP (pre ++ t :: [UInt8.ofNat (128 + nbN n)]) := by
          simp [bytesP, byteP]
        rw [ht2, hw1, hc, wrap_i64 ((nbN n : Int) - 1) (by omega) (by omega)]
        refine ⟨⟨by simp [hpl], by omega⟩, ?_⟩
        refine T_loopR (fun j : Nat => ⟨[(0, .osl 2 1 0 (pre.length + 2 + (nbN n - j)) none), (3, .ref 1 0), (5, vI n), (9, vI ((j : Int) - 1))], [(1, .box [.p (pU8 t.toNat), .p (.sl 1 (bytesP b)), .p (.sl 3 (l.map octP))]), (2, .arr 1 (bytesP (pre ++ t :: UInt8.ofNat (128 + nbN n) :: numB (n / 256 ^ j))) true)], 3, 1, 78⟩)
          (fun j => j ≤ nbN n ∧ (numB (n / 256 ^ j)).length = nbN n - j) (fun j => j) (nbN n) [(2, 5)] ?_ ?_ (fun j hj => ?_)
        · have : n / 256 ^ nbN n = 0 := Nat.div_eq_of_lt (nbN_lt n)
          rw [this]; simp [numB_zero]
        · have : n / 256 ^ nbN n = 0 := Nat.div_eq_of_lt (nbN_lt n)
          simp [LeR, rnf, aget, envR, tabR, injR, notIn, loR, V.rn, V.rnL, V.bd, V.bdL, Blk.rn, Blk.bd, envRn, envBd, this, numB_zero]
        simp only [push_cast, reduceIte, Nat.reduceMul, Nat.reduceEqDiff, Nat.reduceAdd, Nat.reduceLT, Nat.reduceLeDiff, reduceCtorEq, Int.reduceToNat]
        obtain ⟨hj1, hj2⟩ := hj
        refine ⟨fun h3 => ?_, fun h3 => ?_⟩
        · have h5 : 0 < j := by simp at h3; omega
          have h2e : n / 256 ^ (j - 1) / 256 = n / 256 ^ j := by rw [Nat.div_div_eq_div_mul, ← Nat.pow_succ, show (j - 1).succ = j by omega]
          have hne : n / 256 ^ (j - 1) ≠ 0 := by
            have := Nat.le_trans (Nat.pow_le_pow_right (show 1 ≤ 256 by omega) (show j - 1 ≤ nbN n - 1 by omega)) (nbN_ge (x := n) (by omega))
            have := Nat.div_pos this (Nat.pow_pos (n := j - 1) (show 0 < 256 by omega))
            omega
          have hlt : n / 256 ^ (j - 1) < 18446744073709551616 := Nat.lt_of_le_of_lt (Nat.div_le_self _ _) (by omega)
          have hst := numB_step hne hlt
          rw [h2e] at hst
          have hw2 : IntKind.i64.wrap (8 * ((j : Int) - 1)) = ((8 * (j - 1) : Nat) : Int) := by rw [wrap_i64 _ (by omega) (by omega)]; omega
          have hv : IntKind.u8.wrap ((n : Int).fdiv (2 ^ shAmt .i64 ((8 * (j - 1) : Nat) : Int))) = ((n / 256 ^ (j - 1) % 256 : Nat) : Int) := by
            rw [shr_nat n (8 * (j - 1)) .i64 (by show 8 * (j - 1) ≤ 64; omega), wrap_u8, Nat.pow_mul]
          have hlen : (bytesP (pre ++ t :: UInt8.ofNat (128 + nbN n) :: numB (n / 256 ^ j))).length = pre.length + 2 + (nbN n - j) := by
            rw [bytesP_length, List.length_append, List.length_cons, List.length_cons, hj2]; omega
          have hc2 : (bytesP (pre ++ t :: UInt8.ofNat (128 + nbN n) :: numB (n / 256 ^ j))).take (pre.length + 2 + (nbN n - j)) ++ [.v (.int .u8 ((n / 256 ^ (j - 1) % 256 : Nat) : Int))] = bytesP (pre ++ t :: UInt8.ofNat (128 + nbN n) :: numB (n / 256 ^ (j - 1))) := by
            rw [List.take_of_length_le (Nat.le_of_eq hlen), bytesP_snoc, hst]; simp
          rw [hw2, hv, hc2]
          refine ⟨by omega, ⟨by omega, by omega⟩, j - 1, ⟨by omega, by rw [hst, List.length_append, hj2, List.length_singleton]; omega⟩, by omega, [(2, 4)], ?_⟩
          simp [LeR, rnf, aget, envR, tabR, injR, notIn, loR, V.rn, V.rnL, V.bd, V.bdL, Blk.rn, Blk.bd, envRn, envBd, wrap_i64 ((j : Int) - 1 - 1) (by omega) (by omega)]
          omega
        · have : j = 0 := by simp at h3; omega
          subst this
          refine ⟨(), [], ?_⟩
          simp [LeR, rnf, aget, envR, tabR, injR, notIn, loR, V.rn, V.rnL, V.bd, V.bdL, Blk.rn, Blk.bd, envRn, envBd, hlb, hnl]
          omega
    · have hcl : (bytesP (pre ++ t :: lenB n)).length = pre.length + 1 + (lenB n).length := by rw [bytesP_length, List.length_append, List.length_cons]; omega
      have hc0 : (bytesP (pre ++ t :: lenB n)).take (pre.length + 1 + (lenB n).length) = bytesP (pre ++ t :: lenB n) := List.take_of_length_le (Nat.le_of_eq hcl)
      refine T_seqC ?_
      simp only [push_cast, reduceIte, Nat.reduceMul, Nat.reduceEqDiff, Nat.reduceAdd, Nat.reduceLT, Nat.reduceLeDiff, reduceCtorEq, Int.reduceToNat]
      have hbl : (bytesP b).length = b.length := bytesP_length b
      rw [hc0]
      refine ⟨⟨by omega, by omega⟩, ?_⟩
      refine T_seqC ?_
      simp only [push_cast, reduceIte, Nat.reduceMul, Nat.reduceEqDiff, Nat.reduceAdd, Nat.reduceLT, Nat.reduceLeDiff, reduceCtorEq, Int.reduceToNat]
      refine T_loopR (fun i : Nat => ⟨[(0, .osl 2 1 0 (pre.length + 1 + (lenB n).length + b.length + sizeL (l.take i)) none), (3, .ref 1 0), (67, .p (.sl 3 (l.map octP))), (68, vI l.length), (69, vI i)], [(1, .box [.p (pU8 t.toNat), .p (.sl 1 (bytesP b)), .p (.sl 3 (l.map octP))]), (2, .arr 1 (bytesP (pre ++ t :: (lenB n ++ (b ++ encL (l.take i))))) true)], 3, 1, 78⟩)
        (fun i => i ≤ l.length) (fun i => l.length - i) 0 [(2, 3)] (Nat.zero_le _) (by simp [LeR, rnf, aget, envR, tabR, injR, notIn, loR, V.rn, V.rnL, V.bd, V.bdL, Blk.rn, Blk.bd, envRn, envBd, sizeL, encL, bytesP]) (fun i hi => ?_)
      simp only [push_cast, reduceIte, Nat.reduceMul, Nat.reduceEqDiff, Nat.reduceAdd, Nat.reduceLT, Nat.reduceLeDiff, reduceCtorEq, Int.reduceToNat]
      refine ⟨fun h3 => ?_, fun h3 => ?_⟩
      · have h5 : i < l.length := by simpa using h3
        have hg : l[i]? = some l[i] := List.getElem?_eq_getElem h5
        have hst := sizeL_take hg
        have hle := sizeL_le l (i + 1)
        have hmx := hm _ (List.mem_of_getElem? hg)
        have hlen : (pre ++ t :: (lenB n ++ (b ++ encL (l.take i)))).length = pre.length + 1 + (lenB n).length + b.length + sizeL (l.take i) := by
          simp only [List.length_append, List.length_cons, encL_length]; omega
        have ihx := ih _ (List.mem_of_getElem? hg) hmx (pre ++ t :: (lenB n ++ (b ++ encL (l.take i)))) (by rw [hlen]; omega)
        generalize l[i] = x at hg hst ihx
        have hen : pre ++ t :: (lenB n ++ (b ++ encL (l.take i))) ++ enc x = pre ++ t :: (lenB n ++ (b ++ encL (l.take (i + 1)))) := by
          rw [List.take_add_one, hg, encL_append]; simp [encL]
        rw [hen, hlen] at ihx
        obtain ⟨t', b', l'⟩ := x
        rw [octP_mk] at ihx
        simp only [push_cast, reduceIte, Nat.reduceMul, Nat.reduceEqDiff, Nat.reduceAdd, Nat.reduceLT, Nat.reduceLeDiff, reduceCtorEq, Int.reduceToNat, List.getElem?_map, hg, Option.map_some, octP_mk]
        refine ⟨by omega, ?_⟩
        refine CallT.frameL [(0, 2)] ihx (by simp [V.rnL, V.rn, rnf, aget]) (by simp [V.bd, V.bdL]) (by simp [LeR, rnf, aget, envR, tabR, injR, notIn, loR, V.rn, V.rnL, V.bd, V.bdL, Blk.rn, Blk.bd, envRn, envBd]) (by simp [LeR, rnf, aget, envR, tabR, injR, notIn, loR, V.rn, V.rnL, V.bd, V.bdL, Blk.rn, Blk.bd, envRn, envBd]) (rn1 (by omega)) (fun r t1 n1 hq => ?_) (fun _ _ _ h => h.elim)
        obtain ⟨rfl, rfl, rfl⟩ := hq
        simp only [V.rn, frf, restT, trn, rnf, adel, Blk.rn, push_cast, reduceIte, Nat.reduceMul, Nat.reduceEqDiff, Nat.reduceAdd, Nat.reduceLT, Nat.reduceLeDiff, reduceCtorEq, Int.reduceToNat]
        have hlen2 : (bytesP (pre ++ t :: (lenB n ++ (b ++ encL (l.take (i + 1)))))).length = pre.length + 1 + (lenB n).length + b.length + sizeL (l.take (i + 1)) := by
          rw [bytesP_length]; simp only [List.length_append, List.length_cons, encL_length]; omega
        refine ⟨i + 1, by omega, by omega, [(2, 4)], ?_⟩
        rw [hlen2]
        simp [LeR, rnf, aget, envR, tabR, injR, notIn, loR, V.rn, V.rnL, V.bd, V.bdL, Blk.rn, Blk.bd, envRn, envBd, wrap_i64 ((i : Int) + 1) (by omega) (by omega)]
      · have : i = l.length := by simp at h3; omega
        subst this
        rw [List.take_of_length_le (Nat.le_refl _)]
        refine T_fin ?_
        simp only [push_cast, reduceIte, Nat.reduceMul, Nat.reduceEqDiff, Nat.reduceAdd, Nat.reduceLT, Nat.reduceLeDiff, reduceCtorEq, Int.reduceToNat]
        have he : pre ++ enc (.mk t b l) = pre ++ t :: (lenB n ++ (b ++ encL l)) := by
          rw [enc, List.length_append, encL_length, hn]
        have hlen2 : (bytesP (pre ++ t :: (lenB n ++ (b ++ encL l)))).length = pre.length + 1 + (lenB n).length + b.length + sizeL l := by
          rw [bytesP_length]; simp only [List.length_append, List.length_cons, encL_length]; omega
        rw [he, ← hlen2]
        refine ⟨[(1, 2)], .osl 1 1 0 (bytesP (pre ++ t :: (lenB n ++ (b ++ encL l)))).length none, [(1, .arr 1 (bytesP (pre ++ t :: (lenB n ++ (b ++ encL l)))) true)], 2, ⟨rfl, rfl, rfl⟩, rfl, ?_, by omega, ?_⟩
        · simp [V.bd]
        · simp [LeR, rnf, aget, envR, tabR, injR, notIn, loR, V.rn, V.rnL, V.bd, V.bdL, Blk.rn, Blk.bd, envRn, envBd]

theorem put8_fv (WG : World) (v : Oct) (hs : smallO v) : FV Tryz.prog WG 88 [.v (.slice none 0 0), octP v] (.p (.sl 1 (bytesP (enc v)))) := by
  refine CallT.pureS rfl (CallT.nilArg 1 ((put8_ct WG v hs [] (by unfold smallO at hs; simp; omega)).mono (fun r t n hq => ?_) (fun _ _ _ h => h.elim)))
  obtain ⟨rfl, rfl, rfl⟩ := hq
  simp [snapR, snap, snap1, aget, List.take_of_length_le]

mutual
def preO : Oct → Nat → List (Oct × Nat)
  | .mk t b l, d => (.mk t b l, d) :: preOL l (d + 1)
def preOL : List Oct → Nat → List (Oct × Nat)
  | [], _ => []
  | x :: r, d => preO x d ++ preOL r d
end
end Go.Proofs.YtgekglfmianoeaaGreatDoor

namespace Go.Proofs.YtgekglfmianoeaaGreatDoor
open Go Go.Gp
abbrev allC (v : Oct) (d : Int) : PV := .clo (.func 160) [] [.ptr (octP v) 0, .ptr (.agg [pI d]) 0]
set_option maxHeartbeats 4000000 in
theorem all_fv (WG : World) (v : Oct) (d : Int) : FV Tryz.prog WG 130 [octP v, pI d] (.p (allC v d)) := by
  obtain ⟨t, b, l⟩ := v
  rw [allC, octP_mk]
  refine CallT.pureS rfl (CallT_fn Tryz.func130 (rs := [.tmp 4]) (n := 6) rfl rfl (Nat.le_of_ble_eq_true rfl) rfl ?_)
  simp only [push_cast, reduceIte, Nat.reduceMul, Nat.reduceEqDiff, Nat.reduceAdd, Nat.reduceLT, Nat.reduceLeDiff, reduceCtorEq, Int.reduceToNat, fin_yld]
  simp [Gp.snapL, snap1, aget, allP]

theorem beside_tail {X t : Tab} {n m : Nat} {y : Blk} (h : Beside ((m, y) :: X) t n) (hm : aget X m = none) : Beside X t n :=
  ⟨fun k x hk => h.off k x (SubT.drop hm k x hk), fun k x hk => h.low k x (SubT.drop hm k x hk), fun k x hk => h.bx k x (SubT.drop hm k x hk)⟩
def elO (p : Oct × Nat) : List V := [.p (octP p.1), .p (pI p.2)]
def EO (x : List V) : Prop := ∃ v k, x = elO (v, k)
theorem pre_E {l : List (Oct × Nat)} : ∀ x ∈ l.map elO, EO x := fun x hx => by
  obtain ⟨p, _, rfl⟩ := List.mem_map.1 hx
  exact ⟨p.1, p.2, rfl⟩
set_option maxHeartbeats 16000000 in
theorem iter8 (WG : World) : ∀ v : Oct, smallO v → ∀ (d b : Nat) (J : List (List V) → Tab → Nat → Prop) (F : Tab → Nat → Prop), Prot Tryz.prog WG b J F → d + depthO v < 1000000000 → ∀ L t n, J ((preO v d).map elO ++ L) t n →
    CallT Tryz.prog WG 160 [.yld b, .p (.ptr (octP v) 0), .p (.ptr (.agg [pI d]) 0)] t n (fun _ t' n' => J L t' n' ∨ F t' n') noP := by
  refine oct_ind fun tg bs l ih hs d b J F hP hd L t n hJ => ?_
  obtain ⟨hsm, hsb, hsl, hsz⟩ := smallO_mem hs
  refine CallT.sub (CallT.low fun hlow => ?_)
  rw [octP_mk]
  simp only [depthO] at hd
  simp only [preO, List.map_cons, List.cons_append] at hJ
  have hel : elO (.mk tg bs l, d) = [.p (.agg [pU8 tg.toNat, .sl 1 (bytesP bs), .sl 3 (l.map octP)]), .p (pI d)] := by rw [elO, octP_mk]
  rw [hel] at hJ
  have hn : aget t n = none := by
    cases hq : aget t n with
    | none => rfl
    | some x => exact absurd (hlow n x hq) (Nat.lt_irrefl _)
  have hB : Beside [(n, .box [.yld b])] t (n + 1) := (Beside.nil (n := n)).cons hn (Nat.le_refl _) rfl
  refine CallT_fnT Tryz.func160 (rs := []) (n := 32) rfl rfl (Nat.le_of_ble_eq_true rfl) rfl ?_
  refine T_seqC ?_
  simp only [push_cast, reduceIte, Nat.reduceMul, Nat.reduceEqDiff, Nat.reduceAdd, Nat.reduceLT, Nat.reduceLeDiff, reduceCtorEq, Int.reduceToNat, fin_yld]
  refine T_weak (Weak.sub (t' := (n, .box [.yld b]) :: t) (SubT.aset t n _)) ?_
  dsimp only
  refine T_seqC ?_
  simp only [push_cast, reduceIte, Nat.reduceMul, Nat.reduceEqDiff, Nat.reduceAdd, Nat.reduceLT, Nat.reduceLeDiff, reduceCtorEq, Int.reduceToNat, fin_yld]
  refine (((hP.yld _ _ _ _ (hP.bump _ _ _ (n + 1) (by omega) hJ)).beside hB).mono (fun r t1 n1 hq => ?_))
  obtain ⟨t0, rfl, hB0, hle, hK⟩ := hq
  rcases hK with ⟨rfl, hJ1⟩ | ⟨rfl, hF⟩
  · simp only [push_cast, reduceIte, Nat.reduceMul, Nat.reduceEqDiff, Nat.reduceAdd, Nat.reduceLT, Nat.reduceLeDiff, reduceCtorEq, Int.reduceToNat, fin_yld]
    refine T_seqC ?_
    simp only [push_cast, reduceIte, Nat.reduceMul, Nat.reduceEqDiff, Nat.reduceAdd, Nat.reduceLT, Nat.reduceLeDiff, reduceCtorEq, Int.reduceToNat, fin_yld]
    refine T_block ?_
    refine T_loopW (fun p : Nat × Tab × Nat => ⟨[(1, .p (.ptr (.agg [pU8 tg.toNat, .sl 1 (bytesP bs), .sl 3 (l.map octP)]) 0)), (2, .p (.ptr (.agg [pI d]) 0)), (3, .ref n 0), (14, .p (.sl 3 (l.map octP))), (15, vI l.length), (16, vI p.1)], (n, .box [.yld b]) :: p.2.1, p.2.2, n, 32⟩)
      (fun p => p.1 ≤ l.length ∧ J ((preOL (l.drop p.1) (d + 1)).map elO ++ L) p.2.1 p.2.2 ∧ n < p.2.2 ∧ aget p.2.1 n = none) (fun p => l.length - p.1) (0, t0, n1) ⟨Nat.zero_le _, hJ1, (show n < n1 by omega), hB0.off n (.box [.yld b]) (by simp [aget])⟩ ?_ (fun p hp => ?_)
    · exact Le.weak (by simp [Le, subE, aget])
    obtain ⟨i, t1, m⟩ := p
    obtain ⟨hi, hJi, hm, hni⟩ := hp
    simp only at hi hJi hm hni
    refine T_low fun hlow1 => ?_
    simp only at hlow1
    have hm1 : aget t1 m = none := by
      cases hq : aget t1 m with
      | none => rfl
      | some x => exact absurd (hlow1 m x (by simp only [aget]; rw [if_neg (by omega)]; exact hq)) (Nat.lt_irrefl _)
    refine wpC_sound _ _ _ ?_
    simp only [push_cast, reduceIte, Nat.reduceMul, Nat.reduceEqDiff, Nat.reduceAdd, Nat.reduceLT, Nat.reduceLeDiff, reduceCtorEq, Int.reduceToNat, fin_yld]
    refine ⟨fun h1 => ?_, fun h1 => ?_⟩
    · have h2 : i < l.length := by simpa using h1
      have hg : l[i]? = some l[i] := List.getElem?_eq_getElem h2
      have hmem := List.mem_of_getElem? hg
      have hdr : l.drop i = l[i] :: l.drop (i + 1) := List.drop_eq_getElem_cons h2
      have hdx : depthO l[i] ≤ depthL l := depthL_mem (Nat.le_refl _) _ hmem
      rw [hdr] at hJi
      generalize l[i] = x at hg hmem hdx hJi
      simp only [preOL, List.map_append, List.append_assoc] at hJi
      have hnm : ¬ n = m := by omega
      have hmn : ¬ m = n := by omega
      have ihx := ih x hmem (hsm x hmem) (d + 1) (m + 1)
      have hall := all_fv WG x ((d + 1 : Nat) : Int)
      have hE := @pre_E (preO x (d + 1))
      generalize (preO x (d + 1)).map elO = els at hJi ihx hE
      obtain ⟨t', b', l'⟩ := x
      rw [allC] at hall
      rw [octP_mk] at hall ihx
      have hwd : IntKind.i64.wrap ((d : Int) + 1) = ((d + 1 : Nat) : Int) := by rw [wrap_i64 _ (by omega) (by omega)]; omega
      simp only [push_cast, reduceIte, Nat.reduceMul, Nat.reduceEqDiff, Nat.reduceAdd, Nat.reduceLT, Nat.reduceLeDiff, reduceCtorEq, Int.reduceToNat, List.getElem?_map, hg, Option.map_some, octP_mk, hnm, aget_aset, aset_aset, eq_self, if_true, if_false]
      rw [hwd]
      refine ⟨by omega, ?_⟩
      refine hall.call rfl ?_
      simp only [push_cast, reduceIte, Nat.reduceMul, Nat.reduceEqDiff, Nat.reduceAdd, Nat.reduceLT, Nat.reduceLeDiff, reduceCtorEq, Int.reduceToNat, hnm, aget_aset, aset_aset, eq_self, if_true, if_false]
      refine T_weak (Weak.sub (t' := (m, .box [.p (pU8 t'.toNat), .p (.sl 1 (bytesP b')), .p (.sl 3 (l'.map octP))]) :: (n, .box [.yld b]) :: t1) ((SubT.swap hnm _ _ t1).trans (SubT.cons _ (SubT.aset t1 m _)))) ?_
      dsimp only
      have hX : Beside [(m, .box [.p (pU8 t'.toNat), .p (.sl 1 (bytesP b')), .p (.sl 3 (l'.map octP))]), (n, .box [.yld b])] t1 (m + 1) := (((Beside.nil (t := t1) (n := n)).cons hni (Nat.le_refl _) rfl).mono (show n + 1 ≤ m by omega)).cons hm1 (Nat.le_refl _) rfl
      refine T_rangeP (X := [(m, .box [.p (pU8 t'.toNat), .p (.sl 1 (bytesP b')), .p (.sl 3 (l'.map octP))]), (n, .box [.yld b])]) (t := t1) (J := J) (F := F) (els := els) (rest := (preOL (l.drop (i + 1)) (d + 1)).map elO ++ L) EO rfl rfl (by kernel_rfl) rfl hX hE (fun x ⟨v, k, e⟩ => by subst e; rfl) (by kernel_rfl) hP.bump
        (fun J' F' hP' t3 n3 h3 => ihx J' F' hP' (by omega) [] t3 n3 (by simpa using h3)) ?_ (hP.bump _ _ _ (m + 1) (by omega) hJi) ?_ ?_
      · intro x M t2 m2 hm2 hB2 ⟨v, k, e⟩ hJ2
        subst e
        obtain ⟨t3, b3, l3⟩ := v
        have e1 : ¬ m = m2 := by simp only at hm2; omega
        have e2 : ¬ n = m2 := by simp only at hm2; omega
        have e3 : ¬ m2 = m := fun e => e1 e.symm
        have e4 : ¬ m2 = n := fun e => e2 e.symm
        rw [elO, octP_mk] at hJ2 ⊢
        refine T_low fun hlow2 => ?_
        simp only at hlow2
        have hn2 : aget ([(m, Blk.box [.p (pU8 t'.toNat), .p (.sl 1 (bytesP b')), .p (.sl 3 (l'.map octP))]), (n, .box [.yld b])] ++ t2) m2 = none := by
          cases hq : aget ([(m, Blk.box [.p (pU8 t'.toNat), .p (.sl 1 (bytesP b')), .p (.sl 3 (l'.map octP))]), (n, .box [.yld b])] ++ t2) m2 with
          | none => rfl
          | some x => exact absurd (hlow2 m2 x hq) (Nat.lt_irrefl _)
        have hm2n : aget t2 m2 = none := by
          simp only [List.cons_append, List.nil_append, aget, if_neg e1, if_neg e2] at hn2
          exact hn2
        refine wpC_sound _ _ _ ?_
        simp only [push_cast, reduceIte, Nat.reduceMul, Nat.reduceEqDiff, Nat.reduceAdd, Nat.reduceLT, Nat.reduceLeDiff, reduceCtorEq, Int.reduceToNat, fin_yld, hnm, hmn, e1, e2, e3, e4, aget_aset, aset_aset, eq_self, if_true, if_false, List.cons_append, List.nil_append]
        refine T_weak (Weak.sub (t' := (m2, .box [.p (pU8 t3.toNat), .p (.sl 1 (bytesP b3)), .p (.sl 3 (l3.map octP))]) :: (m, .box [.p (pU8 t'.toNat), .p (.sl 1 (bytesP b')), .p (.sl 3 (l'.map octP))]) :: (n, .box [.yld b]) :: t2) ((SubT.swap e1 _ _ _).trans (SubT.cons _ ((SubT.swap e2 _ _ _).trans (SubT.cons _ (SubT.aset t2 m2 _)))))) ?_
        dsimp only
        have hX2 : Beside [(m2, .box [.p (pU8 t3.toNat), .p (.sl 1 (bytesP b3)), .p (.sl 3 (l3.map octP))]), (m, .box [.p (pU8 t'.toNat), .p (.sl 1 (bytesP b')), .p (.sl 3 (l'.map octP))]), (n, .box [.yld b])] t2 (m2 + 1) := hB2.cons hm2n (Nat.le_refl _) rfl
        refine T_block ?_
        refine T_seqC ?_
        simp only [push_cast, reduceIte, Nat.reduceMul, Nat.reduceEqDiff, Nat.reduceAdd, Nat.reduceLT, Nat.reduceLeDiff, reduceCtorEq, Int.reduceToNat, fin_yld, hnm, hmn, e1, e2, e3, e4, eq_self, if_true, if_false]
        refine (((hP.yld _ _ _ _ (hP.bump _ _ _ (m2 + 1) (by omega) hJ2)).beside hX2).mono (fun r t4 n4 hq => ?_))
        obtain ⟨t5, rfl, hB5, hle5, hK⟩ := hq
        simp only at hm2
        have hX0 : aget [(m, Blk.box [.p (pU8 t'.toNat), .p (.sl 1 (bytesP b')), .p (.sl 3 (l'.map octP))]), (n, .box [.yld b])] m2 = none := by simp only [aget, if_neg e1, if_neg e2]
        have hdr5 : SubT ([(m, Blk.box [.p (pU8 t'.toNat), .p (.sl 1 (bytesP b')), .p (.sl 3 (l'.map octP))]), (n, .box [.yld b])] ++ t5) ((m2, .box [.p (pU8 t3.toNat), .p (.sl 1 (bytesP b3)), .p (.sl 3 (l3.map octP))]) :: ([(m, Blk.box [.p (pU8 t'.toNat), .p (.sl 1 (bytesP b')), .p (.sl 3 (l'.map octP))]), (n, .box [.yld b])] ++ t5)) := SubT.drop (by
          rw [aget_append, hX0]
          exact hB5.off m2 _ (by simp only [aget]; rw [if_pos trivial]))
        rcases hK with ⟨rfl, hJ5⟩ | ⟨rfl, hF⟩
        · simp only [push_cast, reduceIte, Nat.reduceMul, Nat.reduceEqDiff, Nat.reduceAdd, Nat.reduceLT, Nat.reduceLeDiff, reduceCtorEq, Int.reduceToNat, fin_yld]
          refine wpC_sound _ _ _ ?_
          simp only [push_cast, reduceIte, Nat.reduceMul, Nat.reduceEqDiff, Nat.reduceAdd, Nat.reduceLT, Nat.reduceLeDiff, reduceCtorEq, Int.reduceToNat, fin_yld]
          refine ⟨by omega, t5, hdr5, beside_tail hB5 hX0, hJ5⟩
        · simp only [push_cast, reduceIte, Nat.reduceMul, Nat.reduceEqDiff, Nat.reduceAdd, Nat.reduceLT, Nat.reduceLeDiff, reduceCtorEq, Int.reduceToNat, fin_yld]
          refine wpC_sound _ _ _ ?_
          simp only [push_cast, reduceIte, Nat.reduceMul, Nat.reduceEqDiff, Nat.reduceAdd, Nat.reduceLT, Nat.reduceLeDiff, reduceCtorEq, Int.reduceToNat, fin_yld]
          refine ⟨by omega, t5, hdr5, beside_tail hB5 hX0, hF⟩
      · intro t2 n2 t3 hB2 hn2 hJ2 hs
        simp only at hn2
        have hn2n : aget t2 n = none := hB2.off n (.box [.yld b]) (by simp only [aget, if_neg hmn]; rw [if_pos trivial])
        have hm2n : aget t2 m = none := hB2.off m _ (by simp only [aget]; rw [if_pos trivial])
        have hs1 : SubT ((n, .box [.yld b]) :: t2) t3 := SubT.trans (SubT.drop (by simp only [aget, if_neg hnm]; exact hm2n)) hs
        have hwi : IntKind.i64.wrap ((i : Int) + 1) = ((i + 1 : Nat) : Int) := by rw [wrap_i64 _ (by omega) (by omega)]; omega
        simp only [push_cast, reduceIte, Nat.reduceMul, Nat.reduceEqDiff, Nat.reduceAdd, Nat.reduceLT, Nat.reduceLeDiff, reduceCtorEq, Int.reduceToNat, fin_yld]
        exact ⟨(i + 1, t2, n2), ⟨h2, hJ2, (show n < n2 by omega), hn2n⟩, (show l.length - (i + 1) < l.length - i by omega), (Weak.sub hs1).trans (Le.weak (by simp [Le, subE, aget, hwi]))⟩
      · intro t2 n2 t3 hB2 hn2 hF hs
        simp only [push_cast, reduceIte, Nat.reduceMul, Nat.reduceEqDiff, Nat.reduceAdd, Nat.reduceLT, Nat.reduceLeDiff, reduceCtorEq, Int.reduceToNat, fin_yld]
        exact ⟨t2, (SubT.right hB2).trans hs, .inr hF⟩
    · have h2 : i = l.length := by simp at h1; omega
      subst h2
      simp only [List.drop_length, preOL, List.map_nil, List.nil_append] at hJi
      exact ⟨t1, SubT.drop hni, .inl hJi⟩
  · simp only [push_cast, reduceIte, Nat.reduceMul, Nat.reduceEqDiff, Nat.reduceAdd, Nat.reduceLT, Nat.reduceLeDiff, reduceCtorEq, Int.reduceToNat, fin_yld]
    exact ⟨t0, SubT.right hB0, .inr hF⟩
end Go.Proofs.YtgekglfmianoeaaGreatDoor

namespace Go.Proofs.YtgekglfmianoeaaGreatDoor
open Go Go.Gp
mutual
theorem preO_length : ∀ (v : Oct) (d : Nat), (preO v d).length = countO v
  | .mk t b l, d => by simp only [preO, List.length_cons, countO, preOL_length l (d + 1)]; omega
theorem preOL_length : ∀ (l : List Oct) (d : Nat), (preOL l d).length = countL l
  | [], d => rfl
  | x :: r, d => by simp only [preOL, List.length_append, countL, preO_length x d, preOL_length r d]
end
mutual
theorem preO_depth : ∀ (v : Oct) (d k : Nat), (∀ p ∈ preO v d, p.2 ≤ k) ↔ d + depthO v ≤ k + 1
  | .mk t b l, d, k => by
    simp only [preO, List.mem_cons, forall_eq_or_imp, depthO]
    by_cases h : l = []
    · subst h; simp [preOL, depthL]
    · rw [preOL_depth l (d + 1) k h]; omega
theorem preOL_depth : ∀ (l : List Oct) (d k : Nat), l ≠ [] → ((∀ p ∈ preOL l d, p.2 ≤ k) ↔ d + depthL l ≤ k + 1)
  | [x], d, k, _ => by
    simp only [preOL, List.append_nil, depthL, Nat.max_zero, Nat.max_eq_left (Nat.zero_le _)]
    exact preO_depth x d k
  | x :: y :: r, d, k, _ => by
    have h1 := preO_depth x d k
    have h2 := preOL_depth (y :: r) d k (by simp)
    rw [preOL, depthL]
    simp only [List.mem_append, or_imp, forall_and]
    rw [h1, h2]; omega
end
def okN (x : Oct) : Bool := decide (x.tag ≠ 0) && shape1 x.tag x.bytes x.list
mutual
theorem preO_ok : ∀ (v : Oct) (d : Nat), ((preO v d).all fun p => okN p.1) = (shape0 v && tagsO v)
  | .mk t b l, d => by
    have e : okN (.mk t b l) = (decide (t ≠ 0) && shape1 t b l) := rfl
    simp only [preO, List.all_cons, shape0, tagsO, preOL_ok l (d + 1), e]
    cases decide (t ≠ 0) <;> cases shape1 t b l <;> cases shape0L l <;> cases tagsL l <;> rfl
theorem preOL_ok : ∀ (l : List Oct) (d : Nat), ((preOL l d).all fun p => okN p.1) = (shape0L l && tagsL l)
  | [], d => rfl
  | x :: r, d => by
    simp only [preOL, List.all_append, shape0L, tagsL, preO_ok x d, preOL_ok r d]
    cases shape0 x <;> cases tagsO x <;> cases shape0L r <;> cases tagsL r <;> rfl
end
theorem octP_eta (v : Oct) : octP v = .agg [pU8 v.tag.toNat, .sl 1 (bytesP v.bytes), .sl 3 (v.list.map octP)] := by
  cases v; rw [octP_mk]; rfl
theorem SubT.app (t u : Tab) : SubT t (t ++ u) := fun k x hk => by rw [aget_append, hk]
def rowO (v : Oct) : List V := [.p (pU8 v.tag.toNat), .p (.sl 1 (bytesP v.bytes)), .p (.sl 3 (v.list.map octP))]
def JK (v : Oct) : List (List V) → Tab → Nat → Prop := fun L t n => ∃ pre rest, pre ++ rest = preO v 1 ∧ L = rest.map elO ∧ pre.length ≤ 4000 ∧ (∀ p ∈ pre, p.2 ≤ 12) ∧ t = [(0, .box (rowO v)), (1, .box [vI 0]), (2, .box [vI pre.length]), (3, .box [vB (pre.all fun p => okN p.1)])] ∧ 4 ≤ n
def FK (v : Oct) : Tab → Nat → Prop := fun t n => ∃ y z, t = [(0, .box (rowO v)), (1, .box [vI 4]), (2, y), (3, z)] ∧ chkO v = 4 ∧ 4 ≤ n
set_option maxHeartbeats 16000000 in
theorem chk8_fv (WG : World) (v : Oct) (hs : smallO v) (hd : depthO v < 1000000) : FV Tryz.prog WG 87 [octP v] (vI (chkO v)) := by
  have hiter := fun b J F hP t n h => iter8 WG v hs 1 b J F hP (by omega) [] t n h
  have hall := all_fv WG v ((1 : Nat) : Int)
  have hsz := size8_fv WG v hs
  rw [allC] at hall
  have hv := octP_eta v
  rw [hv] at hall hsz hiter ⊢
  refine CallT.pure rfl (CallT_fnT Tryz.func87 (rs := [.cell 2 41]) (n := 52) rfl rfl (Nat.le_of_ble_eq_true rfl) rfl ?_)
  refine T_seqC ?_
  simp only [push_cast, reduceIte, Nat.reduceMul, Nat.reduceEqDiff, Nat.reduceAdd, Nat.reduceLT, Nat.reduceLeDiff, reduceCtorEq, Int.reduceToNat, fin_yld]
  refine T_seqC ?_
  simp only [push_cast, reduceIte, Nat.reduceMul, Nat.reduceEqDiff, Nat.reduceAdd, Nat.reduceLT, Nat.reduceLeDiff, reduceCtorEq, Int.reduceToNat, fin_yld]
  refine T_seqC ?_
  simp only [push_cast, reduceIte, Nat.reduceMul, Nat.reduceEqDiff, Nat.reduceAdd, Nat.reduceLT, Nat.reduceLeDiff, reduceCtorEq, Int.reduceToNat, fin_yld]
  refine hall.call rfl ?_
  simp only [push_cast, reduceIte, Nat.reduceMul, Nat.reduceEqDiff, Nat.reduceAdd, Nat.reduceLT, Nat.reduceLeDiff, reduceCtorEq, Int.reduceToNat, fin_yld]
  refine T_rangeP (X := []) (t := [(0, .box (rowO v)), (1, .box [vI 0]), (2, .box [vI 0]), (3, .box [vB true])]) (J := JK v) (F := FK v) (els := (preO v 1).map elO) (rest := []) EO rfl rfl (by kernel_rfl) rfl Beside.nil pre_E (fun x ⟨v, k, e⟩ => by subst e; rfl) (by kernel_rfl)
    (fun L t n n' hle ⟨pre, rest, h1, h2, h3, h4, h5, h6⟩ => ⟨pre, rest, h1, h2, h3, h4, h5, by omega⟩)
    (fun J' F' hP' t3 n3 h3 => hiter _ J' F' hP' t3 n3 (by simpa using h3)) ?_ ⟨[], preO v 1, rfl, by simp, by simp, by simp, rfl, Nat.le_refl _⟩ ?_ ?_
  · intro x M t2 m2 hm2 _ _ hJ2
    obtain ⟨pre, rest, h1, h2, h3, h4, rfl, h6⟩ := hJ2
    obtain _ | ⟨⟨x', k⟩, rest⟩ := rest
    · cases h2
    simp only [List.map_cons, List.cons.injEq] at h2
    obtain ⟨rfl, rfl⟩ := h2
    have e0 : ¬ 0 = m2 := by omega
    have e1 : ¬ 1 = m2 := by omega
    have e2 : ¬ 2 = m2 := by omega
    have e3 : ¬ 3 = m2 := by omega
    have hw : IntKind.i64.wrap ((pre.length : Int) + 1) = ((pre.length + 1 : Nat) : Int) := by rw [wrap_i64 _ (by omega) (by omega)]; omega
    have hx' := octP_eta x'
    rw [elO, hx', rowO]
    refine wpC_sound _ _ _ ?_
    simp only [push_cast, reduceIte, Nat.reduceMul, Nat.reduceEqDiff, Nat.reduceAdd, Nat.reduceLT, Nat.reduceLeDiff, reduceCtorEq, Int.reduceToNat, fin_yld, e0, e1, e2, e3, aget_aset, aset_aset, eq_self, if_true, if_false, List.cons_append, List.nil_append]
    refine T_block ?_
    refine wpC_sound _ _ _ ?_
    simp only [push_cast, reduceIte, Nat.reduceMul, Nat.reduceEqDiff, Nat.reduceAdd, Nat.reduceLT, Nat.reduceLeDiff, reduceCtorEq, Int.reduceToNat, fin_yld, e0, e1, e2, e3, hw, aget_aset, aset_aset, eq_self, if_true, if_false, List.cons_append, List.nil_append]
    have hcnt := preO_length v 1
    have hdep := preO_depth v 1 12
    rw [← h1] at hcnt hdep
    simp only [List.length_append, List.length_cons] at hcnt
    refine ⟨fun h => ⟨by omega, [(0, .box (rowO v)), (1, .box [vI 4]), (2, .box [vI (pre.length + 1 : Nat)]), (3, .box [vB (pre.all fun p => okN p.1)])], SubT.app _ _, Beside.nil, ⟨_, _, rfl, ?_, by omega⟩⟩, fun h => ?_⟩
    · have : 4000 < countO v ∨ 12 < depthO v := by
        rcases (by simpa using h : 4000 < (pre.length : Int) + 1 ∨ 12 < (k : Int)) with h | h
        · exact .inl (by omega)
        · refine .inr ?_
          have hk : ¬ ∀ p ∈ pre ++ (x', k) :: rest, p.2 ≤ 12 := fun q => by
            have := q (x', k) (by simp)
            simp only at this
            omega
          rw [hdep] at hk
          omega
      rw [chkO, if_pos this]
    · have hq : ¬ 4000 < (pre.length : Int) + 1 ∧ ¬ 12 < (k : Int) := by simpa using h
      have hokx : okN x' = (decide ((0 : Int) < x'.tag.toNat) && (decide ((128 : Int) ≤ x'.tag.toNat) || decide ((x'.list.length : Int) = 0)) && (decide ((x'.tag.toNat : Int) < 128) || decide ((x'.bytes.length : Int) = 0))) := by
        rw [okN, shape1]
        have a1 : decide (x'.tag ≠ 0) = decide ((0 : Int) < x'.tag.toNat) := by
          refine decide_eq_decide.2 ⟨fun q => ?_, fun q e => ?_⟩
          · have : ¬ x'.tag.toNat = 0 := fun e => q (UInt8.toNat_inj.1 e)
            omega
          · rw [e] at q; exact absurd q (by decide)
        have a2 : decide (128 ≤ x'.tag.toNat) = decide ((128 : Int) ≤ x'.tag.toNat) := decide_eq_decide.2 (by omega)
        have a3 : decide (x'.tag.toNat < 128) = decide ((x'.tag.toNat : Int) < 128) := decide_eq_decide.2 (by omega)
        have a4 : x'.list.isEmpty = decide ((x'.list.length : Int) = 0) := by cases x'.list <;> simp; omega
        have a5 : x'.bytes.isEmpty = decide ((x'.bytes.length : Int) = 0) := by cases x'.bytes <;> simp; omega
        rw [a1, a2, a3, a4, a5, Bool.and_assoc]
      have g1 : ∀ b c d : Bool, (b = true → b = true ∧ (c = false → (b && !c) = true)) := by intro b c d; cases b <;> cases c <;> simp
      refine ⟨g1 _ _ true, g1 _ _ true, by omega, [(0, .box (rowO v)), (1, .box [vI 0]), (2, .box [vI (pre.length + 1 : Nat)]), (3, .box [vB ((pre ++ [(x', k)]).all fun p => okN p.1)])], ?_, Beside.nil, ⟨pre ++ [(x', k)], rest, by rw [← h1]; simp, rfl, by simp only [List.length_append, List.length_cons, List.length_nil]; omega, fun p hp => ?_, by simp only [List.length_append, List.length_cons, List.length_nil], by omega⟩⟩
      · rw [List.all_append]
        simp only [List.all_cons, List.all_nil, Bool.and_true, hokx]
        simp only [bytesP_length, ← Bool.and_assoc]
        exact SubT.app _ _
      · rcases List.mem_append.1 hp with hp | hp
        · exact h4 p hp
        · simp only [List.mem_singleton] at hp
          subst hp
          simp only
          omega
  · intro t2 n2 t3 _ hn2 ⟨pre, rest, h1, h2, h3, h4, h5, h6⟩ hs3
    have : rest = [] := by cases rest with | nil => rfl | cons a b => cases h2
    subst this
    rw [List.append_nil] at h1
    subst h1
    subst h5
    have hcnt := preO_length v 1
    have hdep := (preO_depth v 1 12).1 h4
    have hok := preO_ok v 1
    simp only [push_cast, reduceIte, Nat.reduceMul, Nat.reduceEqDiff, Nat.reduceAdd, Nat.reduceLT, Nat.reduceLeDiff, reduceCtorEq, Int.reduceToNat, fin_yld]
    refine T_weak (Weak.sub hs3) ?_
    simp only [List.nil_append, rowO]
    refine wpC_sound _ _ _ ?_
    simp only [push_cast, reduceIte, Nat.reduceMul, Nat.reduceEqDiff, Nat.reduceAdd, Nat.reduceLT, Nat.reduceLeDiff, reduceCtorEq, Int.reduceToNat, fin_yld]
    refine ⟨fun h => ?_, fun h => ?_⟩
    · rw [hok] at h
      have h : (shape0 v && tagsO v) = false := by
        cases hq : (shape0 v && tagsO v) with
        | false => rfl
        | true => rw [hq] at h; cases h
      rw [chkO, if_neg (by omega), if_pos h]
    · rw [hok] at h
      refine hsz.call rfl ?_
      simp only [push_cast, reduceIte, Nat.reduceMul, Nat.reduceEqDiff, Nat.reduceAdd, Nat.reduceLT, Nat.reduceLeDiff, reduceCtorEq, Int.reduceToNat, fin_yld]
      refine ⟨fun h' => ?_, fun h' => ?_⟩
      · have : (65536 : Int) < sizeO v := by simpa using h'
        rw [chkO, if_neg (by omega), if_neg (by simpa using h), if_pos (by omega)]
      · have : ¬ (65536 : Int) < sizeO v := by simpa using h'
        rw [chkO, if_neg (by omega), if_neg (by simpa using h), if_neg (by omega)]
  · intro t2 n2 t3 _ hn2 ⟨y, z, h1, h2, h3⟩ hs3
    subst h1
    simp only [push_cast, reduceIte, Nat.reduceMul, Nat.reduceEqDiff, Nat.reduceAdd, Nat.reduceLT, Nat.reduceLeDiff, reduceCtorEq, Int.reduceToNat, fin_yld]
    rw [hs3 1 (.box [vI 4]) (by rfl), h2]
    rfl
end Go.Proofs.YtgekglfmianoeaaGreatDoor

namespace Go.Proofs.YtgekglfmianoeaaGreatDoor
open Go Go.Gp
abbrev errV : V := .ifc 155 (.p (.agg []))
set_option maxHeartbeats 4000000 in
theorem must_ct (WG : World) (b : Bool) (tab : Tab) (nx : Nat) : CallT Tryz.prog WG 109 [vB b] tab nx (fun _ t n => b = true ∧ t = tab ∧ n = nx) (fun r t n => b = false ∧ r = errV ∧ t = tab ∧ n = nx) := by
  refine CallT_fn Tryz.func109 (rs := []) (n := 6) rfl rfl (Nat.le_of_ble_eq_true rfl) rfl ?_
  simp only [push_cast, reduceIte, Nat.reduceMul, Nat.reduceEqDiff, Nat.reduceAdd, Nat.reduceLT, Nat.reduceLeDiff, reduceCtorEq, Int.reduceToNat]
  refine ⟨fun h => ?_, fun h => ?_⟩
  · refine RT_panic rfl rfl rfl rfl ?_
    simp only [push_cast, reduceIte, Nat.reduceMul, Nat.reduceEqDiff, Nat.reduceAdd, Nat.reduceLT, Nat.reduceLeDiff, reduceCtorEq, Int.reduceToNat]
    simpa using h
  · simpa using h
set_option maxHeartbeats 8000000 in
theorem cut_ct (WG : World) (l : List UInt8) (k : Nat) (hl : l.length < 1000000) (hk : k < 100000000) : CallT Tryz.prog WG 142 [.ref 0 0, vI k] [(0, .box [.p (.sl 1 (bytesP l))])] 1
    (fun r t n => k ≤ l.length ∧ r = .p (.sl 1 (bytesP (l.take k))) ∧ t = [(0, .box [.p (.sl 1 (bytesP (l.drop k)))])] ∧ n = 1) (fun r _ _ => l.length < k ∧ r = errV) := by
  refine CallT_fn Tryz.func142 (rs := [.tmp 4]) (n := 30) rfl rfl (Nat.le_of_ble_eq_true rfl) rfl ?_
  simp only [push_cast, reduceIte, Nat.reduceMul, Nat.reduceEqDiff, Nat.reduceAdd, Nat.reduceLT, Nat.reduceLeDiff, reduceCtorEq, Int.reduceToNat, bytesP_length]
  refine (must_ct WG _ _ _).mono (fun r t n hq => ?_) (fun r t n hq => ?_)
  · obtain ⟨h1, rfl, rfl⟩ := hq
    have h1 : k ≤ l.length := by simp at h1; omega
    simp only [push_cast, reduceIte, Nat.reduceMul, Nat.reduceEqDiff, Nat.reduceAdd, Nat.reduceLT, Nat.reduceLeDiff, reduceCtorEq, Int.reduceToNat, bytesP_length]
    refine ⟨⟨by omega, by omega, by omega⟩, ⟨by omega, by omega, by omega⟩, h1, by simp [bytesP, List.map_take], ?_⟩
    rw [show List.take (l.length - k) (List.drop k (bytesP l)) = bytesP (l.drop k) by
      rw [List.take_of_length_le (by simp [bytesP_length])]
      simp [bytesP, List.map_drop]]
  · obtain ⟨h1, rfl, rfl, rfl⟩ := hq
    simp only [push_cast, reduceIte, Nat.reduceMul, Nat.reduceEqDiff, Nat.reduceAdd, Nat.reduceLT, Nat.reduceLeDiff, reduceCtorEq, Int.reduceToNat]
    simp at h1
    omega
def lenP : List UInt8 → Option (Nat × List UInt8)
  | k :: r =>
    if k.toNat < 128 then some (k.toNat, r) else
    if k.toNat < 129 ∨ 131 < k.toNat ∨ r.length < k.toNat - 128 then none else
    if (lenB (numP (r.take (k.toNat - 128)))).length = k.toNat - 127 then some (numP (r.take (k.toNat - 128)), r.drop (k.toNat - 128)) else none
  | [] => none
theorem head_len (t : UInt8) (b : List UInt8) : headP (t :: b) = (lenP b).map fun p => (t, p.1, p.2) := by
  cases b with
  | nil => rfl
  | cons k r =>
    simp only [headP, lenP]
    repeat' split
    all_goals rfl
theorem or_byte (a c : Nat) (ha : a < 16777216) (hc : c < 256) : bits2 .i64 (· ||| ·) ((a : Int) * 2 ^ 8) c = ((a * 256 + c : Nat) : Int) := by
  have e1 : ((a : Int) * 2 ^ 8) = ((a * 256 : Nat) : Int) := by omega
  rw [e1, bits2]
  have e2 : (BitVec.ofInt IntKind.i64.bits ((a * 256 : Nat) : Int) ||| BitVec.ofInt IntKind.i64.bits (c : Int)).toNat = a * 256 + c := by
    show (BitVec.ofInt 64 ((a * 256 : Nat) : Int) ||| BitVec.ofInt 64 (c : Int)).toNat = a * 256 + c
    rw [BitVec.ofInt_natCast, BitVec.ofInt_natCast, BitVec.toNat_or, BitVec.toNat_ofNat, BitVec.toNat_ofNat, Nat.mod_eq_of_lt (by omega), Nat.mod_eq_of_lt (by omega)]
    have := Nat.shiftLeft_add_eq_or_of_lt (i := 8) (b := c) hc a
    rw [Nat.shiftLeft_eq] at this
    exact this.symm
  rw [e2, wrap_i64 _ (by omega) (by omega)]
theorem numP_lt (l : List UInt8) : numP l < 256 ^ l.length := by
  have key : ∀ (l : List UInt8) (a : Nat), l.foldl (fun n c => n * 256 + c.toNat) a < (a + 1) * 256 ^ l.length := by
    intro l
    induction l with
    | nil => intro a; simp
    | cons x r ih =>
      intro a
      simp only [List.foldl_cons, List.length_cons]
      have h1 := ih (a * 256 + x.toNat)
      have h2 : x.toNat < 256 := x.toNat_lt
      have h3 : (a * 256 + x.toNat + 1) * 256 ^ r.length ≤ ((a + 1) * 256) * 256 ^ r.length := Nat.mul_le_mul_right _ (by omega)
      rw [Nat.pow_succ, Nat.mul_comm (256 ^ r.length) 256, ← Nat.mul_assoc]
      omega
  have := key l 0
  simpa [numP] using this
set_option maxHeartbeats 16000000 in
theorem length_ct (WG : World) (l : List UInt8) (hl : l.length < 1000000) : CallT Tryz.prog WG 143 [.ref 0 0] [(0, .box [.p (.sl 1 (bytesP l))])] 1
    (fun r t n => ∃ q rest, lenP l = some (q, rest) ∧ r = vI q ∧ t = [(0, .box [.p (.sl 1 (bytesP rest))])] ∧ n = 1) (fun r _ _ => lenP l = none ∧ r = errV) := by
  refine CallT_fnT Tryz.func143 (rs := [.tmp 2]) (n := 44) rfl rfl (Nat.le_of_ble_eq_true rfl) rfl ?_
  refine T_seqC ?_
  simp only [push_cast, reduceIte, Nat.reduceMul, Nat.reduceEqDiff, Nat.reduceAdd, Nat.reduceLT, Nat.reduceLeDiff, reduceCtorEq, Int.reduceToNat]
  refine T_seqC ?_
  simp only [push_cast, reduceIte, Nat.reduceMul, Nat.reduceEqDiff, Nat.reduceAdd, Nat.reduceLT, Nat.reduceLeDiff, reduceCtorEq, Int.reduceToNat]
  refine (cut_ct WG l 1 hl (by omega)).mono (fun r t n hq => ?_) (fun r t n hq => ?_)
  · obtain ⟨h1, rfl, rfl, rfl⟩ := hq
    obtain _ | ⟨k, l⟩ := l
    · simp at h1
    have hk1 : bytesP [k] = [.v (.int .u8 k.toNat)] := rfl
    have hk : k.toNat < 256 := k.toNat_lt
    have hll : l.length < 1000000 := by simp at hl; omega
    simp only [push_cast, reduceIte, Nat.reduceMul, Nat.reduceEqDiff, Nat.reduceAdd, Nat.reduceLT, Nat.reduceLeDiff, reduceCtorEq, Int.reduceToNat, hk1, wrap_i64 (k.toNat : Int) (by omega) (by omega)]
    refine ⟨by omega, T_seqC ?_⟩
    simp only [push_cast, reduceIte, Nat.reduceMul, Nat.reduceEqDiff, Nat.reduceAdd, Nat.reduceLT, Nat.reduceLeDiff, reduceCtorEq, Int.reduceToNat]
    refine ⟨fun h2 => ?_, fun h2 => ?_⟩
    · have h2 : k.toNat < 128 := by simp at h2; omega
      rw [lenP, if_pos h2]
      exact ⟨k.toNat, l, rfl, rfl, rfl⟩
    have h2 : ¬ k.toNat < 128 := by simp at h2; omega
    refine T_seqC ?_
    simp only [push_cast, reduceIte, Nat.reduceMul, Nat.reduceEqDiff, Nat.reduceAdd, Nat.reduceLT, Nat.reduceLeDiff, reduceCtorEq, Int.reduceToNat]
    refine (must_ct WG _ _ _).mono (fun r t n hq => ?_) (fun r t n hq => ?_)
    · obtain ⟨h3, rfl, rfl⟩ := hq
      have h3 : ¬ k.toNat < 129 ∧ ¬ 131 < k.toNat := by simp at h3; omega
      simp only [push_cast, reduceIte, Nat.reduceMul, Nat.reduceEqDiff, Nat.reduceAdd, Nat.reduceLT, Nat.reduceLeDiff, reduceCtorEq, Int.reduceToNat]
      refine T_seqC ?_
      simp only [push_cast, reduceIte, Nat.reduceMul, Nat.reduceEqDiff, Nat.reduceAdd, Nat.reduceLT, Nat.reduceLeDiff, reduceCtorEq, Int.reduceToNat]
      refine T_seqC ?_
      have hs : IntKind.i64.wrap ((k.toNat : Int) - 128) = ((k.toNat - 128 : Nat) : Int) := by rw [wrap_i64 _ (by omega) (by omega)]; omega
      simp only [push_cast, reduceIte, Nat.reduceMul, Nat.reduceEqDiff, Nat.reduceAdd, Nat.reduceLT, Nat.reduceLeDiff, reduceCtorEq, Int.reduceToNat, hs]
      refine (cut_ct WG l (k.toNat - 128) hll (by omega)).mono (fun r t n hq => ?_) (fun r t n hq => ?_)
      · obtain ⟨h4, rfl, rfl, rfl⟩ := hq
        simp only [push_cast, reduceIte, Nat.reduceMul, Nat.reduceEqDiff, Nat.reduceAdd, Nat.reduceLT, Nat.reduceLeDiff, reduceCtorEq, Int.reduceToNat, bytesP_length]
        have hcl : (l.take (k.toNat - 128)).length = k.toNat - 128 := by rw [List.length_take]; omega
        have hnum := numP_lt (l.take (k.toNat - 128))
        generalize hrest : l.drop (k.toNat - 128) = rest
        generalize hc : l.take (k.toNat - 128) = c at hcl hnum
        have hnum : numP c < 16777216 := Nat.lt_of_lt_of_le hnum (by
          rw [hcl]
          rcases (by omega : k.toNat - 128 = 1 ∨ k.toNat - 128 = 2 ∨ k.toNat - 128 = 3) with q | q | q <;> rw [q] <;> decide)
        refine T_loopS (fun i : Nat => ⟨[(0, .ref 0 0), (3, vI k.toNat), (4, vI (numP (c.take i))), (25, .p (.sl 1 (bytesP c))), (26, vI c.length), (27, vI i)], [(0, .box [.p (.sl 1 (bytesP rest))])], 1, 1, 44⟩) (fun i => i ≤ c.length) (fun i => c.length - i) 0 (Nat.zero_le _) (by simp [Le, subE, aget, numP]) (fun i hi => ?_)
        simp only [push_cast, reduceIte, Nat.reduceMul, Nat.reduceEqDiff, Nat.reduceAdd, Nat.reduceLT, Nat.reduceLeDiff, reduceCtorEq, Int.reduceToNat]
        refine ⟨fun h5 => ?_, fun h5 => ?_⟩
        · have h6 : i < c.length := by simpa using h5
          have hg : c[i]? = some c[i] := List.getElem?_eq_getElem h6
          have htk : numP (c.take (i + 1)) = numP (c.take i) * 256 + (c[i]).toNat := by
            have e : c.take (i + 1) = c.take i ++ [c[i]] := by rw [List.take_add_one, hg]; rfl
            rw [e, numP, List.foldl_append]; rfl
          have hlt := numP_lt (c.take i)
          have hx : (c[i]).toNat < 256 := (c[i]).toNat_lt
          have hlt : numP (c.take i) < 16777216 := Nat.lt_of_lt_of_le hlt (by
            rw [List.length_take]
            calc 256 ^ min i c.length ≤ 256 ^ 3 := Nat.pow_le_pow_right (by decide) (by omega)
              _ = 16777216 := by decide)
          generalize c[i] = x at hg htk hx
          have ea : (bytesP c)[i]? = some (.v (.int .u8 x.toNat)) := by simp [bytesP, hg, byteP]
          have es : IntKind.i64.wrap ((numP (c.take i) : Int) * 2 ^ shAmt .i64 8) = (numP (c.take i) : Int) * 2 ^ 8 := by
            rw [show shAmt .i64 8 = 8 from rfl, wrap_i64 _ (by omega) (by omega)]
          have ew : IntKind.i64.wrap (x.toNat : Int) = x.toNat := wrap_i64 _ (by omega) (by omega)
          simp only [push_cast, reduceIte, Nat.reduceMul, Nat.reduceEqDiff, Nat.reduceAdd, Nat.reduceLT, Nat.reduceLeDiff, reduceCtorEq, Int.reduceToNat, ea, es, ew, or_byte _ _ hlt hx, ← htk]
          exact ⟨by omega, by omega, i + 1, by omega, by omega, by simp [Le, subE, aget, wrap_i64 ((i : Int) + 1) (by omega) (by omega)]⟩
        · have h6 : i = c.length := by simp at h5; omega
          subst h6
          rw [List.take_length]
          have hwd : IntKind.i64.wrap ((k.toNat : Int) - 127) = ((k.toNat - 127 : Nat) : Int) := by rw [wrap_i64 _ (by omega) (by omega)]; omega
          refine T_seqC ?_
          simp only [push_cast, reduceIte, Nat.reduceMul, Nat.reduceEqDiff, Nat.reduceAdd, Nat.reduceLT, Nat.reduceLeDiff, reduceCtorEq, Int.reduceToNat]
          refine (wide8_fv WG (numP c) (by omega)).call rfl ?_
          simp only [push_cast, reduceIte, Nat.reduceMul, Nat.reduceEqDiff, Nat.reduceAdd, Nat.reduceLT, Nat.reduceLeDiff, reduceCtorEq, Int.reduceToNat, hwd]
          refine (must_ct WG _ _ _).mono (fun r t n hq => ?_) (fun r t n hq => ?_)
          · obtain ⟨h7, rfl, rfl⟩ := hq
            have h7 : (lenB (numP c)).length = k.toNat - 127 := by rw [← wide_len hnum]; simp at h7; omega
            simp only [push_cast, reduceIte, Nat.reduceMul, Nat.reduceEqDiff, Nat.reduceAdd, Nat.reduceLT, Nat.reduceLeDiff, reduceCtorEq, Int.reduceToNat]
            refine T_fin ?_
            simp only [push_cast, reduceIte, Nat.reduceMul, Nat.reduceEqDiff, Nat.reduceAdd, Nat.reduceLT, Nat.reduceLeDiff, reduceCtorEq, Int.reduceToNat]
            rw [lenP, if_neg h2, if_neg (by omega), hc, if_pos h7, hrest]
            exact ⟨_, _, rfl, rfl, rfl⟩
          · obtain ⟨h7, rfl, rfl, rfl⟩ := hq
            have h7 : ¬ (lenB (numP c)).length = k.toNat - 127 := by rw [← wide_len hnum]; simp at h7; omega
            simp only [push_cast, reduceIte, Nat.reduceMul, Nat.reduceEqDiff, Nat.reduceAdd, Nat.reduceLT, Nat.reduceLeDiff, reduceCtorEq, Int.reduceToNat]
            rw [lenP, if_neg h2, if_neg (by omega), hc, if_neg h7]
      · obtain ⟨h4, rfl⟩ := hq
        simp only [push_cast, reduceIte, Nat.reduceMul, Nat.reduceEqDiff, Nat.reduceAdd, Nat.reduceLT, Nat.reduceLeDiff, reduceCtorEq, Int.reduceToNat]
        rw [lenP, if_neg h2, if_pos (by omega)]
    · obtain ⟨h3, rfl, rfl, rfl⟩ := hq
      have h3 : k.toNat < 129 ∨ 131 < k.toNat := by simp at h3; omega
      simp only [push_cast, reduceIte, Nat.reduceMul, Nat.reduceEqDiff, Nat.reduceAdd, Nat.reduceLT, Nat.reduceLeDiff, reduceCtorEq, Int.reduceToNat]
      rw [lenP, if_neg h2, if_pos (by omega)]
  · obtain ⟨h1, rfl⟩ := hq
    obtain _ | ⟨k, l⟩ := l
    · simp only [push_cast, reduceIte, Nat.reduceMul, Nat.reduceEqDiff, Nat.reduceAdd, Nat.reduceLT, Nat.reduceLeDiff, reduceCtorEq, Int.reduceToNat, lenP]
    · simp at h1
end Go.Proofs.YtgekglfmianoeaaGreatDoor

namespace Go.Proofs.YtgekglfmianoeaaGreatDoor
open Go Go.Gp
theorem take_len {z : Bool} {k : Nat} {b : List UInt8} {x : Oct} {r : List UInt8} (h : takeP z k b = some (x, r)) : r.length < b.length := by
  obtain ⟨h1, _⟩ := take_some z k b x r h
  obtain ⟨a, c, hac⟩ := enc_ne x
  rw [h1, hac, List.length_append]
  simp only [List.length_cons]
  omega
theorem cloneD_fv (WG : World) (l : List UInt8) (hl : l.length < 16777216) : FV Tryz.prog WG 128 [.sl 1 (bytesP l)] (.p (.sl 1 (bytesP l))) :=
  CallT.pureS rfl ((cloneBs_ct WG l hl).mono (fun r t n hq => by
    obtain ⟨rfl, rfl, rfl⟩ := hq
    simp [Gp.snapR, Gp.snap, Gp.snap1, aget, List.take_of_length_le]) (fun _ _ _ h => h))
set_option maxHeartbeats 16000000 in
theorem value_ct (WG : World) : ∀ (k d : Nat) (l : List UInt8), d + k = 13 → l.length < 1000000 → CallT Tryz.prog WG 108 [.ref 0 0, vI d] [(0, .box [.p (.sl 1 (bytesP l))])] 1
    (fun r t n => ∃ x rest, takeP false k l = some (x, rest) ∧ r = .p (octP x) ∧ t = [(0, .box [.p (.sl 1 (bytesP rest))])] ∧ n = 1) (fun r _ _ => takeP false k l = none ∧ r = errV) := by
  intro k
  induction k with
  | zero =>
    intro d l hd hl
    refine CallT_fnT Tryz.func108 (rs := [.cell 4 77]) (n := 46) rfl rfl (Nat.le_of_ble_eq_true rfl) rfl ?_
    refine T_seqC ?_
    simp only [push_cast, reduceIte, Nat.reduceMul, Nat.reduceEqDiff, Nat.reduceAdd, Nat.reduceLT, Nat.reduceLeDiff, reduceCtorEq, Int.reduceToNat]
    refine T_seqC ?_
    simp only [push_cast, reduceIte, Nat.reduceMul, Nat.reduceEqDiff, Nat.reduceAdd, Nat.reduceLT, Nat.reduceLeDiff, reduceCtorEq, Int.reduceToNat]
    refine (must_ct WG _ _ _).mono (fun r t n hq => ?_) (fun r t n hq => ?_)
    · obtain ⟨h1, rfl, rfl⟩ := hq
      simp at h1; omega
    · obtain ⟨h1, rfl, rfl, rfl⟩ := hq
      simp only [push_cast, reduceIte, Nat.reduceMul, Nat.reduceEqDiff, Nat.reduceAdd, Nat.reduceLT, Nat.reduceLeDiff, reduceCtorEq, Int.reduceToNat, takeP]
  | succ k ih =>
    intro d l hd hl
    refine CallT.tidy (CallT_fnT Tryz.func108 (rs := [.cell 4 77]) (n := 46) rfl rfl (Nat.le_of_ble_eq_true rfl) rfl ?_)
    refine T_seqC ?_
    simp only [push_cast, reduceIte, Nat.reduceMul, Nat.reduceEqDiff, Nat.reduceAdd, Nat.reduceLT, Nat.reduceLeDiff, reduceCtorEq, Int.reduceToNat]
    refine T_seqC ?_
    simp only [push_cast, reduceIte, Nat.reduceMul, Nat.reduceEqDiff, Nat.reduceAdd, Nat.reduceLT, Nat.reduceLeDiff, reduceCtorEq, Int.reduceToNat]
    refine (must_ct WG _ _ _).mono (fun r t n hq => ?_) (fun r t n hq => ?_)
    · obtain ⟨h1, rfl, rfl⟩ := hq
      simp only [push_cast, reduceIte, Nat.reduceMul, Nat.reduceEqDiff, Nat.reduceAdd, Nat.reduceLT, Nat.reduceLeDiff, reduceCtorEq, Int.reduceToNat]
      refine T_seqC ?_
      simp only [push_cast, reduceIte, Nat.reduceMul, Nat.reduceEqDiff, Nat.reduceAdd, Nat.reduceLT, Nat.reduceLeDiff, reduceCtorEq, Int.reduceToNat]
      refine CallT.frameL [(0, 0)] (cut_ct WG l 1 hl (by omega)) (by simp [V.rnL, V.rn, rnf, aget]) (by simp [V.bd, V.bdL]) (by simp [LeR, rnf, aget, envR, tabR, injR, notIn, loR, V.rn, V.rnL, V.bd, V.bdL, Blk.rn, Blk.bd, envRn, envBd]) (by simp [LeR, rnf, aget, envR, tabR, injR, notIn, loR, V.rn, V.rnL, V.bd, V.bdL, Blk.rn, Blk.bd, envRn, envBd]) (rn1 (by omega)) (fun r t1 n1 hq => ?_) (fun r t1 n1 hq => ?_)
      · obtain ⟨h2, rfl, rfl, rfl⟩ := hq
        obtain _ | ⟨tg, l⟩ := l
        · simp at h2
        have hk1 : bytesP [tg] = [.v (.int .u8 tg.toNat)] := rfl
        have hll : l.length < 1000000 := by simp at hl; omega
        simp only [V.rn, V.rnL, frf, restT, trn, rnf, adel, Blk.rn, push_cast, reduceIte, Nat.reduceMul, Nat.reduceEqDiff, Nat.reduceAdd, Nat.reduceLT, Nat.reduceLeDiff, reduceCtorEq, Int.reduceToNat, hk1, Nat.sub_self]
        refine ⟨by omega, ?_⟩
        refine T_seqC ?_
        simp only [push_cast, reduceIte, Nat.reduceMul, Nat.reduceEqDiff, Nat.reduceAdd, Nat.reduceLT, Nat.reduceLeDiff, reduceCtorEq, Int.reduceToNat]
        refine CallT.frameL [(0, 0)] (length_ct WG l hll) (by simp [V.rnL, V.rn, rnf, aget]) (by simp [V.bd, V.bdL]) (by simp [LeR, rnf, aget, envR, tabR, injR, notIn, loR, V.rn, V.rnL, V.bd, V.bdL, Blk.rn, Blk.bd, envRn, envBd]) (by simp [LeR, rnf, aget, envR, tabR, injR, notIn, loR, V.rn, V.rnL, V.bd, V.bdL, Blk.rn, Blk.bd, envRn, envBd]) (rn1 (by omega)) (fun r t1 n1 hq => ?_) (fun r t1 n1 hq => ?_)
        · obtain ⟨q, c, hq, rfl, rfl, rfl⟩ := hq
          have hhd : headP (tg :: l) = some (tg, q, c) := by rw [head_len, hq]; rfl
          obtain ⟨hb, hqb⟩ := head_some hhd
          have hcl : c.length < 1000000 := by
            have := congrArg List.length hb
            simp only [List.length_cons, List.length_append] at this
            omega
          simp only [V.rn, V.rnL, frf, restT, trn, rnf, adel, Blk.rn, push_cast, reduceIte, Nat.reduceMul, Nat.reduceEqDiff, Nat.reduceAdd, Nat.reduceLT, Nat.reduceLeDiff, reduceCtorEq, Int.reduceToNat, Nat.sub_self]
          refine CallT.frameL [(0, 0)] (cut_ct WG c q hcl (by omega)) (by simp [V.rnL, V.rn, rnf, aget]) (by simp [V.bd, V.bdL]) (by simp [LeR, rnf, aget, envR, tabR, injR, notIn, loR, V.rn, V.rnL, V.bd, V.bdL, Blk.rn, Blk.bd, envRn, envBd]) (by simp [LeR, rnf, aget, envR, tabR, injR, notIn, loR, V.rn, V.rnL, V.bd, V.bdL, Blk.rn, Blk.bd, envRn, envBd]) (rn1 (by omega)) (fun r t1 n1 hq => ?_) (fun r t1 n1 hq => ?_)
          · obtain ⟨h3, rfl, rfl, rfl⟩ := hq
            simp only [V.rn, V.rnL, frf, restT, trn, rnf, adel, Blk.rn, push_cast, reduceIte, Nat.reduceMul, Nat.reduceEqDiff, Nat.reduceAdd, Nat.reduceLT, Nat.reduceLeDiff, reduceCtorEq, Int.reduceToNat, Nat.sub_self]
            have htl : (c.take q).length < 16777216 := by rw [List.length_take]; omega
            have htq : (c.take q).length = q := by rw [List.length_take]; omega
            by_cases h128 : tg.toNat < 128
            · refine T_nilBox 2 2 3 rfl rfl (T_freeze 3 ?_)
              simp only [frzS, frzE, frzL, frzT, frzB, frz1, push_cast, reduceIte, Nat.reduceMul, Nat.reduceEqDiff, Nat.reduceAdd, Nat.reduceLT, Nat.reduceLeDiff, reduceCtorEq, Int.reduceToNat]
              refine T_seqC ?_
              simp only [push_cast, reduceIte, Nat.reduceMul, Nat.reduceEqDiff, Nat.reduceAdd, Nat.reduceLT, Nat.reduceLeDiff, reduceCtorEq, Int.reduceToNat]
              refine ⟨fun _ => ?_, fun h => by simp at h; omega⟩
              refine (cloneD_fv WG (c.take q) htl).call rfl ?_
              simp only [push_cast, reduceIte, Nat.reduceMul, Nat.reduceEqDiff, Nat.reduceAdd, Nat.reduceLT, Nat.reduceLeDiff, reduceCtorEq, Int.reduceToNat]
              have ht : takeP false (k + 1) (tg :: l) = some (.mk tg (c.take q) [], c.drop q) := by
                rw [takeP, hhd]
                simp only
                rw [if_neg (by simp; omega), if_pos h128]
              refine ⟨[], .p (octP (.mk tg (c.take q) [])), [(0, .box [.p (.sl 1 (bytesP (c.drop q)))])], 1, ⟨_, _, ht, rfl, rfl, rfl⟩, by rw [octP_mk]; rfl, ?_, Nat.le_refl _, ?_⟩
              · simp [V.bd]
              · simp [LeR, rnf, aget, envR, tabR, injR, notIn, loR, V.rn, V.rnL, V.bd, V.bdL, Blk.rn, Blk.bd, envRn, envBd]
            · refine T_nilBox 2 1 1 rfl rfl (T_freeze 3 ?_)
              simp only [frzS, frzE, frzL, frzT, frzB, frz1, push_cast, reduceIte, Nat.reduceMul, Nat.reduceEqDiff, Nat.reduceAdd, Nat.reduceLT, Nat.reduceLeDiff, reduceCtorEq, Int.reduceToNat]
              refine T_seqC ?_
              simp only [push_cast, reduceIte, Nat.reduceMul, Nat.reduceEqDiff, Nat.reduceAdd, Nat.reduceLT, Nat.reduceLeDiff, reduceCtorEq, Int.reduceToNat]
              refine ⟨fun h => by simp at h; omega, fun _ => ?_⟩
              refine T_nilBox 2 2 3 rfl rfl ?_
              simp only [push_cast, reduceIte, Nat.reduceMul, Nat.reduceEqDiff, Nat.reduceAdd, Nat.reduceLT, Nat.reduceLeDiff, reduceCtorEq, Int.reduceToNat]
              refine T_seqC ?_
              simp only [push_cast, reduceIte, Nat.reduceMul, Nat.reduceEqDiff, Nat.reduceAdd, Nat.reduceLT, Nat.reduceLeDiff, reduceCtorEq, Int.reduceToNat]
              have ht : takeP false (k + 1) (tg :: l) = (listP (takeP false k) q (c.take q)).map fun l => (.mk tg [] l, c.drop q) := by
                rw [takeP, hhd]
                simp only
                rw [if_neg (by simp; omega), if_neg h128]
                cases listP (takeP false k) q (c.take q) <;> rfl
              refine T_loopR (fun p : List Oct × List UInt8 => ⟨[(1, vI d), (4, .ref 1 0), (5, .ref 2 0), (7, .ref 5 0)], [(1, .box [.p (pU8 0), .p (.v (.slice none 0 0)), .p (.v (.slice none 0 0))]), (2, .box [.p (pU8 tg.toNat), .p (.sl 1 []), .osl 4 3 0 p.1.length none]), (0, .box [.p (.sl 1 (bytesP (c.drop q)))]), (4, .arr 3 (p.1.map octP) true), (5, .box [.p (.sl 1 (bytesP p.2))])], 6, 1, 46⟩)
                (fun p => p.1.length + p.2.length ≤ q ∧ ∃ f, p.2.length ≤ f ∧ listP (takeP false k) q (c.take q) = (listP (takeP false k) f p.2).map (p.1 ++ ·)) (fun p => p.2.length) ([], c.take q) [] ⟨by simp; omega, q, by simp; omega, by simp⟩ (by simp [LeR, rnf, aget, envR, tabR, injR, notIn, loR, V.rn, V.rnL, V.bd, V.bdL, Blk.rn, Blk.bd, envRn, envBd]) (fun p hp => ?_)
              obtain ⟨xs, rest⟩ := p
              obtain ⟨hp1, f, hp2, hp3⟩ := hp
              simp only at hp1 hp2 hp3
              simp only [push_cast, reduceIte, Nat.reduceMul, Nat.reduceEqDiff, Nat.reduceAdd, Nat.reduceLT, Nat.reduceLeDiff, reduceCtorEq, Int.reduceToNat, bytesP_length]
              refine ⟨fun h5 => ?_, fun h5 => ?_⟩
              · obtain _ | ⟨a, b⟩ := rest
                · simp at h5
                obtain _ | f := f
                · simp at hp2
                have hw : IntKind.i64.wrap ((d : Int) + 1) = ((d + 1 : Nat) : Int) := by rw [wrap_i64 _ (by omega) (by omega)]; omega
                have hab : (a :: b).length < 1000000 := by omega
                have ihx := ih (d + 1) (a :: b) (by omega) hab
                rw [show ((d + 1 : Nat) : Int) = (d : Int) + 1 by omega] at ihx
                simp only [listP] at hp3
                cases hx : takeP false k (a :: b) with
                | some p =>
                  obtain ⟨x, r⟩ := p
                  have hlen := take_len hx
                  rw [hx] at hp3
                  simp only at hp3
                  refine T_drawS [5, 7, 9] [(1, 6)] mixed (by kernel_rfl) ?_
                  simp only [push_cast, reduceIte, Nat.reduceMul, Nat.reduceEqDiff, Nat.reduceAdd, Nat.reduceLT, Nat.reduceLeDiff, reduceCtorEq, Int.reduceToNat, hw]
                  refine ⟨.p (octP x), [(1, .box [.p (pU8 0), .p (.v (.slice none 0 0)), .p (.v (.slice none 0 0))]), (2, .box [.p (pU8 tg.toNat), .p (.sl 1 []), .osl 4 3 0 xs.length none]), (0, .box [.p (.sl 1 (bytesP (c.drop q)))]), (4, .arr 3 (xs.map octP) true), (5, .box [.p (.sl 1 (bytesP r))])], 6,
                    CallT.frameL [(0, 5)] ihx (by simp [V.rnL, V.rn, rnf, aget]) (by simp [V.bd, V.bdL]) (by simp [LeR, rnf, aget, envR, tabR, injR, notIn, loR, V.rn, V.rnL, V.bd, V.bdL, Blk.rn, Blk.bd, envRn, envBd]) (by simp [LeR, rnf, aget, envR, tabR, injR, notIn, loR, V.rn, V.rnL, V.bd, V.bdL, Blk.rn, Blk.bd, envRn, envBd]) (rn1 (by omega)) (fun r' t1 n1 hq => ?_) (fun r' t1 n1 hq => by rw [hx] at hq; cases hq.1), ?_⟩
                  · obtain ⟨x', r'', e, rfl, rfl, rfl⟩ := hq
                    rw [hx] at e; cases e
                    exact ⟨rfl, rfl, rfl⟩
                  have htk : xs.map octP ++ [octP x] = (xs ++ [x]).map octP := by simp
                  have hml : (xs.map octP).length = xs.length := by simp
                  obtain ⟨t', b', l'⟩ := x
                  rw [octP_mk] at htk ⊢
                  simp only [push_cast, reduceIte, Nat.reduceMul, Nat.reduceEqDiff, Nat.reduceAdd, Nat.reduceLT, Nat.reduceLeDiff, reduceCtorEq, Int.reduceToNat, List.length_map]
                  simp only [List.length_cons] at hp1 hp2 hlen
                  refine ⟨by omega, (xs ++ [.mk t' b' l'], r), ⟨?_, f, by simp only; omega, ?_⟩, (show r.length < b.length + 1 by omega), [(4, 6)], ?_⟩
                  · simp only [List.length_append, List.length_cons, List.length_nil]; omega
                  · rw [hp3]
                    simp only
                    cases listP (takeP false k) f r <;> simp
                  · rw [List.take_of_length_le (Nat.le_of_eq hml), htk]
                    simp [LeR, rnf, aget, envR, tabR, injR, notIn, loR, V.rn, V.rnL, V.bd, V.bdL, Blk.rn, Blk.bd, envRn, envBd]
                | none =>
                  rw [hx] at hp3
                  refine T_drawX 5 mixed (by kernel_rfl) ?_
                  simp only [wpDX_succ, wpDX_zero, finX_pure, finX_call, endX_call, push_cast, reduceIte, Nat.reduceMul, Nat.reduceEqDiff, Nat.reduceAdd, Nat.reduceLT, Nat.reduceLeDiff, reduceCtorEq, Int.reduceToNat, hw]
                  exact CallT.frameL [(0, 5)] ihx (by simp [V.rnL, V.rn, rnf, aget]) (by simp [V.bd, V.bdL]) (by simp [LeR, rnf, aget, envR, tabR, injR, notIn, loR, V.rn, V.rnL, V.bd, V.bdL, Blk.rn, Blk.bd, envRn, envBd]) (by simp [LeR, rnf, aget, envR, tabR, injR, notIn, loR, V.rn, V.rnL, V.bd, V.bdL, Blk.rn, Blk.bd, envRn, envBd]) (rn1 (by omega)) (fun r' t1 n1 hq => by obtain ⟨x', r'', e, _⟩ := hq; rw [hx] at e; cases e)
                    (fun r' t1 n1 hq => ⟨by rw [ht, hp3]; rfl, by rw [hq.2]; rfl⟩)
              · have h6 : rest = [] := by
                  cases rest with
                  | nil => rfl
                  | cons a b => simp at h5
                subst h6
                have h7 : listP (takeP false k) f [] = some [] := by cases f <;> rfl
                rw [h7] at hp3
                have hp3 : listP (takeP false k) q (c.take q) = some xs := by rw [hp3]; simp
                rw [hp3] at ht
                refine T_freeze 4 ?_
                simp only [frzS, frzE, frzL, frzT, frzB, frz1, push_cast, reduceIte, Nat.reduceMul, Nat.reduceEqDiff, Nat.reduceAdd, Nat.reduceLT, Nat.reduceLeDiff, reduceCtorEq, Int.reduceToNat]
                refine T_fin ?_
                simp only [push_cast, reduceIte, Nat.reduceMul, Nat.reduceEqDiff, Nat.reduceAdd, Nat.reduceLT, Nat.reduceLeDiff, reduceCtorEq, Int.reduceToNat]
                rw [List.take_of_length_le (by simp)]
                refine ⟨[], .p (octP (.mk tg [] xs)), [(0, .box [.p (.sl 1 (bytesP (c.drop q)))])], 1, ⟨_, _, ht, rfl, rfl, rfl⟩, by rw [octP_mk]; rfl, ?_, Nat.le_refl _, ?_⟩
                · simp [V.bd]
                · simp [LeR, rnf, aget, envR, tabR, injR, notIn, loR, V.rn, V.rnL, V.bd, V.bdL, Blk.rn, Blk.bd, envRn, envBd]
          · obtain ⟨h3, rfl⟩ := hq
            simp only [V.rn, V.rnL, frf, restT, trn, rnf, adel, Blk.rn, push_cast, reduceIte, Nat.reduceMul, Nat.reduceEqDiff, Nat.reduceAdd, Nat.reduceLT, Nat.reduceLeDiff, reduceCtorEq, Int.reduceToNat, Nat.sub_self]
            rw [takeP, hhd]
            simp only
            rw [if_pos (.inl h3)]
        · obtain ⟨hq, rfl⟩ := hq
          simp only [V.rn, V.rnL, frf, restT, trn, rnf, adel, Blk.rn, push_cast, reduceIte, Nat.reduceMul, Nat.reduceEqDiff, Nat.reduceAdd, Nat.reduceLT, Nat.reduceLeDiff, reduceCtorEq, Int.reduceToNat, Nat.sub_self]
          rw [takeP, head_len, hq]
          rfl
      · obtain ⟨h2, rfl⟩ := hq
        simp only [V.rn, V.rnL, frf, restT, trn, rnf, adel, Blk.rn, push_cast, reduceIte, Nat.reduceMul, Nat.reduceEqDiff, Nat.reduceAdd, Nat.reduceLT, Nat.reduceLeDiff, reduceCtorEq, Int.reduceToNat, Nat.sub_self]
        obtain _ | ⟨tg, l⟩ := l
        · rfl
        · simp at h2
    · obtain ⟨h1, rfl, rfl, rfl⟩ := hq
      simp at h1; omega
end Go.Proofs.YtgekglfmianoeaaGreatDoor
