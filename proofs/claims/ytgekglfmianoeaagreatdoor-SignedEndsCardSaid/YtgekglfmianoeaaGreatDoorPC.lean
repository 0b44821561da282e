/-
  The reader of fields: numbers, strings, lists.
  Pieces of bytes; the reader of short digests.
  The reader of short digests.
  The reader of spans of addresses.
-/
import Derived.Test.YtgekglfmianoeaaGreatDoorPB
set_option linter.unusedSimpArgs false
set_option linter.unusedVariables false
set_option maxRecDepth 20000
namespace Go.Proofs.YtgekglfmianoeaaGreatDoor
open Go Go.Gp
def fE (b : Bool) : Int := if b then 0 else 12
theorem orE_fE (a b : Bool) : orE (fE a) (fE b) = fE (a && b) := by cases a <;> cases b <;> rfl
theorem fE_if (b : Bool) : (if b = true then 0 else 12 : Int) = fE b := rfl
theorem fE_eq (b : Bool) : decide (fE b = 0) = b := by cases b <;> rfl
set_option maxHeartbeats 8000000 in
theorem num_ct (WG : World) (v : Oct) (t : UInt8) (m : Nat) (hm : m < 18446744073709551616) (ok : Bool) : CallT Tryz.prog WG 47 [.ref 0 0, .p (octP v), .p (pU8 t.toNat), .p (pU64 m)] [(0, .box [vI (fE ok)])] 1
    (fun r tb n => r = .p (pU64 (getNum t m v)) ∧ tb = [(0, .box [vI (fE (ok && okNum t m v))])] ∧ n = 1) noP := by
  have hrd := readNum_fv WG v t m hm
  have hor := or2_fv WG (fE ok) (fE (okNum t m v))
  rw [fE_if] at hrd
  have hv := octP_eta v
  rw [hv] at hrd ⊢
  refine CallT.tidy (CallT_fnT Tryz.func47 (rs := [.tmp 8]) (n := 29) rfl rfl (Nat.le_of_ble_eq_true rfl) rfl ?_)
  refine T_seqC ?_
  simp only [push_cast, reduceIte, Nat.reduceMul, Nat.reduceEqDiff, Nat.reduceAdd, Nat.reduceLT, Nat.reduceLeDiff, reduceCtorEq, Int.reduceToNat]
  refine T_seqC ?_
  simp only [push_cast, reduceIte, Nat.reduceMul, Nat.reduceEqDiff, Nat.reduceAdd, Nat.reduceLT, Nat.reduceLeDiff, reduceCtorEq, Int.reduceToNat]
  refine hrd.call rfl ?_
  simp only [push_cast, reduceIte, Nat.reduceMul, Nat.reduceEqDiff, Nat.reduceAdd, Nat.reduceLT, Nat.reduceLeDiff, reduceCtorEq, Int.reduceToNat]
  refine T_seqC ?_
  simp only [push_cast, reduceIte, Nat.reduceMul, Nat.reduceEqDiff, Nat.reduceAdd, Nat.reduceLT, Nat.reduceLeDiff, reduceCtorEq, Int.reduceToNat]
  refine hor.lend rfl (by simp [snapT, snap, snapL, snap1, aget]) ?_
  simp only [push_cast, reduceIte, Nat.reduceMul, Nat.reduceEqDiff, Nat.reduceAdd, Nat.reduceLT, Nat.reduceLeDiff, reduceCtorEq, Int.reduceToNat, orE_fE]
  refine T_fin ?_
  simp only [push_cast, reduceIte, Nat.reduceMul, Nat.reduceEqDiff, Nat.reduceAdd, Nat.reduceLT, Nat.reduceLeDiff, reduceCtorEq, Int.reduceToNat]
  refine ⟨[], .p (pU64 (getNum t m v)), [(0, .box [vI (fE (ok && okNum t m v))])], 1, ⟨rfl, rfl, rfl⟩, rfl, ?_, Nat.le_refl _, ?_⟩
  · simp [V.bd]
  · simp [LeR, rnf, aget, envR, tabR, injR, notIn, loR, V.rn, V.rnL, V.bd, V.bdL, Blk.rn, Blk.bd, envRn, envBd]
set_option maxHeartbeats 8000000 in
theorem str_ct (WG : World) (v : Oct) (t : UInt8) (m : Nat) (ok : Bool) : CallT Tryz.prog WG 48 [.ref 0 0, .p (octP v), .p (pU8 t.toNat), .p (pI m)] [(0, .box [vI (fE ok)])] 1
    (fun r tb n => r = .p (pS (baL (getStr t m v))) ∧ tb = [(0, .box [vI (fE (ok && okStr t m v))])] ∧ n = 1) noP := by
  have hrd := readStr_fv WG v t m
  have hor := or2_fv WG (fE ok) (fE (okStr t m v))
  rw [fE_if] at hrd
  have hv := octP_eta v
  rw [hv] at hrd ⊢
  refine CallT.tidy (CallT_fnT Tryz.func48 (rs := [.tmp 8]) (n := 29) rfl rfl (Nat.le_of_ble_eq_true rfl) rfl ?_)
  refine T_seqC ?_
  simp only [push_cast, reduceIte, Nat.reduceMul, Nat.reduceEqDiff, Nat.reduceAdd, Nat.reduceLT, Nat.reduceLeDiff, reduceCtorEq, Int.reduceToNat]
  refine T_seqC ?_
  simp only [push_cast, reduceIte, Nat.reduceMul, Nat.reduceEqDiff, Nat.reduceAdd, Nat.reduceLT, Nat.reduceLeDiff, reduceCtorEq, Int.reduceToNat]
  refine hrd.call rfl ?_
  simp only [push_cast, reduceIte, Nat.reduceMul, Nat.reduceEqDiff, Nat.reduceAdd, Nat.reduceLT, Nat.reduceLeDiff, reduceCtorEq, Int.reduceToNat]
  refine T_seqC ?_
  simp only [push_cast, reduceIte, Nat.reduceMul, Nat.reduceEqDiff, Nat.reduceAdd, Nat.reduceLT, Nat.reduceLeDiff, reduceCtorEq, Int.reduceToNat]
  refine hor.lend rfl (by simp [snapT, snap, snapL, snap1, aget]) ?_
  simp only [push_cast, reduceIte, Nat.reduceMul, Nat.reduceEqDiff, Nat.reduceAdd, Nat.reduceLT, Nat.reduceLeDiff, reduceCtorEq, Int.reduceToNat, orE_fE]
  refine T_fin ?_
  simp only [push_cast, reduceIte, Nat.reduceMul, Nat.reduceEqDiff, Nat.reduceAdd, Nat.reduceLT, Nat.reduceLeDiff, reduceCtorEq, Int.reduceToNat]
  refine ⟨[], .p (pS (baL (getStr t m v))), [(0, .box [vI (fE (ok && okStr t m v))])], 1, ⟨rfl, rfl, rfl⟩, rfl, ?_, Nat.le_refl _, ?_⟩
  · simp [V.bd]
  · simp [LeR, rnf, aget, envR, tabR, injR, notIn, loR, V.rn, V.rnL, V.bd, V.bdL, Blk.rn, Blk.bd, envRn, envBd]
theorem soft_zeros (k : Nat) : Soft (.sl 3 (List.replicate k (.agg [pU8 0, .v (.slice none 0 0), .v (.slice none 0 0)]))) (.sl 3 ((List.replicate k zO).map octP)) := by
  have hz : octP zO = .agg [pU8 0, .sl 1 [], .sl 3 []] := by rw [zO, octP_mk]; rfl
  refine .sl (by simp) (fun i x y hx hy => ?_) (fun i k' x y c d hx hy hc hd => ?_) (fun i k' x y c d hx hy hc hd => ?_)
  all_goals
    simp only [List.map_replicate] at hy
    rw [List.getElem?_replicate] at hx hy
    split at hx
    · rename_i h
      rw [if_pos h] at hy
      cases hx; cases hy
      rw [hz] at *
      first
        | rfl
        | (match k', hc, hd with
          | 0, hc, hd => cases hc; cases hd; first | rfl | exact .refl
          | 1, hc, hd => cases hc; cases hd; first | rfl | exact .nil
          | 2, hc, hd => cases hc; cases hd; first | rfl | exact .nil
          | _ + 3, hc, _ => cases hc)
    · cases hx
set_option maxHeartbeats 8000000 in
theorem list_ct (WG : World) (v : Oct) (hs : smallO v) (t : UInt8) (lo hi : Nat) (hlo : lo ≤ 100) (ok : Bool) : CallT Tryz.prog WG 46 [.ref 0 0, .p (octP v), .p (pU8 t.toNat), .p (pI lo), .p (pI hi)] [(0, .box [vI (fE ok)])] 1
    (fun r tb n => r = .p (.sl 3 ((getSeq t lo hi v).map octP)) ∧ tb = [(0, .box [vI (fE (ok && okSeq t lo hi v))])] ∧ n = 1) noP := by
  have hrd := readSeq_fv WG v hs t lo hi
  have hor := or2_fv WG (fE ok) (fE (okSeq t lo hi v))
  rw [fE_if] at hrd
  have hv := octP_eta v
  rw [hv] at hrd ⊢
  refine CallT.softR (CallT.mono (CallT.tidy (K := fun r tb n => r = (if okSeq t lo hi v then .p (.sl 3 (v.list.map octP)) else .p (.sl 3 (List.replicate lo (.agg [pU8 0, .v (.slice none 0 0), .v (.slice none 0 0)])))) ∧ tb = [(0, .box [vI (fE (ok && okSeq t lo hi v))])] ∧ n = 1) (CallT.frz (CallT_fnT Tryz.func46 (rs := [.tmp 10]) (n := 36) rfl rfl (Nat.le_of_ble_eq_true rfl) rfl ?_))) (fun r tb n hq => ?_) (fun _ _ _ h => h))
  · refine T_seqC ?_
    simp only [push_cast, reduceIte, Nat.reduceMul, Nat.reduceEqDiff, Nat.reduceAdd, Nat.reduceLT, Nat.reduceLeDiff, reduceCtorEq, Int.reduceToNat]
    refine T_seqC ?_
    simp only [push_cast, reduceIte, Nat.reduceMul, Nat.reduceEqDiff, Nat.reduceAdd, Nat.reduceLT, Nat.reduceLeDiff, reduceCtorEq, Int.reduceToNat]
    refine hrd.call rfl ?_
    simp only [push_cast, reduceIte, Nat.reduceMul, Nat.reduceEqDiff, Nat.reduceAdd, Nat.reduceLT, Nat.reduceLeDiff, reduceCtorEq, Int.reduceToNat]
    refine T_seqC ?_
    simp only [push_cast, reduceIte, Nat.reduceMul, Nat.reduceEqDiff, Nat.reduceAdd, Nat.reduceLT, Nat.reduceLeDiff, reduceCtorEq, Int.reduceToNat]
    refine hor.lend rfl (by simp [snapT, snap, snapL, snap1, aget]) ?_
    simp only [push_cast, reduceIte, Nat.reduceMul, Nat.reduceEqDiff, Nat.reduceAdd, Nat.reduceLT, Nat.reduceLeDiff, reduceCtorEq, Int.reduceToNat, orE_fE]
    simp only [fE_eq]
    refine ⟨fun h => ?_, fun h => ?_⟩
    · have h : okSeq t lo hi v = false := by simpa using h
      refine ⟨⟨by omega, by omega, by omega, by omega⟩, 3, ?_⟩
      simp only [frz1, frzT, frzB, frzL, aget, h, Bool.false_eq_true, if_false, if_true, Bool.and_false, List.length_replicate, Nat.zero_add, Nat.le_refl, List.drop_zero]
      refine ⟨[], .p (.sl 3 (List.replicate lo (.agg [pU8 0, .v (.slice none 0 0), .v (.slice none 0 0)]))), [(0, .box [vI (fE false)])], 1, ⟨rfl, rfl, rfl⟩, ?_, ?_, Nat.le_refl _, ?_⟩
      · simp [V.rn]
      · simp [V.bd]
      · simp [LeR, rnf, aget, envR, tabR, injR, notIn, loR, V.rn, V.rnL, V.bd, V.bdL, Blk.rn, Blk.bd, envRn, envBd]
    · have h : okSeq t lo hi v = true := by simpa using h
      refine T_fin ?_
      simp only [push_cast, reduceIte, Nat.reduceMul, Nat.reduceEqDiff, Nat.reduceAdd, Nat.reduceLT, Nat.reduceLeDiff, reduceCtorEq, Int.reduceToNat, h, if_true, Bool.and_true]
      refine ⟨99, ?_⟩
      refine ⟨[], .p (.sl 3 (v.list.map octP)), [(0, .box [vI (fE ok)])], 1, ⟨rfl, rfl, rfl⟩, rfl, ?_, Nat.le_refl _, ?_⟩
      · simp [V.bd]
      · simp [LeR, rnf, aget, envR, tabR, injR, notIn, loR, V.rn, V.rnL, V.bd, V.bdL, Blk.rn, Blk.bd, envRn, envBd]
  · obtain ⟨rfl, rfl, rfl⟩ := hq
    refine ⟨.p (.sl 3 ((getSeq t lo hi v).map octP)), ?_, rfl, rfl, rfl⟩
    unfold getSeq
    cases okSeq t lo hi v with
    | true => exact .refl
    | false => exact .p (soft_zeros lo)
end Go.Proofs.YtgekglfmianoeaaGreatDoor

namespace Go.Proofs.YtgekglfmianoeaaGreatDoor
open Go Go.Gp
def chunksF : Nat → List UInt8 → List (List UInt8)
  | 0, _ => []
  | k + 1, l => if l = [] then [] else l.take 16 :: chunksF k (l.drop 16)
theorem chunksF_fuel : ∀ (k m : Nat) (l : List UInt8), l.length ≤ k → l.length ≤ m → chunksF k l = chunksF m l
  | 0, m, l, h, _ => by
    have : l = [] := List.length_eq_zero_iff.1 (by omega)
    subst this
    cases m <;> simp [chunksF]
  | k + 1, 0, l, _, h => by
    have : l = [] := List.length_eq_zero_iff.1 (by omega)
    subst this
    simp [chunksF]
  | k + 1, m + 1, l, h1, h2 => by
    simp only [chunksF]
    split
    · rfl
    · rename_i hl
      have : l.length ≠ 0 := fun e => hl (List.length_eq_zero_iff.1 e)
      rw [chunksF_fuel k m (l.drop 16) (by rw [List.length_drop]; omega) (by rw [List.length_drop]; omega)]
theorem chunksF_step {k : Nat} {l : List UInt8} (h : l ≠ []) (hk : l.length ≤ k) : chunksF k l = l.take 16 :: chunksF k (l.drop 16) := by
  have hl : l.length ≠ 0 := fun e => h (List.length_eq_zero_iff.1 e)
  obtain _ | k := k
  · omega
  · rw [chunksF, if_neg h, chunksF_fuel k (k + 1) (l.drop 16) (by rw [List.length_drop]; omega) (by rw [List.length_drop]; omega)]
theorem cutF_chunks : ∀ (k : Nat) (l : List UInt8), cutF k l = (chunksF k l).map fun p => padB (p.map UInt8.toNat)
  | 0, _ => rfl
  | k + 1, l => by
    simp only [cutF, chunksF]
    split
    · rfl
    · rw [List.map_cons, cutF_chunks k]
theorem chunksF_len : ∀ (k : Nat) (l : List UInt8), ∀ p ∈ chunksF k l, p.length ≤ 16
  | 0, l, p, h => by simp [chunksF] at h
  | k + 1, l, p, h => by
    rw [chunksF] at h
    split at h
    · simp at h
    · rcases List.mem_cons.1 h with rfl | h
      · rw [List.length_take]; omega
      · exact chunksF_len k _ p h
theorem chunksF_nil (k : Nat) : chunksF k [] = [] := by cases k <;> simp [chunksF]
abbrev chunkC (l : List UInt8) : PV := .clo (.func 144) [] [.ptr (.agg [.sl 1 (bytesP l)]) 0, .ptr (.agg [pI 16]) 0]
set_option maxHeartbeats 4000000 in
theorem chunk_fv (WG : World) (l : List UInt8) : FV Tryz.prog WG 110 [.sl 1 (bytesP l), pI 16] (.p (chunkC l)) := by
  rw [chunkC]
  refine CallT.pureS rfl (CallT_fnT Tryz.func110 (rs := [.tmp 4]) (n := 9) rfl rfl (Nat.le_of_ble_eq_true rfl) rfl ?_)
  refine T_seqC ?_
  simp only [push_cast, reduceIte, Nat.reduceMul, Nat.reduceEqDiff, Nat.reduceAdd, Nat.reduceLT, Nat.reduceLeDiff, reduceCtorEq, Int.reduceToNat, fin_yld]
  refine T_seqC ?_
  simp only [push_cast, reduceIte, Nat.reduceMul, Nat.reduceEqDiff, Nat.reduceAdd, Nat.reduceLT, Nat.reduceLeDiff, reduceCtorEq, Int.reduceToNat, fin_yld]
  refine ⟨fun h => absurd h (by decide), fun _ => T_fin ?_⟩
  simp only [push_cast, reduceIte, Nat.reduceMul, Nat.reduceEqDiff, Nat.reduceAdd, Nat.reduceLT, Nat.reduceLeDiff, reduceCtorEq, Int.reduceToNat, fin_yld]
  simp [Gp.snapL, snap1, aget, allP]
def elB (p : List UInt8) : List V := [.p (.sl 1 (bytesP p))]
set_option maxHeartbeats 16000000 in
theorem iterC (WG : World) (s : List UInt8) (hs : s.length < 1000000) (b : Nat) (J : List (List V) → Tab → Nat → Prop) (F : Tab → Nat → Prop) (hP : Prot Tryz.prog WG b J F) : ∀ L t n, J ((chunksF s.length s).map elB ++ L) t n →
    CallT Tryz.prog WG 144 [.yld b, .p (.ptr (.agg [.sl 1 (bytesP s)]) 0), .p (.ptr (.agg [pI 16]) 0)] t n (fun _ t' n' => J L t' n' ∨ F t' n') noP := by
  intro L t n hJ
  refine CallT_fnT Tryz.func144 (rs := []) (n := 31) rfl rfl (Nat.le_of_ble_eq_true rfl) rfl ?_
  refine T_seqC ?_
  simp only [push_cast, reduceIte, Nat.reduceMul, Nat.reduceEqDiff, Nat.reduceAdd, Nat.reduceLT, Nat.reduceLeDiff, reduceCtorEq, Int.reduceToNat, fin_yld]
  refine T_block ?_
  refine T_loopW (fun p : Nat × Tab × Nat => ⟨[(0, .yld b), (1, .p (.ptr (.agg [.sl 1 (bytesP s)]) 0)), (2, .p (.ptr (.agg [pI 16]) 0)), (4, vI p.1)], p.2.1, p.2.2, n, 31⟩)
      (fun p => p.1 ≤ s.length + 15 ∧ J ((chunksF s.length (s.drop p.1)).map elB ++ L) p.2.1 p.2.2 ) (fun p => s.length + 16 - p.1) (0, t, n) ⟨Nat.zero_le _, hJ⟩ ?_ (fun p hp => ?_)
  · exact Le.weak (by simp [Le, subE, aget])
  obtain ⟨i, t1, m⟩ := p
  obtain ⟨hi, hJi⟩ := hp
  simp only at hi hJi
  refine T_seqC ?_
  simp only [push_cast, reduceIte, Nat.reduceMul, Nat.reduceEqDiff, Nat.reduceAdd, Nat.reduceLT, Nat.reduceLeDiff, reduceCtorEq, Int.reduceToNat, fin_yld, bytesP_length]
  refine ⟨fun h1 => ?_, fun h1 => ?_⟩
  · have h2 : i < s.length := by simpa using h1
    have hE : (if ((List.take (s.length - i) (List.drop i (bytesP s))).length : Int) < 16 then ((List.take (s.length - i) (List.drop i (bytesP s))).length : Int) else 16) = ((min 16 (s.length - i) : Nat) : Int) := by
      rw [List.length_take, List.length_drop, bytesP_length]
      split <;> omega
    obtain ⟨e, he⟩ : ∃ e, e = min 16 (s.length - i) := ⟨_, rfl⟩
    rw [← he] at hE
    have hw : IntKind.i64.wrap ((i : Int) + (e : Int)) = ((i + e : Nat) : Int) := by rw [wrap_i64 _ (by omega) (by omega)]; omega
    refine T_seq (T_block ?_)
    refine T_seqC ?_
    refine T_drawL [] mixed (by kernel_rfl) ?_
    simp only [push_cast, reduceIte, Nat.reduceMul, Nat.reduceEqDiff, Nat.reduceAdd, Nat.reduceLT, Nat.reduceLeDiff, reduceCtorEq, Int.reduceToNat, fin_yld, bytesP_length, hE]
    refine ⟨by omega, T_seq (T_region ?_)⟩
    rw [show List.range (Array.size _) = [0, 1, 2, 3, 4, 5, 6, 7, 8, 9, 10, 11] from rfl]
    refine RT_step rfl ?_
    simp only [stepR, push_cast, reduceIte, Nat.reduceMul, Nat.reduceEqDiff, Nat.reduceAdd, Nat.reduceLT, Nat.reduceLeDiff, reduceCtorEq, Int.reduceToNat, fin_yld, hw]
    refine RT_step rfl ?_
    simp only [stepR, push_cast, reduceIte, Nat.reduceMul, Nat.reduceEqDiff, Nat.reduceAdd, Nat.reduceLT, Nat.reduceLeDiff, reduceCtorEq, Int.reduceToNat, fin_yld, hw]
    refine RT_step rfl ?_
    simp only [stepR, push_cast, reduceIte, Nat.reduceMul, Nat.reduceEqDiff, Nat.reduceAdd, Nat.reduceLT, Nat.reduceLeDiff, reduceCtorEq, Int.reduceToNat, fin_yld, hw]
    refine RT_step rfl ?_
    simp only [stepR, push_cast, reduceIte, Nat.reduceMul, Nat.reduceEqDiff, Nat.reduceAdd, Nat.reduceLT, Nat.reduceLeDiff, reduceCtorEq, Int.reduceToNat, fin_yld, hw]
    refine RT_step rfl ?_
    simp only [stepR, push_cast, reduceIte, Nat.reduceMul, Nat.reduceEqDiff, Nat.reduceAdd, Nat.reduceLT, Nat.reduceLeDiff, reduceCtorEq, Int.reduceToNat, fin_yld, hw]
    refine RT_step rfl ?_
    simp only [stepR, push_cast, reduceIte, Nat.reduceMul, Nat.reduceEqDiff, Nat.reduceAdd, Nat.reduceLT, Nat.reduceLeDiff, reduceCtorEq, Int.reduceToNat, fin_yld, hw]
    refine RT_step rfl ?_
    simp only [stepR, push_cast, reduceIte, Nat.reduceMul, Nat.reduceEqDiff, Nat.reduceAdd, Nat.reduceLT, Nat.reduceLeDiff, reduceCtorEq, Int.reduceToNat, fin_yld, hw]
    refine RT_step rfl ?_
    simp only [stepR, push_cast, reduceIte, Nat.reduceMul, Nat.reduceEqDiff, Nat.reduceAdd, Nat.reduceLT, Nat.reduceLeDiff, reduceCtorEq, Int.reduceToNat, fin_yld, hw]
    refine RT_step rfl ?_
    simp only [stepR, push_cast, reduceIte, Nat.reduceMul, Nat.reduceEqDiff, Nat.reduceAdd, Nat.reduceLT, Nat.reduceLeDiff, reduceCtorEq, Int.reduceToNat, fin_yld, hw]
    have htk : ((bytesP s).drop i).take (i + e - i) = bytesP ((s.drop i).take 16) := by
      rw [show i + e - i = e by omega, he]
      have hl : ((bytesP s).drop i).length = s.length - i := by rw [List.length_drop, bytesP_length]
      rw [← hl, ← List.take_eq_take_min]
      simp [bytesP, List.map_take, List.map_drop]
    have hne : s.drop i ≠ [] := fun h => by have := congrArg List.length h; rw [List.length_drop] at this; simp at this; omega
    rw [chunksF_step hne (by rw [List.length_drop]; omega), List.drop_drop, List.map_cons, List.cons_append] at hJi
    refine RT_op (drop_get rfl) rfl (by simp only [push_cast, reduceIte, Nat.reduceMul, Nat.reduceEqDiff, Nat.reduceAdd, Nat.reduceLT, Nat.reduceLeDiff, reduceCtorEq, Int.reduceToNat]) (op_slice_sl3 (L := i) (H := i + e) (M := i + e) rfl ti38 rfl ti5 rfl rfl ⟨_, rfl⟩ ⟨_, rfl⟩ ⟨_, rfl⟩ (by omega) (Nat.le_refl _) (by rw [bytesP_length]; omega) ?_)
    rw [htk]
    simp only [push_cast, reduceIte, Nat.reduceMul, Nat.reduceEqDiff, Nat.reduceAdd, Nat.reduceLT, Nat.reduceLeDiff, reduceCtorEq, Int.reduceToNat, fin_yld]
    refine RT_yld (drop_get rfl) rfl (by simp only [push_cast, reduceIte, Nat.reduceMul, Nat.reduceEqDiff, Nat.reduceAdd, Nat.reduceLT, Nat.reduceLeDiff, reduceCtorEq, Int.reduceToNat]) rfl rfl rfl ((hP.yld _ _ _ _ hJi).mono fun r t2 n2 hq => ?_)
    rcases hq with ⟨rfl, hJ1⟩ | ⟨rfl, hF⟩
    · refine RT_step rfl ?_
      simp only [stepR, push_cast, reduceIte, Nat.reduceMul, Nat.reduceEqDiff, Nat.reduceAdd, Nat.reduceLT, Nat.reduceLeDiff, reduceCtorEq, Int.reduceToNat, fin_yld]
      refine RT_nil ?_
      simp only [push_cast, reduceIte, Nat.reduceMul, Nat.reduceEqDiff, Nat.reduceAdd, Nat.reduceLT, Nat.reduceLeDiff, reduceCtorEq, Int.reduceToNat, fin_yld]
      refine T_fin ?_
      simp only [push_cast, reduceIte, Nat.reduceMul, Nat.reduceEqDiff, Nat.reduceAdd, Nat.reduceLT, Nat.reduceLeDiff, reduceCtorEq, Int.reduceToNat, fin_yld]
      refine T_fin ?_
      simp only [push_cast, reduceIte, Nat.reduceMul, Nat.reduceEqDiff, Nat.reduceAdd, Nat.reduceLT, Nat.reduceLeDiff, reduceCtorEq, Int.reduceToNat, fin_yld]
      have hw2 : IntKind.i64.wrap ((i : Int) + 16) = ((i + 16 : Nat) : Int) := by rw [wrap_i64 _ (by omega) (by omega)]; omega
      exact ⟨(i + 16, t2, n2), ⟨by simp only; omega, hJ1⟩, by simp only; omega, Le.weak (by simp [Le, subE, aget, hw2])⟩
    · refine RT_step rfl ?_
      simp only [stepR, push_cast, reduceIte, Nat.reduceMul, Nat.reduceEqDiff, Nat.reduceAdd, Nat.reduceLT, Nat.reduceLeDiff, reduceCtorEq, Int.reduceToNat, fin_yld]
      refine RT_nil ?_
      simp only [push_cast, reduceIte, Nat.reduceMul, Nat.reduceEqDiff, Nat.reduceAdd, Nat.reduceLT, Nat.reduceLeDiff, reduceCtorEq, Int.reduceToNat, fin_yld]
      refine T_fin ?_
      simp only [push_cast, reduceIte, Nat.reduceMul, Nat.reduceEqDiff, Nat.reduceAdd, Nat.reduceLT, Nat.reduceLeDiff, reduceCtorEq, Int.reduceToNat, fin_yld]
      exact .inr hF
  · have h2 : s.length ≤ i := by simp at h1; omega
    rw [List.drop_eq_nil_of_le h2, chunksF_nil] at hJi
    exact .inl hJi
end Go.Proofs.YtgekglfmianoeaaGreatDoor

namespace Go.Proofs.YtgekglfmianoeaaGreatDoor
open Go Go.Gp
theorem chunksF_count : ∀ (k : Nat) (l : List UInt8), (chunksF k l).length ≤ l.length
  | 0, l => by simp [chunksF]
  | k + 1, l => by
    rw [chunksF]
    split
    · simp
    · rename_i h
      have : l.length ≠ 0 := fun e => h (List.length_eq_zero_iff.1 e)
      have := chunksF_count k (l.drop 16)
      rw [List.length_drop] at this
      rw [List.length_cons]; omega
def padP (p : List UInt8) : List Nat := padB (p.map UInt8.toNat)
theorem cutH_chunks (l : List UInt8) : cutH l = (chunksF l.length l).map padP := cutF_chunks l.length l
theorem putL_pre : ∀ (l : List V) (zs ys : List V), l.length ≤ ys.length → putL (zs ++ ys) zs.length l = zs ++ l ++ ys.drop l.length
  | [], zs, ys, _ => by simp [putL]
  | x :: l, zs, [], h => by simp at h
  | x :: l, zs, y :: ys, h => by
    have := putL_pre l (zs ++ [x]) ys (by simpa using h)
    simp only [List.length_append, List.length_cons, List.length_nil] at this
    simp only [putL, List.length_cons, List.drop_succ_cons]
    rw [show (zs ++ y :: ys).set zs.length x = zs ++ [x] ++ ys by simp, this]
    simp
theorem cells_bytes (l : List UInt8) : (bytesP l).flatMap PV.cells = bytesP l := by
  induction l with
  | nil => rfl
  | cons a r ih => simp only [bytesP, List.map_cons, List.flatMap_cons] at ih ⊢; rw [ih]; rfl
theorem put_pad {p : List UInt8} (hp : p.length ≤ 16) : putL (List.replicate 16 (.p (pU8 0))) 0 ((bytesP p).map V.p) = (padP p).map fun n : Nat => V.p (pU8 n) := by
  have := putL_pre ((bytesP p).map V.p) [] (List.replicate 16 (.p (pU8 0))) (by simp [bytesP]; exact hp)
  simp only [List.nil_append, List.length_nil] at this
  rw [this, padP, padB, List.map_append, List.map_map, List.map_replicate, List.drop_replicate, List.length_map, List.length_map, bytesP_length]
  congr 1
  simp only [bytesP, List.map_map]
  rfl
theorem padP_len (p : List UInt8) (hp : p.length ≤ 16) : (padP p).length = 16 := by rw [padP, padB, List.length_append, List.length_replicate, List.length_map]; omega
abbrev rowV (v : Oct) : List V := [.p (pU8 v.tag.toNat), .p (.sl 1 (bytesP v.bytes)), .p (.sl 3 (v.list.map octP))]
set_option maxHeartbeats 16000000 in
theorem shorts_ct (WG : World) (v : Oct) (t : UInt8) (ok : Bool) : CallT Tryz.prog WG 49 [.ref 0 0, .p (octP v), .p (pU8 t.toNat)] [(0, .box [vI (fE ok)])] 1
    (fun r tb n => r = .p (shortsP (getShorts t v)) ∧ tb = [(0, .box [vI (fE (ok && okShorts t v))])] ∧ n = 1) noP := by
  have hst := str_ct WG v t 65536 ok
  have hor := or2_fv WG (fE (ok && okStr t 65536 v)) 12
  rw [show orE (fE (ok && okStr t 65536 v)) 12 = fE false by rw [show (12 : Int) = fE false from rfl, orE_fE, Bool.and_false]] at hor
  have hln := getStr_le t 65536 v
  have hv := octP_eta v
  rw [hv] at hst ⊢
  refine CallT.tidy (CallT_fnT Tryz.func49 (rs := [.tmp 6]) (n := 40) rfl rfl (Nat.le_of_ble_eq_true rfl) rfl ?_)
  refine T_seqC ?_
  simp only [push_cast, reduceIte, Nat.reduceMul, Nat.reduceEqDiff, Nat.reduceAdd, Nat.reduceLT, Nat.reduceLeDiff, reduceCtorEq, Int.reduceToNat]
  refine T_seqC ?_
  simp only [push_cast, reduceIte, Nat.reduceMul, Nat.reduceEqDiff, Nat.reduceAdd, Nat.reduceLT, Nat.reduceLeDiff, reduceCtorEq, Int.reduceToNat]
  refine T_seqC ?_
  simp only [push_cast, reduceIte, Nat.reduceMul, Nat.reduceEqDiff, Nat.reduceAdd, Nat.reduceLT, Nat.reduceLeDiff, reduceCtorEq, Int.reduceToNat]
  refine CallT.frameL [(0, 0)] hst (by simp [V.rnL, V.rn, rnf, aget]) (by simp [V.bd, V.bdL]) (by simp [LeR, rnf, aget, envR, tabR, injR, notIn, loR, V.rn, V.rnL, V.bd, V.bdL, Blk.rn, Blk.bd, envRn, envBd]) (by simp [LeR, rnf, aget, envR, tabR, injR, notIn, loR, V.rn, V.rnL, V.bd, V.bdL, Blk.rn, Blk.bd, envRn, envBd]) (rn1 (by omega)) (fun r t1 n1 hq => ?_) (fun r t1 n1 hq => hq.elim)
  obtain ⟨rfl, rfl, rfl⟩ := hq
  simp only [V.rn, V.rnL, frf, restT, trn, rnf, adel, Blk.rn, push_cast, reduceIte, Nat.reduceMul, Nat.reduceEqDiff, Nat.reduceAdd, Nat.reduceLT, Nat.reduceLeDiff, reduceCtorEq, Int.reduceToNat, Nat.sub_self]
  have hsz : (baL (getStr t 65536 v)).size = (getStr t 65536 v).length := rfl
  generalize hs : getStr t 65536 v = s at hln hsz
  refine T_cutR (fun a : Bool => ⟨[(0, .ref 0 0), (7, .ref 2 0), (8, .p (pS (baL s)))], [(0, .box [vI (fE a)]), (1, .box (rowV v)), (2, .box [.p (.v (.slice none 0 0))])], 3, 1, 40⟩) (fun a => a = (ok && okShorts t v)) ?_ (fun a ha => ?_)
  · simp only [push_cast, reduceIte, Nat.reduceMul, Nat.reduceEqDiff, Nat.reduceAdd, Nat.reduceLT, Nat.reduceLeDiff, reduceCtorEq, Int.reduceToNat, hsz]
    have hmod : decide (((s.length : Int)).tmod 16 = 0) = decide (s.length % 16 = 0) := decide_eq_decide.2 (by rw [show ((s.length : Int)).tmod 16 = ((s.length % 16 : Nat) : Int) from rfl]; omega)
    rw [hmod]
    refine ⟨by decide, fun h => ?_, fun h => ?_⟩
    · have h : decide (s.length % 16 = 0) = false := by simpa using h
      refine hor.lend rfl (by simp [snapT, snap, snapL, snap1, aget]) ?_
      simp only [push_cast, reduceIte, Nat.reduceMul, Nat.reduceEqDiff, Nat.reduceAdd, Nat.reduceLT, Nat.reduceLeDiff, reduceCtorEq, Int.reduceToNat]
      exact ⟨false, by rw [okShorts, hs, h]; simp, [], by simp [LeR, rnf, aget, envR, tabR, injR, notIn, loR, V.rn, V.rnL, V.bd, V.bdL, Blk.rn, Blk.bd, envRn, envBd]⟩
    · have h : decide (s.length % 16 = 0) = true := by simpa using h
      exact ⟨ok && okStr t 65536 v, by rw [okShorts, hs, h]; simp, [], by simp [LeR, rnf, aget, envR, tabR, injR, notIn, loR, V.rn, V.rnL, V.bd, V.bdL, Blk.rn, Blk.bd, envRn, envBd]⟩
  subst ha
  refine T_seq (T_seq (T_region ?_))
  rw [show List.range (Array.size _) = [0, 1, 2] from rfl]
  refine RT_step rfl ?_
  simp only [stepR, push_cast, reduceIte, Nat.reduceMul, Nat.reduceEqDiff, Nat.reduceAdd, Nat.reduceLT, Nat.reduceLeDiff, reduceCtorEq, Int.reduceToNat, fin_yld]
  refine RT_step rfl ?_
  simp only [stepR, push_cast, reduceIte, Nat.reduceMul, Nat.reduceEqDiff, Nat.reduceAdd, Nat.reduceLT, Nat.reduceLeDiff, reduceCtorEq, Int.reduceToNat, fin_yld]
  refine RT_weak (Weak.freeze 3) ?_
  have hd : (baL s).data.toList = s := rfl
  have hts : (bytesP s).take s.length = bytesP s := List.take_of_length_le (by rw [bytesP_length]; exact Nat.le_refl _)
  simp only [frzS, frzE, frzL, frzT, frzB, frz1, push_cast, reduceIte, Nat.reduceMul, Nat.reduceEqDiff, Nat.reduceAdd, Nat.reduceLT, Nat.reduceLeDiff, reduceCtorEq, Int.reduceToNat, hd, hsz, bytesP_length, Nat.le_refl, if_true, hts]
  refine RT_step rfl ?_
  simp only [stepR, push_cast, reduceIte, Nat.reduceMul, Nat.reduceEqDiff, Nat.reduceAdd, Nat.reduceLT, Nat.reduceLeDiff, reduceCtorEq, Int.reduceToNat, fin_yld]
  refine (chunk_fv WG s).call rfl ?_
  simp only [push_cast, reduceIte, Nat.reduceMul, Nat.reduceEqDiff, Nat.reduceAdd, Nat.reduceLT, Nat.reduceLeDiff, reduceCtorEq, Int.reduceToNat, fin_yld]
  refine RT_nil ?_
  simp only [push_cast, reduceIte, Nat.reduceMul, Nat.reduceEqDiff, Nat.reduceAdd, Nat.reduceLT, Nat.reduceLeDiff, reduceCtorEq, Int.reduceToNat, fin_yld]
  refine T_nilBox 2 0 16 rfl rfl ?_
  simp only [push_cast, reduceIte, Nat.reduceMul, Nat.reduceEqDiff, Nat.reduceAdd, Nat.reduceLT, Nat.reduceLeDiff, reduceCtorEq, Int.reduceToNat, fin_yld]
  refine T_block ?_
  generalize hfa : fE (ok && okShorts t v) = fa
  refine T_rangeP (X := []) (t := [(0, .box [vI fa]), (1, .box (rowV v)), (2, .box [.osl 4 16 0 0 none]), (4, .arr 16 [] true)])
    (J := fun L t n => ∃ pre rest k, pre ++ rest = chunksF s.length s ∧ L = rest.map elB ∧ t = [(0, .box [vI fa]), (1, .box (rowV v)), (2, .box [.osl k 16 0 pre.length none]), (k, .arr 16 (pre.map fun p => shortP (padP p)) true)] ∧ 3 ≤ k ∧ k < n)
    (F := fun _ _ => False) (els := (chunksF s.length s).map elB) (rest := []) (fun x => ∃ p : List UInt8, p.length ≤ 16 ∧ x = elB p) rfl rfl (by kernel_rfl) rfl Beside.nil (fun x hx => ?_) (fun x ⟨p, _, e⟩ => by subst e; rfl) (by kernel_rfl)
    (fun L t n n' hle ⟨pre, rest, k, h1, h2, h3, h4, h5⟩ => ⟨pre, rest, k, h1, h2, h3, h4, by omega⟩)
    (fun J' F' hP' t3 n3 h3 => iterC WG s (by omega) _ J' F' hP' [] t3 n3 (by simpa using h3)) ?_ ⟨[], chunksF s.length s, 4, rfl, by simp, rfl, by omega, by show 4 < 5; omega⟩ ?_ ?_
  · obtain ⟨p, hp, rfl⟩ := List.mem_map.1 hx
    exact ⟨p, chunksF_len _ _ p hp, rfl⟩
  · intro x M t2 m hm _ hE hJ2
    obtain ⟨p, hp16, rfl⟩ := hE
    obtain ⟨pre, rest, k, h1, h2, rfl, h4, h5⟩ := hJ2
    obtain _ | ⟨p', rest⟩ := rest
    · cases h2
    simp only [List.map_cons, List.cons.injEq] at h2
    obtain ⟨hpp, rfl⟩ := h2
    have hpp : p = p' := by
      simp only [elB, List.cons.injEq, V.p.injEq, PV.sl.injEq, true_and, and_true] at hpp
      have := congrArg (List.map Gp.byteOf) hpp
      rwa [byteOf_bytesP, byteOf_bytesP] at this
    subst hpp
    have hput := put_pad hp16
    have hcb := cells_bytes p
    have ht16 : (bytesP p).take 16 = bytesP p := List.take_of_length_le (by rw [bytesP_length]; exact hp16)
    have hpl := padP_len p hp16
    have hsP : shortP (padP p) = .agg ((padP p).map fun x : Nat => pU8 x) := rfl
    obtain ⟨b0, b1, b2, b3, b4, b5, b6, b7, b8, b9, b10, b11, b12, b13, b14, b15, hb⟩ := short16 hpl
    rw [hb] at hput hsP
    simp only [List.map_cons, List.map_nil, List.replicate] at hput hsP
    have na0 : ¬ 0 = m := by omega
    have na1 : ¬ 1 = m := by omega
    have na2 : ¬ 2 = m := by omega
    have na3 : ¬ k = m := by omega
    have nb0 : ¬ 0 = k := by omega
    have nb1 : ¬ 1 = k := by omega
    have nb2 : ¬ 2 = k := by omega
    have nc0 : ¬ 0 = m + 1 := by omega
    have nc1 : ¬ 1 = m + 1 := by omega
    have nc2 : ¬ 2 = m + 1 := by omega
    have nc3 : ¬ k = m + 1 := by omega
    have nc4 : ¬ m = m + 1 := by omega
    have nd0 : ¬ 0 = m + 2 := by omega
    have nd1 : ¬ 1 = m + 2 := by omega
    have nd2 : ¬ 2 = m + 2 := by omega
    have nd3 : ¬ k = m + 2 := by omega
    have nd4 : ¬ m = m + 2 := by omega
    have nd5 : ¬ m + 1 = m + 2 := by omega
    have ne0 : ¬ m = k := by omega
    have ne1 : ¬ m + 1 = k := by omega
    refine wpC_sound _ _ _ ?_
    simp only [push_cast, reduceIte, Nat.reduceMul, Nat.reduceEqDiff, Nat.reduceAdd, Nat.reduceLT, Nat.reduceLeDiff, reduceCtorEq, Int.reduceToNat, fin_yld, elB, List.cons_append, List.nil_append]
    refine T_block ?_
    refine T_seqC ?_
    simp only [push_cast, reduceIte, Nat.reduceMul, Nat.reduceEqDiff, Nat.reduceAdd, Nat.reduceLT, Nat.reduceLeDiff, reduceCtorEq, Int.reduceToNat, fin_yld, na0, na1, na2, na3, aset, aget, if_false]
    refine T_seqC ?_
    simp only [push_cast, reduceIte, Nat.reduceMul, Nat.reduceEqDiff, Nat.reduceAdd, Nat.reduceLT, Nat.reduceLeDiff, reduceCtorEq, Int.reduceToNat, fin_yld, na0, na1, na2, na3, aset, aget, if_false, if_true, Int.reduceAdd, Int.reduceToNat, Nat.reduceSub, Nat.sub_zero, ht16, hcb, hput]
    refine ⟨by omega, ?_⟩
    refine T_fin ?_
    simp only [push_cast, reduceIte, Nat.reduceMul, Nat.reduceEqDiff, Nat.reduceAdd, Nat.reduceLT, Nat.reduceLeDiff, reduceCtorEq, Int.reduceToNat, fin_yld, na0, na1, na2, na3, nb0, nb1, nb2, nc0, nc1, nc2, nc3, nc4, nd0, nd1, nd2, nd3, nd4, nd5, ne0, ne1, aset, aget, adel, if_false, if_true]
    have hcnt := chunksF_count s.length s
    rw [← h1] at hcnt
    simp only [List.length_append, List.length_cons] at hcnt
    have hml : (pre.map fun p => shortP (padP p)).length = pre.length := by rw [List.length_map]
    refine ⟨by omega, (show 5 < m + 1 + 1 + 1 by simp only at hm; omega), [(0, .box [vI fa]), (1, .box (rowV v)), (2, .box [.osl (m + 1 + 1) 16 0 (pre.length + 1) none]), (m + 1 + 1, .arr 16 ((pre ++ [p]).map fun p => shortP (padP p)) true)], ?_, Beside.nil, pre ++ [p], rest, m + 1 + 1, by rw [← h1]; simp, rfl, by simp, by simp only at hm; omega, by omega⟩
    rw [List.take_of_length_le (Nat.le_of_eq hml), ← hsP, ← hb, List.map_append, List.map_cons, List.map_nil]
    exact SubT.cons _ (SubT.cons _ (SubT.cons _ ((SubT.drop (by simp only [aget]; rw [if_neg (by omega)])).trans (SubT.drop (by simp only [aget]; rw [if_neg (by omega), if_neg (by omega)])))))
  · intro t2 n2 t3 _ hn2 hJ2 hs3
    obtain ⟨pre, rest, k, h1, h2, rfl, h4, h5⟩ := hJ2
    have : rest = [] := by cases rest with | nil => rfl | cons a b => cases h2
    subst this
    rw [List.append_nil] at h1
    subst h1
    have nb0 : ¬ 0 = k := by omega
    have nb1 : ¬ 1 = k := by omega
    have nb2 : ¬ 2 = k := by omega
    simp only [push_cast, reduceIte, Nat.reduceMul, Nat.reduceEqDiff, Nat.reduceAdd, Nat.reduceLT, Nat.reduceLeDiff, reduceCtorEq, Int.reduceToNat, fin_yld]
    refine T_weak (Weak.sub hs3) ?_
    refine T_freeze k ?_
    simp only [frzS, frzE, frzL, frzT, frzB, frz1, push_cast, reduceIte, Nat.reduceMul, Nat.reduceEqDiff, Nat.reduceAdd, Nat.reduceLT, Nat.reduceLeDiff, reduceCtorEq, Int.reduceToNat, fin_yld, nb0, nb1, nb2, List.nil_append, aget, if_true, if_false]
    refine T_fin ?_
    simp only [push_cast, reduceIte, Nat.reduceMul, Nat.reduceEqDiff, Nat.reduceAdd, Nat.reduceLT, Nat.reduceLeDiff, reduceCtorEq, Int.reduceToNat, fin_yld]
    have hres : shortsP (getShorts t v) = .sl 16 ((chunksF s.length s).map fun p => shortP (padP p)) := by rw [getShorts, hs, cutH_chunks, shortsP, List.map_map]; rfl
    have hml : ((chunksF s.length s).map fun p => shortP (padP p)).length = (chunksF s.length s).length := by rw [List.length_map]
    rw [List.take_of_length_le (Nat.le_of_eq hml)]
    refine ⟨[], .p (shortsP (getShorts t v)), [(0, .box [vI fa])], 1, ⟨rfl, rfl, rfl⟩, by rw [hres]; simp [V.rn], ?_, Nat.le_refl _, ?_⟩
    · simp [V.bd]
    · simp [LeR, rnf, aget, envR, tabR, injR, notIn, loR, V.rn, V.rnL, V.bd, V.bdL, Blk.rn, Blk.bd, envRn, envBd]
  · intro t2 n2 t3 _ hn2 hF hs3
    exact hF.elim
end Go.Proofs.YtgekglfmianoeaaGreatDoor

namespace Go.Proofs.YtgekglfmianoeaaGreatDoor
open Go Go.Gp
theorem rnL_p (f : Nat → Nat) : ∀ ps : List PV, V.rnL f (ps.map .p) = ps.map .p
  | [] => rfl
  | x :: r => by rw [List.map_cons, V.rnL, rnL_p f r]; rfl
theorem bdL_p (n : Nat) : ∀ ps : List PV, V.bdL n (ps.map .p)
  | [] => by simp [V.bdL]
  | x :: r => by rw [List.map_cons, V.bdL]; exact ⟨by simp [V.bd], bdL_p n r⟩
theorem rd_at {WG : World} {f : FuncId} {ps : List PV} {c c' r0 : PV} (h : CallT Tryz.prog WG f (.ref 0 0 :: ps.map .p) [(0, .box [.p c])] 1 (fun r t n => r = .p r0 ∧ t = [(0, .box [.p c'])] ∧ n = 1) noP) {R nx : Nat} {tab : Tab} (hR : aget tab R = some (.box [.p c])) (hlt : R < nx) :
    CallT Tryz.prog WG f (.ref R 0 :: ps.map .p) tab nx (fun r t n => r = .p r0 ∧ t = aset tab R (.box [.p c']) ∧ n = nx) noP := by
  refine CallT.sub (CallT.frameL [(0, R)] h (by rw [V.rnL, rnL_p]; simp [V.rn, rnf, aget]) (by rw [V.bdL]; exact ⟨by simp [V.bd], bdL_p 1 ps⟩) (by simp [LeR, rnf, aget, envR, tabR, injR, notIn, loR, V.rn, V.rnL, V.bd, V.bdL, Blk.rn, Blk.bd, envRn, envBd, hR]) (by simp [LeR, rnf, aget, envR, tabR, injR, notIn, loR, V.rn, V.rnL, V.bd, V.bdL, Blk.rn, Blk.bd, envRn, envBd]) (rn1 hlt) (fun r t n hq => ?_) (fun r t n hq => hq.elim))
  obtain ⟨rfl, rfl, rfl⟩ := hq
  refine ⟨aset tab R (.box [.p c']), fun k x hk => ?_, rfl, rfl, by omega⟩
  rw [aget_aset] at hk
  simp only [restT, trn, frf, rnf, aget, Option.getD_some, if_true, Nat.lt_one_iff, Blk.rn, V.rnL, V.rn]
  rw [aget_append, aget_adel]
  split at hk
  · rename_i e
    subst e
    cases hk
    simp [aget]
  · rename_i e
    rw [if_neg e, hk]
theorem rd_call {WG : World} {f : FuncId} {ps : List PV} {c c' r0 : PV} (h : CallT Tryz.prog WG f (.ref 0 0 :: ps.map .p) [(0, .box [.p c])] 1 (fun r t n => r = .p r0 ∧ t = [(0, .box [.p c'])] ∧ n = 1) noP) {R nx : Nat} {tab : Tab} {vs : List V} {K KP : V → Tab → Nat → Prop} (hv : vs = .ref R 0 :: ps.map .p) (hR : aget tab R = some (.box [.p c])) (hlt : R < nx)
    (hk : K (.p r0) (aset tab R (.box [.p c'])) nx) : CallT Tryz.prog WG f vs tab nx K KP := by
  subst hv
  exact (rd_at h hR hlt).mono (fun r t n hq => by obtain ⟨rfl, rfl, rfl⟩ := hq; exact hk) (fun _ _ _ hq => hq.elim)
theorem at_get {l : List Oct} {i : Nat} (h : i < l.length) : (l.map octP)[i]? = some (octP (atO l i)) := by
  rw [List.getElem?_map, List.getElem?_eq_getElem h, Option.map_some, atO, List.getD_eq_getElem?_getD, List.getElem?_eq_getElem h]; rfl
set_option maxHeartbeats 8000000 in
theorem numAt_ct (WG : World) (l : List Oct) (i : Nat) (hi : i < l.length) (hi4 : i < 100) (ok : Bool) : CallT Tryz.prog WG 111 [vI i, .ref 1 0, .ref 2 0] [(0, .box [vI (fE ok)]), (1, .box [.ref 0 0]), (2, .box [.p (.sl 3 (l.map octP))])] 3
    (fun r tb n => r = .p (pU64 (getNum (UInt8.ofNat (i + 1)) 18446744073709551615 (atO l i))) ∧ tb = [(0, .box [vI (fE (ok && okNum (UInt8.ofNat (i + 1)) 18446744073709551615 (atO l i)))]), (1, .box [.ref 0 0]), (2, .box [.p (.sl 3 (l.map octP))])] ∧ n = 3) noP := by
  have hn := num_ct WG (atO l i) (UInt8.ofNat (i + 1)) 18446744073709551615 (by decide) ok
  have hv := octP_eta (atO l i)
  have hg := at_get hi
  rw [hv] at hn hg
  rw [ou8_nat (by omega), show ((i + 1 : Nat) : Int) = (i : Int) + 1 by omega] at hn
  have hw1 : IntKind.i64.wrap ((i : Int) + 1) = (i : Int) + 1 := wrap_i64 _ (by omega) (by omega)
  have hw2 : IntKind.u8.wrap ((i : Int) + 1) = (i : Int) + 1 := by
    have := wrap_u8 (i + 1)
    rw [show ((i + 1 : Nat) : Int) = (i : Int) + 1 by omega] at this
    rw [this, Nat.mod_eq_of_lt (by omega)]; omega
  refine CallT_fnT Tryz.func111 (rs := [.tmp 4]) (n := 14) rfl rfl (Nat.le_of_ble_eq_true rfl) rfl ?_
  refine T_seqC ?_
  simp only [push_cast, reduceIte, Nat.reduceMul, Nat.reduceEqDiff, Nat.reduceAdd, Nat.reduceLT, Nat.reduceLeDiff, reduceCtorEq, Int.reduceToNat]
  refine T_seqC ?_
  refine T_drawL [8] mixed (by kernel_rfl) ?_
  simp only [push_cast, reduceIte, Nat.reduceMul, Nat.reduceEqDiff, Nat.reduceAdd, Nat.reduceLT, Nat.reduceLeDiff, reduceCtorEq, Int.reduceToNat, hg, hw1, hw2]
  refine ⟨by omega, _, _, _, rd_at (ps := [_, _, _]) hn rfl (by omega), Hold.intro ?_⟩
  simp only [push_cast, reduceIte, Nat.reduceMul, Nat.reduceEqDiff, Nat.reduceAdd, Nat.reduceLT, Nat.reduceLeDiff, reduceCtorEq, Int.reduceToNat]
  refine T_fin ?_
  simp only [push_cast, reduceIte, Nat.reduceMul, Nat.reduceEqDiff, Nat.reduceAdd, Nat.reduceLT, Nat.reduceLeDiff, reduceCtorEq, Int.reduceToNat]
theorem na_call {WG : World} {f : FuncId} {y c c' d r0 : PV} (h : CallT Tryz.prog WG f [.p y, .ref 1 0, .ref 2 0] [(0, .box [.p c]), (1, .box [.ref 0 0]), (2, .box [.p d])] 3 (fun r t n => r = .p r0 ∧ t = [(0, .box [.p c']), (1, .box [.ref 0 0]), (2, .box [.p d])] ∧ n = 3) noP)
    {R0 R1 R2 nx : Nat} {tab : Tab} {vs : List V} {K KP : V → Tab → Nat → Prop} (hv : vs = [.p y, .ref R1 0, .ref R2 0]) (h0 : aget tab R0 = some (.box [.p c])) (h1 : aget tab R1 = some (.box [.ref R0 0])) (h2 : aget tab R2 = some (.box [.p d])) (l0 : R0 < nx) (l1 : R1 < nx) (l2 : R2 < nx) (n01 : R0 ≠ R1) (n02 : R0 ≠ R2) (n12 : R1 ≠ R2)
    (hk : K (.p r0) (aset tab R0 (.box [.p c'])) nx) : CallT Tryz.prog WG f vs tab nx K KP := by
  subst hv
  have hlt : ∀ k, k < 3 → rnf [(0, R0), (1, R1), (2, R2)] k < nx := fun k hk => by
    have : k = 0 ∨ k = 1 ∨ k = 2 := by omega
    rcases this with rfl | rfl | rfl <;> simp [rnf, aget] <;> assumption
  refine (CallT.sub (K := fun r t n => r = .p r0 ∧ t = aset tab R0 (.box [.p c']) ∧ n = nx) (CallT.frameL [(0, R0), (1, R1), (2, R2)] h (by simp [V.rnL, V.rn, rnf, aget]) (by simp [V.bd, V.bdL]) (by simp [LeR, rnf, aget, envR, tabR, injR, notIn, loR, V.rn, V.rnL, V.bd, V.bdL, Blk.rn, Blk.bd, envRn, envBd, h0, h1, h2]) (by simp [LeR, rnf, aget, envR, tabR, injR, notIn, loR, V.rn, V.rnL, V.bd, V.bdL, Blk.rn, Blk.bd, envRn, envBd, n01, n02, n12]) hlt (fun r t n hq => ?_) (fun r t n hq => False.elim hq))).mono (fun r t n hq => by obtain ⟨rfl, rfl, rfl⟩ := hq; exact hk) (KP := noP) (fun _ _ _ hq => False.elim hq)
  obtain ⟨rfl, rfl, rfl⟩ := hq
  refine ⟨aset tab R0 (.box [.p c']), fun k x hk => ?_, rfl, rfl, by omega⟩
  rw [aget_aset] at hk
  simp only [restT, trn, frf, rnf, aget, Option.getD_some, if_true, Blk.rn, V.rnL, V.rn, Nat.reduceLT, Nat.reduceEqDiff, if_false]
  rw [aget_append, aget_adel, aget_adel, aget_adel]
  by_cases e0 : k = R0
  · subst e0
    rw [if_pos rfl] at hk
    cases hk
    simp [aget]
  · rw [if_neg e0] at hk
    by_cases e1 : k = R1
    · subst e1
      rw [h1] at hk
      cases hk
      simp [aget, n01, n12]
    · by_cases e2 : k = R2
      · subst e2
        rw [h2] at hk
        cases hk
        simp [aget, n02, n12]
      · simp [e0, e1, e2, hk]
theorem spanP_get (x : Oct) : spanP (getSpanO x) = .agg [pU64 (getNum 1 18446744073709551615 (atO (spanL x) 0)), pU64 (getNum 2 18446744073709551615 (atO (spanL x) 1)), pU64 (getNum 3 18446744073709551615 (atO (spanL x) 2)), pU64 (getNum 4 18446744073709551615 (atO (spanL x) 3))] := by
  have g2 := getNum_le 2 18446744073709551615 (atO (spanL x) 1)
  have g4 := getNum_le 4 18446744073709551615 (atO (spanL x) 3)
  simp only [spanP, getSpanO, hi_of (Nat.lt_succ_of_le g2), lo_of (Nat.lt_succ_of_le g2), hi_of (Nat.lt_succ_of_le g4), lo_of (Nat.lt_succ_of_le g4)]
theorem small_get {v : Oct} (hs : smallO v) (t : UInt8) (hi : Nat) : ∀ x ∈ getSeq t 0 hi v, smallO x := by
  obtain ⟨tg, b, l⟩ := v
  intro x hx
  unfold getSeq at hx
  split at hx
  · exact (smallO_mem hs).1 x hx
  · simp at hx
set_option maxHeartbeats 32000000 in
theorem addresses_ct (WG : World) (v : Oct) (hs : smallO v) (ok : Bool) : CallT Tryz.prog WG 51 [.ref 0 0, .p (octP v)] [(0, .box [vI (fE ok)])] 1
    (fun r tb n => r = .p (spansP (getAddrs v)) ∧ tb = [(0, .box [vI (fE (ok && okAddrs v))])] ∧ n = 1) noP := by
  have hls := list_ct WG v hs 129 0 200 (by omega) ok
  have hsx := small_get hs 129 200
  have hxn := (getSeq_len (t := 129) (lo := 0) (hi := 200) (by omega) v).2
  have hka : okAddrs v = (okSeq 129 0 200 v && (getSeq 129 0 200 v).all okSpanO) := rfl
  have hga : spansP (getAddrs v) = .sl 4 ((getSeq 129 0 200 v).map fun x => spanP (getSpanO x)) := by rw [getAddrs, spansP, List.map_map]; rfl
  have hv := octP_eta v
  rw [hv] at hls ⊢
  generalize getSeq 129 0 200 v = xs at hls hsx hxn hka hga
  generalize okSeq 129 0 200 v = ok1 at hls hka
  refine CallT.tidy (CallT_fnT Tryz.func51 (rs := [.tmp 4]) (n := 38) rfl rfl (Nat.le_of_ble_eq_true rfl) rfl ?_)
  refine T_seqC ?_
  simp only [push_cast, reduceIte, Nat.reduceMul, Nat.reduceEqDiff, Nat.reduceAdd, Nat.reduceLT, Nat.reduceLeDiff, reduceCtorEq, Int.reduceToNat]
  refine T_seqC ?_
  simp only [push_cast, reduceIte, Nat.reduceMul, Nat.reduceEqDiff, Nat.reduceAdd, Nat.reduceLT, Nat.reduceLeDiff, reduceCtorEq, Int.reduceToNat]
  refine T_nilT 5 4 rfl ?_
  simp only [push_cast, reduceIte, Nat.reduceMul, Nat.reduceEqDiff, Nat.reduceAdd, Nat.reduceLT, Nat.reduceLeDiff, reduceCtorEq, Int.reduceToNat]
  refine T_seqC ?_
  simp only [push_cast, reduceIte, Nat.reduceMul, Nat.reduceEqDiff, Nat.reduceAdd, Nat.reduceLT, Nat.reduceLeDiff, reduceCtorEq, Int.reduceToNat]
  refine rd_call (ps := [_, _, _, _]) hls rfl rfl (by omega) ?_
  simp only [push_cast, reduceIte, Nat.reduceMul, Nat.reduceEqDiff, Nat.reduceAdd, Nat.reduceLT, Nat.reduceLeDiff, reduceCtorEq, Int.reduceToNat, List.length_map]
  refine T_loopR (fun i : Nat => ⟨[(2, .ref 1 0), (5, .osl 3 4 0 i none), (12, .p (.sl 3 (xs.map octP))), (13, vI xs.length), (14, vI i)], [(0, .box [vI (fE (ok && ok1 && (xs.take i).all okSpanO))]), (1, .box [.ref 0 0]), (3, .arr 4 ((xs.take i).map fun x => spanP (getSpanO x)) true)], 4, 1, 38⟩)
    (fun i => i ≤ xs.length) (fun i => xs.length - i) 0 [] (Nat.zero_le _) (by simp [LeR, rnf, aget, envR, tabR, injR, notIn, loR, V.rn, V.rnL, V.bd, V.bdL, Blk.rn, Blk.bd, envRn, envBd]) (fun i hi => ?_)
  simp only [push_cast, reduceIte, Nat.reduceMul, Nat.reduceEqDiff, Nat.reduceAdd, Nat.reduceLT, Nat.reduceLeDiff, reduceCtorEq, Int.reduceToNat]
  refine ⟨fun h1 => ?_, fun h1 => ?_⟩
  · have h2 : i < xs.length := by simpa using h1
    have hg : xs[i]? = some xs[i] := List.getElem?_eq_getElem h2
    have hsm := hsx _ (List.mem_of_getElem? hg)
    generalize xs[i] = x at hg hsm
    have hal : (xs.take (i + 1)).all okSpanO = ((xs.take i).all okSpanO && okSpanO x) := by rw [List.take_add_one, hg]; simp
    have hl4 := spanL_len x
    have hrl := list_ct WG x hsm 133 4 4 (by omega) (ok && ok1 && (xs.take i).all okSpanO)
    have hok : okSpanO x = (okSeq 133 4 4 x && okNum 1 18446744073709551615 (atO (spanL x) 0) && okNum 2 18446744073709551615 (atO (spanL x) 1) && okNum 3 18446744073709551615 (atO (spanL x) 2) && okNum 4 18446744073709551615 (atO (spanL x) 3)) := rfl
    have hsp := spanP_get x
    have hml : ((xs.take i).map fun x => spanP (getSpanO x)).length = i := by rw [List.length_map, List.length_take]; omega
    have htk : ((xs.take i).map fun x => spanP (getSpanO x)) ++ [spanP (getSpanO x)] = (xs.take (i + 1)).map fun x => spanP (getSpanO x) := by rw [List.take_add_one, hg]; simp
    generalize okSeq 133 4 4 x = ok2 at hrl hok
    have hx := octP_eta x
    have hgx : (xs.map octP)[i]? = some (.agg [pU8 x.tag.toNat, .sl 1 (bytesP x.bytes), .sl 3 (x.list.map octP)]) := by rw [List.getElem?_map, hg, Option.map_some, hx]
    rw [hx] at hrl
    rw [show getSeq 133 4 4 x = spanL x from rfl] at hrl
    generalize spanL x = l at hrl hl4 hok hsp
    generalize hae : (ok && ok1 && (xs.take i).all okSpanO) = a at hrl ⊢
    simp only [push_cast, reduceIte, Nat.reduceMul, Nat.reduceEqDiff, Nat.reduceAdd, Nat.reduceLT, Nat.reduceLeDiff, reduceCtorEq, Int.reduceToNat, hgx]
    refine ⟨by omega, ?_⟩
    refine rd_call (ps := [_, _, _, _]) hrl rfl rfl (by omega) ?_
    simp only [push_cast, reduceIte, Nat.reduceMul, Nat.reduceEqDiff, Nat.reduceAdd, Nat.reduceLT, Nat.reduceLeDiff, reduceCtorEq, Int.reduceToNat]
    refine na_call (numAt_ct WG l 0 (by omega) (by omega) (a && ok2)) rfl rfl rfl rfl (by omega) (by omega) (by omega) (by omega) (by omega) (by omega) ?_
    simp only [push_cast, reduceIte, Nat.reduceMul, Nat.reduceEqDiff, Nat.reduceAdd, Nat.reduceLT, Nat.reduceLeDiff, reduceCtorEq, Int.reduceToNat]
    refine na_call (numAt_ct WG l 1 (by omega) (by omega) ((a && ok2) && okNum (UInt8.ofNat (0 + 1)) 18446744073709551615 (atO l 0))) rfl rfl rfl rfl (by omega) (by omega) (by omega) (by omega) (by omega) (by omega) ?_
    simp only [push_cast, reduceIte, Nat.reduceMul, Nat.reduceEqDiff, Nat.reduceAdd, Nat.reduceLT, Nat.reduceLeDiff, reduceCtorEq, Int.reduceToNat]
    refine na_call (numAt_ct WG l 2 (by omega) (by omega) (((a && ok2) && okNum (UInt8.ofNat (0 + 1)) 18446744073709551615 (atO l 0)) && okNum (UInt8.ofNat (1 + 1)) 18446744073709551615 (atO l 1))) rfl rfl rfl rfl (by omega) (by omega) (by omega) (by omega) (by omega) (by omega) ?_
    simp only [push_cast, reduceIte, Nat.reduceMul, Nat.reduceEqDiff, Nat.reduceAdd, Nat.reduceLT, Nat.reduceLeDiff, reduceCtorEq, Int.reduceToNat]
    refine na_call (numAt_ct WG l 3 (by omega) (by omega) ((((a && ok2) && okNum (UInt8.ofNat (0 + 1)) 18446744073709551615 (atO l 0)) && okNum (UInt8.ofNat (1 + 1)) 18446744073709551615 (atO l 1)) && okNum (UInt8.ofNat (2 + 1)) 18446744073709551615 (atO l 2))) rfl rfl rfl rfl (by omega) (by omega) (by omega) (by omega) (by omega) (by omega) ?_
    simp only [push_cast, reduceIte, Nat.reduceMul, Nat.reduceEqDiff, Nat.reduceAdd, Nat.reduceLT, Nat.reduceLeDiff, reduceCtorEq, Int.reduceToNat]
    refine ⟨⟨by rw [List.length_take]; omega, by omega⟩, i + 1, by omega, by omega, [(3, 7)], ?_⟩
    rw [List.take_of_length_le (Nat.le_of_eq hml), ← htk, hsp, hal, ← Bool.and_assoc, hae, hok]
    have u1 : UInt8.ofNat 1 = 1 := rfl
    have u2 : UInt8.ofNat 2 = 2 := rfl
    have u3 : UInt8.ofNat 3 = 3 := rfl
    have u4 : UInt8.ofNat 4 = 4 := rfl
    simp [LeR, rnf, aget, envR, tabR, injR, notIn, loR, V.rn, V.rnL, V.bd, V.bdL, Blk.rn, Blk.bd, envRn, envBd, u1, u2, u3, u4, Bool.and_assoc, wrap_i64 ((i : Int) + 1) (by omega) (by omega)]
  · have : i = xs.length := by simp at h1; omega
    subst this
    have hml : (xs.map fun x => spanP (getSpanO x)).length = xs.length := by rw [List.length_map]
    refine T_freeze 3 ?_
    simp only [frzS, frzE, frzL, frzT, frzB, frz1, push_cast, reduceIte, Nat.reduceMul, Nat.reduceEqDiff, Nat.reduceAdd, Nat.reduceLT, Nat.reduceLeDiff, reduceCtorEq, Int.reduceToNat, List.take_length, Nat.le_refl, if_true, List.take_of_length_le (Nat.le_of_eq hml)]
    refine T_fin ?_
    simp only [push_cast, reduceIte, Nat.reduceMul, Nat.reduceEqDiff, Nat.reduceAdd, Nat.reduceLT, Nat.reduceLeDiff, reduceCtorEq, Int.reduceToNat]
    rw [Bool.and_assoc, ← hka]
    refine ⟨[], .p (spansP (getAddrs v)), [(0, .box [vI (fE (ok && okAddrs v))])], 1, ⟨rfl, rfl, rfl⟩, by rw [hga]; simp [V.rn], ?_, Nat.le_refl _, ?_⟩
    · simp [V.bd]
    · simp [LeR, rnf, aget, envR, tabR, injR, notIn, loR, V.rn, V.rnL, V.bd, V.bdL, Blk.rn, Blk.bd, envRn, envBd]
end Go.Proofs.YtgekglfmianoeaaGreatDoor
