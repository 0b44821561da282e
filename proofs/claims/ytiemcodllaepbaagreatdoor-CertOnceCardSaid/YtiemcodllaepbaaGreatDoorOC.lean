/-
  Octets: Encode; ReadNum, ReadStr, ReadSeq; the first error.
  octet.Decode.
-/
import Derived.Test.YtiemcodllaepbaaGreatDoorOB
import Derived.Test.YtiemcodllaepbaaGreatDoorPA
import Derived.Test.YtiemcodllaepbaaGreatDoorKE
set_option linter.unusedSimpArgs false
set_option linter.unusedVariables false
set_option maxRecDepth 20000
namespace Go.Proofs.YtiemcodllaepbaaGreatDoor
open Go Go.Gp
set_option maxHeartbeats 4000000 in
theorem encode8_fv (WG : World) (v : Oct) (hs : smallO v) (hd : depthO v < 1000000) : FV Tryz.prog WG 64 [octP v] (.tup [.p (.sl 1 (bytesP (if chkO v = 0 then enc v else []))), vI (chkO v)]) := by
  refine FV.softR (r := .tup [if chkO v = 0 then .p (.sl 1 (bytesP (enc v))) else .p (.v (.slice none 0 0)), vI (chkO v)]) ?_ ?_
  · have hc := chk8_fv WG v hs hd
    have hp := put8_fv WG v hs
    have hv := octP_eta v
    rw [hv] at hc hp ⊢
    refine CallT.pure (by by_cases h : chkO v = 0 <;> simp [h, Gp.pureR, isP]) (CallT_fnT Tryz.func64 (rs := [.tmp 2, .tmp 3]) (n := 12) rfl rfl (Nat.le_of_ble_eq_true rfl) rfl ?_)
    refine T_seqC ?_
    simp only [push_cast, reduceIte, Nat.reduceMul, Nat.reduceEqDiff, Nat.reduceAdd, Nat.reduceLT, Nat.reduceLeDiff, reduceCtorEq, Int.reduceToNat]
    refine T_seqC ?_
    simp only [push_cast, reduceIte, Nat.reduceMul, Nat.reduceEqDiff, Nat.reduceAdd, Nat.reduceLT, Nat.reduceLeDiff, reduceCtorEq, Int.reduceToNat]
    refine hc.call rfl ?_
    simp only [push_cast, reduceIte, Nat.reduceMul, Nat.reduceEqDiff, Nat.reduceAdd, Nat.reduceLT, Nat.reduceLeDiff, reduceCtorEq, Int.reduceToNat]
    refine ⟨fun h => ?_, fun h => ?_⟩
    · have h : ¬ chkO v = 0 := by simpa using h
      simp only [if_neg h]
    · have h : chkO v = 0 := by simpa using h
      refine T_fin ?_
      simp only [push_cast, reduceIte, Nat.reduceMul, Nat.reduceEqDiff, Nat.reduceAdd, Nat.reduceLT, Nat.reduceLeDiff, reduceCtorEq, Int.reduceToNat]
      refine hp.call rfl ?_
      simp only [push_cast, reduceIte, Nat.reduceMul, Nat.reduceEqDiff, Nat.reduceAdd, Nat.reduceLT, Nat.reduceLeDiff, reduceCtorEq, Int.reduceToNat, h, if_true]
  · by_cases h : chkO v = 0
    · simp only [h, if_true]; exact .refl
    · simp only [h, if_false]
      refine .tup rfl fun i c d hc hd => ?_
      match i, hc, hd with
      | 0, hc, hd => cases hc; cases hd; exact .p .nil
      | 1, hc, hd => cases hc; cases hd; exact .refl
      | _ + 2, hc, _ => cases hc

def orE (a b : Int) : Int := if a = 0 then b else a
set_option maxHeartbeats 4000000 in
theorem or2_fv (WG : World) (a b : Int) : FV Tryz.prog WG 74 [.sl 1 [pI a, pI b]] (vI (orE a b)) := by
  refine CallT.pure rfl (CallT_fnT Tryz.func74 (rs := [.tmp 2]) (n := 18) rfl rfl (Nat.le_of_ble_eq_true rfl) rfl ?_)
  refine T_seqC ?_
  simp only [push_cast, reduceIte, Nat.reduceMul, Nat.reduceEqDiff, Nat.reduceAdd, Nat.reduceLT, Nat.reduceLeDiff, reduceCtorEq, Int.reduceToNat]
  refine T_seqC ?_
  simp only [push_cast, reduceIte, Nat.reduceMul, Nat.reduceEqDiff, Nat.reduceAdd, Nat.reduceLT, Nat.reduceLeDiff, reduceCtorEq, Int.reduceToNat]
  refine T_seqC ?_
  simp only [push_cast, reduceIte, Nat.reduceMul, Nat.reduceEqDiff, Nat.reduceAdd, Nat.reduceLT, Nat.reduceLeDiff, reduceCtorEq, Int.reduceToNat]
  refine T_loopS (fun i : Nat => ⟨[(3, vI 0), (6, .p (.sl 1 [pI a, pI b])), (7, vI 2), (8, vI i)], [], 0, 0, 18⟩) (fun i => i ≤ 2 ∧ (1 ≤ i → a = 0) ∧ (2 ≤ i → b = 0)) (fun i => 2 - i) 0 ⟨Nat.zero_le _, by omega, by omega⟩ (by simp [Le, subE, aget]) (fun i hi => ?_)
  obtain ⟨h1, h2, h3⟩ := hi
  simp only [push_cast, reduceIte, Nat.reduceMul, Nat.reduceEqDiff, Nat.reduceAdd, Nat.reduceLT, Nat.reduceLeDiff, reduceCtorEq, Int.reduceToNat]
  refine ⟨fun h => ?_, fun h => ?_⟩
  · have h4 : i < 2 := by simp at h; omega
    have hw : IntKind.i64.wrap ((i : Int) + 1) = ((i + 1 : Nat) : Int) := by rw [wrap_i64 _ (by omega) (by omega)]; omega
    have h5 : i = 0 ∨ i = 1 := by omega
    rcases h5 with rfl | rfl
    · simp only [push_cast, reduceIte, Nat.reduceMul, Nat.reduceEqDiff, Nat.reduceAdd, Nat.reduceLT, Nat.reduceLeDiff, reduceCtorEq, Int.reduceToNat]
      refine ⟨by omega, fun h => ?_, fun h => ?_⟩
      · have h : ¬ a = 0 := by simpa using h
        rw [orE, if_neg h]
      · have h : a = 0 := by simpa using h
        exact ⟨1, ⟨by omega, fun _ => h, by omega⟩, by omega, by simp [Le, subE, aget, show IntKind.i64.wrap 1 = 1 from by decide]⟩
    · simp only [push_cast, reduceIte, Nat.reduceMul, Nat.reduceEqDiff, Nat.reduceAdd, Nat.reduceLT, Nat.reduceLeDiff, reduceCtorEq, Int.reduceToNat]
      refine ⟨by omega, fun h => ?_, fun h => ?_⟩
      · rw [orE, if_pos (h2 (by omega))]
      · have h : b = 0 := by simpa using h
        exact ⟨2, ⟨by omega, fun _ => h2 (by omega), fun _ => h⟩, by omega, by simp [Le, subE, aget, show IntKind.i64.wrap 2 = 2 from by decide]⟩
  · have h4 : ¬ i < 2 := by simp at h; omega
    refine T_fin ?_
    simp only [push_cast, reduceIte, Nat.reduceMul, Nat.reduceEqDiff, Nat.reduceAdd, Nat.reduceLT, Nat.reduceLeDiff, reduceCtorEq, Int.reduceToNat]
    rw [orE, if_pos (h2 (by omega)), h3 (by omega)]
theorem tag_iff (a b : UInt8) : decide ((a.toNat : Int) = b.toNat) = decide (a = b) := decide_eq_decide.2 ⟨fun h => UInt8.toNat_inj.1 (by omega), fun h => by rw [h]⟩
theorem pos_empty {α : Type} (l : List α) : decide ((0 : Int) < l.length) = !l.isEmpty := by cases l <;> simp
theorem lt_not (a b : Nat) : decide ((a : Int) < b) = !decide (b ≤ a) := by rw [← decide_not]; exact decide_eq_decide.2 (by omega)
theorem okStr_eq (t : UInt8) (m : Nat) (tg : UInt8) (b : List UInt8) (l : List Oct) : (!decide (tg = t) || decide ((0 : Int) < l.length) || decide ((m : Int) < b.length)) = !okStr t m (.mk tg b l) := by
  rw [pos_empty, lt_not]
  simp only [okStr, Bool.not_and]
  rfl
set_option maxHeartbeats 8000000 in
theorem readStr_fv (WG : World) (v : Oct) (t : UInt8) (m : Nat) : FV Tryz.prog WG 122 [octP v, pU8 t.toNat, pI m] (.tup [.p (pS (baL (getStr t m v))), vI (if okStr t m v then 0 else 12)]) := by
  obtain ⟨tg, b, l⟩ := v
  rw [octP_mk]
  refine CallT.pure rfl (CallT_fnT Tryz.func122 (rs := [.tmp 6, .tmp 7]) (n := 28) rfl rfl (Nat.le_of_ble_eq_true rfl) rfl ?_)
  refine T_seqC ?_
  simp only [push_cast, reduceIte, Nat.reduceMul, Nat.reduceEqDiff, Nat.reduceAdd, Nat.reduceLT, Nat.reduceLeDiff, reduceCtorEq, Int.reduceToNat]
  refine T_seqC ?_
  simp only [push_cast, reduceIte, Nat.reduceMul, Nat.reduceEqDiff, Nat.reduceAdd, Nat.reduceLT, Nat.reduceLeDiff, reduceCtorEq, Int.reduceToNat, tag_iff, bytesP_length, List.length_map, okStr_eq]
  refine ⟨fun h => ?_, fun h => ?_⟩
  · have h : okStr t m (.mk tg b l) = false := by simpa using h
    simp only [getStr, h, Bool.false_eq_true, if_false]
    rfl
  · have h : okStr t m (.mk tg b l) = true := by simpa using h
    refine T_fin ?_
    simp only [push_cast, reduceIte, Nat.reduceMul, Nat.reduceEqDiff, Nat.reduceAdd, Nat.reduceLT, Nat.reduceLeDiff, reduceCtorEq, Int.reduceToNat, getStr, h, if_true, byteOf_bytesP]
    rfl
theorem okSeq_eq (t : UInt8) (lo hi : Nat) (tg : UInt8) (b : List UInt8) (l : List Oct) : (!decide (tg = t) || decide ((0 : Int) < b.length) || decide ((l.length : Int) < lo) || decide ((hi : Int) < l.length)) = !okSeq t lo hi (.mk tg b l) := by
  rw [pos_empty, lt_not, lt_not]
  simp only [okSeq, Bool.not_and]
  rfl
set_option maxHeartbeats 8000000 in
theorem readSeq_fv (WG : World) (v : Oct) (hs : smallO v) (t : UInt8) (lo hi : Nat) : FV Tryz.prog WG 120 [octP v, pU8 t.toNat, pI lo, pI hi] (.tup [.p (.sl 3 ((if okSeq t lo hi v then v.list else []).map octP)), vI (if okSeq t lo hi v then 0 else 12)]) := by
  obtain ⟨tg, b, l⟩ := v
  refine FV.softR (r := .tup [if okSeq t lo hi (.mk tg b l) then .p (.sl 3 (l.map octP)) else .p (.v (.slice none 0 0)), vI (if okSeq t lo hi (.mk tg b l) then 0 else 12)]) ?_ ?_
  · have htw := twin8_fv WG (.mk tg b l) hs
    rw [octP_mk] at htw ⊢
    refine CallT.pure (by cases h : okSeq t lo hi (.mk tg b l) <;> simp [Gp.pureR, isP]) (CallT_fnT Tryz.func120 (rs := [.tmp 8, .tmp 9]) (n := 37) rfl rfl (Nat.le_of_ble_eq_true rfl) rfl ?_)
    refine T_seqC ?_
    simp only [push_cast, reduceIte, Nat.reduceMul, Nat.reduceEqDiff, Nat.reduceAdd, Nat.reduceLT, Nat.reduceLeDiff, reduceCtorEq, Int.reduceToNat]
    refine T_seqC ?_
    simp only [push_cast, reduceIte, Nat.reduceMul, Nat.reduceEqDiff, Nat.reduceAdd, Nat.reduceLT, Nat.reduceLeDiff, reduceCtorEq, Int.reduceToNat, tag_iff, bytesP_length, List.length_map, okSeq_eq]
    refine ⟨fun h => ?_, fun h => ?_⟩
    · have h : okSeq t lo hi (.mk tg b l) = false := by simpa using h
      simp only [h, Bool.false_eq_true, if_false]
    · have h : okSeq t lo hi (.mk tg b l) = true := by simpa using h
      refine T_fin ?_
      simp only [push_cast, reduceIte, Nat.reduceMul, Nat.reduceEqDiff, Nat.reduceAdd, Nat.reduceLT, Nat.reduceLeDiff, reduceCtorEq, Int.reduceToNat]
      refine htw.call rfl ?_
      simp only [push_cast, reduceIte, Nat.reduceMul, Nat.reduceEqDiff, Nat.reduceAdd, Nat.reduceLT, Nat.reduceLeDiff, reduceCtorEq, Int.reduceToNat, h, if_true]
  · cases h : okSeq t lo hi (.mk tg b l) with
    | true => exact .refl
    | false =>
      refine .tup rfl fun i c d hc hd => ?_
      match i, hc, hd with
      | 0, hc, hd => cases hc; cases hd; exact .p .nil
      | 1, hc, hd => cases hc; cases hd; exact .refl
      | _ + 2, hc, _ => cases hc
theorem or_byteU (a c : Nat) (ha : a < 72057594037927936) (hc : c < 256) : bits2 .u64 (· ||| ·) ((a : Int) * 2 ^ 8) c = ((a * 256 + c : Nat) : Int) := by
  have e1 : ((a : Int) * 2 ^ 8) = ((a * 256 : Nat) : Int) := by omega
  rw [e1, bits2]
  have e2 : (BitVec.ofInt IntKind.u64.bits ((a * 256 : Nat) : Int) ||| BitVec.ofInt IntKind.u64.bits (c : Int)).toNat = a * 256 + c := by
    show (BitVec.ofInt 64 ((a * 256 : Nat) : Int) ||| BitVec.ofInt 64 (c : Int)).toNat = a * 256 + c
    rw [BitVec.ofInt_natCast, BitVec.ofInt_natCast, BitVec.toNat_or, BitVec.toNat_ofNat, BitVec.toNat_ofNat, Nat.mod_eq_of_lt (by omega), Nat.mod_eq_of_lt (by omega)]
    have := Nat.shiftLeft_add_eq_or_of_lt (i := 8) (b := c) hc a
    rw [Nat.shiftLeft_eq] at this
    exact this.symm
  rw [e2, wrap_u64' _ (by omega)]
theorem head_eq0 (t : UInt8) (m : Nat) (tg : UInt8) (l : List Oct) : (!decide (tg = t) || decide ((0 : Int) < l.length)) = !okHead t (.mk tg [] l) := by
  rw [pos_empty]
  simp [okHead, Oct.tag, Oct.list, Oct.bytes]
  try rfl
theorem head_eq1 (t : UInt8) (m : Nat) (tg c : UInt8) (r : List UInt8) (l : List Oct) : (!decide (tg = t) || decide ((0 : Int) < l.length) || decide ((8 : Int) < (r.length : Int) + 1) || decide ((0 : Int) < (r.length : Int) + 1) && decide ((c.toNat : Int) = 0)) = !okHead t (.mk tg (c :: r) l) := by
  have e1 : decide ((8 : Int) < (r.length : Int) + 1) = !decide (r.length + 1 ≤ 8) := by rw [← decide_not]; exact decide_eq_decide.2 (by omega)
  have e2 : decide ((0 : Int) < (r.length : Int) + 1) = true := decide_eq_true (by omega)
  have e3 : decide ((c.toNat : Int) = 0) = decide (c = 0) := decide_eq_decide.2 ⟨fun h => UInt8.toNat_inj.1 (by have : (0 : UInt8).toNat = 0 := rfl; omega), fun h => by rw [h]; rfl⟩
  rw [pos_empty, e1, e2, e3]
  simp [okHead, Oct.tag, Oct.list, Oct.bytes]
  try rfl
set_option maxHeartbeats 16000000 in
theorem readNum_fv (WG : World) (v : Oct) (t : UInt8) (m : Nat) (hm : m < 18446744073709551616) : FV Tryz.prog WG 121 [octP v, pU8 t.toNat, pU64 m] (.tup [.p (pU64 (getNum t m v)), vI (if okNum t m v then 0 else 12)]) := by
  obtain ⟨tg, b, l⟩ := v
  rw [octP_mk]
  refine CallT.pure rfl (CallT_fnT Tryz.func121 (rs := [.tmp 6, .tmp 7]) (n := 57) rfl rfl (Nat.le_of_ble_eq_true rfl) rfl ?_)
  refine T_seqC ?_
  simp only [push_cast, reduceIte, Nat.reduceMul, Nat.reduceEqDiff, Nat.reduceAdd, Nat.reduceLT, Nat.reduceLeDiff, reduceCtorEq, Int.reduceToNat]
  refine T_seqC ?_
  have hbad : okHead t (.mk tg b l) = false → V.tup [V.p (PV.v (Value.int IntKind.u64 0)), V.p (PV.v (Value.int IntKind.i64 12))] = V.tup [V.p (pU64 ↑(getNum t m (Oct.mk tg b l))), V.p (PV.v (Value.int IntKind.i64 (if okNum t m (Oct.mk tg b l) = true then 0 else 12)))] := fun h => by
    simp [getNum, okNum_head, h]
  obtain _ | ⟨c, r⟩ := b
  · simp only [push_cast, reduceIte, Nat.reduceMul, Nat.reduceEqDiff, Nat.reduceAdd, Nat.reduceLT, Nat.reduceLeDiff, reduceCtorEq, Int.reduceToNat, tag_iff, bytesP_length, List.length_map, List.length_nil, Int.ofNat_zero, show decide ((0 : Int) < 0) = false from rfl, show decide ((8 : Int) < 0) = false from rfl, Bool.and_false, Bool.or_false, show (bytesP ([] : List UInt8))[0]? = none from rfl]
    refine fin_off (.p (.ptr (.v (.int .u8 0)) 0)) (by kernel_rfl) rfl rfl rfl rfl (by simp only [push_cast, reduceIte, Nat.reduceMul, Nat.reduceEqDiff, Nat.reduceAdd, Nat.reduceLT, Nat.reduceLeDiff, reduceCtorEq, Int.reduceToNat, Bool.and_false]) (by simp only [push_cast, reduceIte, Nat.reduceMul, Nat.reduceEqDiff, Nat.reduceAdd, Nat.reduceLT, Nat.reduceLeDiff, reduceCtorEq, Int.reduceToNat]) ?_
    simp only [push_cast, reduceIte, Nat.reduceMul, Nat.reduceEqDiff, Nat.reduceAdd, Nat.reduceLT, Nat.reduceLeDiff, reduceCtorEq, Int.reduceToNat, Bool.and_false, Bool.or_false, head_eq0 t m]
    refine ⟨fun h => ?_, fun h => ?_⟩
    · exact hbad (by simpa using h)
    · replace h := h
      have h : okHead t (.mk tg [] l) = true := by simpa using h
      have hok : okNum t m (.mk tg [] l) = decide (numP ([] : List UInt8) ≤ m) := by rw [okNum_head, h, Bool.true_and]; rfl
      have hlen : ([] : List UInt8).length ≤ 8 := by simp only [okHead, Bool.and_eq_true, decide_eq_true_eq] at h; exact h.1.2
      generalize hB : ([] : List UInt8) = b at hok hlen ⊢
      refine T_seqC ?_
      simp only [push_cast, reduceIte, Nat.reduceMul, Nat.reduceEqDiff, Nat.reduceAdd, Nat.reduceLT, Nat.reduceLeDiff, reduceCtorEq, Int.reduceToNat]
      refine T_seqC ?_
      simp only [push_cast, reduceIte, Nat.reduceMul, Nat.reduceEqDiff, Nat.reduceAdd, Nat.reduceLT, Nat.reduceLeDiff, reduceCtorEq, Int.reduceToNat]
      refine T_loopS (fun i : Nat => ⟨[(2, .p (pU64 m)), (8, .p (pU64 (numP (b.take i)))), (41, .p (.sl 1 (bytesP b))), (42, vI b.length), (43, vI i)], [(0, .box [.p (pU8 tg.toNat), .p (.sl 1 (bytesP b)), .p (.sl 3 (l.map octP))])], 1, 0, 57⟩) (fun i => i ≤ b.length) (fun i => b.length - i) 0 (Nat.zero_le _) (by simp [Le, subE, aget, numP, bytesP_length, ← hB]) (fun i hi => ?_)
      simp only [push_cast, reduceIte, Nat.reduceMul, Nat.reduceEqDiff, Nat.reduceAdd, Nat.reduceLT, Nat.reduceLeDiff, reduceCtorEq, Int.reduceToNat]
      refine ⟨fun h5 => ?_, fun h5 => ?_⟩
      · have h6 : i < b.length := by simpa using h5
        have hg : b[i]? = some b[i] := List.getElem?_eq_getElem h6
        have htk : numP (b.take (i + 1)) = numP (b.take i) * 256 + (b[i]).toNat := by
          have e : b.take (i + 1) = b.take i ++ [b[i]] := by rw [List.take_add_one, hg]; rfl
          rw [e, numP, List.foldl_append]; rfl
        have hlt := numP_lt (b.take i)
        have hx : (b[i]).toNat < 256 := (b[i]).toNat_lt
        have hlt : numP (b.take i) < 72057594037927936 := Nat.lt_of_lt_of_le hlt (by
          rw [List.length_take]
          calc 256 ^ min i b.length ≤ 256 ^ 7 := Nat.pow_le_pow_right (by decide) (by omega)
            _ = 72057594037927936 := by decide)
        generalize b[i] = x at hg htk hx
        have ea : (bytesP b)[i]? = some (.v (.int .u8 x.toNat)) := by simp [bytesP, hg, byteP]
        have es : IntKind.u64.wrap ((numP (b.take i) : Int) * 2 ^ shAmt .u64 8) = (numP (b.take i) : Int) * 2 ^ 8 := by
          rw [show shAmt .u64 8 = 8 from rfl]
          have e1 : ((numP (b.take i) : Int) * 2 ^ 8) = ((numP (b.take i) * 256 : Nat) : Int) := by omega
          rw [e1, wrap_u64' _ (by omega)]
        have ew : IntKind.u64.wrap (x.toNat : Int) = x.toNat := wrap_u64' _ (by omega)
        simp only [push_cast, reduceIte, Nat.reduceMul, Nat.reduceEqDiff, Nat.reduceAdd, Nat.reduceLT, Nat.reduceLeDiff, reduceCtorEq, Int.reduceToNat, ea, es, ew, or_byteU _ _ hlt hx, ← htk]
        exact ⟨by omega, by omega, i + 1, by omega, by omega, by simp [Le, subE, aget, wrap_i64 ((i : Int) + 1) (by omega) (by omega)]⟩
      · have h6 : i = b.length := by simp at h5; omega
        subst h6
        rw [List.take_length]
        have hgt : decide ((m : Int) < numP b) = !decide (numP b ≤ m) := lt_not m (numP b)
        refine T_seqC ?_
        simp only [push_cast, reduceIte, Nat.reduceMul, Nat.reduceEqDiff, Nat.reduceAdd, Nat.reduceLT, Nat.reduceLeDiff, reduceCtorEq, Int.reduceToNat, hgt]
        refine ⟨fun h7 => ?_, fun h7 => ?_⟩
        · have h7 : decide (numP b ≤ m) = false := by simpa using h7
          simp [getNum, hok, h7]
        · have h7 : decide (numP b ≤ m) = true := by simpa using h7
          refine T_fin ?_
          simp only [push_cast, reduceIte, Nat.reduceMul, Nat.reduceEqDiff, Nat.reduceAdd, Nat.reduceLT, Nat.reduceLeDiff, reduceCtorEq, Int.reduceToNat]
          simp [getNum, hok, h7, Oct.bytes]
  · have hg0 : (bytesP (c :: r))[0]? = some (.v (.int .u8 c.toNat)) := rfl
    simp only [push_cast, reduceIte, Nat.reduceMul, Nat.reduceEqDiff, Nat.reduceAdd, Nat.reduceLT, Nat.reduceLeDiff, reduceCtorEq, Int.reduceToNat, tag_iff, bytesP_length, List.length_map, hg0, head_eq1 t m]
    refine ⟨fun h => ⟨h, by omega⟩, fun h => ⟨h, fun h2 => by simp only [h, h2, Bool.and_true]⟩, fun h => ?_, fun h => ?_⟩
    · exact hbad (by simpa using h)
    · replace h := h
      have h : okHead t (.mk tg (c :: r) l) = true := by simpa using h
      have hok : okNum t m (.mk tg (c :: r) l) = decide (numP (c :: r) ≤ m) := by rw [okNum_head, h, Bool.true_and]; rfl
      have hlen : ((c :: r)).length ≤ 8 := by simp only [okHead, Bool.and_eq_true, decide_eq_true_eq] at h; exact h.1.2
      generalize hB : (c :: r) = b at hok hlen ⊢
      refine T_seqC ?_
      simp only [push_cast, reduceIte, Nat.reduceMul, Nat.reduceEqDiff, Nat.reduceAdd, Nat.reduceLT, Nat.reduceLeDiff, reduceCtorEq, Int.reduceToNat]
      refine T_seqC ?_
      simp only [push_cast, reduceIte, Nat.reduceMul, Nat.reduceEqDiff, Nat.reduceAdd, Nat.reduceLT, Nat.reduceLeDiff, reduceCtorEq, Int.reduceToNat]
      refine T_loopS (fun i : Nat => ⟨[(2, .p (pU64 m)), (8, .p (pU64 (numP (b.take i)))), (41, .p (.sl 1 (bytesP b))), (42, vI b.length), (43, vI i)], [(0, .box [.p (pU8 tg.toNat), .p (.sl 1 (bytesP b)), .p (.sl 3 (l.map octP))])], 1, 0, 57⟩) (fun i => i ≤ b.length) (fun i => b.length - i) 0 (Nat.zero_le _) (by simp [Le, subE, aget, numP, bytesP_length, ← hB]) (fun i hi => ?_)
      simp only [push_cast, reduceIte, Nat.reduceMul, Nat.reduceEqDiff, Nat.reduceAdd, Nat.reduceLT, Nat.reduceLeDiff, reduceCtorEq, Int.reduceToNat]
      refine ⟨fun h5 => ?_, fun h5 => ?_⟩
      · have h6 : i < b.length := by simpa using h5
        have hg : b[i]? = some b[i] := List.getElem?_eq_getElem h6
        have htk : numP (b.take (i + 1)) = numP (b.take i) * 256 + (b[i]).toNat := by
          have e : b.take (i + 1) = b.take i ++ [b[i]] := by rw [List.take_add_one, hg]; rfl
          rw [e, numP, List.foldl_append]; rfl
        have hlt := numP_lt (b.take i)
        have hx : (b[i]).toNat < 256 := (b[i]).toNat_lt
        have hlt : numP (b.take i) < 72057594037927936 := Nat.lt_of_lt_of_le hlt (by
          rw [List.length_take]
          calc 256 ^ min i b.length ≤ 256 ^ 7 := Nat.pow_le_pow_right (by decide) (by omega)
            _ = 72057594037927936 := by decide)
        generalize b[i] = x at hg htk hx
        have ea : (bytesP b)[i]? = some (.v (.int .u8 x.toNat)) := by simp [bytesP, hg, byteP]
        have es : IntKind.u64.wrap ((numP (b.take i) : Int) * 2 ^ shAmt .u64 8) = (numP (b.take i) : Int) * 2 ^ 8 := by
          rw [show shAmt .u64 8 = 8 from rfl]
          have e1 : ((numP (b.take i) : Int) * 2 ^ 8) = ((numP (b.take i) * 256 : Nat) : Int) := by omega
          rw [e1, wrap_u64' _ (by omega)]
        have ew : IntKind.u64.wrap (x.toNat : Int) = x.toNat := wrap_u64' _ (by omega)
        simp only [push_cast, reduceIte, Nat.reduceMul, Nat.reduceEqDiff, Nat.reduceAdd, Nat.reduceLT, Nat.reduceLeDiff, reduceCtorEq, Int.reduceToNat, ea, es, ew, or_byteU _ _ hlt hx, ← htk]
        exact ⟨by omega, by omega, i + 1, by omega, by omega, by simp [Le, subE, aget, wrap_i64 ((i : Int) + 1) (by omega) (by omega)]⟩
      · have h6 : i = b.length := by simp at h5; omega
        subst h6
        rw [List.take_length]
        have hgt : decide ((m : Int) < numP b) = !decide (numP b ≤ m) := lt_not m (numP b)
        refine T_seqC ?_
        simp only [push_cast, reduceIte, Nat.reduceMul, Nat.reduceEqDiff, Nat.reduceAdd, Nat.reduceLT, Nat.reduceLeDiff, reduceCtorEq, Int.reduceToNat, hgt]
        refine ⟨fun h7 => ?_, fun h7 => ?_⟩
        · have h7 : decide (numP b ≤ m) = false := by simpa using h7
          simp [getNum, hok, h7]
        · have h7 : decide (numP b ≤ m) = true := by simpa using h7
          refine T_fin ?_
          simp only [push_cast, reduceIte, Nat.reduceMul, Nat.reduceEqDiff, Nat.reduceAdd, Nat.reduceLT, Nat.reduceLeDiff, reduceCtorEq, Int.reduceToNat]
          simp [getNum, hok, h7, Oct.bytes]
end Go.Proofs.YtiemcodllaepbaaGreatDoor

namespace Go.Proofs.YtiemcodllaepbaaGreatDoor
open Go Go.Gp
def dec8 (b : List UInt8) : Oct × Int := if 65536 < b.length then (zO, 4) else match decO false b with | some v => (v, 0) | none => (zO, 12)
abbrev zeroB : List V := [.p (pU8 0), .p (.v (.slice none 0 0)), .p (.v (.slice none 0 0))]
theorem sub2 {tab : Tab} {x y : Blk} (h0 : aget tab 0 = some x) (h1 : aget tab 1 = some y) : SubT [(0, x), (1, y)] tab := fun k z hk => by
  simp only [aget] at hk
  split at hk
  · rename_i e; subst e; cases hk; exact h0
  · split at hk
    · rename_i e; subst e; cases hk; exact h1
    · cases hk
set_option maxHeartbeats 4000000 in
theorem def_none (WG : World) (a b c e : V) (tab : Tab) (n : Nat) (h0 : aget tab 0 = some (.box [a, b, c])) (h1 : aget tab 1 = some (.box [e])) : DefT Tryz.prog WG 117 [.ref 0 0, .ref 1 0] tab n none (fun t _ => aget t 0 = some (.box [a, b, c]) ∧ aget t 1 = some (.box [e])) := by
  refine DefT_recT Tryz.func117 (rs := []) (n := 17) rfl rfl (Nat.le_of_ble_eq_true rfl) rfl rfl rfl rfl rfl rfl rfl (by decide) (by decide) ?_
  refine T_weak (Weak.sub (t' := [(0, .box [a, b, c]), (1, .box [e])]) (sub2 h0 h1)) ?_
  refine T_seqC ?_
  simp only [push_cast, reduceIte, Nat.reduceMul, Nat.reduceEqDiff, Nat.reduceAdd, Nat.reduceLT, Nat.reduceLeDiff, reduceCtorEq, Int.reduceToNat, recV]
  refine T_fin ?_
  simp only [push_cast, reduceIte, Nat.reduceMul, Nat.reduceEqDiff, Nat.reduceAdd, Nat.reduceLT, Nat.reduceLeDiff, reduceCtorEq, Int.reduceToNat]
set_option maxHeartbeats 4000000 in
theorem def_some (WG : World) (a b c e : V) (tab : Tab) (n : Nat) (h0 : aget tab 0 = some (.box [a, b, c])) (h1 : aget tab 1 = some (.box [e])) : DefT Tryz.prog WG 117 [.ref 0 0, .ref 1 0] tab n (some 167) (fun t _ => aget t 0 = some (.box zeroB) ∧ aget t 1 = some (.box [vI 12])) := by
  refine DefT_recT Tryz.func117 (rs := []) (n := 17) rfl rfl (Nat.le_of_ble_eq_true rfl) rfl rfl rfl rfl rfl rfl rfl (by decide) (by decide) ?_
  refine T_low fun hlo => ?_
  have hn : 2 ≤ n := hlo 1 _ h1
  have e0 : ¬ 0 = n := by omega
  have e1 : ¬ 1 = n := by omega
  refine T_weak (Weak.sub (t' := [(0, .box [a, b, c]), (1, .box [e])]) (sub2 h0 h1)) ?_
  refine T_seqC ?_
  simp only [push_cast, reduceIte, Nat.reduceMul, Nat.reduceEqDiff, Nat.reduceAdd, Nat.reduceLT, Nat.reduceLeDiff, reduceCtorEq, Int.reduceToNat, recV]
  refine T_fin ?_
  simp only [push_cast, reduceIte, Nat.reduceMul, Nat.reduceEqDiff, Nat.reduceAdd, Nat.reduceLT, Nat.reduceLeDiff, reduceCtorEq, Int.reduceToNat, e0, e1, aget_aset, aset_aset, eq_self, if_true, if_false]
theorem soft_zero : Soft (.agg [pU8 0, .v (.slice none 0 0), .v (.slice none 0 0)]) (octP zO) := by
  show Soft _ (.agg [pU8 0, .sl 1 [], .sl 3 []])
  refine .agg rfl (fun i c d hc hd => ?_) (fun i c d hc hd => ?_)
  · match i, hc, hd with
    | 0, hc, hd => cases hc; cases hd; rfl
    | 1, hc, hd => cases hc; cases hd; rfl
    | 2, hc, hd => cases hc; cases hd; rfl
    | _ + 3, hc, _ => cases hc
  · match i, hc, hd with
    | 0, hc, hd => cases hc; cases hd; exact .refl
    | 1, hc, hd => cases hc; cases hd; exact .nil
    | 2, hc, hd => cases hc; cases hd; exact .nil
    | _ + 3, hc, _ => cases hc
theorem dec8_zero {b : List UInt8} (h : ¬ (dec8 b).2 = 0) : (dec8 b).1 = zO := by
  unfold dec8 at h ⊢
  split
  · rfl
  · rename_i h1
    rw [if_neg h1] at h
    split
    · rename_i v hv; rw [hv] at h; exact absurd rfl h
    · rfl
theorem soft_dec (b : List UInt8) : Soft (if (dec8 b).2 = 0 then octP (dec8 b).1 else .agg [pU8 0, .v (.slice none 0 0), .v (.slice none 0 0)]) (octP (dec8 b).1) := by
  by_cases h : (dec8 b).2 = 0
  · rw [if_pos h]; exact .refl
  · rw [if_neg h, dec8_zero h]; exact soft_zero
theorem soft_tup2 {a b c : V} (h : SoftW a b) : SoftW (.tup [a, c]) (.tup [b, c]) := .tup rfl fun i x y hx hy => by
  match i, hx, hy with
  | 0, hx, hy => cases hx; cases hy; exact h
  | 1, hx, hy => cases hx; cases hy; exact .refl
  | _ + 2, hx, _ => cases hx
set_option maxHeartbeats 16000000 in
theorem decode8_fv (WG : World) (b : List UInt8) (hb : b.length < 16777216) : FV Tryz.prog WG 69 [.sl 1 (bytesP b)] (.tup [.p (octP (dec8 b).1), vI (dec8 b).2]) := by
  refine FV.softR (r := .tup [.p (if (dec8 b).2 = 0 then octP (dec8 b).1 else .agg [pU8 0, .v (.slice none 0 0), .v (.slice none 0 0)]), vI (dec8 b).2]) ?_ (soft_tup2 (.p (soft_dec b)))
  refine CallT.pure rfl (CallT_dT Tryz.func69 (rs := [.cell 2 98, .cell 3 40]) (n := 28) rfl rfl (Nat.le_of_ble_eq_true rfl) rfl ?_)
  refine DTr_seq (T_fin ?_)
  simp only [push_cast, reduceIte, Nat.reduceMul, Nat.reduceEqDiff, Nat.reduceAdd, Nat.reduceLT, Nat.reduceLeDiff, reduceCtorEq, Int.reduceToNat]
  refine DTr_seq (T_fin ?_)
  simp only [push_cast, reduceIte, Nat.reduceMul, Nat.reduceEqDiff, Nat.reduceAdd, Nat.reduceLT, Nat.reduceLeDiff, reduceCtorEq, Int.reduceToNat, bytesP_length]
  refine ⟨fun h => ?_, fun h => ?_⟩
  · have h1 : 65536 < b.length := by simp at h; omega
    simp [dec8, if_pos h1]
  · have h1 : ¬ 65536 < b.length := by simp at h; omega
    refine DTr_defer rfl rfl rfl rfl rfl rfl (by dsimp only; decide) rfl (by simp only [ti1, ti2, ti3, ti4, ti5, ti6, ti7, ti8, ti9, ti10, ti11, ti12, ti13, ti14, ti15, ti16, ti17, ti18, ti19, ti20, ti21, ti22, ti23, ti24, ti25, ti26, ti27, ti28, ti29, ti30, ti31, ti32, ti33, ti34, ti35, ti36, ti37, ti38, ti39, ti40, ti41, ti42, ti43, ti44, ti45, ti47, ti49, ti51, ti53, ti54, ti55, ti56, ti57, ti58, ti59, ti60, ti61, ti62, ti63, ti64, ti65, ti67, ti68, ti69, ti70, ti71, ti72, ti73, ti74, ti75, ti76, ti77, ti78, ti79, ti80, ti81, ti82, ti83, ti84, ti85, ti86, ti87, ti88, ti89, ti90, ti91, ti92, ti93, ti94, ti95, ti96, ti97, ti98, ti99, ti100, ti101, ti102, ti103, ti104, ti105, ti107, ti108, ti109, ti110, ti111, ti112, ti113, ti114, ti115, ti116, ti117, ti118, ti120, ti121, ti122, ti124, ti126, ti128, ti129, ti130, ti131, ti132, ti133, ti135, ti136, ti137, ti138, ti139, ti140, ti141, ti143, ti145, ti146, ti148, ti149, ti150, ti151, ti152, ti153, ti154, ti155, ti156, ti157, ti158, ti159, ti160, ti161, ti162, ti163, ti164, ti165, ti166, ti167, ti169, ti170, ti171, ti172, ti173, ti175, ti177, ti179, ti180, ti181, ti182, ti183, ti184, ti186, ti187, ti188, ti189, ti190, ti191, ti192, ti193, ti194, ti195, ti196, ti197, ti198, ti199, ti201, ti202, ti203, ti204, ti205, ti206, ti207, ti208, ti209, ti211, ti212, ti214, ti215, ti216, ti218, ti219, ti220, ti221, ti222, ti223, ti224, ti225, ti226, ti227, ti228, ti229, ti230, ti231, ti232, ti233, ti234, ti236, ti237, ti239, ti240, ti241, ti242, ti243, ti244, ti245, ti246, ti247, ti248, ti249, ti250, ti251, ti252, ti253, ti254, ti255, ti256, ti257, ti258, ti259, ti260, ti261, ti263, ti264, ti265, ti267, ti268, ti269, ti270, ti271, ti272, ti273, ti274, ti275, ti276, ti277, ti278, ti279, ti280, ti281, ti282, ti283, ti284, ti285, ti286, ti287, ti288, ti289, ti290, ti291, ti292, ti293, ti294, ti296, ti297, ti298, ti299, ti300, ti301, ti302, ti303, ti304, ti305, ti306, ti307, ti308, ti310, ti311, ti312, ti313, ti314, ti315, ti316, ti317, ti319, ti321, ti322, ti323, ti325, ti326, ti327, ti328, ti329, ti330, ti331, ti332, ti333, ti334, ti335, ti336, ti337, ti338, ti339, ti340, ti341, ti342, ti343, eq24, eq26, eq28, eq70, eq72, eq74, cb3, cb4, cb5, cb6, cb7, cb8, cb9, cb10, cb11, cb12, cb13, cb14, cb15, cb16, cb17, cb18, cb19, cb20, cb21, cb22, cb23, cb24, cb25, cb26, cb27, cb28, cb29, cb30, cb31, cb32, cb33, cb34, cb35, cb36, cb37, cb38, cb39, cb40, cb41, cb42, cb43, cb44, cb45, cb46, cb47, cb48, cb49, cb50, cb51, cb52, cb53, cb54, cb55, cb56, cb57, cb58, cb59, cb60, cb61, cb62, cb63, cb64, cb65, cb66, cb67, cb68, cb69, cb70, cb71, cb72, cb73, cb74, cb75, cb76, cb77, cb78, cb79, cb80, cb81, cb82, cb83, cb84, cb85, cb86, cb87, cb88, cb89, cb90, cb91, cb92, cb93, cb94, cb95, cb96, cb97, cb98, cb99, cb100, cb101, cb102, cb103, cb104, cb105, cb106, cb107, cb108, cb109, cb110, cb111, cb112, cb113, cb114, cb115, cb116, cb117, cb118, cb119, cb120, cb121, cb122, cb123, cb124, cb125, cb126, cb127, cb128, cb129, cb130, cb131, cb132, cb133, cb134, cb135, cb136, cb137, cb138, cb139, cb140, cb141, cb142, cb143, cb144, cb145, cb146, cb147, cb148, cb149, cb150, cb151, cb152, cb153, cb154, cb155, cb156, cb157, cb158, cb159, cb160, cb161, cb162, cb163, cb164, cb165, cb166, cb167, cb168, cb169, cb170, cb171, cb172, cb173, cb174, cb175, cb176, cb177, cb178, cb179, cb180, cb181, cb182, cb183, cb184, cb185, cb186, cb187, cb188, cb189, cb190, cb191, cb192, cb193, cb194, cb195, cb196, cb197, cb198, cb199, cb200, cb201, cb202, cb203, cb204, cb205, cb206, cb207, cb208, cb209, cb210, cb211, cb212, cb213, cb214, cb215, cb216, cb217, cb218, cb219, cb220, cb221, cb222, cb223, cb224, cb225, cb226, cb227, cb228, cb229, cb230, cb231, cb232, cb233, cb234, cb235, cb236, cb237, cb238, cb239, cb240, cb241, cb242, cb243, cb244, cb245, cb246, cb247, cb248, cb249, cb250, cb251, cb252, cb253, cb254, cb255, cb256, cb257, cb258, cb259, cb260, cb261, cb262, cb263, cb264, cb265, cb266, cb267, cb268, cb269, cb270, cb271, cb272, cb273, cb274, cb275, cb276, cb277, cb278, cb279, cb280, cb281, cb282, cb283, cb284, cb285, cb286, cb287, cb288, cb289, cb290, cb291, cb292, cb293, cb294, cb295, cb296, cb297, cb298, cb299, cb300, cb301, cb302, cb303, cb304, cb305, cb306, cb307, cb308, cb309, cb310, cb311, cb312, cb313, cb314, cb315, cb316, cb317, cb318, cb319, cb320, xt222, xt264]) ?_
    refine T_seqC ?_
    simp only [push_cast, reduceIte, Nat.reduceMul, Nat.reduceEqDiff, Nat.reduceAdd, Nat.reduceLT, Nat.reduceLeDiff, reduceCtorEq, Int.reduceToNat]
    refine T_seqC ?_
    simp only [push_cast, reduceIte, Nat.reduceMul, Nat.reduceEqDiff, Nat.reduceAdd, Nat.reduceLT, Nat.reduceLeDiff, reduceCtorEq, Int.reduceToNat]
    refine CallT.frameL [(0, 2)] (value_ct WG 12 1 b rfl (by omega)) (by simp [V.rnL, V.rn, rnf, aget]) (by simp [V.bd, V.bdL]) (by simp [LeR, rnf, aget, envR, tabR, injR, notIn, loR, V.rn, V.rnL, V.bd, V.bdL, Blk.rn, Blk.bd, envRn, envBd]) (by simp [LeR, rnf, aget, envR, tabR, injR, notIn, loR, V.rn, V.rnL, V.bd, V.bdL, Blk.rn, Blk.bd, envRn, envBd]) (rn1 (by omega)) (fun r t1 n1 hq => ?_) (fun r t1 n1 hq => ?_)
    · obtain ⟨x, rest, hx, rfl, rfl, rfl⟩ := hq
      obtain ⟨hb1, hb2, _, _⟩ := take_some false 12 b x rest hx
      have hlb := congrArg List.length hb1
      rw [List.length_append, enc_length] at hlb
      have hsm : smallO x := by unfold smallO; omega
      have hck := chk8_fv WG x hsm (by omega)
      have hdec : dec8 b = if rest = [] ∧ chkO x = 0 then (x, 0) else (zO, 12) := by
        rw [dec8, if_neg h1, decO, hx]
        cases rest with
        | nil =>
          simp only [true_and]
          by_cases hv : chkO x = 0
          · rw [if_pos ((chkO_zero x).1 hv), if_pos hv]
          · rw [if_neg (fun e => hv ((chkO_zero x).2 e)), if_neg hv]
        | cons a r => simp
      have hv := octP_eta x
      rw [hv] at hck
      simp only [V.rn, V.rnL, frf, restT, trn, rnf, adel, Blk.rn, push_cast, reduceIte, Nat.reduceMul, Nat.reduceEqDiff, Nat.reduceAdd, Nat.reduceLT, Nat.reduceLeDiff, reduceCtorEq, Int.reduceToNat, Nat.sub_self, hv]
      refine T_seqC ?_
      simp only [push_cast, reduceIte, Nat.reduceMul, Nat.reduceEqDiff, Nat.reduceAdd, Nat.reduceLT, Nat.reduceLeDiff, reduceCtorEq, Int.reduceToNat, bytesP_length]
      refine ⟨_, fun _ => hck.q rfl, ?_⟩
      simp only [push_cast, reduceIte, Nat.reduceMul, Nat.reduceEqDiff, Nat.reduceAdd, Nat.reduceLT, Nat.reduceLeDiff, reduceCtorEq, Int.reduceToNat]
      refine (must_ct WG _ _ _).mono (fun r t n hq => ?_) (fun r t n hq => ?_)
      · obtain ⟨h2, rfl, rfl⟩ := hq
        simp only [push_cast, reduceIte, Nat.reduceMul, Nat.reduceEqDiff, Nat.reduceAdd, Nat.reduceLT, Nat.reduceLeDiff, reduceCtorEq, Int.reduceToNat]
        refine T_fin ?_
        simp only [push_cast, reduceIte, Nat.reduceMul, Nat.reduceEqDiff, Nat.reduceAdd, Nat.reduceLT, Nat.reduceLeDiff, reduceCtorEq, Int.reduceToNat]
        refine (def_none WG _ _ _ _ _ _ rfl rfl).mono fun t n ⟨k0, k1⟩ => ?_
        simp only [push_cast, reduceIte, Nat.reduceMul, Nat.reduceEqDiff, Nat.reduceAdd, Nat.reduceLT, Nat.reduceLeDiff, reduceCtorEq, Int.reduceToNat, k0, k1]
        have h3 : rest = [] ∧ chkO x = 0 := by
          simp only [Bool.and_eq_true, decide_eq_true_eq] at h2
          exact ⟨List.length_eq_zero_iff.1 (by omega), h2.2⟩
        rw [hdec, if_pos h3]
        simp [hv]
      · obtain ⟨h2, rfl, rfl, rfl⟩ := hq
        simp only [push_cast, reduceIte, Nat.reduceMul, Nat.reduceEqDiff, Nat.reduceAdd, Nat.reduceLT, Nat.reduceLeDiff, reduceCtorEq, Int.reduceToNat]
        refine ⟨167, rfl, (def_some WG _ _ _ _ _ _ rfl rfl).mono fun t n ⟨k0, k1⟩ => ?_⟩
        simp only [push_cast, reduceIte, Nat.reduceMul, Nat.reduceEqDiff, Nat.reduceAdd, Nat.reduceLT, Nat.reduceLeDiff, reduceCtorEq, Int.reduceToNat, k0, k1]
        have h3 : ¬ (rest = [] ∧ chkO x = 0) := by
          rintro ⟨rfl, h3⟩
          simp [h3] at h2
        rw [hdec, if_neg h3]
        simp
    · obtain ⟨hq, rfl⟩ := hq
      have hdec : dec8 b = (zO, 12) := by rw [dec8, if_neg h1, decO, hq]
      simp only [V.rn, V.rnL, frf, restT, trn, rnf, adel, Blk.rn, push_cast, reduceIte, Nat.reduceMul, Nat.reduceEqDiff, Nat.reduceAdd, Nat.reduceLT, Nat.reduceLeDiff, reduceCtorEq, Int.reduceToNat, Nat.sub_self]
      refine ⟨167, rfl, (def_some WG _ _ _ _ _ _ rfl rfl).mono fun t n ⟨k0, k1⟩ => ?_⟩
      simp only [push_cast, reduceIte, Nat.reduceMul, Nat.reduceEqDiff, Nat.reduceAdd, Nat.reduceLT, Nat.reduceLeDiff, reduceCtorEq, Int.reduceToNat, k0, k1, hdec]
      simp
end Go.Proofs.YtiemcodllaepbaaGreatDoor
