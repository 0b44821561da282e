/-
  Octets: Encode; ReadNum, ReadStr, ReadSeq; the first error.
  octet.Decode.
-/
import Derived.Test.YtgekglfmianoeaaGreatDoorOB
import Derived.Test.YtgekglfmianoeaaGreatDoorPA
import Derived.Test.YtgekglfmianoeaaGreatDoorKE
set_option linter.unusedSimpArgs false
set_option linter.unusedVariables false
set_option maxRecDepth 20000
namespace Go.Proofs.YtgekglfmianoeaaGreatDoor
open Go Go.Gp
set_option maxHeartbeats 4000000 in
theorem encode8_fv (WG : World) (v : Oct) (hs : smallO v) (hd : depthO v < 1000000) : FV Tryz.prog WG 39 [octP v] (.tup [.p (.sl 1 (bytesP (if chkO v = 0 then enc v else []))), vI (chkO v)]) := by
  refine FV.softR (r := .tup [if chkO v = 0 then .p (.sl 1 (bytesP (enc v))) else .p (.v (.slice none 0 0)), vI (chkO v)]) ?_ ?_
  · have hc := chk8_fv WG v hs hd
    have hp := put8_fv WG v hs
    have hv := octP_eta v
    rw [hv] at hc hp ⊢
    refine CallT.pure (by by_cases h : chkO v = 0 <;> simp [h, Gp.pureR, isP]) (CallT_fnT Tryz.func39 (rs := [.tmp 2, .tmp 3]) (n := 12) rfl rfl (Nat.le_of_ble_eq_true rfl) rfl ?_)
    refine T_seqC ?_
    simp only [push_cast, reduceIte, Nat.reduceMul, Nat.reduceEqDiff, Nat.reduceAdd, Nat.reduceLT, Nat.reduceLeDiff, reduceCtorEq, Int.reduceToNat]
    refine T_seqC ?_
    simp only [push_cast, reduceIte, Nat.reduceMul, Nat.reduceEqDiff, Nat.reduceAdd, Nat.reduceLT, Nat.reduceLeDiff, reduceCtorEq, Int.reduceToNat]
    refine hc.call rfl ?_
    simp only [push_cast, reduceIte, Nat.reduceMul, Nat.reduceEqDiff, Nat.reduceAdd, Nat.reduceLT, Nat.reduceLeDiff, reduceCtorEq, Int.reduceToNat]
    refine ⟨fun h => ?_, fun h => ?_⟩
    · have h : ¬ chkO v = 0 := by simpa using h
      simp only [if_neg h]
    · have h : chkO v = 0 := by simpa using h
      refine T_fin ?_
      simp only [push_cast, reduceIte, Nat.reduceMul, Nat.reduceEqDiff, Nat.reduceAdd, Nat.reduceLT, Nat.reduceLeDiff, reduceCtorEq, Int.reduceToNat]
      refine hp.call rfl ?_
      simp only [push_cast, reduceIte, Nat.reduceMul, Nat.reduceEqDiff, Nat.reduceAdd, Nat.reduceLT, Nat.reduceLeDiff, reduceCtorEq, Int.reduceToNat, h, if_true]
  · by_cases h : chkO v = 0
    · simp only [h, if_true]; exact .refl
    · simp only [h, if_false]
      refine .tup rfl fun i c d hc hd => ?_
      match i, hc, hd with
      | 0, hc, hd => cases hc; cases hd; exact .p .nil
      | 1, hc, hd => cases hc; cases hd; exact .refl
      | _ + 2, hc, _ => cases hc

def orE (a b : Int) : Int := if a = 0 then b else a
set_option maxHeartbeats 4000000 in
theorem or2_fv (WG : World) (a b : Int) : FV Tryz.prog WG 50 [.sl 1 [pI a, pI b]] (vI (orE a b)) := by
  refine CallT.pure rfl (CallT_fnT Tryz.func50 (rs := [.tmp 2]) (n := 18) rfl rfl (Nat.le_of_ble_eq_true rfl) rfl ?_)
  refine T_seqC ?_
  simp only [push_cast, reduceIte, Nat.reduceMul, Nat.reduceEqDiff, Nat.reduceAdd, Nat.reduceLT, Nat.reduceLeDiff, reduceCtorEq, Int.reduceToNat]
  refine T_seqC ?_
  simp only [push_cast, reduceIte, Nat.reduceMul, Nat.reduceEqDiff, Nat.reduceAdd, Nat.reduceLT, Nat.reduceLeDiff, reduceCtorEq, Int.reduceToNat]
  refine T_seqC ?_
  simp only [push_cast, reduceIte, Nat.reduceMul, Nat.reduceEqDiff, Nat.reduceAdd, Nat.reduceLT, Nat.reduceLeDiff, reduceCtorEq, Int.reduceToNat]
  refine T_loopS (fun i : Nat => ⟨[(3, vI 0), (6, .p (.sl 1 [pI a, pI b])), (7, vI 2), (8, vI i)], [], 0, 0, 18⟩) (fun i => i ≤ 2 ∧ (1 ≤ i → a = 0) ∧ (2 ≤ i → b = 0)) (fun i => 2 - i) 0 ⟨Nat.zero_le _, by omega, by omega⟩ (by simp [Le, subE, aget]) (fun i hi => ?_)
  obtain ⟨h1, h2, h3⟩ := hi
  simp only [push_cast, reduceIte, Nat.reduceMul, Nat.reduceEqDiff, Nat.reduceAdd, Nat.reduceLT, Nat.reduceLeDiff, reduceCtorEq, Int.reduceToNat]
  refine ⟨fun h => ?_, fun h => ?_⟩
  · have h4 : i < 2 := by simp at h; omega
    have hw : IntKind.i64.wrap ((i : Int) + 1) = ((i + 1 : Nat) : Int) := by rw [wrap_i64 _ (by omega) (by omega)]; omega
    have h5 : i = 0 ∨ i = 1 := by omega
    rcases h5 with rfl | rfl
    · simp only [push_cast, reduceIte, Nat.reduceMul, Nat.reduceEqDiff, Nat.reduceAdd, Nat.reduceLT, Nat.reduceLeDiff, reduceCtorEq, Int.reduceToNat]
      refine ⟨by omega, fun h => ?_, fun h => ?_⟩
      · have h : ¬ a = 0 := by simpa using h
        rw [orE, if_neg h]
      · have h : a = 0 := by simpa using h
        exact ⟨1, ⟨by omega, fun _ => h, by omega⟩, by omega, by simp [Le, subE, aget, show IntKind.i64.wrap 1 = 1 from by decide]⟩
    · simp only [push_cast, reduceIte, Nat.reduceMul, Nat.reduceEqDiff, Nat.reduceAdd, Nat.reduceLT, Nat.reduceLeDiff, reduceCtorEq, Int.reduceToNat]
      refine ⟨by omega, fun h => ?_, fun h => ?_⟩
      · rw [orE, if_pos (h2 (by omega))]
      · have h : b = 0 := by simpa using h
        exact ⟨2, ⟨by omega, fun _ => h2 (by omega), fun _ => h⟩, by omega, by simp [Le, subE, aget, show IntKind.i64.wrap 2 = 2 from by decide]⟩
  · have h4 : ¬ i < 2 := by simp at h; omega
    refine T_fin ?_
    simp only [push_cast, reduceIte, Nat.reduceMul, Nat.reduceEqDiff, Nat.reduceAdd, Nat.reduceLT, Nat.reduceLeDiff, reduceCtorEq, Int.reduceToNat]
    rw [orE, if_pos (h2 (by omega)), h3 (by omega)]
theorem tag_iff (a b : UInt8) : decide ((a.toNat : Int) = b.toNat) = decide (a = b) := decide_eq_decide.2 ⟨fun h => UInt8.toNat_inj.1 (by omega), fun h => by rw [h]⟩
theorem pos_empty {α : Type} (l : List α) : decide ((0 : Int) < l.length) = !l.isEmpty := by cases l <;> simp
theorem lt_not (a b : Nat) : decide ((a : Int) < b) = !decide (b ≤ a) := by rw [← decide_not]; exact decide_eq_decide.2 (by omega)
theorem okStr_eq (t : UInt8) (m : Nat) (tg : UInt8) (b : List UInt8) (l : List Oct) : (!decide (tg = t) || decide ((0 : Int) < l.length) || decide ((m : Int) < b.length)) = !okStr t m (.mk tg b l) := by
  rw [pos_empty, lt_not]
  simp only [okStr, Bool.not_and]
  rfl
set_option maxHeartbeats 8000000 in
theorem readStr_fv (WG : World) (v : Oct) (t : UInt8) (m : Nat) : FV Tryz.prog WG 67 [octP v, pU8 t.toNat, pI m] (.tup [.p (pS (baL (getStr t m v))), vI (if okStr t m v then 0 else 12)]) := by
  obtain ⟨tg, b, l⟩ := v
  rw [octP_mk]
  refine CallT.pure rfl (CallT_fnT Tryz.func67 (rs := [.tmp 6, .tmp 7]) (n := 28) rfl rfl (Nat.le_of_ble_eq_true rfl) rfl ?_)
  refine T_seqC ?_
  simp only [push_cast, reduceIte, Nat.reduceMul, Nat.reduceEqDiff, Nat.reduceAdd, Nat.reduceLT, Nat.reduceLeDiff, reduceCtorEq, Int.reduceToNat]
  refine T_seqC ?_
  simp only [push_cast, reduceIte, Nat.reduceMul, Nat.reduceEqDiff, Nat.reduceAdd, Nat.reduceLT, Nat.reduceLeDiff, reduceCtorEq, Int.reduceToNat, tag_iff, bytesP_length, List.length_map, okStr_eq]
  refine ⟨fun h => ?_, fun h => ?_⟩
  · have h : okStr t m (.mk tg b l) = false := by simpa using h
    simp only [getStr, h, Bool.false_eq_true, if_false]
    rfl
  · have h : okStr t m (.mk tg b l) = true := by simpa using h
    refine T_fin ?_
    simp only [push_cast, reduceIte, Nat.reduceMul, Nat.reduceEqDiff, Nat.reduceAdd, Nat.reduceLT, Nat.reduceLeDiff, reduceCtorEq, Int.reduceToNat, getStr, h, if_true, byteOf_bytesP]
    rfl
theorem okSeq_eq (t : UInt8) (lo hi : Nat) (tg : UInt8) (b : List UInt8) (l : List Oct) : (!decide (tg = t) || decide ((0 : Int) < b.length) || decide ((l.length : Int) < lo) || decide ((hi : Int) < l.length)) = !okSeq t lo hi (.mk tg b l) := by
  rw [pos_empty, lt_not, lt_not]
  simp only [okSeq, Bool.not_and]
  rfl
set_option maxHeartbeats 8000000 in
theorem readSeq_fv (WG : World) (v : Oct) (hs : smallO v) (t : UInt8) (lo hi : Nat) : FV Tryz.prog WG 63 [octP v, pU8 t.toNat, pI lo, pI hi] (.tup [.p (.sl 3 ((if okSeq t lo hi v then v.list else []).map octP)), vI (if okSeq t lo hi v then 0 else 12)]) := by
  obtain ⟨tg, b, l⟩ := v
  refine FV.softR (r := .tup [if okSeq t lo hi (.mk tg b l) then .p (.sl 3 (l.map octP)) else .p (.v (.slice none 0 0)), vI (if okSeq t lo hi (.mk tg b l) then 0 else 12)]) ?_ ?_
  · have htw := twin8_fv WG (.mk tg b l) hs
    rw [octP_mk] at htw ⊢
    refine CallT.pure (by cases h : okSeq t lo hi (.mk tg b l) <;> simp [Gp.pureR, isP]) (CallT_fnT Tryz.func63 (rs := [.tmp 8, .tmp 9]) (n := 37) rfl rfl (Nat.le_of_ble_eq_true rfl) rfl ?_)
    refine T_seqC ?_
    simp only [push_cast, reduceIte, Nat.reduceMul, Nat.reduceEqDiff, Nat.reduceAdd, Nat.reduceLT, Nat.reduceLeDiff, reduceCtorEq, Int.reduceToNat]
    refine T_seqC ?_
    simp only [push_cast, reduceIte, Nat.reduceMul, Nat.reduceEqDiff, Nat.reduceAdd, Nat.reduceLT, Nat.reduceLeDiff, reduceCtorEq, Int.reduceToNat, tag_iff, bytesP_length, List.length_map, okSeq_eq]
    refine ⟨fun h => ?_, fun h => ?_⟩
    · have h : okSeq t lo hi (.mk tg b l) = false := by simpa using h
      simp only [h, Bool.false_eq_true, if_false]
    · have h : okSeq t lo hi (.mk tg b l) = true := by simpa using h
      refine T_fin ?_
      simp only [push_cast, reduceIte, Nat.reduceMul, Nat.reduceEqDiff, Nat.reduceAdd, Nat.reduceLT, Nat.reduceLeDiff, reduceCtorEq, Int.reduceToNat]
      refine htw.call rfl ?_
      simp only [push_cast, reduceIte, Nat.reduceMul, Nat.reduceEqDiff, Nat.reduceAdd, Nat.reduceLT, Nat.reduceLeDiff, reduceCtorEq, Int.reduceToNat, h, if_true]
  · cases h : okSeq t lo hi (.mk tg b l) with
    | true => exact .refl
    | false =>
      refine .tup rfl fun i c d hc hd => ?_
      match i, hc, hd with
      | 0, hc, hd => cases hc; cases hd; exact .p .nil
      | 1, hc, hd => cases hc; cases hd; exact .refl
      | _ + 2, hc, _ => cases hc
theorem or_byteU (a c : Nat) (ha : a < 72057594037927936) (hc : c < 256) : bits2 .u64 (· ||| ·) ((a : Int) * 2 ^ 8) c = ((a * 256 + c : Nat) : Int) := by
  have e1 : ((a : Int) * 2 ^ 8) = ((a * 256 : Nat) : Int) := by omega
  rw [e1, bits2]
  have e2 : (BitVec.ofInt IntKind.u64.bits ((a * 256 : Nat) : Int) ||| BitVec.ofInt IntKind.u64.bits (c : Int)).toNat = a * 256 + c := by
    show (BitVec.ofInt 64 ((a * 256 : Nat) : Int) ||| BitVec.ofInt 64 (c : Int)).toNat = a * 256 + c
    rw [BitVec.ofInt_natCast, BitVec.ofInt_natCast, BitVec.toNat_or, BitVec.toNat_ofNat, BitVec.toNat_ofNat, Nat.mod_eq_of_lt (by omega), Nat.mod_eq_of_lt (by omega)]
    have := Nat.shiftLeft_add_eq_or_of_lt (i := 8) (b := c) hc a
    rw [Nat.shiftLeft_eq] at this
    exact this.symm
  rw [e2, wrap_u64' _ (by omega)]
theorem head_eq0 (t : UInt8) (m : Nat) (tg : UInt8) (l : List Oct) : (!decide (tg = t) || decide ((0 : Int) < l.length)) = !okHead t (.mk tg [] l) := by
  rw [pos_empty]
  simp [okHead, Oct.tag, Oct.list, Oct.bytes]
  try rfl
theorem head_eq1 (t : UInt8) (m : Nat) (tg c : UInt8) (r : List UInt8) (l : List Oct) : (!decide (tg = t) || decide ((0 : Int) < l.length) || decide ((8 : Int) < (r.length : Int) + 1) || decide ((0 : Int) < (r.length : Int) + 1) && decide ((c.toNat : Int) = 0)) = !okHead t (.mk tg (c :: r) l) := by
  have e1 : decide ((8 : Int) < (r.length : Int) + 1) = !decide (r.length + 1 ≤ 8) := by rw [← decide_not]; exact decide_eq_decide.2 (by omega)
  have e2 : decide ((0 : Int) < (r.length : Int) + 1) = true := decide_eq_true (by omega)
  have e3 : decide ((c.toNat : Int) = 0) = decide (c = 0) := decide_eq_decide.2 ⟨fun h => UInt8.toNat_inj.1 (by have : (0 : UInt8).toNat = 0 := rfl; omega), fun h => by rw [h]; rfl⟩
  rw [pos_empty, e1, e2, e3]
  simp [okHead, Oct.tag, Oct.list, Oct.bytes]
  try rfl
set_option maxHeartbeats 16000000 in
theorem readNum_fv (WG : World) (v : Oct) (t : UInt8) (m : Nat) (hm : m < 18446744073709551616) : FV Tryz.prog WG 65 [octP v, pU8 t.toNat, pU64 m] (.tup [.p (pU64 (getNum t m v)), vI (if okNum t m v then 0 else 12)]) := by
  obtain ⟨tg, b, l⟩ := v
  rw [octP_mk]
  refine CallT.pure rfl (CallT_fnT Tryz.func65 (rs := [.tmp 6, .tmp 7]) (n := 57) rfl rfl (Nat.le_of_ble_eq_true rfl) rfl ?_)
  refine T_seqC ?_
  simp only [push_cast, reduceIte, Nat.reduceMul, Nat.reduceEqDiff, Nat.reduceAdd, Nat.reduceLT, Nat.reduceLeDiff, reduceCtorEq, Int.reduceToNat]
  refine T_seqC ?_
  have hbad : okHead t (.mk tg b l) = false → V.tup [V.p (PV.v (Value.int IntKind.u64 0)), V.p (PV.v (Value.int IntKind.i64 12))] = V.tup [V.p (pU64 ↑(getNum t m (Oct.mk tg b l))), V.p (PV.v (Value.int IntKind.i64 (if okNum t m (Oct.mk tg b l) = true then 0 else 12)))] := fun h => by
    simp [getNum, okNum_head, h]
  obtain _ | ⟨c, r⟩ := b
  · simp only [push_cast, reduceIte, Nat.reduceMul, Nat.reduceEqDiff, Nat.reduceAdd, Nat.reduceLT, Nat.reduceLeDiff, reduceCtorEq, Int.reduceToNat, tag_iff, bytesP_length, List.length_map, List.length_nil, Int.ofNat_zero, show decide ((0 : Int) < 0) = false from rfl, show decide ((8 : Int) < 0) = false from rfl, Bool.and_false, Bool.or_false, show (bytesP ([] : List UInt8))[0]? = none from rfl]
    refine fin_off (.p (.ptr (.v (.int .u8 0)) 0)) (by kernel_rfl) rfl rfl rfl rfl (by simp only [push_cast, reduceIte, Nat.reduceMul, Nat.reduceEqDiff, Nat.reduceAdd, Nat.reduceLT, Nat.reduceLeDiff, reduceCtorEq, Int.reduceToNat, Bool.and_false]) (by simp only [push_cast, reduceIte, Nat.reduceMul, Nat.reduceEqDiff, Nat.reduceAdd, Nat.reduceLT, Nat.reduceLeDiff, reduceCtorEq, Int.reduceToNat]) ?_
    simp only [push_cast, reduceIte, Nat.reduceMul, Nat.reduceEqDiff, Nat.reduceAdd, Nat.reduceLT, Nat.reduceLeDiff, reduceCtorEq, Int.reduceToNat, Bool.and_false, Bool.or_false, head_eq0 t m]
    refine ⟨fun h => ?_, fun h => ?_⟩
    · exact hbad (by simpa using h)
    · replace h := h
      have h : okHead t (.mk tg [] l) = true := by simpa using h
      have hok : okNum t m (.mk tg [] l) = decide (numP ([] : List UInt8) ≤ m) := by rw [okNum_head, h, Bool.true_and]; rfl
      have hlen : ([] : List UInt8).length ≤ 8 := by simp only [okHead, Bool.and_eq_true, decide_eq_true_eq] at h; exact h.1.2
      generalize hB : ([] : List UInt8) = b at hok hlen ⊢
      refine T_seqC ?_
      simp only [push_cast, reduceIte, Nat.reduceMul, Nat.reduceEqDiff, Nat.reduceAdd, Nat.reduceLT, Nat.reduceLeDiff, reduceCtorEq, Int.reduceToNat]
      refine T_seqC ?_
      simp only [push_cast, reduceIte, Nat.reduceMul, Nat.reduceEqDiff, Nat.reduceAdd, Nat.reduceLT, Nat.reduceLeDiff, reduceCtorEq, Int.reduceToNat]
      refine T_loopS (fun i : Nat => ⟨[(2, .p (pU64 m)), (8, .p (pU64 (numP (b.take i)))), (41, .p (.sl 1 (bytesP b))), (42, vI b.length), (43, vI i)], [(0, .box [.p (pU8 tg.toNat), .p (.sl 1 (bytesP b)), .p (.sl 3 (l.map octP))])], 1, 0, 57⟩) (fun i => i ≤ b.length) (fun i => b.length - i) 0 (Nat.zero_le _) (by simp [Le, subE, aget, numP, bytesP_length, ← hB]) (fun i hi => ?_)
      simp only [push_cast, reduceIte, Nat.reduceMul, Nat.reduceEqDiff, Nat.reduceAdd, Nat.reduceLT, Nat.reduceLeDiff, reduceCtorEq, Int.reduceToNat]
      refine ⟨fun h5 => ?_, fun h5 => ?_⟩
      · have h6 : i < b.length := by simpa using h5
        have hg : b[i]? = some b[i] := List.getElem?_eq_getElem h6
        have htk : numP (b.take (i + 1)) = numP (b.take i) * 256 + (b[i]).toNat := by
          have e : b.take (i + 1) = b.take i ++ [b[i]] := by rw [List.take_add_one, hg]; rfl
          rw [e, numP, List.foldl_append]; rfl
        have hlt := numP_lt (b.take i)
        have hx : (b[i]).toNat < 256 := (b[i]).toNat_lt
        have hlt : numP (b.take i) < 72057594037927936 := Nat.lt_of_lt_of_le hlt (by
          rw [List.length_take]
          calc 256 ^ min i b.length ≤ 256 ^ 7 := Nat.pow_le_pow_right (by decide) (by omega)
            _ = 72057594037927936 := by decide)
        generalize b[i] = x at hg htk hx
        have ea : (bytesP b)[i]? = some (.v (.int .u8 x.toNat)) := by simp [bytesP, hg, byteP]
        have es : IntKind.u64.wrap ((numP (b.take i) : Int) * 2 ^ shAmt .u64 8) = (numP (b.take i) : Int) * 2 ^ 8 := by
          rw [show shAmt .u64 8 = 8 from rfl]
          have e1 : ((numP (b.take i) : Int) * 2 ^ 8) = ((numP (b.take i) * 256 : Nat) : Int) := by omega
          rw [e1, wrap_u64' _ (by omega)]
        have ew : IntKind.u64.wrap (x.toNat : Int) = x.toNat := wrap_u64' _ (by omega)
        simp only [push_cast, reduceIte, Nat.reduceMul, Nat.reduceEqDiff, Nat.reduceAdd, Nat.reduceLT, Nat.reduceLeDiff, reduceCtorEq, Int.reduceToNat, ea, es, ew, or_byteU _ _ hlt hx, ← htk]
        exact ⟨by omega, by omega, i + 1, by omega, by omega, by simp [Le, subE, aget, wrap_i64 ((i : Int) + 1) (by omega) (by omega)]⟩
      · have h6 : i = b.length := by simp at h5; omega
        subst h6
        rw [List.take_length]
        have hgt : decide ((m : Int) < numP b) = !decide (numP b ≤ m) := lt_not m (numP b)
        refine T_seqC ?_
        simp only [push_cast, reduceIte, Nat.reduceMul, Nat.reduceEqDiff, Nat.reduceAdd, Nat.reduceLT, Nat.reduceLeDiff, reduceCtorEq, Int.reduceToNat, hgt]
        refine ⟨fun h7 => ?_, fun h7 => ?_⟩
        · have h7 : decide (numP b ≤ m) = false := by simpa using h7
          simp [getNum, hok, h7]
        · have h7 : decide (numP b ≤ m) = true := by simpa using h7
          refine T_fin ?_
          simp only [push_cast, reduceIte, Nat.reduceMul, Nat.reduceEqDiff, Nat.reduceAdd, Nat.reduceLT, Nat.reduceLeDiff, reduceCtorEq, Int.reduceToNat]
          simp [getNum, hok, h7, Oct.bytes]
  · have hg0 : (bytesP (c :: r))[0]? = some (.v (.int .u8 c.toNat)) := rfl
    simp only [push_cast, reduceIte, Nat.reduceMul, Nat.reduceEqDiff, Nat.reduceAdd, Nat.reduceLT, Nat.reduceLeDiff, reduceCtorEq, Int.reduceToNat, tag_iff, bytesP_length, List.length_map, hg0, head_eq1 t m]
    refine ⟨fun h => ⟨h, by omega⟩, fun h => ⟨h, fun h2 => by simp only [h, h2, Bool.and_true]⟩, fun h => ?_, fun h => ?_⟩
    · exact hbad (by simpa using h)
    · replace h := h
      have h : okHead t (.mk tg (c :: r) l) = true := by simpa using h
      have hok : okNum t m (.mk tg (c :: r) l) = decide (numP (c :: r) ≤ m) := by rw [okNum_head, h, Bool.true_and]; rfl
      have hlen : ((c :: r)).length ≤ 8 := by simp only [okHead, Bool.and_eq_true, decide_eq_true_eq] at h; exact h.1.2
      generalize hB : (c :: r) = b at hok hlen ⊢
      refine T_seqC ?_
      simp only [push_cast, reduceIte, Nat.reduceMul, Nat.reduceEqDiff, Nat.reduceAdd, Nat.reduceLT, Nat.reduceLeDiff, reduceCtorEq, Int.reduceToNat]
      refine T_seqC ?_
      simp only [push_cast, reduceIte, Nat.reduceMul, Nat.reduceEqDiff, Nat.reduceAdd, Nat.reduceLT, Nat.reduceLeDiff, reduceCtorEq, Int.reduceToNat]
      refine T_loopS (fun i : Nat => ⟨[(2, .p (pU64 m)), (8, .p (pU64 (numP (b.take i)))), (41, .p (.sl 1 (bytesP b))), (42, vI b.length), (43, vI i)], [(0, .box [.p (pU8 tg.toNat), .p (.sl 1 (bytesP b)), .p (.sl 3 (l.map octP))])], 1, 0, 57⟩) (fun i => i ≤ b.length) (fun i => b.length - i) 0 (Nat.zero_le _) (by simp [Le, subE, aget, numP, bytesP_length, ← hB]) (fun i hi => ?_)
      simp only [push_cast, reduceIte, Nat.reduceMul, Nat.reduceEqDiff, Nat.reduceAdd, Nat.reduceLT, Nat.reduceLeDiff, reduceCtorEq, Int.reduceToNat]
      refine ⟨fun h5 => ?_, fun h5 => ?_⟩
      · have h6 : i < b.length := by simpa using h5
        have hg : b[i]? = some b[i] := List.getElem?_eq_getElem h6
        have htk : numP (b.take (i + 1)) = numP (b.take i) * 256 + (b[i]).toNat := by
          have e : b.take (i + 1) = b.take i ++ [b[i]] := by rw [List.take_add_one, hg]; rfl
          rw [e, numP, List.foldl_append]; rfl
        have hlt := numP_lt (b.take i)
        have hx : (b[i]).toNat < 256 := (b[i]).toNat_lt
        have hlt : numP (b.take i) < 72057594037927936 := Nat.lt_of_lt_of_le hlt (by
          rw [List.length_take]
          calc 256 ^ min i b.length ≤ 256 ^ 7 := Nat.pow_le_pow_right (by decide) (by omega)
            _ = 72057594037927936 := by decide)
        generalize b[i] = x at hg htk hx
        have ea : (bytesP b)[i]? = some (.v (.int .u8 x.toNat)) := by simp [bytesP, hg, byteP]
        have es : IntKind.u64.wrap ((numP (b.take i) : Int) * 2 ^ shAmt .u64 8) = (numP (b.take i) : Int) * 2 ^ 8 := by
          rw [show shAmt .u64 8 = 8 from rfl]
          have e1 : ((numP (b.take i) : Int) * 2 ^ 8) = ((numP (b.take i) * 256 : Nat) : Int) := by omega
          rw [e1, wrap_u64' _ (by omega)]
        have ew : IntKind.u64.wrap (x.toNat : Int) = x.toNat := wrap_u64' _ (by omega)
        simp only [push_cast, reduceIte, Nat.reduceMul, Nat.reduceEqDiff, Nat.reduceAdd, Nat.reduceLT, Nat.reduceLeDiff, reduceCtorEq, Int.reduceToNat, ea, es, ew, or_byteU _ _ hlt hx, ← htk]
        exact ⟨by omega, by omega, i + 1, by omega, by omega, by simp [Le, subE, aget, wrap_i64 ((i : Int) + 1) (by omega) (by omega)]⟩
      · have h6 : i = b.length := by simp at h5; omega
        subst h6
        rw [List.take_length]
        have hgt : decide ((m : Int) < numP b) = !decide (numP b ≤ m) := lt_not m (numP b)
        refine T_seqC ?_
        simp only [push_cast, reduceIte, Nat.reduceMul, Nat.reduceEqDiff, Nat.reduceAdd, Nat.reduceLT, Nat.reduceLeDiff, reduceCtorEq, Int.reduceToNat, hgt]
        refine ⟨fun h7 => ?_, fun h7 => ?_⟩
        · have h7 : decide (numP b ≤ m) = false := by simpa using h7
          simp [getNum, hok, h7]
        · have h7 : decide (numP b ≤ m) = true := by simpa using h7
          refine T_fin ?_
          simp only [push_cast, reduceIte, Nat.reduceMul, Nat.reduceEqDiff, Nat.reduceAdd, Nat.reduceLT, Nat.reduceLeDiff, reduceCtorEq, Int.reduceToNat]
          simp [getNum, hok, h7, Oct.bytes]
end Go.Proofs.YtgekglfmianoeaaGreatDoor

namespace Go.Proofs.YtgekglfmianoeaaGreatDoor
open Go Go.Gp
def dec8 (b : List UInt8) : Oct × Int := if 65536 < b.length then (zO, 4) else match decO false b with | some v => (v, 0) | none => (zO, 12)
abbrev zeroB : List V := [.p (pU8 0), .p (.v (.slice none 0 0)), .p (.v (.slice none 0 0))]
theorem sub2 {tab : Tab} {x y : Blk} (h0 : aget tab 0 = some x) (h1 : aget tab 1 = some y) : SubT [(0, x), (1, y)] tab := fun k z hk => by
  simp only [aget] at hk
  split at hk
  · rename_i e; subst e; cases hk; exact h0
  · split at hk
    · rename_i e; subst e; cases hk; exact h1
    · cases hk
set_option maxHeartbeats 4000000 in
theorem def_none (WG : World) (a b c e : V) (tab : Tab) (n : Nat) (h0 : aget tab 0 = some (.box [a, b, c])) (h1 : aget tab 1 = some (.box [e])) : DefT Tryz.prog WG 107 [.ref 0 0, .ref 1 0] tab n none (fun t _ => aget t 0 = some (.box [a, b, c]) ∧ aget t 1 = some (.box [e])) := by
  refine DefT_recT Tryz.func107 (rs := []) (n := 17) rfl rfl (Nat.le_of_ble_eq_true rfl) rfl rfl rfl rfl rfl rfl rfl (by decide) (by decide) ?_
  refine T_weak (Weak.sub (t' := [(0, .box [a, b, c]), (1, .box [e])]) (sub2 h0 h1)) ?_
  refine T_seqC ?_
  simp only [push_cast, reduceIte, Nat.reduceMul, Nat.reduceEqDiff, Nat.reduceAdd, Nat.reduceLT, Nat.reduceLeDiff, reduceCtorEq, Int.reduceToNat, recV]
  refine T_fin ?_
  simp only [push_cast, reduceIte, Nat.reduceMul, Nat.reduceEqDiff, Nat.reduceAdd, Nat.reduceLT, Nat.reduceLeDiff, reduceCtorEq, Int.reduceToNat]
set_option maxHeartbeats 4000000 in
theorem def_some (WG : World) (a b c e : V) (tab : Tab) (n : Nat) (h0 : aget tab 0 = some (.box [a, b, c])) (h1 : aget tab 1 = some (.box [e])) : DefT Tryz.prog WG 107 [.ref 0 0, .ref 1 0] tab n (some 155) (fun t _ => aget t 0 = some (.box zeroB) ∧ aget t 1 = some (.box [vI 12])) := by
  refine DefT_recT Tryz.func107 (rs := []) (n := 17) rfl rfl (Nat.le_of_ble_eq_true rfl) rfl rfl rfl rfl rfl rfl rfl (by decide) (by decide) ?_
  refine T_low fun hlo => ?_
  have hn : 2 ≤ n := hlo 1 _ h1
  have e0 : ¬ 0 = n := by omega
  have e1 : ¬ 1 = n := by omega
  refine T_weak (Weak.sub (t' := [(0, .box [a, b, c]), (1, .box [e])]) (sub2 h0 h1)) ?_
  refine T_seqC ?_
  simp only [push_cast, reduceIte, Nat.reduceMul, Nat.reduceEqDiff, Nat.reduceAdd, Nat.reduceLT, Nat.reduceLeDiff, reduceCtorEq, Int.reduceToNat, recV]
  refine T_fin ?_
  simp only [push_cast, reduceIte, Nat.reduceMul, Nat.reduceEqDiff, Nat.reduceAdd, Nat.reduceLT, Nat.reduceLeDiff, reduceCtorEq, Int.reduceToNat, e0, e1, aget_aset, aset_aset, eq_self, if_true, if_false]
theorem soft_zero : Soft (.agg [pU8 0, .v (.slice none 0 0), .v (.slice none 0 0)]) (octP zO) := by
  show Soft _ (.agg [pU8 0, .sl 1 [], .sl 3 []])
  refine .agg rfl (fun i c d hc hd => ?_) (fun i c d hc hd => ?_)
  · match i, hc, hd with
    | 0, hc, hd => cases hc; cases hd; rfl
    | 1, hc, hd => cases hc; cases hd; rfl
    | 2, hc, hd => cases hc; cases hd; rfl
    | _ + 3, hc, _ => cases hc
  · match i, hc, hd with
    | 0, hc, hd => cases hc; cases hd; exact .refl
    | 1, hc, hd => cases hc; cases hd; exact .nil
    | 2, hc, hd => cases hc; cases hd; exact .nil
    | _ + 3, hc, _ => cases hc
theorem dec8_zero {b : List UInt8} (h : ¬ (dec8 b).2 = 0) : (dec8 b).1 = zO := by
  unfold dec8 at h ⊢
  split
  · rfl
  · rename_i h1
    rw [if_neg h1] at h
    split
    · rename_i v hv; rw [hv] at h; exact absurd rfl h
    · rfl
theorem soft_dec (b : List UInt8) : Soft (if (dec8 b).2 = 0 then octP (dec8 b).1 else .agg [pU8 0, .v (.slice none 0 0), .v (.slice none 0 0)]) (octP (dec8 b).1) := by
  by_cases h : (dec8 b).2 = 0
  · rw [if_pos h]; exact .refl
  · rw [if_neg h, dec8_zero h]; exact soft_zero
theorem soft_tup2 {a b c : V} (h : SoftW a b) : SoftW (.tup [a, c]) (.tup [b, c]) := .tup rfl fun i x y hx hy => by
  match i, hx, hy with
  | 0, hx, hy => cases hx; cases hy; exact h
  | 1, hx, hy => cases hx; cases hy; exact .refl
  | _ + 2, hx, _ => cases hx
set_option maxHeartbeats 16000000 in
theorem decode8_fv (WG : World) (b : List UInt8) (hb : b.length < 16777216) : FV Tryz.prog WG 45 [.sl 1 (bytesP b)] (.tup [.p (octP (dec8 b).1), vI (dec8 b).2]) := by
  refine FV.softR (r := .tup [.p (if (dec8 b).2 = 0 then octP (dec8 b).1 else .agg [pU8 0, .v (.slice none 0 0), .v (.slice none 0 0)]), vI (dec8 b).2]) ?_ (soft_tup2 (.p (soft_dec b)))
  refine CallT.pure rfl (CallT_dT Tryz.func45 (rs := [.cell 2 77, .cell 3 41]) (n := 28) rfl rfl (Nat.le_of_ble_eq_true rfl) rfl ?_)
  refine DTr_seq (T_fin ?_)
  simp only [push_cast, reduceIte, Nat.reduceMul, Nat.reduceEqDiff, Nat.reduceAdd, Nat.reduceLT, Nat.reduceLeDiff, reduceCtorEq, Int.reduceToNat]
  refine DTr_seq (T_fin ?_)
  simp only [push_cast, reduceIte, Nat.reduceMul, Nat.reduceEqDiff, Nat.reduceAdd, Nat.reduceLT, Nat.reduceLeDiff, reduceCtorEq, Int.reduceToNat, bytesP_length]
  refine ⟨fun h => ?_, fun h => ?_⟩
  · have h1 : 65536 < b.length := by simp at h; omega
    simp [dec8, if_pos h1]
  · have h1 : ¬ 65536 < b.length := by simp at h; omega
    refine DTr_defer rfl rfl rfl rfl rfl rfl (by dsimp only; decide) rfl (by simp only [push_cast]) ?_
    refine T_seqC ?_
    simp only [push_cast, reduceIte, Nat.reduceMul, Nat.reduceEqDiff, Nat.reduceAdd, Nat.reduceLT, Nat.reduceLeDiff, reduceCtorEq, Int.reduceToNat]
    refine T_seqC ?_
    simp only [push_cast, reduceIte, Nat.reduceMul, Nat.reduceEqDiff, Nat.reduceAdd, Nat.reduceLT, Nat.reduceLeDiff, reduceCtorEq, Int.reduceToNat]
    refine CallT.frameL [(0, 2)] (value_ct WG 12 1 b rfl (by omega)) (by simp [V.rnL, V.rn, rnf, aget]) (by simp [V.bd, V.bdL]) (by simp [LeR, rnf, aget, envR, tabR, injR, notIn, loR, V.rn, V.rnL, V.bd, V.bdL, Blk.rn, Blk.bd, envRn, envBd]) (by simp [LeR, rnf, aget, envR, tabR, injR, notIn, loR, V.rn, V.rnL, V.bd, V.bdL, Blk.rn, Blk.bd, envRn, envBd]) (rn1 (by omega)) (fun r t1 n1 hq => ?_) (fun r t1 n1 hq => ?_)
    · obtain ⟨x, rest, hx, rfl, rfl, rfl⟩ := hq
      obtain ⟨hb1, hb2, _, _⟩ := take_some false 12 b x rest hx
      have hlb := congrArg List.length hb1
      rw [List.length_append, enc_length] at hlb
      have hsm : smallO x := by unfold smallO; omega
      have hck := chk8_fv WG x hsm (by omega)
      have hdec : dec8 b = if rest = [] ∧ chkO x = 0 then (x, 0) else (zO, 12) := by
        rw [dec8, if_neg h1, decO, hx]
        cases rest with
        | nil =>
          simp only [true_and]
          by_cases hv : chkO x = 0
          · rw [if_pos ((chkO_zero x).1 hv), if_pos hv]
          · rw [if_neg (fun e => hv ((chkO_zero x).2 e)), if_neg hv]
        | cons a r => simp
      have hv := octP_eta x
      rw [hv] at hck
      simp only [V.rn, V.rnL, frf, restT, trn, rnf, adel, Blk.rn, push_cast, reduceIte, Nat.reduceMul, Nat.reduceEqDiff, Nat.reduceAdd, Nat.reduceLT, Nat.reduceLeDiff, reduceCtorEq, Int.reduceToNat, Nat.sub_self, hv]
      refine T_seqC ?_
      simp only [push_cast, reduceIte, Nat.reduceMul, Nat.reduceEqDiff, Nat.reduceAdd, Nat.reduceLT, Nat.reduceLeDiff, reduceCtorEq, Int.reduceToNat, bytesP_length]
      refine ⟨_, fun _ => hck.q rfl, ?_⟩
      simp only [push_cast, reduceIte, Nat.reduceMul, Nat.reduceEqDiff, Nat.reduceAdd, Nat.reduceLT, Nat.reduceLeDiff, reduceCtorEq, Int.reduceToNat]
      refine (must_ct WG _ _ _).mono (fun r t n hq => ?_) (fun r t n hq => ?_)
      · obtain ⟨h2, rfl, rfl⟩ := hq
        simp only [push_cast, reduceIte, Nat.reduceMul, Nat.reduceEqDiff, Nat.reduceAdd, Nat.reduceLT, Nat.reduceLeDiff, reduceCtorEq, Int.reduceToNat]
        refine T_fin ?_
        simp only [push_cast, reduceIte, Nat.reduceMul, Nat.reduceEqDiff, Nat.reduceAdd, Nat.reduceLT, Nat.reduceLeDiff, reduceCtorEq, Int.reduceToNat]
        refine (def_none WG _ _ _ _ _ _ rfl rfl).mono fun t n ⟨k0, k1⟩ => ?_
        simp only [push_cast, reduceIte, Nat.reduceMul, Nat.reduceEqDiff, Nat.reduceAdd, Nat.reduceLT, Nat.reduceLeDiff, reduceCtorEq, Int.reduceToNat, k0, k1]
        have h3 : rest = [] ∧ chkO x = 0 := by
          simp only [Bool.and_eq_true, decide_eq_true_eq] at h2
          exact ⟨List.length_eq_zero_iff.1 (by omega), h2.2⟩
        rw [hdec, if_pos h3]
        simp [hv]
      · obtain ⟨h2, rfl, rfl, rfl⟩ := hq
        simp only [push_cast, reduceIte, Nat.reduceMul, Nat.reduceEqDiff, Nat.reduceAdd, Nat.reduceLT, Nat.reduceLeDiff, reduceCtorEq, Int.reduceToNat]
        refine ⟨155, rfl, (def_some WG _ _ _ _ _ _ rfl rfl).mono fun t n ⟨k0, k1⟩ => ?_⟩
        simp only [push_cast, reduceIte, Nat.reduceMul, Nat.reduceEqDiff, Nat.reduceAdd, Nat.reduceLT, Nat.reduceLeDiff, reduceCtorEq, Int.reduceToNat, k0, k1]
        have h3 : ¬ (rest = [] ∧ chkO x = 0) := by
          rintro ⟨rfl, h3⟩
          simp [h3] at h2
        rw [hdec, if_neg h3]
        simp
    · obtain ⟨hq, rfl⟩ := hq
      have hdec : dec8 b = (zO, 12) := by rw [dec8, if_neg h1, decO, hq]
      simp only [V.rn, V.rnL, frf, restT, trn, rnf, adel, Blk.rn, push_cast, reduceIte, Nat.reduceMul, Nat.reduceEqDiff, Nat.reduceAdd, Nat.reduceLT, Nat.reduceLeDiff, reduceCtorEq, Int.reduceToNat, Nat.sub_self]
      refine ⟨155, rfl, (def_some WG _ _ _ _ _ _ rfl rfl).mono fun t n ⟨k0, k1⟩ => ?_⟩
      simp only [push_cast, reduceIte, Nat.reduceMul, Nat.reduceEqDiff, Nat.reduceAdd, Nat.reduceLT, Nat.reduceLeDiff, reduceCtorEq, Int.reduceToNat, k0, k1, hdec]
      simp
end Go.Proofs.YtgekglfmianoeaaGreatDoor
