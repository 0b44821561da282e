/-
  signed.Decode: the closures that read, and the function.
-/
import Derived.Test.YtgekglfmianoeaaGreatDoorSA
import Derived.Test.YtgekglfmianoeaaGreatDoorPE
set_option linter.unusedSimpArgs false
set_option linter.unusedVariables false
set_option maxRecDepth 20000
namespace Go.Proofs.YtgekglfmianoeaaGreatDoor
open Go Go.Gp
theorem fstE (a b : Bool) : (if fE a ≠ 0 then fE a else fE b) = fE (a && b) := by cases a <;> cases b <;> rfl
theorem firstE_fv (WG : World) (a b : Bool) : FV Tryz.prog WG 58 [.sl 1 [pI (fE a), pI (fE b)]] (vI (fE (a && b))) := by
  have := first_fv WG (fE a) (fE b)
  rw [fstE] at this
  exact this
theorem rnL_pz (f : Nat → Nat) : ∀ ps : List PV, V.rnL f (ps.map .p ++ [.ref 0 0]) = ps.map .p ++ [.ref (f 0) 0]
  | [] => rfl
  | x :: r => by rw [List.map_cons, List.cons_append, V.rnL, rnL_pz f r]; rfl
theorem bdL_pz : ∀ ps : List PV, V.bdL 1 (ps.map .p ++ [.ref 0 0])
  | [] => by simp [V.bdL, V.bd]
  | x :: r => by rw [List.map_cons, List.cons_append, V.bdL]; exact ⟨by simp [V.bd], bdL_pz r⟩
theorem rdz_at {WG : World} {f : FuncId} {ps : List PV} {c c' r0 : PV} (h : CallT Tryz.prog WG f (ps.map .p ++ [.ref 0 0]) [(0, .box [.p c])] 1 (fun r t n => r = .p r0 ∧ t = [(0, .box [.p c'])] ∧ n = 1) noP) {R nx : Nat} {tab : Tab} (hR : aget tab R = some (.box [.p c])) (hlt : R < nx) :
    CallT Tryz.prog WG f (ps.map .p ++ [.ref R 0]) tab nx (fun r t n => r = .p r0 ∧ t = aset tab R (.box [.p c']) ∧ n = nx) noP := by
  refine CallT.sub (CallT.frameL [(0, R)] h (by rw [rnL_pz]; simp [rnf, aget]) (bdL_pz ps) (by simp [LeR, rnf, aget, envR, tabR, injR, notIn, loR, V.rn, V.rnL, V.bd, V.bdL, Blk.rn, Blk.bd, envRn, envBd, hR]) (by simp [LeR, rnf, aget, envR, tabR, injR, notIn, loR, V.rn, V.rnL, V.bd, V.bdL, Blk.rn, Blk.bd, envRn, envBd]) (rn1 hlt) (fun r t n hq => ?_) (fun r t n hq => hq.elim))
  obtain ⟨rfl, rfl, rfl⟩ := hq
  refine ⟨aset tab R (.box [.p c']), fun k x hk => ?_, rfl, rfl, by omega⟩
  rw [aget_aset] at hk
  simp only [restT, trn, frf, rnf, aget, Option.getD_some, if_true, Nat.lt_one_iff, Blk.rn, V.rnL, V.rn]
  rw [aget_append, aget_adel]
  split at hk
  · rename_i e
    subst e
    cases hk
    simp [aget]
  · rename_i e
    rw [if_neg e, hk]
theorem rdz_call {WG : World} {f : FuncId} {ps : List PV} {c c' r0 : PV} (h : CallT Tryz.prog WG f (ps.map .p ++ [.ref 0 0]) [(0, .box [.p c])] 1 (fun r t n => r = .p r0 ∧ t = [(0, .box [.p c'])] ∧ n = 1) noP) {R nx : Nat} {tab : Tab} {vs : List V} {K KP : V → Tab → Nat → Prop} (hv : vs = ps.map .p ++ [.ref R 0]) (hR : aget tab R = some (.box [.p c])) (hlt : R < nx)
    (hk : K (.p r0) (aset tab R (.box [.p c'])) nx) : CallT Tryz.prog WG f vs tab nx K KP := by
  subst hv
  exact (rdz_at h hR hlt).mono (fun r t n hq => by obtain ⟨rfl, rfl, rfl⟩ := hq; exact hk) (fun _ _ _ hq => hq.elim)
theorem rdz_wet {WG : World} {f : FuncId} {ps : List PV} {c c' r0 : PV} (h : CallT Tryz.prog WG f (ps.map .p ++ [.ref 0 0]) [(0, .box [.p c])] 1 (fun r t n => r = .p r0 ∧ t = [(0, .box [.p c'])] ∧ n = 1) noP) {R nx : Nat} {tab U : Tab} (hR : aget tab R = some (.box [.p c])) (hlt : R < nx) (he : aset tab R (.box [.p c']) = U) :
    CallT Tryz.prog WG f (ps.map .p ++ [.ref R 0]) tab nx (fun r t n => r = .p r0 ∧ t = U ∧ n = nx) noP := (rdz_at h hR hlt).mono (fun r t n ⟨a, b, c⟩ => ⟨a, b.trans he, c⟩) (fun _ _ _ h => h)
set_option maxHeartbeats 8000000 in
theorem num12_r (WG : World) (x : Oct) (t : UInt8) (m : Nat) (hm : m < 18446744073709551616) (ok : Bool) : CallT Tryz.prog WG 64 ([rowP x, pU8 t.toNat, pU64 m].map .p ++ [.ref 0 0]) (bxE ok) 1
    (fun r tb n => r = .p (pU64 (getNum t m x)) ∧ tb = bxE (ok && okNum t m x) ∧ n = 1) noP := by
  have hrd := readNum_fv WG x t m hm
  have hor := firstE_fv WG ok (okNum t m x)
  rw [fE_if, octP_eta] at hrd
  show CallT Tryz.prog WG 64 [.p (rowP x), .p (pU8 t.toNat), .p (pU64 m), .ref 0 0] [(0, .box [vI (fE ok)])] 1 _ noP
  refine CallT.tidy (CallT_fnT Tryz.func64 (rs := [.tmp 7]) (n := 22) rfl rfl (Nat.le_of_ble_eq_true rfl) rfl ?_)
  refine T_seqC ?_
  simp only [push_cast, reduceIte, Nat.reduceMul, Nat.reduceEqDiff, Nat.reduceAdd, Nat.reduceLT, Nat.reduceLeDiff, reduceCtorEq, Int.reduceToNat]
  refine T_seqC ?_
  simp only [push_cast, reduceIte, Nat.reduceMul, Nat.reduceEqDiff, Nat.reduceAdd, Nat.reduceLT, Nat.reduceLeDiff, reduceCtorEq, Int.reduceToNat]
  refine hrd.call rfl ?_
  simp only [push_cast, reduceIte, Nat.reduceMul, Nat.reduceEqDiff, Nat.reduceAdd, Nat.reduceLT, Nat.reduceLeDiff, reduceCtorEq, Int.reduceToNat]
  refine T_seqC ?_
  simp only [push_cast, reduceIte, Nat.reduceMul, Nat.reduceEqDiff, Nat.reduceAdd, Nat.reduceLT, Nat.reduceLeDiff, reduceCtorEq, Int.reduceToNat]
  refine hor.lend rfl (by simp [snapT, snap, snapL, snap1, aget]) ?_
  simp only [push_cast, reduceIte, Nat.reduceMul, Nat.reduceEqDiff, Nat.reduceAdd, Nat.reduceLT, Nat.reduceLeDiff, reduceCtorEq, Int.reduceToNat]
  refine T_fin ?_
  simp only [push_cast, reduceIte, Nat.reduceMul, Nat.reduceEqDiff, Nat.reduceAdd, Nat.reduceLT, Nat.reduceLeDiff, reduceCtorEq, Int.reduceToNat]
  refine ⟨[], .p (pU64 (getNum t m x)), bxE (ok && okNum t m x), 1, ⟨rfl, rfl, rfl⟩, rfl, ?_, Nat.le_refl _, ?_⟩
  · simp [V.bd]
  · simp [LeR, rnf, aget, envR, tabR, injR, notIn, loR, V.rn, V.rnL, V.bd, V.bdL, Blk.rn, Blk.bd, envRn, envBd]
set_option maxHeartbeats 8000000 in
theorem str12_r (WG : World) (x : Oct) (t : UInt8) (m : Nat) (ok : Bool) : CallT Tryz.prog WG 66 ([rowP x, pU8 t.toNat, pI m].map .p ++ [.ref 0 0]) (bxE ok) 1
    (fun r tb n => r = .p (pS (strD t m x)) ∧ tb = bxE (ok && okStr t m x) ∧ n = 1) noP := by
  have hrd := readStr_fv WG x t m
  have hor := firstE_fv WG ok (okStr t m x)
  rw [fE_if, octP_eta] at hrd
  show CallT Tryz.prog WG 66 [.p (rowP x), .p (pU8 t.toNat), .p (pI m), .ref 0 0] [(0, .box [vI (fE ok)])] 1 _ noP
  refine CallT.tidy (CallT_fnT Tryz.func66 (rs := [.tmp 7]) (n := 22) rfl rfl (Nat.le_of_ble_eq_true rfl) rfl ?_)
  refine T_seqC ?_
  simp only [push_cast, reduceIte, Nat.reduceMul, Nat.reduceEqDiff, Nat.reduceAdd, Nat.reduceLT, Nat.reduceLeDiff, reduceCtorEq, Int.reduceToNat]
  refine T_seqC ?_
  simp only [push_cast, reduceIte, Nat.reduceMul, Nat.reduceEqDiff, Nat.reduceAdd, Nat.reduceLT, Nat.reduceLeDiff, reduceCtorEq, Int.reduceToNat]
  refine hrd.call rfl ?_
  simp only [push_cast, reduceIte, Nat.reduceMul, Nat.reduceEqDiff, Nat.reduceAdd, Nat.reduceLT, Nat.reduceLeDiff, reduceCtorEq, Int.reduceToNat]
  refine T_seqC ?_
  simp only [push_cast, reduceIte, Nat.reduceMul, Nat.reduceEqDiff, Nat.reduceAdd, Nat.reduceLT, Nat.reduceLeDiff, reduceCtorEq, Int.reduceToNat]
  refine hor.lend rfl (by simp [snapT, snap, snapL, snap1, aget]) ?_
  simp only [push_cast, reduceIte, Nat.reduceMul, Nat.reduceEqDiff, Nat.reduceAdd, Nat.reduceLT, Nat.reduceLeDiff, reduceCtorEq, Int.reduceToNat]
  refine T_fin ?_
  simp only [push_cast, reduceIte, Nat.reduceMul, Nat.reduceEqDiff, Nat.reduceAdd, Nat.reduceLT, Nat.reduceLeDiff, reduceCtorEq, Int.reduceToNat]
  refine ⟨[], .p (pS (strD t m x)), bxE (ok && okStr t m x), 1, ⟨rfl, rfl, rfl⟩, rfl, ?_, Nat.le_refl _, ?_⟩
  · simp [V.bd]
  · simp [LeR, rnf, aget, envR, tabR, injR, notIn, loR, V.rn, V.rnL, V.bd, V.bdL, Blk.rn, Blk.bd, envRn, envBd]
set_option maxHeartbeats 8000000 in
theorem list12_r (WG : World) (x : Oct) (hs : smallO x) (t : UInt8) (lo : Nat) (hlo : lo ≤ 100) (ok : Bool) : CallT Tryz.prog WG 62 ([rowP x, pU8 t.toNat, pI lo].map .p ++ [.ref 0 0]) (bxE ok) 1
    (fun r tb n => r = .p (.sl 3 ((getSeq t lo lo x).map octP)) ∧ tb = bxE (ok && okSeq t lo lo x) ∧ n = 1) noP := by
  have hrd := readSeq_fv WG x hs t lo lo
  have hor := firstE_fv WG ok (okSeq t lo lo x)
  rw [fE_if, octP_eta] at hrd
  show CallT Tryz.prog WG 62 [.p (rowP x), .p (pU8 t.toNat), .p (pI lo), .ref 0 0] [(0, .box [vI (fE ok)])] 1 _ noP
  refine CallT.softR (CallT.mono (CallT.tidy (K := fun r tb n => r = (if okSeq t lo lo x then .p (.sl 3 (x.list.map octP)) else .p (.sl 3 (List.replicate lo (.agg [pU8 0, .v (.slice none 0 0), .v (.slice none 0 0)])))) ∧ tb = [(0, .box [vI (fE (ok && okSeq t lo lo x))])] ∧ n = 1) (CallT.frz (CallT_fnT Tryz.func62 (rs := [.tmp 7]) (n := 27) rfl rfl (Nat.le_of_ble_eq_true rfl) rfl ?_))) (fun r tb n hq => ?_) (fun _ _ _ h => h))
  · refine T_seqC ?_
    simp only [push_cast, reduceIte, Nat.reduceMul, Nat.reduceEqDiff, Nat.reduceAdd, Nat.reduceLT, Nat.reduceLeDiff, reduceCtorEq, Int.reduceToNat]
    refine T_seqC ?_
    simp only [push_cast, reduceIte, Nat.reduceMul, Nat.reduceEqDiff, Nat.reduceAdd, Nat.reduceLT, Nat.reduceLeDiff, reduceCtorEq, Int.reduceToNat]
    refine hrd.call rfl ?_
    simp only [push_cast, reduceIte, Nat.reduceMul, Nat.reduceEqDiff, Nat.reduceAdd, Nat.reduceLT, Nat.reduceLeDiff, reduceCtorEq, Int.reduceToNat]
    refine T_seqC ?_
    simp only [push_cast, reduceIte, Nat.reduceMul, Nat.reduceEqDiff, Nat.reduceAdd, Nat.reduceLT, Nat.reduceLeDiff, reduceCtorEq, Int.reduceToNat]
    refine hor.lend rfl (by simp [snapT, snap, snapL, snap1, aget]) ?_
    simp only [push_cast, reduceIte, Nat.reduceMul, Nat.reduceEqDiff, Nat.reduceAdd, Nat.reduceLT, Nat.reduceLeDiff, reduceCtorEq, Int.reduceToNat]
    simp only [fE_eq]
    refine ⟨fun h => ?_, fun h => ?_⟩
    · have h : okSeq t lo lo x = false := by simpa using h
      refine ⟨⟨by omega, by omega, by omega, by omega⟩, 3, ?_⟩
      simp only [frz1, frzT, frzB, frzL, aget, h, Bool.false_eq_true, if_false, if_true, Bool.and_false, List.length_replicate, Nat.zero_add, Nat.le_refl, List.drop_zero]
      refine ⟨[], .p (.sl 3 (List.replicate lo (.agg [pU8 0, .v (.slice none 0 0), .v (.slice none 0 0)]))), [(0, .box [vI (fE false)])], 1, ⟨rfl, rfl, rfl⟩, ?_, ?_, Nat.le_refl _, ?_⟩
      · simp [V.rn]
      · simp [V.bd]
      · simp [LeR, rnf, aget, envR, tabR, injR, notIn, loR, V.rn, V.rnL, V.bd, V.bdL, Blk.rn, Blk.bd, envRn, envBd]
    · have h : okSeq t lo lo x = true := by simpa using h
      refine T_fin ?_
      simp only [push_cast, reduceIte, Nat.reduceMul, Nat.reduceEqDiff, Nat.reduceAdd, Nat.reduceLT, Nat.reduceLeDiff, reduceCtorEq, Int.reduceToNat, h, if_true, Bool.and_true]
      refine ⟨99, ?_⟩
      refine ⟨[], .p (.sl 3 (x.list.map octP)), [(0, .box [vI (fE ok)])], 1, ⟨rfl, rfl, rfl⟩, rfl, ?_, Nat.le_refl _, ?_⟩
      · simp [V.bd]
      · simp [LeR, rnf, aget, envR, tabR, injR, notIn, loR, V.rn, V.rnL, V.bd, V.bdL, Blk.rn, Blk.bd, envRn, envBd]
  · obtain ⟨rfl, rfl, rfl⟩ := hq
    refine ⟨.p (.sl 3 ((getSeq t lo lo x).map octP)), ?_, rfl, rfl, rfl⟩
    unfold getSeq
    cases okSeq t lo lo x with
    | true => exact .refl
    | false => exact .p (soft_zeros lo)
def eeD (b : List UInt8) : Crt := (decC b).getD zeC
theorem certDecodeD_fv (WG : World) (g : GW WG) (ge : GE WG) (b : List UInt8) (hb : b.length ≤ 65536) : FV Tryz.prog WG 14 [.sl 1 (bytesP b)] (.tup [.p (crtP (eeD b)), vI (fE (decC b).isSome)]) := by
  have h := certDecode_fv WG g ge b hb
  unfold decR at h
  unfold eeD
  cases hd : decC b with
  | some c => rw [hd] at h; exact h
  | none =>
    rw [hd] at h
    refine FV.softR h (soft_tup2 (.p (Soft.of1 ?_)))
    simp [softL, softV, zeC]
theorem eeD_ok (b : List UInt8) : OkC (eeD b) ∧ (eeD b).issuer.size ≤ 40 ∧ (eeD b).subject.size ≤ 40 ∧ PreD (eeD b) := by
  unfold eeD
  cases hd : decC b with
  | none =>
    refine ⟨⟨⟨by simp [zeC], by simp [zeC], by simp [zeC], by decide, by decide, by decide⟩, ⟨by simp [zeC], by simp [zeC], by decide, by decide⟩⟩, by decide, by decide, ?_⟩
    exact { v4 := by simp [zeC], v6 := by simp [zeC], as_ := by simp [zeC], chains := by simp [zeC], path := by simp [zeC], serial := by decide, root := by intro x hx; simp [rootL, zeC] at hx; omega, cb := by simp [zeC], pb := by simp [zeC] }
  | some c =>
    obtain ⟨hp, hk, _⟩ := decC_some hd
    obtain ⟨h1, h2⟩ := bounds_of hp hk
    have a1 := h1.n4
    have a2 := h1.n6
    have a3 := h1.nas
    have b1 := h2.nc
    have b2 := h2.np
    exact ⟨⟨⟨h1.v4, h1.v6, h1.as_, by show c.res.v4.length < _; omega, by show c.res.v6.length < _; omega, by show c.res.as_.length < _; omega⟩, ⟨fun x hx => (h2.chains x hx).1, fun x hx => (h2.path x hx).1, by show c.sig.chains.length < _; omega, by show c.sig.path.length < _; omega⟩⟩, h1.issuer, h1.subject, hp⟩
theorem rem16s (x y : List UInt8) : decide (0 < IntKind.i64.wrap ((((baL x).size : Nat) : Int).tmod 16 + (((baL y).size : Nat) : Int).tmod 16)) = !(decide (x.length % 16 = 0) && decide (y.length % 16 = 0)) := by
  have e1 : (((baL x).size : Nat) : Int).tmod 16 = ((x.length % 16 : Nat) : Int) := rfl
  have e2 : (((baL y).size : Nat) : Int).tmod 16 = ((y.length % 16 : Nat) : Int) := rfl
  have h1 := Nat.mod_lt x.length (show 16 > 0 by decide)
  have h2 := Nat.mod_lt y.length (show 16 > 0 by decide)
  rw [e1, e2, wrap_i64 _ (by omega) (by omega)]
  generalize x.length % 16 = m at *
  generalize y.length % 16 = n at *
  rw [Bool.eq_iff_iff, decide_eq_true_iff, Bool.not_eq_true', Bool.and_eq_false_iff, decide_eq_false_iff_not, decide_eq_false_iff_not]
  omega
abbrev z40 : List V := [.p (pU8 0), .p nS, .p (pU64 0), .p eS, .p eS, .p (pI 0), .p (pI 0), .p (pU8 0), .p (pU8 0), .p (pU8 0), .p (pU8 0), .p (pU8 0), .p (pU8 0), .p (pU8 0), .p (pU8 0), .p (pU8 0), .p (pU8 0), .p (pU8 0), .p (pU8 0), .p (pU8 0), .p (pU8 0), .p (pU8 0), .p (pU8 0), .p (pI 0), .p (pB false), .p (pB false), .p nS, .p nS, .p nS, .p eS, .p eS, .p eS, .p eS, .p eS, .p (pI 0), .p nS, .p nS, .p (pI 0), .p nS, .p nS]
abbrev zGV : PV := .agg [pU8 0, nS, pU64 0, eS, eS, pI 0, pI 0, pU8 0, pU8 0, pU8 0, pU8 0, pU8 0, pU8 0, pU8 0, pU8 0, pU8 0, pU8 0, pU8 0, pU8 0, pU8 0, pU8 0, pU8 0, pU8 0, pI 0, pB false, pB false, nS, nS, nS, eS, eS, eS, eS, eS, pI 0, nS, nS, pI 0, nS, nS]
def decRG (b : List UInt8) : V := match decG b with | some s => .tup [.p (sgnP s), vI 0] | none => .tup [.p zGV, vI 12]
set_option maxHeartbeats 64000000 in
theorem signedDecode_fv (WG : World) (g : GW WG) (ge : GE WG) (b : List UInt8) (hb : b.length ≤ 65536) : FV Tryz.prog WG 25 [.sl 1 (bytesP b)] (decRG b) := by
  unfold decRG
  have hdec := decode8_fv WG b (by omega)
  obtain ⟨hs0, he0⟩ := dec8_small hb
  generalize hv0 : (dec8 b).1 = v at hdec hs0
  rw [he0] at hdec
  generalize hok0 : decide ((dec8 b).2 = 0) = ok0 at hdec
  rw [octP_eta] at hdec
  have hsW := getSeq_small hs0 137 3 3
  have hl3 := wG_len v
  have hr0 := list12_r WG v hs0 137 3 (by omega) ok0
  rw [show getSeq 137 3 3 v = wG v from rfl] at hsW hr0
  generalize ha1 : (ok0 && okSeq 137 3 3 v) = a1 at hr0
  refine CallT.pure (by cases decG b <;> rfl) (CallT_fnT Tryz.func25 (rs := [.cell 2 55, .tmp 3]) (n := 138) rfl rfl (Nat.le_of_ble_eq_true rfl) rfl ?_)
  refine T_seqC ?_
  simp only [push_cast, reduceIte, Nat.reduceMul, Nat.reduceEqDiff, Nat.reduceAdd, Nat.reduceLT, Nat.reduceLeDiff, reduceCtorEq, Int.reduceToNat]
  refine T_seqC ?_
  simp only [push_cast, reduceIte, Nat.reduceMul, Nat.reduceEqDiff, Nat.reduceAdd, Nat.reduceLT, Nat.reduceLeDiff, reduceCtorEq, Int.reduceToNat]
  refine hdec.call rfl ?_
  simp only [push_cast, reduceIte, Nat.reduceMul, Nat.reduceEqDiff, Nat.reduceAdd, Nat.reduceLT, Nat.reduceLeDiff, reduceCtorEq, Int.reduceToNat]
  refine T_seqC ?_
  simp only [push_cast, reduceIte, Nat.reduceMul, Nat.reduceEqDiff, Nat.reduceAdd, Nat.reduceLT, Nat.reduceLeDiff, reduceCtorEq, Int.reduceToNat]
  refine T_seqC ?_
  simp only [push_cast, reduceIte, Nat.reduceMul, Nat.reduceEqDiff, Nat.reduceAdd, Nat.reduceLT, Nat.reduceLeDiff, reduceCtorEq, Int.reduceToNat]
  refine T_seqC ?_
  simp only [push_cast, reduceIte, Nat.reduceMul, Nat.reduceEqDiff, Nat.reduceAdd, Nat.reduceLT, Nat.reduceLeDiff, reduceCtorEq, Int.reduceToNat]
  refine T_seqC ?_
  simp only [push_cast, reduceIte, Nat.reduceMul, Nat.reduceEqDiff, Nat.reduceAdd, Nat.reduceLT, Nat.reduceLeDiff, reduceCtorEq, Int.reduceToNat]
  refine rdz_call (ps := [_, _, _]) hr0 rfl rfl (by omega) ?_
  simp only [push_cast, reduceIte, Nat.reduceMul, Nat.reduceEqDiff, Nat.reduceAdd, Nat.reduceLT, Nat.reduceLeDiff, reduceCtorEq, Int.reduceToNat]
  have hr1 := list12_r WG (atO (wG v) 0) (atO_small hsW (by omega)) 136 5 (by omega) a1
  rw [show getSeq 136 5 5 (atO (wG v) 0) = lG v from rfl] at hr1
  generalize ha2 : (a1 && okSeq 136 5 5 (atO (wG v) 0)) = a2 at hr1
  have hr2 := list12_r WG (atO (wG v) 2) (atO_small hsW (by omega)) 131 3 (by omega) a2
  rw [show getSeq 131 3 3 (atO (wG v) 2) = gG v from rfl] at hr2
  generalize ha3 : (a2 && okSeq 131 3 3 (atO (wG v) 2)) = a3 at hr2
  have hr3 := str12_r WG (atO (wG v) 1) 6 65536 a3
  rw [show strD 6 65536 (atO (wG v) 1) = baL (eG v) from rfl] at hr3
  generalize ha4 : (a3 && okStr 6 65536 (atO (wG v) 1)) = a4 at hr3
  have heb : (eG v).length ≤ 65536 := getStr_le 6 65536 (atO (wG v) 1)
  have hce := certDecodeD_fv WG g ge (eG v) heb
  have g0 := at_row (l := wG v) (i := 0) (by omega)
  have g1 := at_row (l := wG v) (i := 1) (by omega)
  have g2 := at_row (l := wG v) (i := 2) (by omega)
  have hlL := lG_len v
  have hlG := gG_len v
  have hdt : decG b = if ok0 = true then (match decC (eG v) with | none => none | some ee => if okGv v = true ∧ sameE v ee = true ∧ chkG (sG v ee) = 0 then some (sG v ee) else none) else none := by
    unfold decG
    unfold dec8 at hv0 hok0
    rw [if_neg (by omega)] at hv0 hok0
    cases hdo : decO false b with
    | none =>
      rw [hdo] at hv0 hok0
      have : ok0 = false := by rw [← hok0]; rfl
      rw [this]; simp
    | some v' =>
      rw [hdo] at hv0 hok0
      have e1 : ok0 = true := by rw [← hok0]; rfl
      have e2 : v' = v := hv0
      rw [e1, e2]
      exact Eq.trans rfl (if_pos rfl).symm
  have hgv : okGv v = true ↔ (okSeq 137 3 3 v && okSeq 136 5 5 (atO (wG v) 0) && okSeq 131 3 3 (atO (wG v) 2) && okStr 6 65536 (atO (wG v) 1) && okSigD (gG v) && okNum 1 3 (atO (lG v) 0) && okStr 2 32768 (atO (lG v) 1) && okNum 3 18446744073709551615 (atO (lG v) 2) && okStr 4 40 (atO (lG v) 3) && okStr 5 40 (atO (lG v) 4)) = true := Iff.rfl
  have hsE : ∀ ee, sameE v ee = (decide (getNum 3 18446744073709551615 (atO (lG v) 2) = ee.serial) && decide (strD 4 40 (atO (lG v) 3) = ee.issuer) && decide (strD 5 40 (atO (lG v) 4) = ee.subject)) := fun _ => rfl
  have hsG : ∀ ee, sG v ee = ⟨getNum 1 3 (atO (lG v) 0), getStr 2 32768 (atO (lG v) 1), ee, sigD (gG v)⟩ := fun _ => rfl
  refine T_le ⟨[(2, .ref 0 0), (3, vI 0), (5, .ref 2 0), (6, .clo (.func 62) [] [.ref 2 0]), (7, .clo (.func 64) [] [.ref 2 0]), (8, .clo (.func 66) [] [.ref 2 0]), (9, .p (.sl 3 ((wG v).map octP)))], [(0, .box z40), (2, .box [vI (fE a1)])], 3, 0, 138⟩ [] (by simp [LeR, rnf, aget, envR, tabR, injR, notIn, loR, V.rn, V.rnL, V.bd, V.bdL, Blk.rn, Blk.bd, envRn, envBd]) ?_
  generalize wG v = W at *
  generalize lG v = L at *
  generalize gG v = G at *
  generalize eG v = eb at *
  refine T_seqC ?_
  refine T_drawH [4, 9] [(8, 0)] mixed (by kernel_rfl) ?_
  simp only [push_cast, reduceIte, Nat.reduceMul, Nat.reduceEqDiff, Nat.reduceAdd, Nat.reduceLT, Nat.reduceLeDiff, reduceCtorEq, Int.reduceToNat, g0, g2]
  refine ⟨by omega, _, _, _, rdz_at (ps := [_, _, _]) hr1 rfl (by omega), Hold3.intro ?_⟩
  simp only [push_cast, reduceIte, Nat.reduceMul, Nat.reduceEqDiff, Nat.reduceAdd, Nat.reduceLT, Nat.reduceLeDiff, reduceCtorEq, Int.reduceToNat, g0, g2]
  refine ⟨by omega, _, _, _, rdz_at (ps := [_, _, _]) hr2 rfl (by omega), Hold3.intro ?_⟩
  simp only [push_cast, reduceIte, Nat.reduceMul, Nat.reduceEqDiff, Nat.reduceAdd, Nat.reduceLT, Nat.reduceLeDiff, reduceCtorEq, Int.reduceToNat, g0, g2]
  refine T_le ⟨[(2, .ref 0 0), (3, vI 0), (5, .ref 2 0), (7, .clo (.func 64) [] [.ref 2 0]), (8, .clo (.func 66) [] [.ref 2 0]), (9, .p (.sl 3 (W.map octP))), (10, .p (.sl 3 (L.map octP))), (11, .p (.sl 3 (G.map octP)))], [(0, .box z40), (2, .box [vI (fE a3)])], 3, 0, 138⟩ [] (by simp [LeR, rnf, aget, envR, tabR, injR, notIn, loR, V.rn, V.rnL, V.bd, V.bdL, Blk.rn, Blk.bd, envRn, envBd]) ?_
  refine T_seq (T_region ?_)
  rw [show List.range (Array.size _) = [0, 1, 2, 3, 4, 5, 6, 7, 8, 9, 10, 11, 12] from rfl]
  refine RT_step rfl ?_
  simp only [stepR, push_cast, reduceIte, Nat.reduceMul, Nat.reduceEqDiff, Nat.reduceAdd, Nat.reduceLT, Nat.reduceLeDiff, reduceCtorEq, Int.reduceToNat, g1]
  refine RT_step rfl ?_
  simp only [stepR, push_cast, reduceIte, Nat.reduceMul, Nat.reduceEqDiff, Nat.reduceAdd, Nat.reduceLT, Nat.reduceLeDiff, reduceCtorEq, Int.reduceToNat, g1]
  refine RT_step rfl ?_
  simp only [stepR, push_cast, reduceIte, Nat.reduceMul, Nat.reduceEqDiff, Nat.reduceAdd, Nat.reduceLT, Nat.reduceLeDiff, reduceCtorEq, Int.reduceToNat, g1]
  refine ⟨by omega, ?_⟩
  refine RT_step rfl ?_
  simp only [stepR, push_cast, reduceIte, Nat.reduceMul, Nat.reduceEqDiff, Nat.reduceAdd, Nat.reduceLT, Nat.reduceLeDiff, reduceCtorEq, Int.reduceToNat]
  refine RT_step rfl ?_
  simp only [stepR, push_cast, reduceIte, Nat.reduceMul, Nat.reduceEqDiff, Nat.reduceAdd, Nat.reduceLT, Nat.reduceLeDiff, reduceCtorEq, Int.reduceToNat]
  refine rdz_call (ps := [_, _, _]) hr3 rfl rfl (by omega) ?_
  simp only [stepR, push_cast, reduceIte, Nat.reduceMul, Nat.reduceEqDiff, Nat.reduceAdd, Nat.reduceLT, Nat.reduceLeDiff, reduceCtorEq, Int.reduceToNat]
  refine RT_step rfl ?_
  simp only [stepR, push_cast, reduceIte, Nat.reduceMul, Nat.reduceEqDiff, Nat.reduceAdd, Nat.reduceLT, Nat.reduceLeDiff, reduceCtorEq, Int.reduceToNat]
  refine RT_weak (Weak.freeze 3) ?_
  have hsz : (baL eb).size = eb.length := rfl
  have hd : (baL eb).data.toList = eb := rfl
  have hts : (bytesP eb).take eb.length = bytesP eb := List.take_of_length_le (by rw [bytesP_length]; exact Nat.le_refl _)
  simp only [frzS, frzE, frzL, frzT, frzB, frz1, push_cast, reduceIte, Nat.reduceMul, Nat.reduceEqDiff, Nat.reduceAdd, Nat.reduceLT, Nat.reduceLeDiff, reduceCtorEq, Int.reduceToNat, hd, hsz, bytesP_length, Nat.le_refl, if_true, hts]
  refine RT_step rfl ?_
  simp only [stepR, push_cast, reduceIte, Nat.reduceMul, Nat.reduceEqDiff, Nat.reduceAdd, Nat.reduceLT, Nat.reduceLeDiff, reduceCtorEq, Int.reduceToNat]
  refine hce.call rfl ?_
  simp only [stepR, push_cast, reduceIte, Nat.reduceMul, Nat.reduceEqDiff, Nat.reduceAdd, Nat.reduceLT, Nat.reduceLeDiff, reduceCtorEq, Int.reduceToNat]
  refine RT_step rfl ?_
  simp only [stepR, push_cast, reduceIte, Nat.reduceMul, Nat.reduceEqDiff, Nat.reduceAdd, Nat.reduceLT, Nat.reduceLeDiff, reduceCtorEq, Int.reduceToNat]
  refine RT_step rfl ?_
  simp only [stepR, push_cast, reduceIte, Nat.reduceMul, Nat.reduceEqDiff, Nat.reduceAdd, Nat.reduceLT, Nat.reduceLeDiff, reduceCtorEq, Int.reduceToNat]
  refine RT_step rfl ?_
  simp only [stepR, push_cast, reduceIte, Nat.reduceMul, Nat.reduceEqDiff, Nat.reduceAdd, Nat.reduceLT, Nat.reduceLeDiff, reduceCtorEq, Int.reduceToNat]
  refine RT_step rfl ?_
  simp only [stepR, push_cast, reduceIte, Nat.reduceMul, Nat.reduceEqDiff, Nat.reduceAdd, Nat.reduceLT, Nat.reduceLeDiff, reduceCtorEq, Int.reduceToNat]
  refine RT_step rfl ?_
  simp only [stepR, push_cast, reduceIte, Nat.reduceMul, Nat.reduceEqDiff, Nat.reduceAdd, Nat.reduceLT, Nat.reduceLeDiff, reduceCtorEq, Int.reduceToNat]
  refine RT_step rfl ?_
  simp only [stepR, push_cast, reduceIte, Nat.reduceMul, Nat.reduceEqDiff, Nat.reduceAdd, Nat.reduceLT, Nat.reduceLeDiff, reduceCtorEq, Int.reduceToNat]
  refine RT_nil ?_
  simp only [push_cast, reduceIte, Nat.reduceMul, Nat.reduceEqDiff, Nat.reduceAdd, Nat.reduceLT, Nat.reduceLeDiff, reduceCtorEq, Int.reduceToNat]
  generalize hee : eeD eb = ee at *
  generalize hec : (decC eb).isSome = ec at *
  refine T_le ⟨[(2, .ref 0 0), (3, vI 0), (5, .ref 2 0), (7, .clo (.func 64) [] [.ref 2 0]), (8, .clo (.func 66) [] [.ref 2 0]), (10, .p (.sl 3 (L.map octP))), (11, .p (.sl 3 (G.map octP))), (12, .ref 4 0), (13, vI (fE ec))], [(0, .box z40), (2, .box [vI (fE a4)]), (4, .box (boxC ee))], 5, 0, 138⟩ [] (by simp [LeR, rnf, aget, envR, tabR, injR, notIn, loR, V.rn, V.rnL, V.bd, V.bdL, Blk.rn, Blk.bd, envRn, envBd]) ?_
  have k1 := at_row (l := G) (i := 1) (by omega)
  have k2 := at_row (l := G) (i := 2) (by omega)
  have k0 := at_row (l := G) (i := 0) (by omega)
  have j0 := at_row (l := L) (i := 0) (by omega)
  have j1 := at_row (l := L) (i := 1) (by omega)
  have j2 := at_row (l := L) (i := 2) (by omega)
  have j3 := at_row (l := L) (i := 3) (by omega)
  have j4 := at_row (l := L) (i := 4) (by omega)
  have hr4 := str12_r WG (atO G 1) 2 65536 a4
  generalize ha5 : (a4 && okStr 2 65536 (atO G 1)) = a5 at hr4
  have hr5 := str12_r WG (atO G 2) 3 65536 a5
  generalize ha6 : (a5 && okStr 3 65536 (atO G 2)) = a6 at hr5
  have hc1 := getStr_le 2 65536 (atO G 1)
  have hc2 := getStr_le 3 65536 (atO G 2)
  rw [strD] at hr4 hr5
  refine T_seqC ?_
  refine T_drawH [4, 9] [(8, 0)] mixed (by kernel_rfl) ?_
  simp only [push_cast, reduceIte, Nat.reduceMul, Nat.reduceEqDiff, Nat.reduceAdd, Nat.reduceLT, Nat.reduceLeDiff, reduceCtorEq, Int.reduceToNat, k1, k2]
  refine ⟨by omega, _, _, _, rdz_at (ps := [_, _, _]) hr4 rfl (by omega), Hold3.intro ?_⟩
  simp only [push_cast, reduceIte, Nat.reduceMul, Nat.reduceEqDiff, Nat.reduceAdd, Nat.reduceLT, Nat.reduceLeDiff, reduceCtorEq, Int.reduceToNat, k1, k2]
  refine ⟨by omega, _, _, _, rdz_at (ps := [_, _, _]) hr5 rfl (by omega), Hold3.intro ?_⟩
  simp only [push_cast, reduceIte, Nat.reduceMul, Nat.reduceEqDiff, Nat.reduceAdd, Nat.reduceLT, Nat.reduceLeDiff, reduceCtorEq, Int.reduceToNat, k1, k2]
  refine T_le ⟨[(2, .ref 0 0), (3, vI 0), (5, .ref 2 0), (7, .clo (.func 64) [] [.ref 2 0]), (8, .clo (.func 66) [] [.ref 2 0]), (10, .p (.sl 3 (L.map octP))), (11, .p (.sl 3 (G.map octP))), (12, .ref 4 0), (13, vI (fE ec)), (14, .p (pS (baL (getStr 2 65536 (atO G 1))))), (15, .p (pS (baL (getStr 3 65536 (atO G 2)))))], [(0, .box z40), (2, .box [vI (fE a6)]), (4, .box (boxC ee))], 5, 0, 138⟩ [] (by simp [LeR, rnf, aget, envR, tabR, injR, notIn, loR, V.rn, V.rnL, V.bd, V.bdL, Blk.rn, Blk.bd, envRn, envBd]) ?_
  have hr6 := num12_r WG (atO L 0) 1 3 (by decide) a6
  generalize ha7 : (a6 && okNum 1 3 (atO L 0)) = a7 at hr6
  have hr7 := str12_r WG (atO L 1) 2 32768 a7
  rw [strD] at hr7
  generalize ha8 : (a7 && okStr 2 32768 (atO L 1)) = a8 at hr7
  have hr8 := num12_r WG (atO G 0) 1 16 (by decide) a8
  generalize ha9 : (a8 && okNum 1 16 (atO G 0)) = a9 at hr8
  have hs1 := split12_fv WG (getStr 2 65536 (atO G 1)) hc1
  have hs2 := split12_fv WG (getStr 3 65536 (atO G 2)) hc2
  have hkl := getNum_le 1 3 (atO L 0)
  have hil := getNum_le 1 16 (atO G 0)
  have wk : IntKind.u8.wrap (getNum 1 3 (atO L 0) : Int) = getNum 1 3 (atO L 0) := by rw [wrap_u8, Nat.mod_eq_of_lt (by omega)]
  have wi : IntKind.i64.wrap (getNum 1 16 (atO G 0) : Int) = getNum 1 16 (atO G 0) := wrap_i64 _ (by omega) (by omega)
  refine T_seqC ?_
  have hsz1 : (baL (getStr 2 32768 (atO L 1))).size = (getStr 2 32768 (atO L 1)).length := rfl
  have hd1 : (baL (getStr 2 32768 (atO L 1))).data.toList = getStr 2 32768 (atO L 1) := rfl
  refine T_drawK 25 [4, 10, 17] [4] (.box z40) mixed (by kernel_rfl) rfl ?_
  simp only [push_cast, reduceIte, Nat.reduceMul, Nat.reduceEqDiff, Nat.reduceAdd, Nat.reduceLT, Nat.reduceLeDiff, reduceCtorEq, Int.reduceToNat, j0, j1, k0, wk, wi, hsz1, hd1, bytesP_length]
  refine ⟨by omega, _, _, rdz_at (ps := [_, _, _]) hr6 rfl (by omega), rdz_wet (ps := [_, _, _]) hr6 rfl (by omega) rfl, rfl, Hold.intro ?_⟩
  simp only [push_cast, reduceIte, Nat.reduceMul, Nat.reduceEqDiff, Nat.reduceAdd, Nat.reduceLT, Nat.reduceLeDiff, reduceCtorEq, Int.reduceToNat, j0, j1, k0, wk, wi, hsz1, hd1, bytesP_length]
  refine ⟨by omega, _, _, rdz_at (ps := [_, _, _]) hr7 rfl (by omega), rdz_wet (ps := [_, _, _]) hr7 rfl (by omega) rfl, rfl, Hold.intro ?_⟩
  simp only [push_cast, reduceIte, Nat.reduceMul, Nat.reduceEqDiff, Nat.reduceAdd, Nat.reduceLT, Nat.reduceLeDiff, reduceCtorEq, Int.reduceToNat, j0, j1, k0, wk, wi, hsz1, hd1, bytesP_length]
  refine ⟨fun t h => by simp only [push_cast, reduceIte, Nat.reduceMul, Nat.reduceEqDiff, Nat.reduceAdd, Nat.reduceLT, Nat.reduceLeDiff, reduceCtorEq, Int.reduceToNat, h], by omega, _, _, rdz_at (ps := [_, _, _]) hr8 rfl (by omega), rdz_wet (ps := [_, _, _]) hr8 rfl (by omega) rfl, rfl, Hold.intro ?_⟩
  simp only [push_cast, reduceIte, Nat.reduceMul, Nat.reduceEqDiff, Nat.reduceAdd, Nat.reduceLT, Nat.reduceLeDiff, reduceCtorEq, Int.reduceToNat, j0, j1, k0, wk, wi, hsz1, hd1, bytesP_length]
  refine ⟨_, hs1.v rfl, Hold.intro ?_⟩
  simp only [push_cast, reduceIte, Nat.reduceMul, Nat.reduceEqDiff, Nat.reduceAdd, Nat.reduceLT, Nat.reduceLeDiff, reduceCtorEq, Int.reduceToNat]
  refine ⟨_, hs2.v rfl, Hold.intro ?_⟩
  simp only [push_cast, reduceIte, Nat.reduceMul, Nat.reduceEqDiff, Nat.reduceAdd, Nat.reduceLT, Nat.reduceLeDiff, reduceCtorEq, Int.reduceToNat]
  refine T_le ⟨[(2, .ref 0 0), (3, vI 0), (5, .ref 2 0), (7, .clo (.func 64) [] [.ref 2 0]), (8, .clo (.func 66) [] [.ref 2 0]), (10, .p (.sl 3 (L.map octP))), (12, .ref 4 0), (13, vI (fE ec)), (14, .p (pS (baL (getStr 2 65536 (atO G 1))))), (15, .p (pS (baL (getStr 3 65536 (atO G 2))))), (16, .ref 5 0)], [(0, .box z40), (2, .box [vI (fE a9)]), (4, .box (boxC ee)), (5, .box (boxG ⟨getNum 1 3 (atO L 0), getStr 2 32768 (atO L 1), ee, sigD G⟩))], 6, 0, 138⟩ [] (by simp [LeR, rnf, aget, envR, tabR, injR, notIn, loR, V.rn, V.rnL, V.bd, V.bdL, Blk.rn, Blk.bd, envRn, envBd, sigD, getShorts]) ?_
  have hr9 := num12_r WG (atO L 2) 3 18446744073709551615 (by decide) a9
  generalize hb1 : (a9 && okNum 3 18446744073709551615 (atO L 2)) = b1 at hr9
  have hr10 := str12_r WG (atO L 3) 4 40 b1
  generalize hb2 : (b1 && okStr 4 40 (atO L 3)) = b2 at hr10
  have hr11 := str12_r WG (atO L 4) 5 40 b2
  generalize hb3 : (b2 && okStr 5 40 (atO L 4)) = b3 at hr11
  have en : decide (((getNum 3 18446744073709551615 (atO L 2) : Nat) : Int) = (ee.serial : Int)) = decide (getNum 3 18446744073709551615 (atO L 2) = ee.serial) := by rw [decide_eq_decide]; omega
  refine T_cutR (fun p : Bool × Bool => ⟨[(2, .ref 0 0), (3, vI 0), (5, .ref 2 0), (13, vI (fE ec)), (14, .p (pS (baL (getStr 2 65536 (atO G 1))))), (15, .p (pS (baL (getStr 3 65536 (atO G 2))))), (16, .ref 5 0), (17, vB p.2)], [(0, .box z40), (2, .box [vI (fE p.1)]), (5, .box (boxG ⟨getNum 1 3 (atO L 0), getStr 2 32768 (atO L 1), ee, sigD G⟩))], 6, 0, 138⟩)
    (fun p => (p.1 && p.2) = (b3 && (decide (getNum 3 18446744073709551615 (atO L 2) = ee.serial) && decide (strD 4 40 (atO L 3) = ee.issuer) && decide (strD 5 40 (atO L 4) = ee.subject)))) ?_ (fun p hp => ?_)
  · by_cases q1 : getNum 3 18446744073709551615 (atO L 2) = ee.serial
    · rw [decide_eq_true q1] at en
      have es : strEq (strD 4 40 (atO L 3)) ee.issuer = decide (strD 4 40 (atO L 3) = ee.issuer) := by rw [Bool.eq_iff_iff, strEq_iff', decide_eq_true_iff]
      have es2 : strEq (strD 5 40 (atO L 4)) ee.subject = decide (strD 5 40 (atO L 4) = ee.subject) := by rw [Bool.eq_iff_iff, strEq_iff', decide_eq_true_iff]
      by_cases q2 : strD 4 40 (atO L 3) = ee.issuer
      · rw [decide_eq_true q2] at es
        refine T_drawH [4, 13, 23] [(6, 0), (15, 5), (25, 14)] mixed (by kernel_rfl) ?_
        simp only [push_cast, reduceIte, Nat.reduceMul, Nat.reduceEqDiff, Nat.reduceAdd, Nat.reduceLT, Nat.reduceLeDiff, reduceCtorEq, Int.reduceToNat, j2, j3, j4]
        refine ⟨by omega, _, _, _, rdz_at (ps := [_, _, _]) hr9 rfl (by omega), Hold3.intro ?_⟩
        simp only [push_cast, reduceIte, Nat.reduceMul, Nat.reduceEqDiff, Nat.reduceAdd, Nat.reduceLT, Nat.reduceLeDiff, reduceCtorEq, Int.reduceToNat, j2, j3, j4, en]
        refine ⟨by omega, _, _, _, rdz_at (ps := [_, _, _]) hr10 rfl (by omega), Hold3.intro ?_⟩
        simp only [push_cast, reduceIte, Nat.reduceMul, Nat.reduceEqDiff, Nat.reduceAdd, Nat.reduceLT, Nat.reduceLeDiff, reduceCtorEq, Int.reduceToNat, j2, j3, j4, es]
        refine ⟨by omega, _, _, _, rdz_at (ps := [_, _, _]) hr11 rfl (by omega), Hold3.intro ?_⟩
        simp only [push_cast, reduceIte, Nat.reduceMul, Nat.reduceEqDiff, Nat.reduceAdd, Nat.reduceLT, Nat.reduceLeDiff, reduceCtorEq, Int.reduceToNat, j2, j3, j4, es2]
        exact ⟨(b3, decide (strD 5 40 (atO L 4) = ee.subject)), by simp [q1, q2], [], by simp [LeR, rnf, aget, envR, tabR, injR, notIn, loR, V.rn, V.rnL, V.bd, V.bdL, Blk.rn, Blk.bd, envRn, envBd]⟩
      · rw [decide_eq_false q2] at es
        refine T_drawH [4, 13] [(6, 0), (15, 5)] mixed (by kernel_rfl) ?_
        simp only [push_cast, reduceIte, Nat.reduceMul, Nat.reduceEqDiff, Nat.reduceAdd, Nat.reduceLT, Nat.reduceLeDiff, reduceCtorEq, Int.reduceToNat, j2, j3, j4]
        refine ⟨by omega, _, _, _, rdz_at (ps := [_, _, _]) hr9 rfl (by omega), Hold3.intro ?_⟩
        simp only [push_cast, reduceIte, Nat.reduceMul, Nat.reduceEqDiff, Nat.reduceAdd, Nat.reduceLT, Nat.reduceLeDiff, reduceCtorEq, Int.reduceToNat, j2, j3, j4, en]
        refine ⟨by omega, _, _, _, rdz_at (ps := [_, _, _]) hr10 rfl (by omega), Hold3.intro ?_⟩
        simp only [push_cast, reduceIte, Nat.reduceMul, Nat.reduceEqDiff, Nat.reduceAdd, Nat.reduceLT, Nat.reduceLeDiff, reduceCtorEq, Int.reduceToNat, j2, j3, j4, es]
        refine ⟨.p eS, Hold3.intro ?_⟩
        simp only [push_cast, reduceIte, Nat.reduceMul, Nat.reduceEqDiff, Nat.reduceAdd, Nat.reduceLT, Nat.reduceLeDiff, reduceCtorEq, Int.reduceToNat, j2, j3, j4, es]
        exact ⟨(b2, false), by simp [q2], [], by simp [LeR, rnf, aget, envR, tabR, injR, notIn, loR, V.rn, V.rnL, V.bd, V.bdL, Blk.rn, Blk.bd, envRn, envBd]⟩
    · rw [decide_eq_false q1] at en
      refine T_drawH [4] [(6, 0)] mixed (by kernel_rfl) ?_
      simp only [push_cast, reduceIte, Nat.reduceMul, Nat.reduceEqDiff, Nat.reduceAdd, Nat.reduceLT, Nat.reduceLeDiff, reduceCtorEq, Int.reduceToNat, j2, j3, j4]
      refine ⟨by omega, _, _, _, rdz_at (ps := [_, _, _]) hr9 rfl (by omega), Hold3.intro ?_⟩
      simp only [push_cast, reduceIte, Nat.reduceMul, Nat.reduceEqDiff, Nat.reduceAdd, Nat.reduceLT, Nat.reduceLeDiff, reduceCtorEq, Int.reduceToNat, j2, j3, j4, en]
      refine ⟨.p eS, Hold3.intro ?_⟩
      simp only [push_cast, reduceIte, Nat.reduceMul, Nat.reduceEqDiff, Nat.reduceAdd, Nat.reduceLT, Nat.reduceLeDiff, reduceCtorEq, Int.reduceToNat, j2, j3, j4, en]
      refine ⟨.p eS, Hold3.intro ?_⟩
      simp only [push_cast, reduceIte, Nat.reduceMul, Nat.reduceEqDiff, Nat.reduceAdd, Nat.reduceLT, Nat.reduceLeDiff, reduceCtorEq, Int.reduceToNat, j2, j3, j4, en]
      exact ⟨(b1, false), by simp [q1], [], by simp [LeR, rnf, aget, envR, tabR, injR, notIn, loR, V.rn, V.rnL, V.bd, V.bdL, Blk.rn, Blk.bd, envRn, envBd]⟩
  obtain ⟨a, sm⟩ := p
  simp only at hp
  have hor := firstE_fv WG a ec
  obtain ⟨o1, o2, o3, _⟩ := eeD_ok eb
  rw [hee] at o1 o2 o3
  have hok : OkG ⟨getNum 1 3 (atO L 0), getStr 2 32768 (atO L 1), ee, sigD G⟩ := ⟨o1, ⟨fun x hx => (cutH_all _ x hx).1, fun x hx => (cutH_all _ x hx).1, shorts_len 2 (atO G 1), shorts_len 3 (atO G 2)⟩, by have := getStr_le 2 32768 (atO L 1); show (getStr 2 32768 (atO L 1)).length < _; omega⟩
  have hck := chk12_fv WG g ge _ hok (by show ee.issuer.size < _; omega) (by show ee.subject.size < _; omega)
  refine T_seqC ?_
  simp only [push_cast, reduceIte, Nat.reduceMul, Nat.reduceEqDiff, Nat.reduceAdd, Nat.reduceLT, Nat.reduceLeDiff, reduceCtorEq, Int.reduceToNat]
  refine hor.lend rfl (by simp [snapT, snap, snapL, snap1, aget]) ?_
  simp only [push_cast, reduceIte, Nat.reduceMul, Nat.reduceEqDiff, Nat.reduceAdd, Nat.reduceLT, Nat.reduceLeDiff, reduceCtorEq, Int.reduceToNat, fE_eq]
  rw [rem16s]
  refine ⟨fun h => ⟨h, by decide⟩, fun h => ⟨h, by decide⟩, _, fun _ => hck.q rfl, ?_⟩
  simp only [push_cast, reduceIte, Nat.reduceMul, Nat.reduceEqDiff, Nat.reduceAdd, Nat.reduceLT, Nat.reduceLeDiff, reduceCtorEq, Int.reduceToNat]
  generalize hS : (⟨getNum 1 3 (atO L 0), getStr 2 32768 (atO L 1), ee, sigD G⟩ : Sgn) = S at *
  have hfin : decG b = if ((a && ec && sm && (decide ((getStr 2 65536 (atO G 1)).length % 16 = 0) && decide ((getStr 3 65536 (atO G 2)).length % 16 = 0))) && decide (chkG S = 0)) = true then some S else none := by
    rw [hdt]
    cases hd : decC eb with
    | none =>
      rw [hd] at hec
      have : ec = false := by rw [← hec]; rfl
      subst this
      simp
    | some c =>
      have e1 : ec = true := by rw [← hec, hd]; rfl
      have e2 : ee = c := by rw [← hee, eeD, hd]; rfl
      subst e1 e2
      have hbool : (a && true && sm && (decide ((getStr 2 65536 (atO G 1)).length % 16 = 0) && decide ((getStr 3 65536 (atO G 2)).length % 16 = 0))) = (ok0 && okGv v && sameE v ee) := by
        have e3 : (a && true && sm && (decide ((getStr 2 65536 (atO G 1)).length % 16 = 0) && decide ((getStr 3 65536 (atO G 2)).length % 16 = 0))) = ((a && sm) && (decide ((getStr 2 65536 (atO G 1)).length % 16 = 0) && decide ((getStr 3 65536 (atO G 2)).length % 16 = 0))) := by rw [Bool.and_true]
        rw [e3, hp, hsE, Bool.eq_iff_iff.2 hgv, okSigD, okShorts, okShorts, ← hb3, ← hb2, ← hb1, ← ha9, ← ha8, ← ha7, ← ha6, ← ha5, ← ha4, ← ha3, ← ha2, ← ha1]
        ac_rfl
      have hg : sG v ee = S := by rw [hsG, hS]
      rw [hbool]
      cases ok0 <;> simp [hg, and_assoc]
  have hneg : (!(a && ec) || !sm || !(decide ((getStr 2 65536 (atO G 1)).length % 16 = 0) && decide ((getStr 3 65536 (atO G 2)).length % 16 = 0)) || !decide (chkG S = 0)) = !((a && ec && sm && (decide ((getStr 2 65536 (atO G 1)).length % 16 = 0) && decide ((getStr 3 65536 (atO G 2)).length % 16 = 0))) && decide (chkG S = 0)) := by simp only [Bool.not_and]
  rw [hneg]
  generalize ((a && ec && sm && (decide ((getStr 2 65536 (atO G 1)).length % 16 = 0) && decide ((getStr 3 65536 (atO G 2)).length % 16 = 0))) && decide (chkG S = 0)) = cnd at hfin ⊢
  refine ⟨fun h => ?_, fun h => ?_⟩
  · have h : cnd = false := by simpa using h
    rw [hfin, h]
    rfl
  · have h : cnd = true := by simpa using h
    refine T_fin ?_
    simp only [push_cast, reduceIte, Nat.reduceMul, Nat.reduceEqDiff, Nat.reduceAdd, Nat.reduceLT, Nat.reduceLeDiff, reduceCtorEq, Int.reduceToNat]
    rw [hfin, h]
    rfl
end Go.Proofs.YtgekglfmianoeaaGreatDoor
