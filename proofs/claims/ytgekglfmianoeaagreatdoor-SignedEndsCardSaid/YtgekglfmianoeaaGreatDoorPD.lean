/-
  cert.Decode.
-/
import Derived.Test.YtgekglfmianoeaaGreatDoorPC
import Derived.Test.YtgekglfmianoeaaGreatDoorKE
set_option linter.unusedSimpArgs false
set_option linter.unusedVariables false
set_option maxRecDepth 20000
namespace Go.Proofs.YtgekglfmianoeaaGreatDoor
open Go Go.Gp
theorem zO_small : smallO zO := by show sizeO (.mk 0 [] []) < _; simp [sizeO, sizeL, lenB]
theorem getSeq_small {v : Oct} (hs : smallO v) (t : UInt8) (lo hi : Nat) : ∀ x ∈ getSeq t lo hi v, smallO x := by
  obtain ⟨tg, b, l⟩ := v
  intro x hx
  unfold getSeq at hx
  split at hx
  · exact (smallO_mem hs).1 x hx
  · rw [(List.mem_replicate.1 hx).2]; exact zO_small
theorem atO_small {l : List Oct} (h : ∀ x ∈ l, smallO x) {i : Nat} (hi : i < l.length) : smallO (atO l i) := by
  rw [atO, List.getD_eq_getElem?_getD, List.getElem?_eq_getElem hi]
  exact h _ (List.getElem_mem hi)
abbrev rowP (v : Oct) : PV := .agg [pU8 v.tag.toNat, .sl 1 (bytesP v.bytes), .sl 3 (v.list.map octP)]
theorem at_row {l : List Oct} {i : Nat} (h : i < l.length) : (l.map octP)[i]? = some (rowP (atO l i)) := by rw [at_get h, octP_eta]
abbrev bxE (b : Bool) : Tab := [(0, .box [.p (pI (fE b))])]
theorem num_r (WG : World) (x : Oct) (t : UInt8) (m : Nat) (hm : m < 18446744073709551616) (ok : Bool) : CallT Tryz.prog WG 47 (.ref 0 0 :: [rowP x, pU8 t.toNat, pU64 m].map .p) (bxE ok) 1 (fun r tb n => r = .p (pU64 (getNum t m x)) ∧ tb = bxE (ok && okNum t m x) ∧ n = 1) noP := by
  have := num_ct WG x t m hm ok
  rw [octP_eta] at this
  exact this
theorem str_r (WG : World) (x : Oct) (t : UInt8) (m : Nat) (ok : Bool) : CallT Tryz.prog WG 48 (.ref 0 0 :: [rowP x, pU8 t.toNat, pI m].map .p) (bxE ok) 1 (fun r tb n => r = .p (pS (strD t m x)) ∧ tb = bxE (ok && okStr t m x) ∧ n = 1) noP := by
  have := str_ct WG x t m ok
  rw [octP_eta] at this
  exact this
theorem list_r (WG : World) (x : Oct) (hs : smallO x) (t : UInt8) (lo hi : Nat) (hlo : lo ≤ 100) (ok : Bool) : CallT Tryz.prog WG 46 (.ref 0 0 :: [rowP x, pU8 t.toNat, pI lo, pI hi].map .p) (bxE ok) 1 (fun r tb n => r = .p (.sl 3 ((getSeq t lo hi x).map octP)) ∧ tb = bxE (ok && okSeq t lo hi x) ∧ n = 1) noP := by
  have := list_ct WG x hs t lo hi hlo ok
  rw [octP_eta] at this
  exact this
theorem shorts_r (WG : World) (x : Oct) (t : UInt8) (ok : Bool) : CallT Tryz.prog WG 49 (.ref 0 0 :: [rowP x, pU8 t.toNat].map .p) (bxE ok) 1 (fun r tb n => r = .p (shortsP (getShorts t x)) ∧ tb = bxE (ok && okShorts t x) ∧ n = 1) noP := by
  have := shorts_ct WG x t ok
  rw [octP_eta] at this
  exact this
theorem addresses_r (WG : World) (x : Oct) (hs : smallO x) (ok : Bool) : CallT Tryz.prog WG 51 (.ref 0 0 :: [rowP x].map .p) (bxE ok) 1 (fun r tb n => r = .p (spansP (getAddrs x)) ∧ tb = bxE (ok && okAddrs x) ∧ n = 1) noP := by
  have := addresses_ct WG x hs ok
  rw [octP_eta] at this
  exact this
theorem rd_wet {WG : World} {f : FuncId} {ps : List PV} {c c' r0 : PV} (h : CallT Tryz.prog WG f (.ref 0 0 :: ps.map .p) [(0, .box [.p c])] 1 (fun r t n => r = .p r0 ∧ t = [(0, .box [.p c'])] ∧ n = 1) noP) {R nx : Nat} {tab U : Tab} (hR : aget tab R = some (.box [.p c])) (hlt : R < nx) (he : aset tab R (.box [.p c']) = U) :
    CallT Tryz.prog WG f (.ref R 0 :: ps.map .p) tab nx (fun r t n => r = .p r0 ∧ t = U ∧ n = nx) noP := (rd_at h hR hlt).mono (fun r t n ⟨a, b, c⟩ => ⟨a, b.trans he, c⟩) (fun _ _ _ h => h)
theorem dec8_small {b : List UInt8} (hb : b.length ≤ 65536) : smallO (dec8 b).1 ∧ (dec8 b).2 = fE (decide ((dec8 b).2 = 0)) := by
  unfold dec8
  rw [if_neg (by omega)]
  cases h : decO false b with
  | some v =>
    have := (dec_iff false b v).1 h
    refine ⟨?_, rfl⟩
    have hv := this.1
    simp only [validO, Bool.and_eq_true, decide_eq_true_eq] at hv
    show sizeO v < _
    omega
  | none => exact ⟨zO_small, rfl⟩
theorem addrs_len (v : Oct) : (getAddrs v).length ≤ 200 := by
  unfold getAddrs
  rw [List.length_map]
  exact (getSeq_len (t := 129) (lo := 0) (hi := 200) (by omega) v).2
theorem ass_len (v : Oct) : (getAss v).length ≤ 200 := by
  unfold getAss
  rw [List.length_map]
  exact (getSeq_len (t := 129) (lo := 0) (hi := 200) (by omega) v).2
theorem shorts_len (t : UInt8) (v : Oct) : (getShorts t v).length < 1000000 := by
  have := getStr_le t 65536 v
  unfold getShorts
  rw [cutH_len]; omega
theorem cD_ok (v : Oct) : OkC (cD v) := by
  have hp := cD_pre v
  revert hp
  unfold cD
  generalize bdD v = l
  generalize rsD v = r
  generalize sgD v = g
  intro hp
  exact ⟨⟨hp.v4, hp.v6, hp.as_, Nat.lt_of_le_of_lt (addrs_len (atO r 0)) (by decide), Nat.lt_of_le_of_lt (addrs_len (atO r 1)) (by decide), Nat.lt_of_le_of_lt (ass_len (atO r 2)) (by decide)⟩, ⟨hp.chains, hp.path, shorts_len 2 (atO g 1), shorts_len 3 (atO g 2)⟩⟩
def okPl (L : List Oct) : Nat → Bool
  | 0 => true
  | i + 1 => okPl L i && okStr (UInt8.ofNat (9 + i)) 200 (atO L (9 + i))
abbrev eS : PV := .v (.string ⟨#[]⟩)
abbrev nS : PV := .v (.slice none 0 0)
def plF (L : List Oct) (i k : Nat) : PV := if k < i then pS (strD (UInt8.ofNat (9 + k)) 200 (atO L (9 + k))) else eS
abbrev z35 : List V := [.p (pU64 0), .p eS, .p eS, .p (pI 0), .p (pI 0), .p (pU8 0), .p (pU8 0), .p (pU8 0), .p (pU8 0), .p (pU8 0), .p (pU8 0), .p (pU8 0), .p (pU8 0), .p (pU8 0), .p (pU8 0), .p (pU8 0), .p (pU8 0), .p (pU8 0), .p (pU8 0), .p (pU8 0), .p (pU8 0), .p (pI 0), .p (pB false), .p (pB false), .p nS, .p nS, .p nS, .p eS, .p eS, .p eS, .p eS, .p eS, .p (pI 0), .p nS, .p nS]
abbrev zPV : PV := .agg [pU64 0, eS, eS, pI 0, pI 0, pU8 0, pU8 0, pU8 0, pU8 0, pU8 0, pU8 0, pU8 0, pU8 0, pU8 0, pU8 0, pU8 0, pU8 0, pU8 0, pU8 0, pU8 0, pU8 0, pI 0, pB false, pB false, nS, nS, nS, eS, eS, eS, eS, eS, pI 0, nS, nS]
def decR (b : List UInt8) : V := match decC b with | some c => .tup [.p (crtP c), vI 0] | none => .tup [.p zPV, vI 12]
set_option maxHeartbeats 64000000 in
theorem certDecode_fv (WG : World) (g : GW WG) (ge : GE WG) (b : List UInt8) (hb : b.length ≤ 65536) : FV Tryz.prog WG 14 [.sl 1 (bytesP b)] (decR b) := by
  unfold decR
  have hdec := decode8_fv WG b (by omega)
  obtain ⟨hs0, he0⟩ := dec8_small hb
  generalize hv0 : (dec8 b).1 = v at hdec hs0
  rw [he0] at hdec
  generalize hok0 : decide ((dec8 b).2 = 0) = ok0 at hdec
  rw [octP_eta] at hdec
  have hsW := getSeq_small hs0 132 2 2
  have hl2 := whD_len v
  have hr0 := list_r WG v hs0 132 2 2 (by omega) ok0
  rw [show getSeq 132 2 2 v = whD v from rfl] at hsW hr0
  have hsL := getSeq_small (atO_small hsW (i := 0) (by omega)) 128 14 14
  have hsG := getSeq_small (atO_small hsW (i := 1) (by omega)) 131 3 3
  refine CallT.pure (by cases decC b <;> rfl) (CallT_fnT Tryz.func14 (rs := [.cell 2 37, .tmp 3]) (n := 221) rfl rfl (Nat.le_of_ble_eq_true rfl) rfl ?_)
  refine T_seqC ?_
  simp only [push_cast, reduceIte, Nat.reduceMul, Nat.reduceEqDiff, Nat.reduceAdd, Nat.reduceLT, Nat.reduceLeDiff, reduceCtorEq, Int.reduceToNat]
  refine T_seqC ?_
  simp only [push_cast, reduceIte, Nat.reduceMul, Nat.reduceEqDiff, Nat.reduceAdd, Nat.reduceLT, Nat.reduceLeDiff, reduceCtorEq, Int.reduceToNat]
  refine hdec.call rfl ?_
  simp only [push_cast, reduceIte, Nat.reduceMul, Nat.reduceEqDiff, Nat.reduceAdd, Nat.reduceLT, Nat.reduceLeDiff, reduceCtorEq, Int.reduceToNat]
  refine T_seqC ?_
  simp only [push_cast, reduceIte, Nat.reduceMul, Nat.reduceEqDiff, Nat.reduceAdd, Nat.reduceLT, Nat.reduceLeDiff, reduceCtorEq, Int.reduceToNat]
  refine T_seqC ?_
  simp only [push_cast, reduceIte, Nat.reduceMul, Nat.reduceEqDiff, Nat.reduceAdd, Nat.reduceLT, Nat.reduceLeDiff, reduceCtorEq, Int.reduceToNat]
  refine rd_call (ps := [_, _, _, _]) hr0 rfl rfl (by omega) ?_
  simp only [push_cast, reduceIte, Nat.reduceMul, Nat.reduceEqDiff, Nat.reduceAdd, Nat.reduceLT, Nat.reduceLeDiff, reduceCtorEq, Int.reduceToNat]
  have hr1 := list_r WG (atO (whD v) 0) (atO_small hsW (by omega)) 128 14 14 (by omega) (ok0 && okSeq 132 2 2 v)
  rw [show getSeq 128 14 14 (atO (whD v) 0) = bdD v from rfl] at hr1 hsL
  generalize ha1 : (ok0 && okSeq 132 2 2 v && okSeq 128 14 14 (atO (whD v) 0)) = a1 at hr1
  have hr2 := list_r WG (atO (whD v) 1) (atO_small hsW (by omega)) 131 3 3 (by omega) a1
  rw [show getSeq 131 3 3 (atO (whD v) 1) = sgD v from rfl] at hr2 hsG
  generalize ha2 : (a1 && okSeq 131 3 3 (atO (whD v) 1)) = a2 at hr2
  have g0 := at_row (l := whD v) (i := 0) (by omega)
  have g1 := at_row (l := whD v) (i := 1) (by omega)
  have hlL := bdD_len v
  have hlG := sgD_len v
  refine T_le ⟨[(2, .ref 0 0), (3, vI 0), (6, .ref 2 0), (7, .p (.sl 3 ((whD v).map octP)))], [(0, .box z35), (2, .box [vI (fE (ok0 && okSeq 132 2 2 v))])], 3, 0, 221⟩ [] (by simp [LeR, rnf, aget, envR, tabR, injR, notIn, loR, V.rn, V.rnL, V.bd, V.bdL, Blk.rn, Blk.bd, envRn, envBd]) ?_
  generalize hW : whD v = W at *
  refine T_seqC ?_
  refine T_drawH [4, 9] [(8, 0)] mixed (by kernel_rfl) ?_
  simp only [push_cast, reduceIte, Nat.reduceMul, Nat.reduceEqDiff, Nat.reduceAdd, Nat.reduceLT, Nat.reduceLeDiff, reduceCtorEq, Int.reduceToNat, g0, g1]
  refine ⟨by omega, _, _, _, rd_at (ps := [_, _, _, _]) hr1 rfl (by omega), Hold3.intro ?_⟩
  simp only [push_cast, reduceIte, Nat.reduceMul, Nat.reduceEqDiff, Nat.reduceAdd, Nat.reduceLT, Nat.reduceLeDiff, reduceCtorEq, Int.reduceToNat, g0, g1]
  refine ⟨by omega, _, _, _, rd_at (ps := [_, _, _, _]) hr2 rfl (by omega), Hold3.intro ?_⟩
  simp only [push_cast, reduceIte, Nat.reduceMul, Nat.reduceEqDiff, Nat.reduceAdd, Nat.reduceLT, Nat.reduceLeDiff, reduceCtorEq, Int.reduceToNat, g0, g1]
  refine T_le ⟨[(2, .ref 0 0), (3, vI 0), (6, .ref 2 0), (8, .p (.sl 3 ((bdD v).map octP))), (9, .p (.sl 3 ((sgD v).map octP)))], [(0, .box z35), (2, .box [vI (fE a2)])], 3, 0, 221⟩ [] (by simp [LeR, rnf, aget, envR, tabR, injR, notIn, loR, V.rn, V.rnL, V.bd, V.bdL, Blk.rn, Blk.bd, envRn, envBd]) ?_
  generalize hL : bdD v = L at *
  generalize hG : sgD v = G at *
  have k0 := at_row (l := L) (i := 0) (by omega)
  have k1 := at_row (l := L) (i := 1) (by omega)
  have k2 := at_row (l := L) (i := 2) (by omega)
  have n0 := num_r WG (atO L 0) 1 18446744073709551615 (by decide) a2
  generalize ha3 : (a2 && okNum 1 18446744073709551615 (atO L 0)) = a3 at n0
  have n1 := str_r WG (atO L 1) 2 40 a3
  generalize ha4 : (a3 && okStr 2 40 (atO L 1)) = a4 at n1
  have n2 := str_r WG (atO L 2) 3 40 a4
  generalize ha5 : (a4 && okStr 3 40 (atO L 2)) = a5 at n2
  refine T_seqC ?_
  refine T_drawA 16 [4, 9, 14] (.box z35) mixed (by kernel_rfl) ?_
  simp only [push_cast, reduceIte, Nat.reduceMul, Nat.reduceEqDiff, Nat.reduceAdd, Nat.reduceLT, Nat.reduceLeDiff, reduceCtorEq, Int.reduceToNat, k0, k1, k2]
  refine ⟨by omega, _, _, rd_at (ps := [_, _, _]) n0 rfl (by omega), rd_wet (ps := [_, _, _]) n0 rfl (by omega) rfl, Hold.intro ?_⟩
  simp only [push_cast, reduceIte, Nat.reduceMul, Nat.reduceEqDiff, Nat.reduceAdd, Nat.reduceLT, Nat.reduceLeDiff, reduceCtorEq, Int.reduceToNat, k0, k1, k2]
  refine ⟨by omega, _, _, rd_at (ps := [_, _, _]) n1 rfl (by omega), rd_wet (ps := [_, _, _]) n1 rfl (by omega) rfl, Hold.intro ?_⟩
  simp only [push_cast, reduceIte, Nat.reduceMul, Nat.reduceEqDiff, Nat.reduceAdd, Nat.reduceLT, Nat.reduceLeDiff, reduceCtorEq, Int.reduceToNat, k0, k1, k2]
  refine ⟨by omega, _, _, rd_at (ps := [_, _, _]) n2 rfl (by omega), rd_wet (ps := [_, _, _]) n2 rfl (by omega) rfl, Hold.intro ?_⟩
  simp only [push_cast, reduceIte, Nat.reduceMul, Nat.reduceEqDiff, Nat.reduceAdd, Nat.reduceLT, Nat.reduceLeDiff, reduceCtorEq, Int.reduceToNat, k0, k1, k2]
  refine T_le ⟨[(2, .ref 0 0), (3, vI 0), (6, .ref 2 0), (8, .p (.sl 3 (L.map octP))), (9, .p (.sl 3 (G.map octP))), (10, .ref 3 0)], [(0, .box z35), (2, .box [vI (fE a5)]), (3, .box [.p (pU64 (getNum 1 18446744073709551615 (atO L 0))), .p (pS (strD 2 40 (atO L 1))), .p (pS (strD 3 40 (atO L 2))), .p (pI 0), .p (pI 0), .p (pU8 0), .p (pU8 0), .p (pU8 0), .p (pU8 0), .p (pU8 0), .p (pU8 0), .p (pU8 0), .p (pU8 0), .p (pU8 0), .p (pU8 0), .p (pU8 0), .p (pU8 0), .p (pU8 0), .p (pU8 0), .p (pU8 0), .p (pU8 0), .p (pI 0), .p (pB false), .p (pB false), .p nS, .p nS, .p nS, .p eS, .p eS, .p eS, .p eS, .p eS, .p (pI 0), .p nS, .p nS])], 4, 0, 221⟩ [] (by simp [LeR, rnf, aget, envR, tabR, injR, notIn, loR, V.rn, V.rnL, V.bd, V.bdL, Blk.rn, Blk.bd, envRn, envBd]) ?_
  have k3 := at_row (l := L) (i := 3) (by omega)
  have k4 := at_row (l := L) (i := 4) (by omega)
  have n3 := num_r WG (atO L 3) 4 1099511627776 (by decide) a5
  generalize ha6 : (a5 && okNum 4 1099511627776 (atO L 3)) = a6 at n3
  have n4 := num_r WG (atO L 4) 5 1099511627776 (by decide) a6
  generalize ha7 : (a6 && okNum 5 1099511627776 (atO L 4)) = a7 at n4
  have w3 : IntKind.i64.wrap (getNum 4 1099511627776 (atO L 3) : Int) = getNum 4 1099511627776 (atO L 3) := by have := getNum_le 4 1099511627776 (atO L 3); exact wrap_i64 _ (by omega) (by omega)
  have w4 : IntKind.i64.wrap (getNum 5 1099511627776 (atO L 4) : Int) = getNum 5 1099511627776 (atO L 4) := by have := getNum_le 5 1099511627776 (atO L 4); exact wrap_i64 _ (by omega) (by omega)
  refine T_seqC ?_
  refine T_drawH [4, 10, 14] [(5, 11), (9, 0)] mixed (by kernel_rfl) ?_
  simp only [push_cast, reduceIte, Nat.reduceMul, Nat.reduceEqDiff, Nat.reduceAdd, Nat.reduceLT, Nat.reduceLeDiff, reduceCtorEq, Int.reduceToNat, k3, k4, w3, w4]
  refine ⟨by omega, _, _, _, rd_at (ps := [_, _, _]) n3 rfl (by omega), Hold3.intro ?_⟩
  simp only [push_cast, reduceIte, Nat.reduceMul, Nat.reduceEqDiff, Nat.reduceAdd, Nat.reduceLT, Nat.reduceLeDiff, reduceCtorEq, Int.reduceToNat, k3, k4, w3, w4]
  refine ⟨by omega, _, _, _, rd_at (ps := [_, _, _]) n4 rfl (by omega), Hold3.intro ?_⟩
  simp only [push_cast, reduceIte, Nat.reduceMul, Nat.reduceEqDiff, Nat.reduceAdd, Nat.reduceLT, Nat.reduceLeDiff, reduceCtorEq, Int.reduceToNat, k3, k4, w3, w4]
  refine T_le ⟨[(2, .ref 0 0), (3, vI 0), (6, .ref 2 0), (8, .p (.sl 3 (L.map octP))), (9, .p (.sl 3 (G.map octP))), (10, .ref 3 0)], [(0, .box z35), (2, .box [vI (fE a7)]), (3, .box [.p (pU64 (getNum 1 18446744073709551615 (atO L 0))), .p (pS (strD 2 40 (atO L 1))), .p (pS (strD 3 40 (atO L 2))), .p (pI (getNum 4 1099511627776 (atO L 3))), .p (pI (getNum 5 1099511627776 (atO L 4))), .p (pU8 0), .p (pU8 0), .p (pU8 0), .p (pU8 0), .p (pU8 0), .p (pU8 0), .p (pU8 0), .p (pU8 0), .p (pU8 0), .p (pU8 0), .p (pU8 0), .p (pU8 0), .p (pU8 0), .p (pU8 0), .p (pU8 0), .p (pU8 0), .p (pI 0), .p (pB false), .p (pB false), .p nS, .p nS, .p nS, .p eS, .p eS, .p eS, .p eS, .p eS, .p (pI 0), .p nS, .p nS])], 4, 0, 221⟩ [] (by simp [LeR, rnf, aget, envR, tabR, injR, notIn, loR, V.rn, V.rnL, V.bd, V.bdL, Blk.rn, Blk.bd, envRn, envBd]) ?_
  have k5 := at_row (l := L) (i := 5) (by omega)
  have n5 := shorts_r WG (atO L 5) 6 a7
  have hs16 := getS1 6 (atO L 5)
  generalize ha8 : (a7 && okShorts 6 (atO L 5)) = a8 at n5
  generalize hSH : getShorts 6 (atO L 5) = SH at n5 hs16
  have hor := or2_fv WG (fE a8) 12
  rw [show orE (fE a8) 12 = fE false by rw [show (12 : Int) = fE false from rfl, orE_fE, Bool.and_false]] at hor
  refine T_cutR (fun _ : Unit => ⟨[(2, .ref 0 0), (3, vI 0), (6, .ref 2 0), (8, .p (.sl 3 (L.map octP))), (9, .p (.sl 3 (G.map octP))), (10, .ref 3 0)], [(0, .box z35), (2, .box [vI (fE (a8 && decide (SH.length = 1)))]), (3, .box [.p (pU64 (getNum 1 18446744073709551615 (atO L 0))), .p (pS (strD 2 40 (atO L 1))), .p (pS (strD 3 40 (atO L 2))), .p (pI (getNum 4 1099511627776 (atO L 3))), .p (pI (getNum 5 1099511627776 (atO L 4))), .p (pU8 (rootD SH 0)), .p (pU8 (rootD SH 1)), .p (pU8 (rootD SH 2)), .p (pU8 (rootD SH 3)), .p (pU8 (rootD SH 4)), .p (pU8 (rootD SH 5)), .p (pU8 (rootD SH 6)), .p (pU8 (rootD SH 7)), .p (pU8 (rootD SH 8)), .p (pU8 (rootD SH 9)), .p (pU8 (rootD SH 10)), .p (pU8 (rootD SH 11)), .p (pU8 (rootD SH 12)), .p (pU8 (rootD SH 13)), .p (pU8 (rootD SH 14)), .p (pU8 (rootD SH 15)), .p (pI 0), .p (pB false), .p (pB false), .p nS, .p nS, .p nS, .p eS, .p eS, .p eS, .p eS, .p eS, .p (pI 0), .p nS, .p nS])], 4, 0, 221⟩) (fun _ => True) ?_ (fun _ _ => ?_)
  · simp only [push_cast, reduceIte, Nat.reduceMul, Nat.reduceEqDiff, Nat.reduceAdd, Nat.reduceLT, Nat.reduceLeDiff, reduceCtorEq, Int.reduceToNat, k5]
    refine ⟨by omega, ?_⟩
    refine rd_call (ps := [_, _]) n5 rfl rfl (by omega) ?_
    simp only [push_cast, reduceIte, Nat.reduceMul, Nat.reduceEqDiff, Nat.reduceAdd, Nat.reduceLT, Nat.reduceLeDiff, reduceCtorEq, Int.reduceToNat, List.length_map]
    refine ⟨fun h => ?_, fun h => ?_⟩
    · have h1 : SH.length = 1 := by simp at h; omega
      obtain _ | ⟨x, _ | ⟨y, r⟩⟩ := SH
      · simp at h1
      · obtain ⟨x0, x1, x2, x3, x4, x5, x6, x7, x8, x9, x10, x11, x12, x13, x14, x15, rfl⟩ := short16 (hs16 x (by simp))
        simp only [push_cast, reduceIte, Nat.reduceMul, Nat.reduceEqDiff, Nat.reduceAdd, Nat.reduceLT, Nat.reduceLeDiff, reduceCtorEq, Int.reduceToNat, List.map_cons, List.map_nil, shortP]
        refine ⟨by omega, (), [], ?_⟩
        simp [LeR, rnf, aget, envR, tabR, injR, notIn, loR, V.rn, V.rnL, V.bd, V.bdL, Blk.rn, Blk.bd, envRn, envBd, rootD]
      · simp at h1
    · have h1 : ¬ SH.length = 1 := by simp at h; omega
      have hrd : ∀ i, rootD SH i = 0 := fun i => by
        obtain _ | ⟨x, _ | ⟨y, r⟩⟩ := SH
        · rfl
        · simp at h1
        · rfl
      refine hor.lend rfl (by simp [snapT, snap, snapL, snap1, aget]) ?_
      simp only [push_cast, reduceIte, Nat.reduceMul, Nat.reduceEqDiff, Nat.reduceAdd, Nat.reduceLT, Nat.reduceLeDiff, reduceCtorEq, Int.reduceToNat, hrd]
      refine ⟨(), [], ?_⟩
      simp [LeR, rnf, aget, envR, tabR, injR, notIn, loR, V.rn, V.rnL, V.bd, V.bdL, Blk.rn, Blk.bd, envRn, envBd, h1]
  have k6 := at_row (l := L) (i := 6) (by omega)
  generalize ha9 : (a8 && decide (SH.length = 1)) = a9
  have n6 := num_r WG (atO L 6) 7 4 (by decide) a9
  generalize ha10 : (a9 && okNum 7 4 (atO L 6)) = a10 at n6
  have w6 : IntKind.i64.wrap (getNum 7 4 (atO L 6) : Int) = getNum 7 4 (atO L 6) := by have := getNum_le 7 4 (atO L 6); exact wrap_i64 _ (by omega) (by omega)
  refine T_seqC ?_
  simp only [push_cast, reduceIte, Nat.reduceMul, Nat.reduceEqDiff, Nat.reduceAdd, Nat.reduceLT, Nat.reduceLeDiff, reduceCtorEq, Int.reduceToNat, k6, w6]
  refine ⟨by omega, ?_⟩
  refine rd_call (ps := [_, _, _]) n6 rfl rfl (by omega) ?_
  simp only [push_cast, reduceIte, Nat.reduceMul, Nat.reduceEqDiff, Nat.reduceAdd, Nat.reduceLT, Nat.reduceLeDiff, reduceCtorEq, Int.reduceToNat, w6]
  refine T_le ⟨[(2, .ref 0 0), (3, vI 0), (6, .ref 2 0), (8, .p (.sl 3 (L.map octP))), (9, .p (.sl 3 (G.map octP))), (10, .ref 3 0)], [(0, .box z35), (2, .box [vI (fE a10)]), (3, .box [.p (pU64 (getNum 1 18446744073709551615 (atO L 0))), .p (pS (strD 2 40 (atO L 1))), .p (pS (strD 3 40 (atO L 2))), .p (pI (getNum 4 1099511627776 (atO L 3))), .p (pI (getNum 5 1099511627776 (atO L 4))), .p (pU8 (rootD SH 0)), .p (pU8 (rootD SH 1)), .p (pU8 (rootD SH 2)), .p (pU8 (rootD SH 3)), .p (pU8 (rootD SH 4)), .p (pU8 (rootD SH 5)), .p (pU8 (rootD SH 6)), .p (pU8 (rootD SH 7)), .p (pU8 (rootD SH 8)), .p (pU8 (rootD SH 9)), .p (pU8 (rootD SH 10)), .p (pU8 (rootD SH 11)), .p (pU8 (rootD SH 12)), .p (pU8 (rootD SH 13)), .p (pU8 (rootD SH 14)), .p (pU8 (rootD SH 15)), .p (pI (getNum 7 4 (atO L 6))), .p (pB false), .p (pB false), .p nS, .p nS, .p nS, .p eS, .p eS, .p eS, .p eS, .p eS, .p (pI 0), .p nS, .p nS])], 4, 0, 221⟩ [] (by simp [LeR, rnf, aget, envR, tabR, injR, notIn, loR, V.rn, V.rnL, V.bd, V.bdL, Blk.rn, Blk.bd, envRn, envBd]) ?_
  have k7 := at_row (l := L) (i := 7) (by omega)
  have n7 := num_r WG (atO L 7) 8 3 (by decide) a10
  generalize ha11 : (a10 && okNum 8 3 (atO L 7)) = a11 at n7
  have hfl := getNum_le 8 3 (atO L 7)
  generalize hFL : getNum 8 3 (atO L 7) = fl at n7 hfl
  have hb1 : decide (0 < bits2 .u64 (· &&& ·) (fl : Int) 1) = decide (fl % 2 = 1) := by
    have : fl = 0 ∨ fl = 1 ∨ fl = 2 ∨ fl = 3 := by omega
    rcases this with rfl | rfl | rfl | rfl <;> decide
  have hb2 : decide (0 < bits2 .u64 (· &&& ·) (fl : Int) 2) = decide (fl / 2 = 1) := by
    have : fl = 0 ∨ fl = 1 ∨ fl = 2 ∨ fl = 3 := by omega
    rcases this with rfl | rfl | rfl | rfl <;> decide
  refine T_seqC ?_
  simp only [push_cast, reduceIte, Nat.reduceMul, Nat.reduceEqDiff, Nat.reduceAdd, Nat.reduceLT, Nat.reduceLeDiff, reduceCtorEq, Int.reduceToNat, k7]
  refine ⟨by omega, ?_⟩
  refine rd_call (ps := [_, _, _]) n7 rfl rfl (by omega) ?_
  simp only [push_cast, reduceIte, Nat.reduceMul, Nat.reduceEqDiff, Nat.reduceAdd, Nat.reduceLT, Nat.reduceLeDiff, reduceCtorEq, Int.reduceToNat]
  refine T_seqC ?_
  simp only [push_cast, reduceIte, Nat.reduceMul, Nat.reduceEqDiff, Nat.reduceAdd, Nat.reduceLT, Nat.reduceLeDiff, reduceCtorEq, Int.reduceToNat, hb1, hb2]
  refine T_le ⟨[(2, .ref 0 0), (3, vI 0), (6, .ref 2 0), (8, .p (.sl 3 (L.map octP))), (9, .p (.sl 3 (G.map octP))), (10, .ref 3 0)], [(0, .box z35), (2, .box [vI (fE a11)]), (3, .box [.p (pU64 (getNum 1 18446744073709551615 (atO L 0))), .p (pS (strD 2 40 (atO L 1))), .p (pS (strD 3 40 (atO L 2))), .p (pI (getNum 4 1099511627776 (atO L 3))), .p (pI (getNum 5 1099511627776 (atO L 4))), .p (pU8 (rootD SH 0)), .p (pU8 (rootD SH 1)), .p (pU8 (rootD SH 2)), .p (pU8 (rootD SH 3)), .p (pU8 (rootD SH 4)), .p (pU8 (rootD SH 5)), .p (pU8 (rootD SH 6)), .p (pU8 (rootD SH 7)), .p (pU8 (rootD SH 8)), .p (pU8 (rootD SH 9)), .p (pU8 (rootD SH 10)), .p (pU8 (rootD SH 11)), .p (pU8 (rootD SH 12)), .p (pU8 (rootD SH 13)), .p (pU8 (rootD SH 14)), .p (pU8 (rootD SH 15)), .p (pI (getNum 7 4 (atO L 6))), .p (pB (decide (fl % 2 = 1))), .p (pB (decide (fl / 2 = 1))), .p nS, .p nS, .p nS, .p eS, .p eS, .p eS, .p eS, .p eS, .p (pI 0), .p nS, .p nS])], 4, 0, 221⟩ [] (by simp [LeR, rnf, aget, envR, tabR, injR, notIn, loR, V.rn, V.rnL, V.bd, V.bdL, Blk.rn, Blk.bd, envRn, envBd]) ?_
  have k8 := at_row (l := L) (i := 8) (by omega)
  have n8 := list_r WG (atO L 8) (atO_small hsL (by omega)) 130 3 3 (by omega) a11
  generalize ha12 : (a11 && okSeq 130 3 3 (atO L 8)) = a12 at n8
  have hsR := getSeq_small (atO_small hsL (i := 8) (by omega)) 130 3 3
  have hlR := rsD_len v
  rw [show rsD v = getSeq 130 3 3 (atO L 8) by rw [← hL]] at hlR
  generalize hR : getSeq 130 3 3 (atO L 8) = R at n8 hsR hlR
  refine T_seqC ?_
  simp only [push_cast, reduceIte, Nat.reduceMul, Nat.reduceEqDiff, Nat.reduceAdd, Nat.reduceLT, Nat.reduceLeDiff, reduceCtorEq, Int.reduceToNat, k8]
  refine ⟨by omega, ?_⟩
  refine rd_call (ps := [_, _, _, _]) n8 rfl rfl (by omega) ?_
  simp only [push_cast, reduceIte, Nat.reduceMul, Nat.reduceEqDiff, Nat.reduceAdd, Nat.reduceLT, Nat.reduceLeDiff, reduceCtorEq, Int.reduceToNat]
  refine T_le ⟨[(2, .ref 0 0), (3, vI 0), (6, .ref 2 0), (8, .p (.sl 3 (L.map octP))), (9, .p (.sl 3 (G.map octP))), (10, .ref 3 0), (13, .p (.sl 3 (R.map octP)))], [(0, .box z35), (2, .box [vI (fE a12)]), (3, .box [.p (pU64 (getNum 1 18446744073709551615 (atO L 0))), .p (pS (strD 2 40 (atO L 1))), .p (pS (strD 3 40 (atO L 2))), .p (pI (getNum 4 1099511627776 (atO L 3))), .p (pI (getNum 5 1099511627776 (atO L 4))), .p (pU8 (rootD SH 0)), .p (pU8 (rootD SH 1)), .p (pU8 (rootD SH 2)), .p (pU8 (rootD SH 3)), .p (pU8 (rootD SH 4)), .p (pU8 (rootD SH 5)), .p (pU8 (rootD SH 6)), .p (pU8 (rootD SH 7)), .p (pU8 (rootD SH 8)), .p (pU8 (rootD SH 9)), .p (pU8 (rootD SH 10)), .p (pU8 (rootD SH 11)), .p (pU8 (rootD SH 12)), .p (pU8 (rootD SH 13)), .p (pU8 (rootD SH 14)), .p (pU8 (rootD SH 15)), .p (pI (getNum 7 4 (atO L 6))), .p (pB (decide (fl % 2 = 1))), .p (pB (decide (fl / 2 = 1))), .p nS, .p nS, .p nS, .p eS, .p eS, .p eS, .p eS, .p eS, .p (pI 0), .p nS, .p nS])], 4, 0, 221⟩ [] (by simp [LeR, rnf, aget, envR, tabR, injR, notIn, loR, V.rn, V.rnL, V.bd, V.bdL, Blk.rn, Blk.bd, envRn, envBd]) ?_
  have j0 := at_row (l := R) (i := 0) (by omega)
  have j1 := at_row (l := R) (i := 1) (by omega)
  have j2 := at_row (l := R) (i := 2) (by omega)
  have m0 := addresses_r WG (atO R 0) (atO_small hsR (by omega)) a12
  generalize ha13 : (a12 && okAddrs (atO R 0)) = a13 at m0
  have m1 := addresses_r WG (atO R 1) (atO_small hsR (by omega)) a13
  generalize ha14 : (a13 && okAddrs (atO R 1)) = a14 at m1
  refine T_seqC ?_
  refine T_drawH [4, 9, 12, 15] [(8, 0)] mixed (by kernel_rfl) ?_
  simp only [push_cast, reduceIte, Nat.reduceMul, Nat.reduceEqDiff, Nat.reduceAdd, Nat.reduceLT, Nat.reduceLeDiff, reduceCtorEq, Int.reduceToNat, j0, j1]
  refine ⟨by omega, _, _, _, rd_at (ps := [_]) m0 rfl (by omega), Hold3.intro ?_⟩
  simp only [push_cast, reduceIte, Nat.reduceMul, Nat.reduceEqDiff, Nat.reduceAdd, Nat.reduceLT, Nat.reduceLeDiff, reduceCtorEq, Int.reduceToNat, j0, j1]
  refine ⟨by omega, _, _, _, rd_at (ps := [_]) m1 rfl (by omega), Hold3.intro ?_⟩
  simp only [push_cast, reduceIte, Nat.reduceMul, Nat.reduceEqDiff, Nat.reduceAdd, Nat.reduceLT, Nat.reduceLeDiff, reduceCtorEq, Int.reduceToNat, j0, j1]
  refine T_le ⟨[(2, .ref 0 0), (3, vI 0), (6, .ref 2 0), (8, .p (.sl 3 (L.map octP))), (9, .p (.sl 3 (G.map octP))), (10, .ref 3 0), (13, .p (.sl 3 (R.map octP)))], [(0, .box z35), (2, .box [vI (fE a14)]), (3, .box [.p (pU64 (getNum 1 18446744073709551615 (atO L 0))), .p (pS (strD 2 40 (atO L 1))), .p (pS (strD 3 40 (atO L 2))), .p (pI (getNum 4 1099511627776 (atO L 3))), .p (pI (getNum 5 1099511627776 (atO L 4))), .p (pU8 (rootD SH 0)), .p (pU8 (rootD SH 1)), .p (pU8 (rootD SH 2)), .p (pU8 (rootD SH 3)), .p (pU8 (rootD SH 4)), .p (pU8 (rootD SH 5)), .p (pU8 (rootD SH 6)), .p (pU8 (rootD SH 7)), .p (pU8 (rootD SH 8)), .p (pU8 (rootD SH 9)), .p (pU8 (rootD SH 10)), .p (pU8 (rootD SH 11)), .p (pU8 (rootD SH 12)), .p (pU8 (rootD SH 13)), .p (pU8 (rootD SH 14)), .p (pU8 (rootD SH 15)), .p (pI (getNum 7 4 (atO L 6))), .p (pB (decide (fl % 2 = 1))), .p (pB (decide (fl / 2 = 1))), .p (spansP (getAddrs (atO R 0))), .p (spansP (getAddrs (atO R 1))), .p nS, .p eS, .p eS, .p eS, .p eS, .p eS, .p (pI 0), .p nS, .p nS])], 4, 0, 221⟩ [] (by simp [LeR, rnf, aget, envR, tabR, injR, notIn, loR, V.rn, V.rnL, V.bd, V.bdL, Blk.rn, Blk.bd, envRn, envBd]) ?_
  have m2 := list_r WG (atO R 2) (atO_small hsR (by omega)) 129 0 200 (by omega) a14
  generalize ha15 : (a14 && okSeq 129 0 200 (atO R 2)) = a15 at m2
  have hsX := getSeq_small (atO_small hsR (i := 2) (by omega)) 129 0 200
  have hxn := (getSeq_len (t := 129) (lo := 0) (hi := 200) (by omega) (atO R 2)).2
  generalize hX : getSeq 129 0 200 (atO R 2) = xs at m2 hsX hxn
  refine T_nilBox 3 26 2 rfl rfl ?_
  simp only [push_cast, reduceIte, Nat.reduceMul, Nat.reduceEqDiff, Nat.reduceAdd, Nat.reduceLT, Nat.reduceLeDiff, reduceCtorEq, Int.reduceToNat]
  refine T_seqC ?_
  simp only [push_cast, reduceIte, Nat.reduceMul, Nat.reduceEqDiff, Nat.reduceAdd, Nat.reduceLT, Nat.reduceLeDiff, reduceCtorEq, Int.reduceToNat, j2]
  refine ⟨by omega, ?_⟩
  refine rd_call (ps := [_, _, _, _]) m2 rfl rfl (by omega) ?_
  simp only [push_cast, reduceIte, Nat.reduceMul, Nat.reduceEqDiff, Nat.reduceAdd, Nat.reduceLT, Nat.reduceLeDiff, reduceCtorEq, Int.reduceToNat, List.length_map]
  refine T_loopR (fun i : Nat => ⟨[(2, .ref 0 0), (3, vI 0), (6, .ref 2 0), (8, .p (.sl 3 (L.map octP))), (9, .p (.sl 3 (G.map octP))), (10, .ref 3 0), (136, .p (.sl 3 (xs.map octP))), (137, vI xs.length), (138, vI i)], [(0, .box z35), (2, .box [vI (fE (a15 && (xs.take i).all okAsO))]), (3, .box [.p (pU64 (getNum 1 18446744073709551615 (atO L 0))), .p (pS (strD 2 40 (atO L 1))), .p (pS (strD 3 40 (atO L 2))), .p (pI (getNum 4 1099511627776 (atO L 3))), .p (pI (getNum 5 1099511627776 (atO L 4))), .p (pU8 (rootD SH 0)), .p (pU8 (rootD SH 1)), .p (pU8 (rootD SH 2)), .p (pU8 (rootD SH 3)), .p (pU8 (rootD SH 4)), .p (pU8 (rootD SH 5)), .p (pU8 (rootD SH 6)), .p (pU8 (rootD SH 7)), .p (pU8 (rootD SH 8)), .p (pU8 (rootD SH 9)), .p (pU8 (rootD SH 10)), .p (pU8 (rootD SH 11)), .p (pU8 (rootD SH 12)), .p (pU8 (rootD SH 13)), .p (pU8 (rootD SH 14)), .p (pU8 (rootD SH 15)), .p (pI (getNum 7 4 (atO L 6))), .p (pB (decide (fl % 2 = 1))), .p (pB (decide (fl / 2 = 1))), .p (spansP (getAddrs (atO R 0))), .p (spansP (getAddrs (atO R 1))), .osl 4 2 0 i none, .p eS, .p eS, .p eS, .p eS, .p eS, .p (pI 0), .p nS, .p nS]), (4, .arr 2 ((xs.take i).map fun x => asP (getAsO x)) true)], 5, 0, 221⟩) (fun i => i ≤ xs.length) (fun i => xs.length - i) 0 [] (Nat.zero_le _) (by simp [LeR, rnf, aget, envR, tabR, injR, notIn, loR, V.rn, V.rnL, V.bd, V.bdL, Blk.rn, Blk.bd, envRn, envBd]) (fun i hi => ?_)
  · simp only [push_cast, reduceIte, Nat.reduceMul, Nat.reduceEqDiff, Nat.reduceAdd, Nat.reduceLT, Nat.reduceLeDiff, reduceCtorEq, Int.reduceToNat]
    refine ⟨fun h1 => ?_, fun h1 => ?_⟩
    · have h2 : i < xs.length := by simpa using h1
      have hg : xs[i]? = some xs[i] := List.getElem?_eq_getElem h2
      have hsm := hsX _ (List.mem_of_getElem? hg)
      generalize xs[i] = x at hg hsm
      have hal : (xs.take (i + 1)).all okAsO = ((xs.take i).all okAsO && okAsO x) := by rw [List.take_add_one, hg]; simp
      have hl2' := asL_len x
      generalize hae : (a15 && (xs.take i).all okAsO) = a
      have q0 := list_r WG x hsm 133 2 2 (by omega) a
      have hok : okAsO x = (okSeq 133 2 2 x && okNum 1 4294967295 (atO (asL x) 0) && okNum 2 4294967295 (atO (asL x) 1)) := rfl
      have hml : ((xs.take i).map fun x => asP (getAsO x)).length = i := by rw [List.length_map, List.length_take]; omega
      have htk : ((xs.take i).map fun x => asP (getAsO x)) ++ [asP (getAsO x)] = (xs.take (i + 1)).map fun x => asP (getAsO x) := by rw [List.take_add_one, hg]; simp
      have hsp : asP (getAsO x) = .agg [pU32 (getNum 1 4294967295 (atO (asL x) 0)), pU32 (getNum 2 4294967295 (atO (asL x) 1))] := rfl
      rw [show getSeq 133 2 2 x = asL x from rfl] at q0
      generalize okSeq 133 2 2 x = ok2 at q0 hok
      generalize asL x = l2 at q0 hl2' hok hsp
      have hgx : (xs.map octP)[i]? = some (rowP x) := by rw [List.getElem?_map, hg, Option.map_some, octP_eta]
      have q1 := num_r WG (atO l2 0) 1 4294967295 (by decide) (a && ok2)
      have q2 := num_r WG (atO l2 1) 2 4294967295 (by decide) (a && ok2 && okNum 1 4294967295 (atO l2 0))
      have p0 := at_row (l := l2) (i := 0) (by omega)
      have p1 := at_row (l := l2) (i := 1) (by omega)
      have v1 : IntKind.u32.wrap (getNum 1 4294967295 (atO l2 0) : Int) = getNum 1 4294967295 (atO l2 0) := by have := getNum_le 1 4294967295 (atO l2 0); simp only [IntKind.wrap, IntKind.bits, IntKind.signed]; simp; omega
      have v2 : IntKind.u32.wrap (getNum 2 4294967295 (atO l2 1) : Int) = getNum 2 4294967295 (atO l2 1) := by have := getNum_le 2 4294967295 (atO l2 1); simp only [IntKind.wrap, IntKind.bits, IntKind.signed]; simp; omega
      simp only [push_cast, reduceIte, Nat.reduceMul, Nat.reduceEqDiff, Nat.reduceAdd, Nat.reduceLT, Nat.reduceLeDiff, reduceCtorEq, Int.reduceToNat, hgx]
      refine ⟨by omega, ?_⟩
      refine rd_call (ps := [_, _, _, _]) q0 rfl rfl (by omega) ?_
      simp only [push_cast, reduceIte, Nat.reduceMul, Nat.reduceEqDiff, Nat.reduceAdd, Nat.reduceLT, Nat.reduceLeDiff, reduceCtorEq, Int.reduceToNat]
      refine T_drawH [7, 13, 17, 20] [(2, 8), (2, 14), (8, 14), (12, 0)] mixed (by kernel_rfl) ?_
      simp only [push_cast, reduceIte, Nat.reduceMul, Nat.reduceEqDiff, Nat.reduceAdd, Nat.reduceLT, Nat.reduceLeDiff, reduceCtorEq, Int.reduceToNat, p0, p1, v1, v2]
      refine ⟨by omega, _, _, _, rd_at (ps := [_, _, _]) q1 rfl (by omega), Hold3.intro ?_⟩
      simp only [push_cast, reduceIte, Nat.reduceMul, Nat.reduceEqDiff, Nat.reduceAdd, Nat.reduceLT, Nat.reduceLeDiff, reduceCtorEq, Int.reduceToNat, p0, p1, v1, v2]
      refine ⟨by omega, _, _, _, rd_at (ps := [_, _, _]) q2 rfl (by omega), Hold3.intro ?_⟩
      simp only [push_cast, reduceIte, Nat.reduceMul, Nat.reduceEqDiff, Nat.reduceAdd, Nat.reduceLT, Nat.reduceLeDiff, reduceCtorEq, Int.reduceToNat, p0, p1, v1, v2]
      refine ⟨⟨by rw [List.length_take]; omega, by omega⟩, i + 1, by omega, by omega, [(4, 6)], ?_⟩
      rw [List.take_of_length_le (Nat.le_of_eq hml), ← htk, hsp, hal, ← Bool.and_assoc, hae, hok]
      simp [LeR, rnf, aget, envR, tabR, injR, notIn, loR, V.rn, V.rnL, V.bd, V.bdL, Blk.rn, Blk.bd, envRn, envBd, Bool.and_assoc, wrap_i64 ((i : Int) + 1) (by omega) (by omega)]
    · have h2 : i = xs.length := by simp at h1; omega
      subst h2
      have hml : (xs.map fun x => asP (getAsO x)).length = xs.length := by rw [List.length_map]
      refine T_freeze 4 ?_
      simp only [frzS, frzE, frzL, frzT, frzB, frz1, push_cast, reduceIte, Nat.reduceMul, Nat.reduceEqDiff, Nat.reduceAdd, Nat.reduceLT, Nat.reduceLeDiff, reduceCtorEq, Int.reduceToNat, List.take_length, Nat.le_refl, if_true, List.take_of_length_le (Nat.le_of_eq hml)]
      generalize ha16 : (a15 && xs.all okAsO) = a16
      rw [show (xs.map fun x => asP (getAsO x)) = (getAss (atO R 2)).map asP by rw [getAss, hX, List.map_map]; rfl]
      refine T_le ⟨[(2, .ref 0 0), (3, vI 0), (6, .ref 2 0), (8, .p (.sl 3 (L.map octP))), (9, .p (.sl 3 (G.map octP))), (10, .ref 3 0)], [(0, .box z35), (2, .box [vI (fE a16)]), (3, .box [.p (pU64 (getNum 1 18446744073709551615 (atO L 0))), .p (pS (strD 2 40 (atO L 1))), .p (pS (strD 3 40 (atO L 2))), .p (pI (getNum 4 1099511627776 (atO L 3))), .p (pI (getNum 5 1099511627776 (atO L 4))), .p (pU8 (rootD SH 0)), .p (pU8 (rootD SH 1)), .p (pU8 (rootD SH 2)), .p (pU8 (rootD SH 3)), .p (pU8 (rootD SH 4)), .p (pU8 (rootD SH 5)), .p (pU8 (rootD SH 6)), .p (pU8 (rootD SH 7)), .p (pU8 (rootD SH 8)), .p (pU8 (rootD SH 9)), .p (pU8 (rootD SH 10)), .p (pU8 (rootD SH 11)), .p (pU8 (rootD SH 12)), .p (pU8 (rootD SH 13)), .p (pU8 (rootD SH 14)), .p (pU8 (rootD SH 15)), .p (pI (getNum 7 4 (atO L 6))), .p (pB (decide (fl % 2 = 1))), .p (pB (decide (fl / 2 = 1))), .p (spansP (getAddrs (atO R 0))), .p (spansP (getAddrs (atO R 1))), .p (.sl 2 ((getAss (atO R 2)).map asP)), .p eS, .p eS, .p eS, .p eS, .p eS, .p (pI 0), .p nS, .p nS])], 4, 0, 221⟩ [] (by simp [LeR, rnf, aget, envR, tabR, injR, notIn, loR, V.rn, V.rnL, V.bd, V.bdL, Blk.rn, Blk.bd, envRn, envBd]) ?_
      have k9 := at_row (l := L) (i := 9) (by omega)
      have k10 := at_row (l := L) (i := 10) (by omega)
      have k11 := at_row (l := L) (i := 11) (by omega)
      have k12 := at_row (l := L) (i := 12) (by omega)
      have k13 := at_row (l := L) (i := 13) (by omega)
      have c0 := str_r WG (atO L 9) 9 200 (a16 && okPl L 0)
      have c1 := str_r WG (atO L 10) 10 200 (a16 && okPl L 1)
      have c2 := str_r WG (atO L 11) 11 200 (a16 && okPl L 2)
      have c3 := str_r WG (atO L 12) 12 200 (a16 && okPl L 3)
      have c4 := str_r WG (atO L 13) 13 200 (a16 && okPl L 4)
      refine T_seqC ?_
      simp only [push_cast, reduceIte, Nat.reduceMul, Nat.reduceEqDiff, Nat.reduceAdd, Nat.reduceLT, Nat.reduceLeDiff, reduceCtorEq, Int.reduceToNat]
      refine T_loopR (fun i : Nat => ⟨[(2, .ref 0 0), (3, vI 0), (6, .ref 2 0), (8, .p (.sl 3 (L.map octP))), (9, .p (.sl 3 (G.map octP))), (10, .ref 3 0), (171, .bsl 4 0 1 5 5), (172, vI 5), (173, vI i)], [(0, .box z35), (2, .box [vI (fE (a16 && okPl L i))]), (3, .box [.p (pU64 (getNum 1 18446744073709551615 (atO L 0))), .p (pS (strD 2 40 (atO L 1))), .p (pS (strD 3 40 (atO L 2))), .p (pI (getNum 4 1099511627776 (atO L 3))), .p (pI (getNum 5 1099511627776 (atO L 4))), .p (pU8 (rootD SH 0)), .p (pU8 (rootD SH 1)), .p (pU8 (rootD SH 2)), .p (pU8 (rootD SH 3)), .p (pU8 (rootD SH 4)), .p (pU8 (rootD SH 5)), .p (pU8 (rootD SH 6)), .p (pU8 (rootD SH 7)), .p (pU8 (rootD SH 8)), .p (pU8 (rootD SH 9)), .p (pU8 (rootD SH 10)), .p (pU8 (rootD SH 11)), .p (pU8 (rootD SH 12)), .p (pU8 (rootD SH 13)), .p (pU8 (rootD SH 14)), .p (pU8 (rootD SH 15)), .p (pI (getNum 7 4 (atO L 6))), .p (pB (decide (fl % 2 = 1))), .p (pB (decide (fl / 2 = 1))), .p (spansP (getAddrs (atO R 0))), .p (spansP (getAddrs (atO R 1))), .p (.sl 2 ((getAss (atO R 2)).map asP)), .p (plF L i 0), .p (plF L i 1), .p (plF L i 2), .p (plF L i 3), .p (plF L i 4), .p (pI 0), .p nS, .p nS]), (4, .box [.ref 3 27, .ref 3 28, .ref 3 29, .ref 3 30, .ref 3 31])], 5, 0, 221⟩) (fun i => i ≤ 5) (fun i => 5 - i) 0 [] (Nat.zero_le _) (by simp [LeR, rnf, aget, envR, tabR, injR, notIn, loR, V.rn, V.rnL, V.bd, V.bdL, Blk.rn, Blk.bd, envRn, envBd, plF, okPl]) (fun i hi => ?_)
      have u9 : UInt8.ofNat 9 = 9 := rfl
      have u10 : UInt8.ofNat 10 = 10 := rfl
      have u11 : UInt8.ofNat 11 = 11 := rfl
      have u12 : UInt8.ofNat 12 = 12 := rfl
      have u13 : UInt8.ofNat 13 = 13 := rfl
      have hc : i = 0 ∨ i = 1 ∨ i = 2 ∨ i = 3 ∨ i = 4 ∨ i = 5 := by omega
      rcases hc with rfl | rfl | rfl | rfl | rfl | rfl
      · simp only [push_cast, reduceIte, Nat.reduceMul, Nat.reduceEqDiff, Nat.reduceAdd, Nat.reduceLT, Nat.reduceLeDiff, reduceCtorEq, Int.reduceToNat, Int.reduceAdd, Int.reduceToNat, Nat.reduceSub, Nat.reduceAdd, Int.zero_add, Int.add_zero, Nat.zero_add, show IntKind.i64.wrap 9 = 9 from by decide, show IntKind.u8.wrap 9 = 9 from by decide, show IntKind.i64.wrap 10 = 10 from by decide, show IntKind.u8.wrap 10 = 10 from by decide, show IntKind.i64.wrap 11 = 11 from by decide, show IntKind.u8.wrap 11 = 11 from by decide, show IntKind.i64.wrap 12 = 12 from by decide, show IntKind.u8.wrap 12 = 12 from by decide, show IntKind.i64.wrap 13 = 13 from by decide, show IntKind.u8.wrap 13 = 13 from by decide, show IntKind.i64.wrap 1 = 1 from by decide, show IntKind.i64.wrap 2 = 2 from by decide, show IntKind.i64.wrap 3 = 3 from by decide, show IntKind.i64.wrap 4 = 4 from by decide, show IntKind.i64.wrap 5 = 5 from by decide, k9, List.getD_cons_zero, List.getD_cons_succ]
        refine ⟨fun _ => ?_, fun h => absurd h (by decide)⟩
        refine ⟨by omega, by omega, rd_call (ps := [_, _, _]) c0 rfl rfl (by omega) ?_⟩
        simp only [push_cast, reduceIte, Nat.reduceMul, Nat.reduceEqDiff, Nat.reduceAdd, Nat.reduceLT, Nat.reduceLeDiff, reduceCtorEq, Int.reduceToNat, Int.reduceAdd, Int.reduceToNat, Nat.reduceSub, Nat.reduceAdd, Int.zero_add, Int.add_zero, Nat.zero_add, show IntKind.i64.wrap 9 = 9 from by decide, show IntKind.u8.wrap 9 = 9 from by decide, show IntKind.i64.wrap 10 = 10 from by decide, show IntKind.u8.wrap 10 = 10 from by decide, show IntKind.i64.wrap 11 = 11 from by decide, show IntKind.u8.wrap 11 = 11 from by decide, show IntKind.i64.wrap 12 = 12 from by decide, show IntKind.u8.wrap 12 = 12 from by decide, show IntKind.i64.wrap 13 = 13 from by decide, show IntKind.u8.wrap 13 = 13 from by decide, show IntKind.i64.wrap 1 = 1 from by decide, show IntKind.i64.wrap 2 = 2 from by decide, show IntKind.i64.wrap 3 = 3 from by decide, show IntKind.i64.wrap 4 = 4 from by decide, show IntKind.i64.wrap 5 = 5 from by decide]
        refine ⟨1, by omega, by omega, [], ?_⟩
        simp [LeR, rnf, aget, envR, tabR, injR, notIn, loR, V.rn, V.rnL, V.bd, V.bdL, Blk.rn, Blk.bd, envRn, envBd, plF, okPl, u9, u10, u11, u12, u13, Bool.and_assoc]
      · simp only [push_cast, reduceIte, Nat.reduceMul, Nat.reduceEqDiff, Nat.reduceAdd, Nat.reduceLT, Nat.reduceLeDiff, reduceCtorEq, Int.reduceToNat, Int.reduceAdd, Int.reduceToNat, Nat.reduceSub, Nat.reduceAdd, Int.zero_add, Int.add_zero, Nat.zero_add, show IntKind.i64.wrap 9 = 9 from by decide, show IntKind.u8.wrap 9 = 9 from by decide, show IntKind.i64.wrap 10 = 10 from by decide, show IntKind.u8.wrap 10 = 10 from by decide, show IntKind.i64.wrap 11 = 11 from by decide, show IntKind.u8.wrap 11 = 11 from by decide, show IntKind.i64.wrap 12 = 12 from by decide, show IntKind.u8.wrap 12 = 12 from by decide, show IntKind.i64.wrap 13 = 13 from by decide, show IntKind.u8.wrap 13 = 13 from by decide, show IntKind.i64.wrap 1 = 1 from by decide, show IntKind.i64.wrap 2 = 2 from by decide, show IntKind.i64.wrap 3 = 3 from by decide, show IntKind.i64.wrap 4 = 4 from by decide, show IntKind.i64.wrap 5 = 5 from by decide, k10, List.getD_cons_zero, List.getD_cons_succ]
        refine ⟨fun _ => ?_, fun h => absurd h (by decide)⟩
        refine ⟨by omega, by omega, rd_call (ps := [_, _, _]) c1 rfl rfl (by omega) ?_⟩
        simp only [push_cast, reduceIte, Nat.reduceMul, Nat.reduceEqDiff, Nat.reduceAdd, Nat.reduceLT, Nat.reduceLeDiff, reduceCtorEq, Int.reduceToNat, Int.reduceAdd, Int.reduceToNat, Nat.reduceSub, Nat.reduceAdd, Int.zero_add, Int.add_zero, Nat.zero_add, show IntKind.i64.wrap 9 = 9 from by decide, show IntKind.u8.wrap 9 = 9 from by decide, show IntKind.i64.wrap 10 = 10 from by decide, show IntKind.u8.wrap 10 = 10 from by decide, show IntKind.i64.wrap 11 = 11 from by decide, show IntKind.u8.wrap 11 = 11 from by decide, show IntKind.i64.wrap 12 = 12 from by decide, show IntKind.u8.wrap 12 = 12 from by decide, show IntKind.i64.wrap 13 = 13 from by decide, show IntKind.u8.wrap 13 = 13 from by decide, show IntKind.i64.wrap 1 = 1 from by decide, show IntKind.i64.wrap 2 = 2 from by decide, show IntKind.i64.wrap 3 = 3 from by decide, show IntKind.i64.wrap 4 = 4 from by decide, show IntKind.i64.wrap 5 = 5 from by decide]
        refine ⟨2, by omega, by omega, [], ?_⟩
        simp [LeR, rnf, aget, envR, tabR, injR, notIn, loR, V.rn, V.rnL, V.bd, V.bdL, Blk.rn, Blk.bd, envRn, envBd, plF, okPl, u9, u10, u11, u12, u13, Bool.and_assoc]
      · simp only [push_cast, reduceIte, Nat.reduceMul, Nat.reduceEqDiff, Nat.reduceAdd, Nat.reduceLT, Nat.reduceLeDiff, reduceCtorEq, Int.reduceToNat, Int.reduceAdd, Int.reduceToNat, Nat.reduceSub, Nat.reduceAdd, Int.zero_add, Int.add_zero, Nat.zero_add, show IntKind.i64.wrap 9 = 9 from by decide, show IntKind.u8.wrap 9 = 9 from by decide, show IntKind.i64.wrap 10 = 10 from by decide, show IntKind.u8.wrap 10 = 10 from by decide, show IntKind.i64.wrap 11 = 11 from by decide, show IntKind.u8.wrap 11 = 11 from by decide, show IntKind.i64.wrap 12 = 12 from by decide, show IntKind.u8.wrap 12 = 12 from by decide, show IntKind.i64.wrap 13 = 13 from by decide, show IntKind.u8.wrap 13 = 13 from by decide, show IntKind.i64.wrap 1 = 1 from by decide, show IntKind.i64.wrap 2 = 2 from by decide, show IntKind.i64.wrap 3 = 3 from by decide, show IntKind.i64.wrap 4 = 4 from by decide, show IntKind.i64.wrap 5 = 5 from by decide, k11, List.getD_cons_zero, List.getD_cons_succ]
        refine ⟨fun _ => ?_, fun h => absurd h (by decide)⟩
        refine ⟨by omega, by omega, rd_call (ps := [_, _, _]) c2 rfl rfl (by omega) ?_⟩
        simp only [push_cast, reduceIte, Nat.reduceMul, Nat.reduceEqDiff, Nat.reduceAdd, Nat.reduceLT, Nat.reduceLeDiff, reduceCtorEq, Int.reduceToNat, Int.reduceAdd, Int.reduceToNat, Nat.reduceSub, Nat.reduceAdd, Int.zero_add, Int.add_zero, Nat.zero_add, show IntKind.i64.wrap 9 = 9 from by decide, show IntKind.u8.wrap 9 = 9 from by decide, show IntKind.i64.wrap 10 = 10 from by decide, show IntKind.u8.wrap 10 = 10 from by decide, show IntKind.i64.wrap 11 = 11 from by decide, show IntKind.u8.wrap 11 = 11 from by decide, show IntKind.i64.wrap 12 = 12 from by decide, show IntKind.u8.wrap 12 = 12 from by decide, show IntKind.i64.wrap 13 = 13 from by decide, show IntKind.u8.wrap 13 = 13 from by decide, show IntKind.i64.wrap 1 = 1 from by decide, show IntKind.i64.wrap 2 = 2 from by decide, show IntKind.i64.wrap 3 = 3 from by decide, show IntKind.i64.wrap 4 = 4 from by decide, show IntKind.i64.wrap 5 = 5 from by decide]
        refine ⟨3, by omega, by omega, [], ?_⟩
        simp [LeR, rnf, aget, envR, tabR, injR, notIn, loR, V.rn, V.rnL, V.bd, V.bdL, Blk.rn, Blk.bd, envRn, envBd, plF, okPl, u9, u10, u11, u12, u13, Bool.and_assoc]
      · simp only [push_cast, reduceIte, Nat.reduceMul, Nat.reduceEqDiff, Nat.reduceAdd, Nat.reduceLT, Nat.reduceLeDiff, reduceCtorEq, Int.reduceToNat, Int.reduceAdd, Int.reduceToNat, Nat.reduceSub, Nat.reduceAdd, Int.zero_add, Int.add_zero, Nat.zero_add, show IntKind.i64.wrap 9 = 9 from by decide, show IntKind.u8.wrap 9 = 9 from by decide, show IntKind.i64.wrap 10 = 10 from by decide, show IntKind.u8.wrap 10 = 10 from by decide, show IntKind.i64.wrap 11 = 11 from by decide, show IntKind.u8.wrap 11 = 11 from by decide, show IntKind.i64.wrap 12 = 12 from by decide, show IntKind.u8.wrap 12 = 12 from by decide, show IntKind.i64.wrap 13 = 13 from by decide, show IntKind.u8.wrap 13 = 13 from by decide, show IntKind.i64.wrap 1 = 1 from by decide, show IntKind.i64.wrap 2 = 2 from by decide, show IntKind.i64.wrap 3 = 3 from by decide, show IntKind.i64.wrap 4 = 4 from by decide, show IntKind.i64.wrap 5 = 5 from by decide, k12, List.getD_cons_zero, List.getD_cons_succ]
        refine ⟨fun _ => ?_, fun h => absurd h (by decide)⟩
        refine ⟨by omega, by omega, rd_call (ps := [_, _, _]) c3 rfl rfl (by omega) ?_⟩
        simp only [push_cast, reduceIte, Nat.reduceMul, Nat.reduceEqDiff, Nat.reduceAdd, Nat.reduceLT, Nat.reduceLeDiff, reduceCtorEq, Int.reduceToNat, Int.reduceAdd, Int.reduceToNat, Nat.reduceSub, Nat.reduceAdd, Int.zero_add, Int.add_zero, Nat.zero_add, show IntKind.i64.wrap 9 = 9 from by decide, show IntKind.u8.wrap 9 = 9 from by decide, show IntKind.i64.wrap 10 = 10 from by decide, show IntKind.u8.wrap 10 = 10 from by decide, show IntKind.i64.wrap 11 = 11 from by decide, show IntKind.u8.wrap 11 = 11 from by decide, show IntKind.i64.wrap 12 = 12 from by decide, show IntKind.u8.wrap 12 = 12 from by decide, show IntKind.i64.wrap 13 = 13 from by decide, show IntKind.u8.wrap 13 = 13 from by decide, show IntKind.i64.wrap 1 = 1 from by decide, show IntKind.i64.wrap 2 = 2 from by decide, show IntKind.i64.wrap 3 = 3 from by decide, show IntKind.i64.wrap 4 = 4 from by decide, show IntKind.i64.wrap 5 = 5 from by decide]
        refine ⟨4, by omega, by omega, [], ?_⟩
        simp [LeR, rnf, aget, envR, tabR, injR, notIn, loR, V.rn, V.rnL, V.bd, V.bdL, Blk.rn, Blk.bd, envRn, envBd, plF, okPl, u9, u10, u11, u12, u13, Bool.and_assoc]
      · simp only [push_cast, reduceIte, Nat.reduceMul, Nat.reduceEqDiff, Nat.reduceAdd, Nat.reduceLT, Nat.reduceLeDiff, reduceCtorEq, Int.reduceToNat, Int.reduceAdd, Int.reduceToNat, Nat.reduceSub, Nat.reduceAdd, Int.zero_add, Int.add_zero, Nat.zero_add, show IntKind.i64.wrap 9 = 9 from by decide, show IntKind.u8.wrap 9 = 9 from by decide, show IntKind.i64.wrap 10 = 10 from by decide, show IntKind.u8.wrap 10 = 10 from by decide, show IntKind.i64.wrap 11 = 11 from by decide, show IntKind.u8.wrap 11 = 11 from by decide, show IntKind.i64.wrap 12 = 12 from by decide, show IntKind.u8.wrap 12 = 12 from by decide, show IntKind.i64.wrap 13 = 13 from by decide, show IntKind.u8.wrap 13 = 13 from by decide, show IntKind.i64.wrap 1 = 1 from by decide, show IntKind.i64.wrap 2 = 2 from by decide, show IntKind.i64.wrap 3 = 3 from by decide, show IntKind.i64.wrap 4 = 4 from by decide, show IntKind.i64.wrap 5 = 5 from by decide, k13, List.getD_cons_zero, List.getD_cons_succ]
        refine ⟨fun _ => ?_, fun h => absurd h (by decide)⟩
        refine ⟨by omega, by omega, rd_call (ps := [_, _, _]) c4 rfl rfl (by omega) ?_⟩
        simp only [push_cast, reduceIte, Nat.reduceMul, Nat.reduceEqDiff, Nat.reduceAdd, Nat.reduceLT, Nat.reduceLeDiff, reduceCtorEq, Int.reduceToNat, Int.reduceAdd, Int.reduceToNat, Nat.reduceSub, Nat.reduceAdd, Int.zero_add, Int.add_zero, Nat.zero_add, show IntKind.i64.wrap 9 = 9 from by decide, show IntKind.u8.wrap 9 = 9 from by decide, show IntKind.i64.wrap 10 = 10 from by decide, show IntKind.u8.wrap 10 = 10 from by decide, show IntKind.i64.wrap 11 = 11 from by decide, show IntKind.u8.wrap 11 = 11 from by decide, show IntKind.i64.wrap 12 = 12 from by decide, show IntKind.u8.wrap 12 = 12 from by decide, show IntKind.i64.wrap 13 = 13 from by decide, show IntKind.u8.wrap 13 = 13 from by decide, show IntKind.i64.wrap 1 = 1 from by decide, show IntKind.i64.wrap 2 = 2 from by decide, show IntKind.i64.wrap 3 = 3 from by decide, show IntKind.i64.wrap 4 = 4 from by decide, show IntKind.i64.wrap 5 = 5 from by decide]
        refine ⟨5, by omega, by omega, [], ?_⟩
        simp [LeR, rnf, aget, envR, tabR, injR, notIn, loR, V.rn, V.rnL, V.bd, V.bdL, Blk.rn, Blk.bd, envRn, envBd, plF, okPl, u9, u10, u11, u12, u13, Bool.and_assoc]
      · simp only [push_cast, reduceIte, Nat.reduceMul, Nat.reduceEqDiff, Nat.reduceAdd, Nat.reduceLT, Nat.reduceLeDiff, reduceCtorEq, Int.reduceToNat]
        refine ⟨fun h => absurd h (by decide), fun _ => ?_⟩
        have g2 := at_row (l := G) (i := 2) (by omega)
        have g0' := at_row (l := G) (i := 0) (by omega)
        have g1' := at_row (l := G) (i := 1) (by omega)
        generalize ha17 : (a16 && okPl L 5) = a17
        have r0 := num_r WG (atO G 0) 1 16 (by decide) a17
        generalize ha18 : (a17 && okNum 1 16 (atO G 0)) = a18 at r0
        have r1 := shorts_r WG (atO G 1) 2 a18
        generalize ha19 : (a18 && okShorts 2 (atO G 1)) = a19 at r1
        have r2 := shorts_r WG (atO G 2) 3 a19
        generalize ha20 : (a19 && okShorts 3 (atO G 2)) = a20 at r2
        have w9 : IntKind.i64.wrap (getNum 1 16 (atO G 0) : Int) = getNum 1 16 (atO G 0) := by have := getNum_le 1 16 (atO G 0); exact wrap_i64 _ (by omega) (by omega)
        refine T_le ⟨[(2, .ref 0 0), (3, vI 0), (6, .ref 2 0), (8, .p (.sl 3 (L.map octP))), (9, .p (.sl 3 (G.map octP))), (10, .ref 3 0)], [(0, .box z35), (2, .box [vI (fE a17)]), (3, .box [.p (pU64 (getNum 1 18446744073709551615 (atO L 0))), .p (pS (strD 2 40 (atO L 1))), .p (pS (strD 3 40 (atO L 2))), .p (pI (getNum 4 1099511627776 (atO L 3))), .p (pI (getNum 5 1099511627776 (atO L 4))), .p (pU8 (rootD SH 0)), .p (pU8 (rootD SH 1)), .p (pU8 (rootD SH 2)), .p (pU8 (rootD SH 3)), .p (pU8 (rootD SH 4)), .p (pU8 (rootD SH 5)), .p (pU8 (rootD SH 6)), .p (pU8 (rootD SH 7)), .p (pU8 (rootD SH 8)), .p (pU8 (rootD SH 9)), .p (pU8 (rootD SH 10)), .p (pU8 (rootD SH 11)), .p (pU8 (rootD SH 12)), .p (pU8 (rootD SH 13)), .p (pU8 (rootD SH 14)), .p (pU8 (rootD SH 15)), .p (pI (getNum 7 4 (atO L 6))), .p (pB (decide (fl % 2 = 1))), .p (pB (decide (fl / 2 = 1))), .p (spansP (getAddrs (atO R 0))), .p (spansP (getAddrs (atO R 1))), .p (.sl 2 ((getAss (atO R 2)).map asP)), .p (pS (strD 9 200 (atO L 9))), .p (pS (strD 10 200 (atO L 10))), .p (pS (strD 11 200 (atO L 11))), .p (pS (strD 12 200 (atO L 12))), .p (pS (strD 13 200 (atO L 13))), .p (pI 0), .p nS, .p nS])], 4, 0, 221⟩ [] (by simp [LeR, rnf, aget, envR, tabR, injR, notIn, loR, V.rn, V.rnL, V.bd, V.bdL, Blk.rn, Blk.bd, envRn, envBd, plF, u9, u10, u11, u12, u13]) ?_
        refine T_seqC ?_
        refine T_drawH [4, 10, 15, 18] [(5, 11), (5, 16), (9, 0), (14, 0), (14, 5)] mixed (by kernel_rfl) ?_
        simp only [push_cast, reduceIte, Nat.reduceMul, Nat.reduceEqDiff, Nat.reduceAdd, Nat.reduceLT, Nat.reduceLeDiff, reduceCtorEq, Int.reduceToNat, g0', g1', g2, w9]
        refine ⟨by omega, _, _, _, rd_at (ps := [_, _, _]) r0 rfl (by omega), Hold3.intro ?_⟩
        simp only [push_cast, reduceIte, Nat.reduceMul, Nat.reduceEqDiff, Nat.reduceAdd, Nat.reduceLT, Nat.reduceLeDiff, reduceCtorEq, Int.reduceToNat, g0', g1', g2, w9]
        refine ⟨by omega, _, _, _, rd_at (ps := [_, _]) r1 rfl (by omega), Hold3.intro ?_⟩
        simp only [push_cast, reduceIte, Nat.reduceMul, Nat.reduceEqDiff, Nat.reduceAdd, Nat.reduceLT, Nat.reduceLeDiff, reduceCtorEq, Int.reduceToNat, g0', g1', g2, w9]
        refine ⟨by omega, _, _, _, rd_at (ps := [_, _]) r2 rfl (by omega), Hold3.intro ?_⟩
        simp only [push_cast, reduceIte, Nat.reduceMul, Nat.reduceEqDiff, Nat.reduceAdd, Nat.reduceLT, Nat.reduceLeDiff, reduceCtorEq, Int.reduceToNat, g0', g1', g2, w9]
        refine T_le ⟨[(2, .ref 0 0), (3, vI 0), (6, .ref 2 0), (8, .p (.sl 3 (L.map octP))), (9, .p (.sl 3 (G.map octP))), (10, .ref 3 0)], [(0, .box z35), (2, .box [vI (fE a20)]), (3, .box [.p (pU64 (getNum 1 18446744073709551615 (atO L 0))), .p (pS (strD 2 40 (atO L 1))), .p (pS (strD 3 40 (atO L 2))), .p (pI (getNum 4 1099511627776 (atO L 3))), .p (pI (getNum 5 1099511627776 (atO L 4))), .p (pU8 (rootD SH 0)), .p (pU8 (rootD SH 1)), .p (pU8 (rootD SH 2)), .p (pU8 (rootD SH 3)), .p (pU8 (rootD SH 4)), .p (pU8 (rootD SH 5)), .p (pU8 (rootD SH 6)), .p (pU8 (rootD SH 7)), .p (pU8 (rootD SH 8)), .p (pU8 (rootD SH 9)), .p (pU8 (rootD SH 10)), .p (pU8 (rootD SH 11)), .p (pU8 (rootD SH 12)), .p (pU8 (rootD SH 13)), .p (pU8 (rootD SH 14)), .p (pU8 (rootD SH 15)), .p (pI (getNum 7 4 (atO L 6))), .p (pB (decide (fl % 2 = 1))), .p (pB (decide (fl / 2 = 1))), .p (spansP (getAddrs (atO R 0))), .p (spansP (getAddrs (atO R 1))), .p (.sl 2 ((getAss (atO R 2)).map asP)), .p (pS (strD 9 200 (atO L 9))), .p (pS (strD 10 200 (atO L 10))), .p (pS (strD 11 200 (atO L 11))), .p (pS (strD 12 200 (atO L 12))), .p (pS (strD 13 200 (atO L 13))), .p (pI (getNum 1 16 (atO G 0))), .p (shortsP (getShorts 2 (atO G 1))), .p (shortsP (getShorts 3 (atO G 2)))])], 4, 0, 221⟩ [] (by simp [LeR, rnf, aget, envR, tabR, injR, notIn, loR, V.rn, V.rnL, V.bd, V.bdL, Blk.rn, Blk.bd, envRn, envBd]) ?_
        have hbox : [.p (pU64 (getNum 1 18446744073709551615 (atO L 0))), .p (pS (strD 2 40 (atO L 1))), .p (pS (strD 3 40 (atO L 2))), .p (pI (getNum 4 1099511627776 (atO L 3))), .p (pI (getNum 5 1099511627776 (atO L 4))), .p (pU8 (rootD SH 0)), .p (pU8 (rootD SH 1)), .p (pU8 (rootD SH 2)), .p (pU8 (rootD SH 3)), .p (pU8 (rootD SH 4)), .p (pU8 (rootD SH 5)), .p (pU8 (rootD SH 6)), .p (pU8 (rootD SH 7)), .p (pU8 (rootD SH 8)), .p (pU8 (rootD SH 9)), .p (pU8 (rootD SH 10)), .p (pU8 (rootD SH 11)), .p (pU8 (rootD SH 12)), .p (pU8 (rootD SH 13)), .p (pU8 (rootD SH 14)), .p (pU8 (rootD SH 15)), .p (pI (getNum 7 4 (atO L 6))), .p (pB (decide (fl % 2 = 1))), .p (pB (decide (fl / 2 = 1))), .p (spansP (getAddrs (atO R 0))), .p (spansP (getAddrs (atO R 1))), .p (.sl 2 ((getAss (atO R 2)).map asP)), .p (pS (strD 9 200 (atO L 9))), .p (pS (strD 10 200 (atO L 10))), .p (pS (strD 11 200 (atO L 11))), .p (pS (strD 12 200 (atO L 12))), .p (pS (strD 13 200 (atO L 13))), .p (pI (getNum 1 16 (atO G 0))), .p (shortsP (getShorts 2 (atO G 1))), .p (shortsP (getShorts 3 (atO G 2)))] = boxC (cD v) := by
          subst hFL hSH
          rw [cD, rsD, hL, hG, hR]
          rfl
        rw [hbox]
        have hA : a20 = (ok0 && okD v) := by
          rw [← ha20, ← ha19, ← ha18, ← ha17, ← ha16, ← ha15, ← ha14, ← ha13, ← ha12, ← ha11, ← ha10, ← ha9, ← ha8, ← ha7, ← ha6, ← ha5, ← ha4, ← ha3, ← ha2, ← ha1]
          simp only [okD, okBo, okSigD, okAss, rsD, hW, hL, hG, hR, hX, hSH, okPl, u9, u10, u11, u12, u13, Bool.and_assoc, Bool.and_true, Bool.true_and]
        have hd : decC b = if a20 = true ∧ chkC (cD v) = 0 then some (cD v) else none := by
          rw [hA]
          unfold decC
          unfold dec8 at hv0 hok0
          rw [if_neg (by omega)] at hv0 hok0
          cases hdo : decO false b with
          | none =>
            rw [hdo] at hv0 hok0
            have : ok0 = false := by rw [← hok0]; rfl
            rw [this]; simp
          | some v' =>
            rw [hdo] at hv0 hok0
            have e1 : ok0 = true := by rw [← hok0]; rfl
            have e2 : v' = v := hv0
            rw [e1, e2]; simp
        have hpre := cD_pre v
        have hsm : OkC (cD v) := cD_ok v
        have hi1 : (cD v).issuer.size ≤ 40 := getStr_le 2 40 (atO (bdD v) 1)
        have hi2 : (cD v).subject.size ≤ 40 := getStr_le 3 40 (atO (bdD v) 2)
        have hck := certCheck_fv WG g ge (cD v) hsm (by omega) (by omega)
        rw [hd]
        refine T_seqC ?_
        simp only [push_cast, reduceIte, Nat.reduceMul, Nat.reduceEqDiff, Nat.reduceAdd, Nat.reduceLT, Nat.reduceLeDiff, reduceCtorEq, Int.reduceToNat, fE_eq]
        refine ⟨_, fun _ => hck.q rfl, ?_⟩
        simp only [push_cast, reduceIte, Nat.reduceMul, Nat.reduceEqDiff, Nat.reduceAdd, Nat.reduceLT, Nat.reduceLeDiff, reduceCtorEq, Int.reduceToNat, fE_eq]
        refine ⟨fun h => ?_, fun h => ?_⟩
        · have h1 : ¬ (a20 = true ∧ chkC (cD v) = 0) := by
            rintro ⟨e1, e2⟩
            rw [e1, e2] at h
            simp at h
          rw [if_neg h1]
        · have h1 : a20 = true ∧ chkC (cD v) = 0 := by simpa using h
          refine T_fin ?_
          simp only [push_cast, reduceIte, Nat.reduceMul, Nat.reduceEqDiff, Nat.reduceAdd, Nat.reduceLT, Nat.reduceLeDiff, reduceCtorEq, Int.reduceToNat]
          rw [if_pos h1]
end Go.Proofs.YtgekglfmianoeaaGreatDoor
