/-
  Places: strings that are empty or locators of a kind.
  Copies of lists and of certificates.
  Certificates compared by the program; large certificates.
  Large certificates; spoiling a copy.
  A copy is spoilt: what else there is stays.
-/
import Derived.Test.YtiemcodllaepbaaGreatDoorCB
import Derived.Test.YtiemcodllaepbaaGreatDoorMB
set_option linter.unusedSimpArgs false
set_option linter.unusedVariables false
set_option maxRecDepth 20000
namespace Go.Proofs.YtiemcodllaepbaaGreatDoor
open Go Go.Gp

set_option maxHeartbeats 4000000 in
theorem isFile_fv (WG : World) (l : Locator) : FV Tryz.prog WG 47 [locP l] (vB (!l.dir)) := by
  refine CallT.pure rfl (CallT_fn Tryz.func47 (rs := [.tmp 2]) (n := 6) rfl rfl (Nat.le_of_ble_eq_true rfl) rfl ?_)
  simp only [locP, push_cast, reduceIte, Nat.reduceMul, Nat.reduceEqDiff, Nat.reduceAdd, Nat.reduceLT, Nat.reduceLeDiff, reduceCtorEq, Int.reduceToNat]
set_option maxHeartbeats 4000000 in
theorem isDir_fv (WG : World) (l : Locator) : FV Tryz.prog WG 46 [locP l] (vB l.dir) := by
  refine CallT.pure rfl (CallT_fn Tryz.func46 (rs := [.tmp 2]) (n := 5) rfl rfl (Nat.le_of_ble_eq_true rfl) rfl ?_)
  simp only [locP, push_cast, reduceIte, Nat.reduceMul, Nat.reduceEqDiff, Nat.reduceAdd, Nat.reduceLT, Nat.reduceLeDiff, reduceCtorEq, Int.reduceToNat]
def noteB (l : Locator) : Bool := !l.dir && decide (l.scheme = 2)
set_option maxHeartbeats 4000000 in
theorem isNote_fv (WG : World) (l : Locator) : FV Tryz.prog WG 48 [locP l] (vB (noteB l)) := by
  refine CallT.pure rfl (CallT_fn Tryz.func48 (rs := [.tmp 2]) (n := 11) rfl rfl (Nat.le_of_ble_eq_true rfl) rfl ?_)
  simp only [locP, push_cast, reduceIte, Nat.reduceMul, Nat.reduceEqDiff, Nat.reduceAdd, Nat.reduceLT, Nat.reduceLeDiff, reduceCtorEq, Int.reduceToNat, noteB]

def placeB (p : Locator → Bool) (s : ByteArray) : Bool := strEq s eB || (match lParse s with | none => false | some l => p l)
set_option maxHeartbeats 8000000 in
theorem place_fv (WG : World) (g : GW WG) (ge : GE WG) (acc : FuncId) (p : Locator → Bool) (hc : callable Tryz.prog acc = true) (ha : ∀ l, FV Tryz.prog WG acc [locP l] (vB (p l))) (s : ByteArray) : FV Tryz.prog WG 45 [pS s, .clo (.func acc) [] []] (vB (placeB p s)) := by
  refine CallT.pure rfl (CallT_fn Tryz.func45 (rs := [.tmp 4]) (n := 21) rfl rfl (Nat.le_of_ble_eq_true rfl) rfl ?_)
  simp only [push_cast, reduceIte, Nat.reduceMul, Nat.reduceEqDiff, Nat.reduceAdd, Nat.reduceLT, Nat.reduceLeDiff, reduceCtorEq, Int.reduceToNat]
  refine ⟨fun h => ?_, fun h => ?_⟩
  · simp only [placeB, eB, h, Bool.true_or]
  · have hp : placeB p s = (match lParse s with | none => false | some l => p l) := by simp only [placeB, eB, h, Bool.false_or]
    refine parse_call (lParse_ct0 WG g ge s) (fun h => ?_) (fun l h => ?_)
    · simp only [locZ, push_cast, reduceIte, Nat.reduceMul, Nat.reduceEqDiff, Nat.reduceAdd, Nat.reduceLT, Nat.reduceLeDiff, reduceCtorEq, Int.reduceToNat, hc]
      refine ⟨vB false, fun h => by simp at h, ?_⟩
      simp only [push_cast, reduceIte, Nat.reduceMul, Nat.reduceEqDiff, Nat.reduceAdd, Nat.reduceLT, Nat.reduceLeDiff, reduceCtorEq, Int.reduceToNat, hp, h]
    · simp only [locO, arrO, push_cast, reduceIte, Nat.reduceMul, Nat.reduceEqDiff, Nat.reduceAdd, Nat.reduceLT, Nat.reduceLeDiff, reduceCtorEq, Int.reduceToNat, hc]
      refine ⟨_, CallT.borrow (ha l) rfl (by simp [snapT, snap, snapL, snap1, aget, locP, List.take_of_length_le]), ?_⟩
      simp only [push_cast, reduceIte, Nat.reduceMul, Nat.reduceEqDiff, Nat.reduceAdd, Nat.reduceLT, Nat.reduceLeDiff, reduceCtorEq, Int.reduceToNat, hp, h]

set_option maxHeartbeats 8000000 in
theorem rPlace_fv (WG : World) (g : GW WG) (ge : GE WG) (s : ByteArray) (d : Bool) : FV Tryz.prog WG 54 [pS s, pB d] (vB (placeB (fun l => l.dir == d) s)) := by
  refine CallT.pure rfl (CallT_fn Tryz.func54 (rs := [.tmp 4]) (n := 22) rfl rfl (Nat.le_of_ble_eq_true rfl) rfl ?_)
  simp only [push_cast, reduceIte, Nat.reduceMul, Nat.reduceEqDiff, Nat.reduceAdd, Nat.reduceLT, Nat.reduceLeDiff, reduceCtorEq, Int.reduceToNat]
  refine ⟨fun h => ?_, fun h => ?_⟩
  · simp only [placeB, eB, h, Bool.true_or]
  · have hp : placeB (fun l => l.dir == d) s = (match lParse s with | none => false | some l => l.dir == d) := by simp only [placeB, eB, h, Bool.false_or]
    refine parse_call (o := lParse s) (by rw [← parse_eq]; exact refParse_ct0 WG s) (fun h => ?_) (fun l h => ?_)
    · simp only [locZ, push_cast, reduceIte, Nat.reduceMul, Nat.reduceEqDiff, Nat.reduceAdd, Nat.reduceLT, Nat.reduceLeDiff, reduceCtorEq, Int.reduceToNat, hp, h]
      simp
    · simp only [locO, arrO, push_cast, reduceIte, Nat.reduceMul, Nat.reduceEqDiff, Nat.reduceAdd, Nat.reduceLT, Nat.reduceLeDiff, reduceCtorEq, Int.reduceToNat, hp, h]

theorem placeB_dir (s : ByteArray) : placeB (fun l => l.dir == true) s = placeB (fun l => l.dir) s := by simp [placeB]
theorem placeB_file (s : ByteArray) : placeB (fun l => l.dir == false) s = placeB (fun l => !l.dir) s := by
  unfold placeB; cases lParse s with
  | none => rfl
  | some l => simp
set_option maxHeartbeats 8000000 in
theorem rSecure_fv (WG : World) (g : GW WG) (ge : GE WG) (s : ByteArray) : FV Tryz.prog WG 55 [pS s] (vB (placeB noteB s)) := by
  refine CallT.pure rfl (CallT_fn Tryz.func55 (rs := [.tmp 2]) (n := 21) rfl rfl (Nat.le_of_ble_eq_true rfl) rfl ?_)
  simp only [push_cast, reduceIte, Nat.reduceMul, Nat.reduceEqDiff, Nat.reduceAdd, Nat.reduceLT, Nat.reduceLeDiff, reduceCtorEq, Int.reduceToNat]
  refine parse_call (o := lParse s) (by rw [← parse_eq]; exact refParse_ct0 WG s) (fun h => ?_) (fun l h => ?_)
  · simp only [locZ, push_cast, reduceIte, Nat.reduceMul, Nat.reduceEqDiff, Nat.reduceAdd, Nat.reduceLT, Nat.reduceLeDiff, reduceCtorEq, Int.reduceToNat]
    refine ⟨_, fun _ => (rPlace_fv WG g ge s false).q rfl, ?_⟩
    simp only [push_cast, reduceIte, Nat.reduceMul, Nat.reduceEqDiff, Nat.reduceAdd, Nat.reduceLT, Nat.reduceLeDiff, reduceCtorEq, Int.reduceToNat, placeB, h, eB, noteB]
    cases strEq s ⟨#[]⟩ <;> simp
  · simp only [locO, arrO, push_cast, reduceIte, Nat.reduceMul, Nat.reduceEqDiff, Nat.reduceAdd, Nat.reduceLT, Nat.reduceLeDiff, reduceCtorEq, Int.reduceToNat]
    refine ⟨_, fun _ => (rPlace_fv WG g ge s false).q rfl, ?_⟩
    simp only [push_cast, reduceIte, Nat.reduceMul, Nat.reduceEqDiff, Nat.reduceAdd, Nat.reduceLT, Nat.reduceLeDiff, reduceCtorEq, Int.reduceToNat, placeB, h, eB, noteB]
    cases strEq s ⟨#[]⟩ <;> simp
end Go.Proofs.YtiemcodllaepbaaGreatDoor

namespace Go.Gp
section
variable {P : Program} {WG : World}
/-- A result that is nil, told as an own array without memory. -/
theorem CallT.ownNil (s : Nat) {f : FuncId} {vs : List V} {tab : Tab} {nx : Nat} {K KP : V → Tab → Nat → Prop}
    (h : CallT P WG f vs tab nx (fun r t n => K r t n ∨ (r = .p (.v (.slice none 0 0)) ∧ K (.osl n s 0 0 none) (aset t n (.arr s [] true)) (n + 1))) KP) : CallT P WG f vs tab nx K KP := by
  intro C j w ms h1 h2 h3 h4 hm0 hvs
  refine (h C j w ms h1 h2 h3 h4 hm0 hvs).mono fun e w' he => ?_
  cases e with
  | panicked ch => exact he
  | outgrown => exact he.elim
  | returned m =>
    obtain ⟨j1, t, n, r, hm, hv, hK⟩ := he
    rcases hK with hK | ⟨rfl, hK⟩
    · exact ⟨j1, t, n, r, hm, hv, hK⟩
    · let C' : Ctx := { C with rnd := none, base := [] }
      have hr : ERel WG C' j1 ⟨[(0, .p (.v (.slice none 0 0)))], t, n, C.nb, 1⟩ { tmps := #[m], defers := [] } w' := by
        refine ⟨{ nb := hm.nb, low := hm.low, blk := hm.blk, apart := hm.apart, agree := hm.agree, own := hm.own, ownG := hm.ownG, size := hm.size, keep := hm.keep, os := hm.os, tape := hm.tape, output := hm.output, glob := hm.glob, rd := hm.rd }, Nat.le_refl _, hm.nb, fun q v hq => ?_, rfl, ⟨⟨[], rfl, List.nodup_nil, by simp⟩, fun l hl => by cases hl⟩⟩
        simp only [aget] at hq
        split at hq
        · rename_i e; subst e; cases hq; exact ⟨m, rfl, hv⟩
        · cases hq
      obtain ⟨j2, hr2⟩ := Weak.nilTmp (σ := ⟨[(0, .p (.v (.slice none 0 0)))], t, n, C.nb, 1⟩) 0 s rfl C' j1 _ w' hr
      have hm2 := hr2.mem
      obtain ⟨m', e1, e2⟩ := hr2.env 0 (.osl n s 0 0 none) rfl
      have : m' = m := by simpa using e1.symm
      subst this
      exact ⟨j2, aset t n (.arr s [] true), n + 1, .osl n s 0 0 none, { nb := hm2.nb, low := hm2.low, blk := hm2.blk, apart := hm2.apart, agree := hm2.agree, own := hm2.own, ownG := hm2.ownG, size := hm2.size, keep := hm2.keep, os := hm2.os, tape := hm2.tape, output := hm2.output, glob := hm2.glob, rd := hm2.rd }, e2, hK⟩
end
end Go.Gp
namespace Go.Proofs.YtiemcodllaepbaaGreatDoor
open Go Go.Gp

/-- An own array with these elements. -/
def cloneK (s : Nat) (ys : List PV) : V → Tab → Nat → Prop := fun r t n => r = .osl 0 s 0 ys.length none ∧ t = [(0, .arr s ys true)] ∧ n = 1
theorem clone_call {WG : World} {f : FuncId} {x : PV} {s : Nat} {ys : List PV} (h : CallT Tryz.prog WG f ([x].map .p) [] 0 (cloneK s ys) noP) (tab : Tab) (nx : Nat) :
    CallT Tryz.prog WG f [.p x] tab nx (fun r t n => r = .osl nx s 0 ys.length none ∧ t = tab ++ [(nx, .arr s ys true)] ∧ n = nx + 1) noP :=
  CallT.frame (ps := [x]) h (fun r t n hq => by
    obtain ⟨rfl, rfl, rfl⟩ := hq
    simp [V.sh, tsh, Blk.sh]) (fun _ _ _ h => h.elim)

theorem clone_end {s : Nat} {ys : List PV} {n : Nat} (hn : ys.length = n) : tidyK 0 (fun r t n => cloneK s ys r t n ∨ r = .p (.v (.slice none 0 0)) ∧ cloneK s ys (.osl n s 0 0 none) (aset t n (.arr s [] true)) (n + 1)) (.osl 1 s 0 n none) [(1, .arr s ys true)] 2 := by
  refine ⟨[(0, 1)], .osl 0 s 0 n none, [(0, .arr s ys true)], 1, .inl ⟨by subst hn; rfl, rfl, rfl⟩, rfl, ?_, Nat.zero_le _, ?_⟩
  · simp [V.bd]
  · simp [LeR, rnf, aget, envR, tabR, injR, notIn, loR, V.rn, V.rnL, V.bd, V.bdL, Blk.rn, Blk.bd, envRn, envBd]
theorem clone_nil {s : Nat} {ys : List PV} (hn : ys = []) : tidyK 0 (fun r t n => cloneK s ys r t n ∨ r = .p (.v (.slice none 0 0)) ∧ cloneK s ys (.osl n s 0 0 none) (aset t n (.arr s [] true)) (n + 1)) (.p (.v (.slice none 0 0))) [] 0 := by
  subst hn
  refine ⟨[], .p (.v (.slice none 0 0)), [], 0, .inr ⟨rfl, rfl, rfl, rfl⟩, rfl, ?_, Nat.zero_le _, ?_⟩
  · simp [V.bd]
  · simp [LeR, rnf, aget, envR, tabR, injR, notIn, loR, V.rn, V.rnL, V.bd, V.bdL, Blk.rn, Blk.bd, envRn, envBd]

set_option maxHeartbeats 8000000 in
theorem cloneSpan_ct (WG : World) (l : List (Nat × Nat)) (hl : l.length < 1000000) : CallT Tryz.prog WG 38 ([spansP l].map .p) [] 0 (cloneK 4 (l.map spanP)) noP := by
  refine CallT.ownNil 4 (CallT.tidy (CallT_fn Tryz.func38 (rs := [.tmp 2]) (n := 8) rfl rfl (Nat.le_of_ble_eq_true rfl) rfl ?_))
  simp only [push_cast, reduceIte, Nat.reduceMul, Nat.reduceEqDiff, Nat.reduceAdd, Nat.reduceLT, Nat.reduceLeDiff, reduceCtorEq, Int.reduceToNat]
  exact ⟨⟨by first | omega | (simp [bytesP]; omega), clone_end (by simp [bytesP])⟩, fun h => clone_nil h⟩
set_option maxHeartbeats 8000000 in
theorem cloneAs_ct (WG : World) (l : List (Nat × Nat)) (hl : l.length < 1000000) : CallT Tryz.prog WG 39 ([.sl 2 (l.map asP)].map .p) [] 0 (cloneK 2 (l.map asP)) noP := by
  refine CallT.ownNil 2 (CallT.tidy (CallT_fn Tryz.func39 (rs := [.tmp 2]) (n := 8) rfl rfl (Nat.le_of_ble_eq_true rfl) rfl ?_))
  simp only [push_cast, reduceIte, Nat.reduceMul, Nat.reduceEqDiff, Nat.reduceAdd, Nat.reduceLT, Nat.reduceLeDiff, reduceCtorEq, Int.reduceToNat]
  exact ⟨⟨by first | omega | (simp [bytesP]; omega), clone_end (by simp [bytesP])⟩, fun h => clone_nil h⟩
set_option maxHeartbeats 8000000 in
theorem cloneShort_ct (WG : World) (l : List (List Nat)) (hl : l.length < 1000000) : CallT Tryz.prog WG 40 ([shortsP l].map .p) [] 0 (cloneK 16 (l.map shortP)) noP := by
  refine CallT.ownNil 16 (CallT.tidy (CallT_fn Tryz.func40 (rs := [.tmp 2]) (n := 8) rfl rfl (Nat.le_of_ble_eq_true rfl) rfl ?_))
  simp only [push_cast, reduceIte, Nat.reduceMul, Nat.reduceEqDiff, Nat.reduceAdd, Nat.reduceLT, Nat.reduceLeDiff, reduceCtorEq, Int.reduceToNat]
  exact ⟨⟨by first | omega | (simp [bytesP]; omega), clone_end (by simp [bytesP])⟩, fun h => clone_nil h⟩
set_option maxHeartbeats 8000000 in
theorem cloneByte_ct (WG : World) (l : List UInt8) (hl : l.length < 1000000) : CallT Tryz.prog WG 162 ([.sl 1 (bytesP l)].map .p) [] 0 (cloneK 1 (bytesP l)) noP := by
  refine CallT.ownNil 1 (CallT.tidy (CallT_fn Tryz.func162 (rs := [.tmp 2]) (n := 8) rfl rfl (Nat.le_of_ble_eq_true rfl) rfl ?_))
  simp only [push_cast, reduceIte, Nat.reduceMul, Nat.reduceEqDiff, Nat.reduceAdd, Nat.reduceLT, Nat.reduceLeDiff, reduceCtorEq, Int.reduceToNat]
  exact ⟨⟨by first | omega | (simp [bytesP]; omega), clone_end (by simp [bytesP])⟩, fun h => clone_nil h⟩

/-- A copy of a certificate: its lists are own arrays. -/
abbrev twinL (c : Crt) (b : Nat) : List V := [.p (pU64 c.serial), .p (pS c.issuer), .p (pS c.subject), .p (pI c.frm), .p (pI c.til), .p (pU8 (c.root 0)), .p (pU8 (c.root 1)), .p (pU8 (c.root 2)), .p (pU8 (c.root 3)), .p (pU8 (c.root 4)), .p (pU8 (c.root 5)), .p (pU8 (c.root 6)), .p (pU8 (c.root 7)), .p (pU8 (c.root 8)), .p (pU8 (c.root 9)), .p (pU8 (c.root 10)), .p (pU8 (c.root 11)), .p (pU8 (c.root 12)), .p (pU8 (c.root 13)), .p (pU8 (c.root 14)), .p (pU8 (c.root 15)), .p (pI c.height), .p (pB c.ca), .p (pB c.inherit),
  .osl b 4 0 c.res.v4.length none, .osl (b + 1) 4 0 c.res.v6.length none, .osl (b + 2) 2 0 c.res.as_.length none, .p (pS c.repo), .p (pS c.manifest), .p (pS c.notify), .p (pS c.crl), .p (pS c.parent), .p (pI c.sig.index), .osl (b + 3) 16 0 c.sig.chains.length none, .osl (b + 4) 16 0 c.sig.path.length none]
abbrev twinV (c : Crt) (b : Nat) : V := .agg (twinL c b)
def twinK (c : Crt) : V → Tab → Nat → Prop := fun r t n => r = twinV c 0 ∧ t = [(0, .arr 4 (c.res.v4.map spanP) true), (1, .arr 4 (c.res.v6.map spanP) true), (2, .arr 2 (c.res.as_.map asP) true), (3, .arr 16 (c.sig.chains.map shortP) true), (4, .arr 16 (c.sig.path.map shortP) true)] ∧ n = 5

set_option maxHeartbeats 16000000 in
theorem certTwin_ct (WG : World) (c : Crt) (hc : OkC c) : CallT Tryz.prog WG 13 ([crtP c].map .p) [] 0 (twinK c) noP := by
  have h4 := hc.res.n4
  have h6 := hc.res.n6
  have hA := hc.res.nas
  have hC := hc.sig.nc
  have hP := hc.sig.np
  refine CallT.tidy (CallT_fnT Tryz.func13 (rs := [.cell 2 37]) (n := 30) rfl rfl (Nat.le_of_ble_eq_true rfl) rfl ?_)
  refine T_seqC ?_
  simp only [push_cast, reduceIte, Nat.reduceMul, Nat.reduceEqDiff, Nat.reduceAdd, Nat.reduceLT, Nat.reduceLeDiff, reduceCtorEq, Int.reduceToNat]
  refine T_seqC ?_
  simp only [push_cast, reduceIte, Nat.reduceMul, Nat.reduceEqDiff, Nat.reduceAdd, Nat.reduceLT, Nat.reduceLeDiff, reduceCtorEq, Int.reduceToNat]
  refine T_drawS [3, 7, 11, 14] [(6, 0), (10, 0), (10, 4)] mixed (by kernel_rfl) ?_
  simp only [push_cast, reduceIte, Nat.reduceMul, Nat.reduceEqDiff, Nat.reduceAdd, Nat.reduceLT, Nat.reduceLeDiff, reduceCtorEq, Int.reduceToNat]
  refine ⟨_, _, _, clone_call (cloneSpan_ct WG c.res.v4 h4) _ _, ?_⟩
  simp only [push_cast, reduceIte, Nat.reduceMul, Nat.reduceEqDiff, Nat.reduceAdd, Nat.reduceLT, Nat.reduceLeDiff, reduceCtorEq, Int.reduceToNat]
  refine ⟨_, _, _, clone_call (cloneSpan_ct WG c.res.v6 h6) _ _, ?_⟩
  simp only [push_cast, reduceIte, Nat.reduceMul, Nat.reduceEqDiff, Nat.reduceAdd, Nat.reduceLT, Nat.reduceLeDiff, reduceCtorEq, Int.reduceToNat]
  refine ⟨_, _, _, clone_call (cloneAs_ct WG c.res.as_ hA) _ _, ?_⟩
  simp only [push_cast, reduceIte, Nat.reduceMul, Nat.reduceEqDiff, Nat.reduceAdd, Nat.reduceLT, Nat.reduceLeDiff, reduceCtorEq, Int.reduceToNat]
  refine T_seqC ?_
  refine T_drawS [3, 7, 10, 13] [(6, 0)] mixed (by kernel_rfl) ?_
  simp only [push_cast, reduceIte, Nat.reduceMul, Nat.reduceEqDiff, Nat.reduceAdd, Nat.reduceLT, Nat.reduceLeDiff, reduceCtorEq, Int.reduceToNat]
  refine ⟨_, _, _, clone_call (cloneShort_ct WG c.sig.chains hC) _ _, ?_⟩
  simp only [push_cast, reduceIte, Nat.reduceMul, Nat.reduceEqDiff, Nat.reduceAdd, Nat.reduceLT, Nat.reduceLeDiff, reduceCtorEq, Int.reduceToNat]
  refine ⟨_, _, _, clone_call (cloneShort_ct WG c.sig.path hP) _ _, ?_⟩
  simp only [push_cast, reduceIte, Nat.reduceMul, Nat.reduceEqDiff, Nat.reduceAdd, Nat.reduceLT, Nat.reduceLeDiff, reduceCtorEq, Int.reduceToNat]
  refine T_seqC ?_
  simp only [push_cast, reduceIte, Nat.reduceMul, Nat.reduceEqDiff, Nat.reduceAdd, Nat.reduceLT, Nat.reduceLeDiff, reduceCtorEq, Int.reduceToNat]
  refine T_fin ?_
  simp only [push_cast, reduceIte, Nat.reduceMul, Nat.reduceEqDiff, Nat.reduceAdd, Nat.reduceLT, Nat.reduceLeDiff, reduceCtorEq, Int.reduceToNat]
  refine ⟨[(0, 2), (1, 3), (2, 4), (3, 5), (4, 6)], twinV c 0, _, 5, ⟨rfl, rfl, rfl⟩, rfl, ?_, Nat.zero_le _, ?_⟩
  · simp [V.bd, V.bdL]
  · simp [LeR, rnf, aget, envR, tabR, injR, notIn, loR, V.rn, V.rnL, V.bd, V.bdL, Blk.rn, Blk.bd, envRn, envBd]

set_option maxHeartbeats 8000000 in
theorem rResTwin_fv (WG : World) (r : Res) (h : OkR r) : FV Tryz.prog WG 37 [resP r] (.p (resP r)) := by
  have h4 := h.n4
  have h6 := h.n6
  have hA := h.nas
  refine CallT.pureS rfl (CallT_fnT Tryz.func37 (rs := [.cell 2 32]) (n := 16) rfl rfl (Nat.le_of_ble_eq_true rfl) rfl ?_)
  refine T_seqC ?_
  simp only [push_cast, reduceIte, Nat.reduceMul, Nat.reduceEqDiff, Nat.reduceAdd, Nat.reduceLT, Nat.reduceLeDiff, reduceCtorEq, Int.reduceToNat]
  refine T_seqC ?_
  refine T_drawS [3, 7, 11, 13] [(6, 0), (10, 0), (10, 4)] mixed (by kernel_rfl) ?_
  simp only [push_cast, reduceIte, Nat.reduceMul, Nat.reduceEqDiff, Nat.reduceAdd, Nat.reduceLT, Nat.reduceLeDiff, reduceCtorEq, Int.reduceToNat]
  refine ⟨by omega, by omega, by omega, ?_⟩
  refine T_fin ?_
  simp only [push_cast, reduceIte, Nat.reduceMul, Nat.reduceEqDiff, Nat.reduceAdd, Nat.reduceLT, Nat.reduceLeDiff, reduceCtorEq, Int.reduceToNat]
  simp [List.take_of_length_le]

set_option maxHeartbeats 8000000 in
theorem rTwinSig_fv (WG : World) (s : Sig) (h : OkS s) : FV Tryz.prog WG 27 [sigP (kS s)] (.p (sigP (kS s))) := by
  have hC := h.nc
  have hP := h.np
  refine CallT.pureS rfl (CallT_fnT Tryz.func27 (rs := [.cell 2 35]) (n := 14) rfl rfl (Nat.le_of_ble_eq_true rfl) rfl ?_)
  refine T_seqC ?_
  simp only [kS, push_cast, reduceIte, Nat.reduceMul, Nat.reduceEqDiff, Nat.reduceAdd, Nat.reduceLT, Nat.reduceLeDiff, reduceCtorEq, Int.reduceToNat]
  refine T_seqC ?_
  refine T_drawS [5, 9, 11] [(1, 6), (1, 10), (8, 0)] mixed (by kernel_rfl) ?_
  simp only [push_cast, reduceIte, Nat.reduceMul, Nat.reduceEqDiff, Nat.reduceAdd, Nat.reduceLT, Nat.reduceLeDiff, reduceCtorEq, Int.reduceToNat]
  refine ⟨by omega, by omega, ?_⟩
  refine T_fin ?_
  simp only [push_cast, reduceIte, Nat.reduceMul, Nat.reduceEqDiff, Nat.reduceAdd, Nat.reduceLT, Nat.reduceLeDiff, reduceCtorEq, Int.reduceToNat]
  simp [List.take_of_length_le]

set_option maxHeartbeats 8000000 in
theorem rCertTwin_fv (WG : World) (c : Crt) (h : OkC c) : FV Tryz.prog WG 12 [crtP c] (.p (crtP c)) := by
  refine CallT.pureS rfl (CallT_fnT Tryz.func12 (rs := [.cell 2 37]) (n := 12) rfl rfl (Nat.le_of_ble_eq_true rfl) rfl ?_)
  refine T_seqC ?_
  simp only [push_cast, reduceIte, Nat.reduceMul, Nat.reduceEqDiff, Nat.reduceAdd, Nat.reduceLT, Nat.reduceLeDiff, reduceCtorEq, Int.reduceToNat]
  refine T_seqC ?_
  simp only [push_cast, reduceIte, Nat.reduceMul, Nat.reduceEqDiff, Nat.reduceAdd, Nat.reduceLT, Nat.reduceLeDiff, reduceCtorEq, Int.reduceToNat]
  refine (rResTwin_fv WG c.res h.res).call rfl ?_
  simp only [push_cast, reduceIte, Nat.reduceMul, Nat.reduceEqDiff, Nat.reduceAdd, Nat.reduceLT, Nat.reduceLeDiff, reduceCtorEq, Int.reduceToNat]
  refine T_seqC ?_
  simp only [push_cast, reduceIte, Nat.reduceMul, Nat.reduceEqDiff, Nat.reduceAdd, Nat.reduceLT, Nat.reduceLeDiff, reduceCtorEq, Int.reduceToNat]
  refine (rTwinSig_fv WG c.sig h.sig).call rfl ?_
  simp only [kS, push_cast, reduceIte, Nat.reduceMul, Nat.reduceEqDiff, Nat.reduceAdd, Nat.reduceLT, Nat.reduceLeDiff, reduceCtorEq, Int.reduceToNat]
  refine T_seqC ?_
  simp only [push_cast, reduceIte, Nat.reduceMul, Nat.reduceEqDiff, Nat.reduceAdd, Nat.reduceLT, Nat.reduceLeDiff, reduceCtorEq, Int.reduceToNat]
  refine T_fin ?_
  simp only [push_cast, reduceIte, Nat.reduceMul, Nat.reduceEqDiff, Nat.reduceAdd, Nat.reduceLT, Nat.reduceLeDiff, reduceCtorEq, Int.reduceToNat]
end Go.Proofs.YtiemcodllaepbaaGreatDoor

namespace Go.Proofs.YtiemcodllaepbaaGreatDoor
open Go Go.Gp

set_option maxHeartbeats 8000000 in
theorem eqShorts_fv (WG : World) (a b : List (List Nat)) (ha : ∀ x ∈ a, x.length = 16) (hb : ∀ x ∈ b, x.length = 16) (hn : a.length < 1000000) : FV Tryz.prog WG 58 [.sl 16 (a.map shortP), .sl 16 (b.map shortP)] (vB (decide (a = b))) := by
  refine CallT.pure rfl (CallT_fn Tryz.func58 (rs := [.tmp 4]) (n := 26) rfl rfl (Nat.le_of_ble_eq_true rfl) rfl ?_)
  simp only [push_cast, reduceIte, Nat.reduceMul, Nat.reduceEqDiff, Nat.reduceAdd, Nat.reduceLT, Nat.reduceLeDiff, reduceCtorEq, Int.reduceToNat]
  refine ⟨fun h => ?_, fun h => ?_⟩
  · have : ¬ a = b := fun e => by subst e; simp at h
    rw [decide_eq_false this]
  · have hl : a.length = b.length := by simp at h; omega
    refine T_loopS (fun i : Nat => ⟨[(0, .p (.sl 16 (a.map shortP))), (1, .p (.sl 16 (b.map shortP))), (12, vI a.length), (13, vI i)], [], 0, 0, 26⟩) (fun i => i ≤ a.length ∧ a.take i = b.take i) (fun i => a.length - i) 0 ⟨Nat.zero_le _, by simp⟩ (by simp [Le, subE, aget]) (fun i hi => ?_)
    simp only [push_cast, reduceIte, Nat.reduceMul, Nat.reduceEqDiff, Nat.reduceAdd, Nat.reduceLT, Nat.reduceLeDiff, reduceCtorEq, Int.reduceToNat]
    refine ⟨fun h1 => ?_, fun h1 => ?_⟩
    · have h2 : i < a.length := by simpa using h1
      have hga : a[i]? = some a[i] := List.getElem?_eq_getElem h2
      have hgb : b[i]? = some (b[i]'(by omega)) := List.getElem?_eq_getElem (by omega)
      have h16a := ha _ (List.mem_of_getElem? hga)
      have h16b := hb _ (List.mem_of_getElem? hgb)
      generalize a[i] = x at hga h16a
      generalize (b[i]'(by omega)) = y at hgb h16b
      refine T_drawS [] [] mixed (by kernel_rfl) ?_
      simp only [push_cast, reduceIte, Nat.reduceMul, Nat.reduceEqDiff, Nat.reduceAdd, Nat.reduceLT, Nat.reduceLeDiff, reduceCtorEq, Int.reduceToNat, List.getElem?_map, hga, hgb, h16a, h16b, pvs_short (h16a.trans h16b.symm)]
      refine ⟨by omega, by omega, ⟨fit_short 16 h16a, fit_short 16 h16b⟩, fun h3 => ?_, fun h3 => ⟨i + 1, ⟨by omega, ?_⟩, by omega, ?_⟩⟩
      · have hne : ¬ x = y := by simpa using h3
        have : ¬ a = b := fun e => by subst e; rw [hga] at hgb; cases hgb; exact hne rfl
        rw [decide_eq_false this]
      · have he : x = y := by simpa using h3
        rw [List.take_add_one, List.take_add_one, hga, hgb, hi.2, he]
      · simp [Le, subE, aget, wrap_i64 (i + 1) (by omega) (by omega)]
    · have : i = a.length := by simp at h1; omega
      subst this
      have : a = b := by have := hi.2; rwa [List.take_of_length_le (Nat.le_refl _), List.take_of_length_le (by omega)] at this
      rw [decide_eq_true this]

set_option maxHeartbeats 8000000 in
theorem eqSpans_fv (WG : World) (a b : List (Nat × Nat)) (hn : a.length < 1000000) : FV Tryz.prog WG 98 [spansP a, spansP b] (vB (decide (a = b))) := by
  refine CallT.pure rfl (CallT_fn Tryz.func98 (rs := [.tmp 4]) (n := 26) rfl rfl (Nat.le_of_ble_eq_true rfl) rfl ?_)
  simp only [push_cast, reduceIte, Nat.reduceMul, Nat.reduceEqDiff, Nat.reduceAdd, Nat.reduceLT, Nat.reduceLeDiff, reduceCtorEq, Int.reduceToNat]
  refine ⟨fun h => ?_, fun h => ?_⟩
  · have : ¬ a = b := fun e => by subst e; simp at h
    rw [decide_eq_false this]
  · have hl : a.length = b.length := by simp at h; omega
    refine T_loopS (fun i : Nat => ⟨[(0, .p (spansP a)), (1, .p (spansP b)), (12, vI a.length), (13, vI i)], [], 0, 0, 26⟩) (fun i => i ≤ a.length ∧ a.take i = b.take i) (fun i => a.length - i) 0 ⟨Nat.zero_le _, by simp⟩ (by simp [Le, subE, aget]) (fun i hi => ?_)
    simp only [push_cast, reduceIte, Nat.reduceMul, Nat.reduceEqDiff, Nat.reduceAdd, Nat.reduceLT, Nat.reduceLeDiff, reduceCtorEq, Int.reduceToNat]
    refine ⟨fun h1 => ?_, fun h1 => ?_⟩
    · have h2 : i < a.length := by simpa using h1
      have hga : a[i]? = some a[i] := List.getElem?_eq_getElem h2
      have hgb : b[i]? = some (b[i]'(by omega)) := List.getElem?_eq_getElem (by omega)
      generalize a[i] = x at hga
      generalize (b[i]'(by omega)) = y at hgb
      refine T_drawS [] [] mixed (by kernel_rfl) ?_
      simp only [push_cast, reduceIte, Nat.reduceMul, Nat.reduceEqDiff, Nat.reduceAdd, Nat.reduceLT, Nat.reduceLeDiff, reduceCtorEq, Int.reduceToNat, List.getElem?_map, hga, hgb, pvs_span]
      refine ⟨by omega, by omega, fun h3 => ?_, fun h3 => ⟨i + 1, ⟨by omega, ?_⟩, by omega, ?_⟩⟩
      · have hne : ¬ x = y := by simpa using h3
        have : ¬ a = b := fun e => by subst e; rw [hga] at hgb; cases hgb; exact hne rfl
        rw [decide_eq_false this]
      · have he : x = y := by simpa using h3
        rw [List.take_add_one, List.take_add_one, hga, hgb, hi.2, he]
      · simp [Le, subE, aget, wrap_i64 (i + 1) (by omega) (by omega)]
    · have : i = a.length := by simp at h1; omega
      subst this
      have : a = b := by have := hi.2; rwa [List.take_of_length_le (Nat.le_refl _), List.take_of_length_le (by omega)] at this
      rw [decide_eq_true this]

theorem pvs_as (s t : Nat × Nat) : pvsEq [.v (.int .u32 s.1), .v (.int .u32 s.2)] [.v (.int .u32 t.1), .v (.int .u32 t.2)] = decide (s = t) := by
  simp only [pvsEq, pvEq, valEq, Bool.and_true]
  by_cases e : s = t
  · subst e; simp
  · rw [decide_eq_false e]
    have : ¬ (s.1 = t.1 ∧ s.2 = t.2) := fun h => e (Prod.ext h.1 h.2)
    simp only [Bool.and_eq_false_iff, decide_eq_false_iff_not]
    omega
set_option maxHeartbeats 8000000 in
theorem eqAs_fv (WG : World) (a b : List (Nat × Nat)) (hn : a.length < 1000000) : FV Tryz.prog WG 99 [.sl 2 (a.map asP), .sl 2 (b.map asP)] (vB (decide (a = b))) := by
  refine CallT.pure rfl (CallT_fn Tryz.func99 (rs := [.tmp 4]) (n := 26) rfl rfl (Nat.le_of_ble_eq_true rfl) rfl ?_)
  simp only [push_cast, reduceIte, Nat.reduceMul, Nat.reduceEqDiff, Nat.reduceAdd, Nat.reduceLT, Nat.reduceLeDiff, reduceCtorEq, Int.reduceToNat]
  refine ⟨fun h => ?_, fun h => ?_⟩
  · have : ¬ a = b := fun e => by subst e; simp at h
    rw [decide_eq_false this]
  · have hl : a.length = b.length := by simp at h; omega
    refine T_loopS (fun i : Nat => ⟨[(0, .p (.sl 2 (a.map asP))), (1, .p (.sl 2 (b.map asP))), (12, vI a.length), (13, vI i)], [], 0, 0, 26⟩) (fun i => i ≤ a.length ∧ a.take i = b.take i) (fun i => a.length - i) 0 ⟨Nat.zero_le _, by simp⟩ (by simp [Le, subE, aget]) (fun i hi => ?_)
    simp only [push_cast, reduceIte, Nat.reduceMul, Nat.reduceEqDiff, Nat.reduceAdd, Nat.reduceLT, Nat.reduceLeDiff, reduceCtorEq, Int.reduceToNat]
    refine ⟨fun h1 => ?_, fun h1 => ?_⟩
    · have h2 : i < a.length := by simpa using h1
      have hga : a[i]? = some a[i] := List.getElem?_eq_getElem h2
      have hgb : b[i]? = some (b[i]'(by omega)) := List.getElem?_eq_getElem (by omega)
      generalize a[i] = x at hga
      generalize (b[i]'(by omega)) = y at hgb
      refine T_drawS [] [] mixed (by kernel_rfl) ?_
      simp only [push_cast, reduceIte, Nat.reduceMul, Nat.reduceEqDiff, Nat.reduceAdd, Nat.reduceLT, Nat.reduceLeDiff, reduceCtorEq, Int.reduceToNat, List.getElem?_map, hga, hgb, pvs_as]
      refine ⟨by omega, by omega, fun h3 => ?_, fun h3 => ⟨i + 1, ⟨by omega, ?_⟩, by omega, ?_⟩⟩
      · have hne : ¬ x = y := by simpa using h3
        have : ¬ a = b := fun e => by subst e; rw [hga] at hgb; cases hgb; exact hne rfl
        rw [decide_eq_false this]
      · have he : x = y := by simpa using h3
        rw [List.take_add_one, List.take_add_one, hga, hgb, hi.2, he]
      · simp [Le, subE, aget, wrap_i64 (i + 1) (by omega) (by omega)]
    · have : i = a.length := by simp at h1; omega
      subst this
      have : a = b := by have := hi.2; rwa [List.take_of_length_le (Nat.le_refl _), List.take_of_length_le (by omega)] at this
      rw [decide_eq_true this]

set_option maxHeartbeats 8000000 in
theorem resSame_fv (WG : World) (a b : Res) (ha : OkR a) : FV Tryz.prog WG 57 [resP a, resP b] (vB (sameR a b)) := by
  refine CallT.pure rfl (CallT_fn Tryz.func57 (rs := [.tmp 4]) (n := 24) rfl rfl (Nat.le_of_ble_eq_true rfl) rfl ?_)
  simp only [push_cast, reduceIte, Nat.reduceMul, Nat.reduceEqDiff, Nat.reduceAdd, Nat.reduceLT, Nat.reduceLeDiff, reduceCtorEq, Int.reduceToNat]
  refine (eqSpans_fv WG a.v4 b.v4 ha.n4).call rfl ?_
  simp only [push_cast, reduceIte, Nat.reduceMul, Nat.reduceEqDiff, Nat.reduceAdd, Nat.reduceLT, Nat.reduceLeDiff, reduceCtorEq, Int.reduceToNat]
  refine ⟨_, fun _ => (eqSpans_fv WG a.v6 b.v6 ha.n6).q rfl, ?_⟩
  simp only [push_cast, reduceIte, Nat.reduceMul, Nat.reduceEqDiff, Nat.reduceAdd, Nat.reduceLT, Nat.reduceLeDiff, reduceCtorEq, Int.reduceToNat]
  refine ⟨_, fun _ => (eqAs_fv WG a.as_ b.as_ ha.nas).q rfl, ?_⟩
  simp only [push_cast, reduceIte, Nat.reduceMul, Nat.reduceEqDiff, Nat.reduceAdd, Nat.reduceLT, Nat.reduceLeDiff, reduceCtorEq, Int.reduceToNat, sameR]
  rw [Bool.eq_iff_iff]; simp only [Bool.and_eq_true, decide_eq_true_eq, and_assoc]

def greatS (s : KSig) : Bool := decide ((60 : Int) < s.chains.length) || decide ((60 : Int) < s.path.length)
set_option maxHeartbeats 4000000 in
theorem greatSig_fv (WG : World) (s : KSig) : FV Tryz.prog WG 36 [sigP s] (vB (greatS s)) := by
  refine CallT.pure rfl (CallT_fn Tryz.func36 (rs := [.tmp 2]) (n := 13) rfl rfl (Nat.le_of_ble_eq_true rfl) rfl ?_)
  simp only [push_cast, reduceIte, Nat.reduceMul, Nat.reduceEqDiff, Nat.reduceAdd, Nat.reduceLT, Nat.reduceLeDiff, reduceCtorEq, Int.reduceToNat, greatS]
end Go.Proofs.YtiemcodllaepbaaGreatDoor

namespace Go.Proofs.YtiemcodllaepbaaGreatDoor
open Go Go.Gp

def strsC (c : Crt) : List ByteArray := [c.issuer, c.subject, c.repo, c.manifest, c.notify, c.crl, c.parent]
abbrev boxC (c : Crt) : List V := [.p (pU64 c.serial), .p (pS c.issuer), .p (pS c.subject), .p (pI c.frm), .p (pI c.til), .p (pU8 (c.root 0)), .p (pU8 (c.root 1)), .p (pU8 (c.root 2)), .p (pU8 (c.root 3)), .p (pU8 (c.root 4)), .p (pU8 (c.root 5)), .p (pU8 (c.root 6)), .p (pU8 (c.root 7)), .p (pU8 (c.root 8)), .p (pU8 (c.root 9)), .p (pU8 (c.root 10)), .p (pU8 (c.root 11)), .p (pU8 (c.root 12)), .p (pU8 (c.root 13)), .p (pU8 (c.root 14)), .p (pU8 (c.root 15)), .p (pI c.height), .p (pB c.ca), .p (pB c.inherit),
  .p (spansP c.res.v4), .p (spansP c.res.v6), .p (.sl 2 (c.res.as_.map asP)), .p (pS c.repo), .p (pS c.manifest), .p (pS c.notify), .p (pS c.crl), .p (pS c.parent), .p (pI c.sig.index), .p (shortsP c.sig.chains), .p (shortsP c.sig.path)]
def greatC (c : Crt) : Bool := (strsC c).any (fun s => decide (500 < s.size)) || (decide ((210 : Int) < c.res.v4.length) || decide ((210 : Int) < c.res.v6.length) || decide ((210 : Int) < c.res.as_.length) || greatS (kS c.sig))
set_option maxHeartbeats 8000000 in
theorem rGreat_fv (WG : World) (c : Crt) : FV Tryz.prog WG 11 [crtP c] (vB (greatC c)) := by
  refine CallT.pure rfl (CallT_fnT Tryz.func11 (rs := [.tmp 2]) (n := 56) rfl rfl (Nat.le_of_ble_eq_true rfl) rfl ?_)
  refine T_seqC ?_
  simp only [push_cast, reduceIte, Nat.reduceMul, Nat.reduceEqDiff, Nat.reduceAdd, Nat.reduceLT, Nat.reduceLeDiff, reduceCtorEq, Int.reduceToNat]
  refine T_seqC ?_
  simp only [push_cast, reduceIte, Nat.reduceMul, Nat.reduceEqDiff, Nat.reduceAdd, Nat.reduceLT, Nat.reduceLeDiff, reduceCtorEq, Int.reduceToNat]
  refine T_seqC ?_
  simp only [push_cast, reduceIte, Nat.reduceMul, Nat.reduceEqDiff, Nat.reduceAdd, Nat.reduceLT, Nat.reduceLeDiff, reduceCtorEq, Int.reduceToNat]
  refine T_loopR (fun i : Nat => ⟨[(1, .ref 0 0), (3, .osl 1 1 0 7 (some 7)), (4, vI i)], [(0, .box (boxC c)), (1, .arr 1 ((strsC c).map pS) false)], 2, 0, 56⟩) (fun i => i ≤ 7 ∧ ∀ q s, q < i → (strsC c)[q]? = some s → ¬ 500 < s.size) (fun i => 7 - i) 0 [] ⟨Nat.zero_le _, fun q s hq => absurd hq (Nat.not_lt_zero q)⟩ (by simp [LeR, rnf, aget, envR, tabR, injR, notIn, loR, V.rn, V.rnL, V.bd, V.bdL, Blk.rn, Blk.bd, envRn, envBd, strsC]) (fun i hi => ?_)
  simp only [push_cast, reduceIte, Nat.reduceMul, Nat.reduceEqDiff, Nat.reduceAdd, Nat.reduceLT, Nat.reduceLeDiff, reduceCtorEq, Int.reduceToNat]
  refine ⟨fun h1 => ?_, fun h1 => ?_⟩
  · have h2 : i < 7 := by simp at h1; omega
    have hg : (strsC c)[i]? = some ((strsC c)[i]'h2) := List.getElem?_eq_getElem h2
    generalize ((strsC c)[i]'h2) = s at hg
    simp only [push_cast, reduceIte, Nat.reduceMul, Nat.reduceEqDiff, Nat.reduceAdd, Nat.reduceLT, Nat.reduceLeDiff, reduceCtorEq, Int.reduceToNat, List.getElem?_map, hg]
    refine ⟨by omega, fun h3 => ?_, fun h3 => ⟨i + 1, ⟨by omega, fun q t hq ht => ?_⟩, by omega, [], ?_⟩⟩
    · have : (strsC c).any (fun s => decide (500 < s.size)) = true := List.any_eq_true.2 ⟨s, List.mem_of_getElem? hg, by simp at h3 ⊢; omega⟩
      simp only [greatC, this, Bool.true_or]
    · by_cases e : q = i
      · subst e; rw [hg] at ht; cases ht; simp at h3; omega
      · exact hi.2 q t (by omega) ht
    · simp [LeR, rnf, aget, envR, tabR, injR, notIn, loR, V.rn, V.rnL, V.bd, V.bdL, Blk.rn, Blk.bd, envRn, envBd, wrap_i64 (i + 1) (by omega) (by omega)]
  · have h2 : i = 7 := by simp at h1; omega
    subst h2
    have hn : (strsC c).any (fun s => decide (500 < s.size)) = false := List.any_eq_false.2 fun s hs => by
      obtain ⟨q, hq⟩ := List.mem_iff_getElem?.1 hs
      have := hi.2 q s (by have := (List.getElem?_eq_some_iff.1 hq).1; simpa [strsC] using this) hq
      simpa using this
    refine T_fin ?_
    simp only [push_cast, reduceIte, Nat.reduceMul, Nat.reduceEqDiff, Nat.reduceAdd, Nat.reduceLT, Nat.reduceLeDiff, reduceCtorEq, Int.reduceToNat]
    refine ⟨_, fun _ => (greatSig_fv WG (kS c.sig)).q rfl, ?_⟩
    simp only [push_cast, reduceIte, Nat.reduceMul, Nat.reduceEqDiff, Nat.reduceAdd, Nat.reduceLT, Nat.reduceLeDiff, reduceCtorEq, Int.reduceToNat, greatC, hn]
end Go.Proofs.YtiemcodllaepbaaGreatDoor

namespace Go.Proofs.YtiemcodllaepbaaGreatDoor
open Go Go.Gp

def row64 (x : PV) : Prop := ∃ a b c d : Int, x = .agg [.v (.int .u64 a), .v (.int .u64 b), .v (.int .u64 c), .v (.int .u64 d)]
def row32 (x : PV) : Prop := ∃ a b : Int, x = .agg [.v (.int .u32 a), .v (.int .u32 b)]
def row8 (x : PV) : Prop := ∃ (a : Int) (r : List PV), r.length = 15 ∧ x = .agg (.v (.int .u8 a) :: r)
theorem set_all {Q : PV → Prop} {xs : List PV} {i : Nat} {y : PV} (h : ∀ x ∈ xs, Q x) (hy : Q y) : ∀ x ∈ xs.set i y, Q x := fun x hx => by
  rcases List.mem_or_eq_of_mem_set hx with h1 | rfl
  · exact h x h1
  · exact hy

set_option maxHeartbeats 16000000 in
theorem spoil_ct (WG : World) (c a b : Crt) (hc : OkC c) : CallT Tryz.prog WG 18 [twinV c 3] [(0, .box (boxC a)), (1, .box (boxC b)), (2, .box (boxC a)), (3, .arr 4 (c.res.v4.map spanP) true), (4, .arr 4 (c.res.v6.map spanP) true), (5, .arr 2 (c.res.as_.map asP) true), (6, .arr 16 (c.sig.chains.map shortP) true), (7, .arr 16 (c.sig.path.map shortP) true), (8, .box (twinL c 3))] 9
    (fun _ t n => ∃ y z, t = [(0, .box (boxC a)), (2, .box (boxC a)), (7, y), (9, z)] ∧ n = 10) noP := by
  have h4 := hc.res.n4
  have h6 := hc.res.n6
  have hA := hc.res.nas
  have hC := hc.sig.nc
  have hP := hc.sig.np
  refine CallT_fnT Tryz.func18 (rs := []) (n := 80) rfl rfl (Nat.le_of_ble_eq_true rfl) rfl ?_
  refine T_seqC ?_
  simp only [push_cast, reduceIte, Nat.reduceMul, Nat.reduceEqDiff, Nat.reduceAdd, Nat.reduceLT, Nat.reduceLeDiff, reduceCtorEq, Int.reduceToNat]
  refine T_seqC ?_
  simp only [push_cast, reduceIte, Nat.reduceMul, Nat.reduceEqDiff, Nat.reduceAdd, Nat.reduceLT, Nat.reduceLeDiff, reduceCtorEq, Int.reduceToNat]
  refine T_loopR (fun p : Nat × List PV => ⟨[(1, .ref 9 0), (2, vI p.1)], [(0, .box (boxC a)), (2, .box (boxC a)), (3, .arr 4 p.2 true), (5, .arr 2 (c.res.as_.map asP) true), (6, .arr 16 (c.sig.chains.map shortP) true), (7, .arr 16 (c.sig.path.map shortP) true), (9, .box (twinL c 3))], 10, 9, 80⟩) (fun p => p.1 ≤ c.res.v4.length ∧ p.2.length = c.res.v4.length ∧ ∀ x ∈ p.2, row64 x) (fun p => c.res.v4.length - p.1) (0, c.res.v4.map spanP) [] ⟨Nat.zero_le _, by simp, by rintro _ hx; obtain ⟨s, _, rfl⟩ := List.mem_map.1 hx; exact ⟨_, _, _, _, rfl⟩⟩ (by simp [LeR, rnf, aget, envR, tabR, injR, notIn, loR, V.rn, V.rnL, V.bd, V.bdL, Blk.rn, Blk.bd, envRn, envBd]) (fun p hp => ?_)
  simp only [push_cast, reduceIte, Nat.reduceMul, Nat.reduceEqDiff, Nat.reduceAdd, Nat.reduceLT, Nat.reduceLeDiff, reduceCtorEq, Int.reduceToNat]
  refine ⟨fun h1 => ?_, fun h1 => ?_⟩
  · have h2 : p.1 < c.res.v4.length := by simpa using h1
    obtain ⟨hp1, hp2, hp3⟩ := hp
    have hg : p.2[p.1]? = some p.2[p.1] := List.getElem?_eq_getElem (by omega)
    obtain ⟨x1, x2, x3, x4, hx⟩ := hp3 _ (List.mem_of_getElem? hg)
    rw [hx] at hg
    simp only [push_cast, reduceIte, Nat.reduceMul, Nat.reduceEqDiff, Nat.reduceAdd, Nat.reduceLT, Nat.reduceLeDiff, reduceCtorEq, Int.reduceToNat, hg]
    refine ⟨by omega, by omega, (p.1 + 1, p.2.set p.1 (.agg [.v (.int .u64 x1), .v (.int .u64 (IntKind.u64.wrap (x2 + 1))), .v (.int .u64 x3), .v (.int .u64 x4)])), ⟨by omega, by simpa using hp2, set_all hp3 ⟨_, _, _, _, rfl⟩⟩, by omega, [], ?_⟩
    simp [LeR, rnf, aget, envR, tabR, injR, notIn, loR, V.rn, V.rnL, V.bd, V.bdL, Blk.rn, Blk.bd, envRn, envBd, setE, putP, wrap_i64 ((p.1 : Int) + 1) (by omega) (by omega)]
  · clear hp h1
    refine T_seqC ?_
    simp only [push_cast, reduceIte, Nat.reduceMul, Nat.reduceEqDiff, Nat.reduceAdd, Nat.reduceLT, Nat.reduceLeDiff, reduceCtorEq, Int.reduceToNat]
    refine T_loopR (fun p : Nat × List PV => ⟨[(1, .ref 9 0), (3, vI p.1)], [(0, .box (boxC a)), (2, .box (boxC a)), (5, .arr 2 p.2 true), (6, .arr 16 (c.sig.chains.map shortP) true), (7, .arr 16 (c.sig.path.map shortP) true), (9, .box (twinL c 3))], 10, 9, 80⟩) (fun p => p.1 ≤ c.res.as_.length ∧ p.2.length = c.res.as_.length ∧ ∀ x ∈ p.2, row32 x) (fun p => c.res.as_.length - p.1) (0, c.res.as_.map asP) [] ⟨Nat.zero_le _, by simp, by rintro _ hx; obtain ⟨s, _, rfl⟩ := List.mem_map.1 hx; exact ⟨_, _, rfl⟩⟩ (by simp [LeR, rnf, aget, envR, tabR, injR, notIn, loR, V.rn, V.rnL, V.bd, V.bdL, Blk.rn, Blk.bd, envRn, envBd]) (fun p hp => ?_)
    simp only [push_cast, reduceIte, Nat.reduceMul, Nat.reduceEqDiff, Nat.reduceAdd, Nat.reduceLT, Nat.reduceLeDiff, reduceCtorEq, Int.reduceToNat]
    refine ⟨fun h1 => ?_, fun h1 => ?_⟩
    · have h2 : p.1 < c.res.as_.length := by simpa using h1
      obtain ⟨hp1, hp2, hp3⟩ := hp
      have hg : p.2[p.1]? = some p.2[p.1] := List.getElem?_eq_getElem (by omega)
      obtain ⟨x1, x2, hx⟩ := hp3 _ (List.mem_of_getElem? hg)
      rw [hx] at hg
      simp only [push_cast, reduceIte, Nat.reduceMul, Nat.reduceEqDiff, Nat.reduceAdd, Nat.reduceLT, Nat.reduceLeDiff, reduceCtorEq, Int.reduceToNat, hg]
      refine ⟨by omega, by omega, (p.1 + 1, p.2.set p.1 (.agg [.v (.int .u32 (IntKind.u32.wrap (x1 + 1))), .v (.int .u32 x2)])), ⟨by omega, by simpa using hp2, set_all hp3 ⟨_, _, rfl⟩⟩, by omega, [], ?_⟩
      simp [LeR, rnf, aget, envR, tabR, injR, notIn, loR, V.rn, V.rnL, V.bd, V.bdL, Blk.rn, Blk.bd, envRn, envBd, setE, putP, wrap_i64 ((p.1 : Int) + 1) (by omega) (by omega)]
    · clear hp h1
      refine T_seqC ?_
      simp only [push_cast, reduceIte, Nat.reduceMul, Nat.reduceEqDiff, Nat.reduceAdd, Nat.reduceLT, Nat.reduceLeDiff, reduceCtorEq, Int.reduceToNat]
      refine T_loopR (fun p : Nat × List PV => ⟨[(1, .ref 9 0), (4, vI p.1)], [(0, .box (boxC a)), (2, .box (boxC a)), (6, .arr 16 p.2 true), (7, .arr 16 (c.sig.path.map shortP) true), (9, .box (twinL c 3))], 10, 9, 80⟩) (fun p => p.1 ≤ c.sig.chains.length ∧ p.2.length = c.sig.chains.length ∧ ∀ x ∈ p.2, row8 x) (fun p => c.sig.chains.length - p.1) (0, c.sig.chains.map shortP) [] ⟨Nat.zero_le _, by simp, by rintro _ hx; obtain ⟨s, hs, rfl⟩ := List.mem_map.1 hx; have := hc.sig.chains s hs; match s, this with | y :: r, hr => exact ⟨y, r.map fun n : Nat => pU8 n, by simpa using hr, rfl⟩⟩ (by simp [LeR, rnf, aget, envR, tabR, injR, notIn, loR, V.rn, V.rnL, V.bd, V.bdL, Blk.rn, Blk.bd, envRn, envBd]) (fun p hp => ?_)
      simp only [push_cast, reduceIte, Nat.reduceMul, Nat.reduceEqDiff, Nat.reduceAdd, Nat.reduceLT, Nat.reduceLeDiff, reduceCtorEq, Int.reduceToNat]
      refine ⟨fun h1 => ?_, fun h1 => ?_⟩
      · have h2 : p.1 < c.sig.chains.length := by simpa using h1
        obtain ⟨hp1, hp2, hp3⟩ := hp
        have hg : p.2[p.1]? = some p.2[p.1] := List.getElem?_eq_getElem (by omega)
        obtain ⟨x1, r, hr, hx⟩ := hp3 _ (List.mem_of_getElem? hg)
        rw [hx] at hg
        refine T_drawS [10] [] mixed (by kernel_rfl) ?_
        simp only [push_cast, reduceIte, Nat.reduceMul, Nat.reduceEqDiff, Nat.reduceAdd, Nat.reduceLT, Nat.reduceLeDiff, reduceCtorEq, Int.reduceToNat, hg]
        refine ⟨by omega, ⟨by omega, by first | omega | (simp; omega) | simp⟩, by omega, ⟨by omega, by first | omega | (simp; omega) | simp⟩, (p.1 + 1, p.2.set p.1 (.agg (.v (.int .u8 (IntKind.u8.wrap (x1 + 1))) :: r))), ⟨by omega, by simpa using hp2, set_all hp3 ⟨_, _, hr, rfl⟩⟩, by omega, [], ?_⟩
        simp [LeR, rnf, aget, envR, tabR, injR, notIn, loR, V.rn, V.rnL, V.bd, V.bdL, Blk.rn, Blk.bd, envRn, envBd, setE, putP, wrap_i64 ((p.1 : Int) + 1) (by omega) (by omega)]
      · clear hp h1
        refine T_fin ?_
        simp only [push_cast, reduceIte, Nat.reduceMul, Nat.reduceEqDiff, Nat.reduceAdd, Nat.reduceLT, Nat.reduceLeDiff, reduceCtorEq, Int.reduceToNat]
        refine T_loopR (fun p : Nat × List PV => ⟨[(1, .ref 9 0), (5, vI p.1)], [(0, .box (boxC a)), (2, .box (boxC a)), (7, .arr 16 p.2 true), (9, .box (twinL c 3))], 10, 9, 80⟩) (fun p => p.1 ≤ c.sig.path.length ∧ p.2.length = c.sig.path.length ∧ ∀ x ∈ p.2, row8 x) (fun p => c.sig.path.length - p.1) (0, c.sig.path.map shortP) [] ⟨Nat.zero_le _, by simp, by rintro _ hx; obtain ⟨s, hs, rfl⟩ := List.mem_map.1 hx; have := hc.sig.path s hs; match s, this with | y :: r, hr => exact ⟨y, r.map fun n : Nat => pU8 n, by simpa using hr, rfl⟩⟩ (by simp [LeR, rnf, aget, envR, tabR, injR, notIn, loR, V.rn, V.rnL, V.bd, V.bdL, Blk.rn, Blk.bd, envRn, envBd]) (fun p hp => ?_)
        simp only [push_cast, reduceIte, Nat.reduceMul, Nat.reduceEqDiff, Nat.reduceAdd, Nat.reduceLT, Nat.reduceLeDiff, reduceCtorEq, Int.reduceToNat]
        refine ⟨fun h1 => ?_, fun h1 => ?_⟩
        · have h2 : p.1 < c.sig.path.length := by simpa using h1
          obtain ⟨hp1, hp2, hp3⟩ := hp
          have hg : p.2[p.1]? = some p.2[p.1] := List.getElem?_eq_getElem (by omega)
          obtain ⟨x1, r, hr, hx⟩ := hp3 _ (List.mem_of_getElem? hg)
          rw [hx] at hg
          refine T_drawS [10] [] mixed (by kernel_rfl) ?_
          simp only [push_cast, reduceIte, Nat.reduceMul, Nat.reduceEqDiff, Nat.reduceAdd, Nat.reduceLT, Nat.reduceLeDiff, reduceCtorEq, Int.reduceToNat, hg]
          refine ⟨by omega, ⟨by omega, by first | omega | (simp; omega) | simp⟩, by omega, ⟨by omega, by first | omega | (simp; omega) | simp⟩, (p.1 + 1, p.2.set p.1 (.agg (.v (.int .u8 (IntKind.u8.wrap (x1 + 1))) :: r))), ⟨by omega, by simpa using hp2, set_all hp3 ⟨_, _, hr, rfl⟩⟩, by omega, [], ?_⟩
          simp [LeR, rnf, aget, envR, tabR, injR, notIn, loR, V.rn, V.rnL, V.bd, V.bdL, Blk.rn, Blk.bd, envRn, envBd, setE, putP, wrap_i64 ((p.1 : Int) + 1) (by omega) (by omega)]
        · clear hp h1
          exact ⟨_, _, rfl⟩
end Go.Proofs.YtiemcodllaepbaaGreatDoor
