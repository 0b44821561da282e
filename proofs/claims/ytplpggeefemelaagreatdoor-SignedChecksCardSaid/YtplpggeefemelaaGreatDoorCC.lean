/-
  Places: strings that are empty or locators of a kind.
  Copies of lists and of certificates.
  Certificates compared by the program; large certificates.
  Large certificates; spoiling a copy.
  A copy is spoilt: what else there is stays.
  Octets: lengths, sizes, copies.
-/
import Derived.Test.YtplpggeefemelaaGreatDoorCB
import Derived.Test.YtplpggeefemelaaGreatDoorMB
import Derived.Test.YtplpggeefemelaaGreatDoorOA
import Derived.Test.YtplpggeefemelaaGreatDoorKC
set_option linter.unusedSimpArgs false
set_option linter.unusedVariables false
set_option maxRecDepth 20000
namespace Go.Proofs.YtplpggeefemelaaGreatDoor
open Go Go.Gp

set_option maxHeartbeats 4000000 in
theorem isFile_fv (WG : World) (l : Locator) : FV Tryz.prog WG 96 [locP l] (vB (!l.dir)) := by
  refine CallT.pure rfl (CallT_fn Tryz.func96 (rs := [.tmp 2]) (n := 6) rfl rfl (Nat.le_of_ble_eq_true rfl) rfl ?_)
  simp only [locP, push_cast, reduceIte, Nat.reduceMul, Nat.reduceEqDiff, Nat.reduceAdd, Nat.reduceLT, Nat.reduceLeDiff, reduceCtorEq, Int.reduceToNat]
set_option maxHeartbeats 4000000 in
theorem isDir_fv (WG : World) (l : Locator) : FV Tryz.prog WG 95 [locP l] (vB l.dir) := by
  refine CallT.pure rfl (CallT_fn Tryz.func95 (rs := [.tmp 2]) (n := 5) rfl rfl (Nat.le_of_ble_eq_true rfl) rfl ?_)
  simp only [locP, push_cast, reduceIte, Nat.reduceMul, Nat.reduceEqDiff, Nat.reduceAdd, Nat.reduceLT, Nat.reduceLeDiff, reduceCtorEq, Int.reduceToNat]
def noteB (l : Locator) : Bool := !l.dir && decide (l.scheme = 2)
set_option maxHeartbeats 4000000 in
theorem isNote_fv (WG : World) (l : Locator) : FV Tryz.prog WG 97 [locP l] (vB (noteB l)) := by
  refine CallT.pure rfl (CallT_fn Tryz.func97 (rs := [.tmp 2]) (n := 11) rfl rfl (Nat.le_of_ble_eq_true rfl) rfl ?_)
  simp only [locP, push_cast, reduceIte, Nat.reduceMul, Nat.reduceEqDiff, Nat.reduceAdd, Nat.reduceLT, Nat.reduceLeDiff, reduceCtorEq, Int.reduceToNat, noteB]

def placeB (p : Locator → Bool) (s : ByteArray) : Bool := strEq s eB || (match lParse s with | none => false | some l => p l)
set_option maxHeartbeats 8000000 in
theorem place_fv (WG : World) (g : GW WG) (ge : GE WG) (acc : FuncId) (p : Locator → Bool) (hc : callable Tryz.prog acc = true) (ha : ∀ l, FV Tryz.prog WG acc [locP l] (vB (p l))) (s : ByteArray) : FV Tryz.prog WG 94 [pS s, .clo (.func acc) [] []] (vB (placeB p s)) := by
  refine CallT.pure rfl (CallT_fn Tryz.func94 (rs := [.tmp 4]) (n := 21) rfl rfl (Nat.le_of_ble_eq_true rfl) rfl ?_)
  simp only [push_cast, reduceIte, Nat.reduceMul, Nat.reduceEqDiff, Nat.reduceAdd, Nat.reduceLT, Nat.reduceLeDiff, reduceCtorEq, Int.reduceToNat]
  refine ⟨fun h => ?_, fun h => ?_⟩
  · simp only [placeB, eB, h, Bool.true_or]
  · have hp : placeB p s = (match lParse s with | none => false | some l => p l) := by simp only [placeB, eB, h, Bool.false_or]
    refine parse_call (lParse_ct0 WG g ge s) (fun h => ?_) (fun l h => ?_)
    · simp only [locZ, push_cast, reduceIte, Nat.reduceMul, Nat.reduceEqDiff, Nat.reduceAdd, Nat.reduceLT, Nat.reduceLeDiff, reduceCtorEq, Int.reduceToNat, hc]
      refine ⟨vB false, fun h => by simp at h, ?_⟩
      simp only [push_cast, reduceIte, Nat.reduceMul, Nat.reduceEqDiff, Nat.reduceAdd, Nat.reduceLT, Nat.reduceLeDiff, reduceCtorEq, Int.reduceToNat, hp, h]
    · simp only [locO, arrO, push_cast, reduceIte, Nat.reduceMul, Nat.reduceEqDiff, Nat.reduceAdd, Nat.reduceLT, Nat.reduceLeDiff, reduceCtorEq, Int.reduceToNat, hc]
      refine ⟨_, CallT.borrow (ha l) rfl (by simp [snapT, snap, snapL, snap1, aget, locP, List.take_of_length_le]), ?_⟩
      simp only [push_cast, reduceIte, Nat.reduceMul, Nat.reduceEqDiff, Nat.reduceAdd, Nat.reduceLT, Nat.reduceLeDiff, reduceCtorEq, Int.reduceToNat, hp, h]

set_option maxHeartbeats 8000000 in
theorem rPlace_fv (WG : World) (g : GW WG) (ge : GE WG) (s : ByteArray) (d : Bool) : FV Tryz.prog WG 103 [pS s, pB d] (vB (placeB (fun l => l.dir == d) s)) := by
  refine CallT.pure rfl (CallT_fn Tryz.func103 (rs := [.tmp 4]) (n := 22) rfl rfl (Nat.le_of_ble_eq_true rfl) rfl ?_)
  simp only [push_cast, reduceIte, Nat.reduceMul, Nat.reduceEqDiff, Nat.reduceAdd, Nat.reduceLT, Nat.reduceLeDiff, reduceCtorEq, Int.reduceToNat]
  refine ⟨fun h => ?_, fun h => ?_⟩
  · simp only [placeB, eB, h, Bool.true_or]
  · have hp : placeB (fun l => l.dir == d) s = (match lParse s with | none => false | some l => l.dir == d) := by simp only [placeB, eB, h, Bool.false_or]
    refine parse_call (o := lParse s) (by rw [← parse_eq]; exact refParse_ct0 WG s) (fun h => ?_) (fun l h => ?_)
    · simp only [locZ, push_cast, reduceIte, Nat.reduceMul, Nat.reduceEqDiff, Nat.reduceAdd, Nat.reduceLT, Nat.reduceLeDiff, reduceCtorEq, Int.reduceToNat, hp, h]
      simp
    · simp only [locO, arrO, push_cast, reduceIte, Nat.reduceMul, Nat.reduceEqDiff, Nat.reduceAdd, Nat.reduceLT, Nat.reduceLeDiff, reduceCtorEq, Int.reduceToNat, hp, h]

theorem placeB_dir (s : ByteArray) : placeB (fun l => l.dir == true) s = placeB (fun l => l.dir) s := by simp [placeB]
theorem placeB_file (s : ByteArray) : placeB (fun l => l.dir == false) s = placeB (fun l => !l.dir) s := by
  unfold placeB; cases lParse s with
  | none => rfl
  | some l => simp
set_option maxHeartbeats 8000000 in
theorem rSecure_fv (WG : World) (g : GW WG) (ge : GE WG) (s : ByteArray) : FV Tryz.prog WG 104 [pS s] (vB (placeB noteB s)) := by
  refine CallT.pure rfl (CallT_fn Tryz.func104 (rs := [.tmp 2]) (n := 21) rfl rfl (Nat.le_of_ble_eq_true rfl) rfl ?_)
  simp only [push_cast, reduceIte, Nat.reduceMul, Nat.reduceEqDiff, Nat.reduceAdd, Nat.reduceLT, Nat.reduceLeDiff, reduceCtorEq, Int.reduceToNat]
  refine parse_call (o := lParse s) (by rw [← parse_eq]; exact refParse_ct0 WG s) (fun h => ?_) (fun l h => ?_)
  · simp only [locZ, push_cast, reduceIte, Nat.reduceMul, Nat.reduceEqDiff, Nat.reduceAdd, Nat.reduceLT, Nat.reduceLeDiff, reduceCtorEq, Int.reduceToNat]
    refine ⟨_, fun _ => (rPlace_fv WG g ge s false).q rfl, ?_⟩
    simp only [push_cast, reduceIte, Nat.reduceMul, Nat.reduceEqDiff, Nat.reduceAdd, Nat.reduceLT, Nat.reduceLeDiff, reduceCtorEq, Int.reduceToNat, placeB, h, eB, noteB]
    cases strEq s ⟨#[]⟩ <;> simp
  · simp only [locO, arrO, push_cast, reduceIte, Nat.reduceMul, Nat.reduceEqDiff, Nat.reduceAdd, Nat.reduceLT, Nat.reduceLeDiff, reduceCtorEq, Int.reduceToNat]
    refine ⟨_, fun _ => (rPlace_fv WG g ge s false).q rfl, ?_⟩
    simp only [push_cast, reduceIte, Nat.reduceMul, Nat.reduceEqDiff, Nat.reduceAdd, Nat.reduceLT, Nat.reduceLeDiff, reduceCtorEq, Int.reduceToNat, placeB, h, eB, noteB]
    cases strEq s ⟨#[]⟩ <;> simp
end Go.Proofs.YtplpggeefemelaaGreatDoor

namespace Go.Gp
section
variable {P : Program} {WG : World}
/-- A result that is nil, told as an own array without memory. -/
theorem CallT.ownNil (s : Nat) {f : FuncId} {vs : List V} {tab : Tab} {nx : Nat} {K KP : V → Tab → Nat → Prop}
    (h : CallT P WG f vs tab nx (fun r t n => K r t n ∨ (r = .p (.v (.slice none 0 0)) ∧ K (.osl n s 0 0 none) (aset t n (.arr s [] true)) (n + 1))) KP) : CallT P WG f vs tab nx K KP := by
  intro C j w ms h1 h2 h3 h4 hm0 hvs
  refine (h C j w ms h1 h2 h3 h4 hm0 hvs).mono fun e w' he => ?_
  cases e with
  | panicked ch => exact he
  | outgrown => exact he.elim
  | returned m =>
    obtain ⟨j1, t, n, r, hm, hv, hK⟩ := he
    rcases hK with hK | ⟨rfl, hK⟩
    · exact ⟨j1, t, n, r, hm, hv, hK⟩
    · let C' : Ctx := { C with rnd := none, base := [] }
      have hr : ERel WG C' j1 ⟨[(0, .p (.v (.slice none 0 0)))], t, n, C.nb, 1⟩ { tmps := #[m], defers := [] } w' := by
        refine ⟨{ nb := hm.nb, low := hm.low, blk := hm.blk, apart := hm.apart, agree := hm.agree, own := hm.own, ownG := hm.ownG, size := hm.size, keep := hm.keep, os := hm.os, tape := hm.tape, output := hm.output, glob := hm.glob, rd := hm.rd }, Nat.le_refl _, hm.nb, fun q v hq => ?_, rfl, ⟨⟨[], rfl, List.nodup_nil, by simp⟩, fun l hl => by cases hl⟩⟩
        simp only [aget] at hq
        split at hq
        · rename_i e; subst e; cases hq; exact ⟨m, rfl, hv⟩
        · cases hq
      obtain ⟨j2, hr2⟩ := Weak.nilTmp (σ := ⟨[(0, .p (.v (.slice none 0 0)))], t, n, C.nb, 1⟩) 0 s rfl C' j1 _ w' hr
      have hm2 := hr2.mem
      obtain ⟨m', e1, e2⟩ := hr2.env 0 (.osl n s 0 0 none) rfl
      have : m' = m := by simpa using e1.symm
      subst this
      exact ⟨j2, aset t n (.arr s [] true), n + 1, .osl n s 0 0 none, { nb := hm2.nb, low := hm2.low, blk := hm2.blk, apart := hm2.apart, agree := hm2.agree, own := hm2.own, ownG := hm2.ownG, size := hm2.size, keep := hm2.keep, os := hm2.os, tape := hm2.tape, output := hm2.output, glob := hm2.glob, rd := hm2.rd }, e2, hK⟩
end
end Go.Gp
namespace Go.Proofs.YtplpggeefemelaaGreatDoor
open Go Go.Gp

/-- An own array with these elements. -/
def cloneK (s : Nat) (ys : List PV) : V → Tab → Nat → Prop := fun r t n => r = .osl 0 s 0 ys.length none ∧ t = [(0, .arr s ys true)] ∧ n = 1
theorem clone_call {WG : World} {f : FuncId} {x : PV} {s : Nat} {ys : List PV} (h : CallT Tryz.prog WG f ([x].map .p) [] 0 (cloneK s ys) noP) (tab : Tab) (nx : Nat) :
    CallT Tryz.prog WG f [.p x] tab nx (fun r t n => r = .osl nx s 0 ys.length none ∧ t = tab ++ [(nx, .arr s ys true)] ∧ n = nx + 1) noP :=
  CallT.frame (ps := [x]) h (fun r t n hq => by
    obtain ⟨rfl, rfl, rfl⟩ := hq
    simp [V.sh, tsh, Blk.sh]) (fun _ _ _ h => h.elim)

theorem clone_end {s : Nat} {ys : List PV} {n : Nat} (hn : ys.length = n) : tidyK 0 (fun r t n => cloneK s ys r t n ∨ r = .p (.v (.slice none 0 0)) ∧ cloneK s ys (.osl n s 0 0 none) (aset t n (.arr s [] true)) (n + 1)) (.osl 1 s 0 n none) [(1, .arr s ys true)] 2 := by
  refine ⟨[(0, 1)], .osl 0 s 0 n none, [(0, .arr s ys true)], 1, .inl ⟨by subst hn; rfl, rfl, rfl⟩, rfl, ?_, Nat.zero_le _, ?_⟩
  · simp [V.bd]
  · simp [LeR, rnf, aget, envR, tabR, injR, notIn, loR, V.rn, V.rnL, V.bd, V.bdL, Blk.rn, Blk.bd, envRn, envBd]
theorem clone_nil {s : Nat} {ys : List PV} (hn : ys = []) : tidyK 0 (fun r t n => cloneK s ys r t n ∨ r = .p (.v (.slice none 0 0)) ∧ cloneK s ys (.osl n s 0 0 none) (aset t n (.arr s [] true)) (n + 1)) (.p (.v (.slice none 0 0))) [] 0 := by
  subst hn
  refine ⟨[], .p (.v (.slice none 0 0)), [], 0, .inr ⟨rfl, rfl, rfl, rfl⟩, rfl, ?_, Nat.zero_le _, ?_⟩
  · simp [V.bd]
  · simp [LeR, rnf, aget, envR, tabR, injR, notIn, loR, V.rn, V.rnL, V.bd, V.bdL, Blk.rn, Blk.bd, envRn, envBd]

set_option maxHeartbeats 8000000 in
theorem cloneSpan_ct (WG : World) (l : List (Nat × Nat)) (hl : l.length < 1000000) : CallT Tryz.prog WG 86 ([spansP l].map .p) [] 0 (cloneK 4 (l.map spanP)) noP := by
  refine CallT.ownNil 4 (CallT.tidy (CallT_fn Tryz.func86 (rs := [.tmp 2]) (n := 8) rfl rfl (Nat.le_of_ble_eq_true rfl) rfl ?_))
  simp only [push_cast, reduceIte, Nat.reduceMul, Nat.reduceEqDiff, Nat.reduceAdd, Nat.reduceLT, Nat.reduceLeDiff, reduceCtorEq, Int.reduceToNat]
  exact ⟨⟨by first | omega | (simp [bytesP]; omega), clone_end (by simp [bytesP])⟩, fun h => clone_nil h⟩
set_option maxHeartbeats 8000000 in
theorem cloneAs_ct (WG : World) (l : List (Nat × Nat)) (hl : l.length < 1000000) : CallT Tryz.prog WG 87 ([.sl 2 (l.map asP)].map .p) [] 0 (cloneK 2 (l.map asP)) noP := by
  refine CallT.ownNil 2 (CallT.tidy (CallT_fn Tryz.func87 (rs := [.tmp 2]) (n := 8) rfl rfl (Nat.le_of_ble_eq_true rfl) rfl ?_))
  simp only [push_cast, reduceIte, Nat.reduceMul, Nat.reduceEqDiff, Nat.reduceAdd, Nat.reduceLT, Nat.reduceLeDiff, reduceCtorEq, Int.reduceToNat]
  exact ⟨⟨by first | omega | (simp [bytesP]; omega), clone_end (by simp [bytesP])⟩, fun h => clone_nil h⟩
set_option maxHeartbeats 8000000 in
theorem cloneShort_ct (WG : World) (l : List (List Nat)) (hl : l.length < 1000000) : CallT Tryz.prog WG 41 ([shortsP l].map .p) [] 0 (cloneK 16 (l.map shortP)) noP := by
  refine CallT.ownNil 16 (CallT.tidy (CallT_fn Tryz.func41 (rs := [.tmp 2]) (n := 8) rfl rfl (Nat.le_of_ble_eq_true rfl) rfl ?_))
  simp only [push_cast, reduceIte, Nat.reduceMul, Nat.reduceEqDiff, Nat.reduceAdd, Nat.reduceLT, Nat.reduceLeDiff, reduceCtorEq, Int.reduceToNat]
  exact ⟨⟨by first | omega | (simp [bytesP]; omega), clone_end (by simp [bytesP])⟩, fun h => clone_nil h⟩
set_option maxHeartbeats 8000000 in
theorem cloneByte_ct (WG : World) (l : List UInt8) (hl : l.length < 1000000) : CallT Tryz.prog WG 178 ([.sl 1 (bytesP l)].map .p) [] 0 (cloneK 1 (bytesP l)) noP := by
  refine CallT.ownNil 1 (CallT.tidy (CallT_fn Tryz.func178 (rs := [.tmp 2]) (n := 8) rfl rfl (Nat.le_of_ble_eq_true rfl) rfl ?_))
  simp only [push_cast, reduceIte, Nat.reduceMul, Nat.reduceEqDiff, Nat.reduceAdd, Nat.reduceLT, Nat.reduceLeDiff, reduceCtorEq, Int.reduceToNat]
  exact ⟨⟨by first | omega | (simp [bytesP]; omega), clone_end (by simp [bytesP])⟩, fun h => clone_nil h⟩

/-- A copy of a certificate: its lists are own arrays. -/
abbrev twinL (c : Crt) (b : Nat) : List V := [.p (pU64 c.serial), .p (pS c.issuer), .p (pS c.subject), .p (pI c.frm), .p (pI c.til), .p (pU8 (c.root 0)), .p (pU8 (c.root 1)), .p (pU8 (c.root 2)), .p (pU8 (c.root 3)), .p (pU8 (c.root 4)), .p (pU8 (c.root 5)), .p (pU8 (c.root 6)), .p (pU8 (c.root 7)), .p (pU8 (c.root 8)), .p (pU8 (c.root 9)), .p (pU8 (c.root 10)), .p (pU8 (c.root 11)), .p (pU8 (c.root 12)), .p (pU8 (c.root 13)), .p (pU8 (c.root 14)), .p (pU8 (c.root 15)), .p (pI c.height), .p (pB c.ca), .p (pB c.inherit),
  .osl b 4 0 c.res.v4.length none, .osl (b + 1) 4 0 c.res.v6.length none, .osl (b + 2) 2 0 c.res.as_.length none, .p (pS c.repo), .p (pS c.manifest), .p (pS c.notify), .p (pS c.crl), .p (pS c.parent), .p (pI c.sig.index), .osl (b + 3) 16 0 c.sig.chains.length none, .osl (b + 4) 16 0 c.sig.path.length none]
abbrev twinV (c : Crt) (b : Nat) : V := .agg (twinL c b)
def twinK (c : Crt) : V → Tab → Nat → Prop := fun r t n => r = twinV c 0 ∧ t = [(0, .arr 4 (c.res.v4.map spanP) true), (1, .arr 4 (c.res.v6.map spanP) true), (2, .arr 2 (c.res.as_.map asP) true), (3, .arr 16 (c.sig.chains.map shortP) true), (4, .arr 16 (c.sig.path.map shortP) true)] ∧ n = 5

set_option maxHeartbeats 16000000 in
theorem certTwin_ct (WG : World) (c : Crt) (hc : OkC c) : CallT Tryz.prog WG 40 ([crtP c].map .p) [] 0 (twinK c) noP := by
  have h4 := hc.res.n4
  have h6 := hc.res.n6
  have hA := hc.res.nas
  have hC := hc.sig.nc
  have hP := hc.sig.np
  refine CallT.tidy (CallT_fnT Tryz.func40 (rs := [.cell 2 38]) (n := 30) rfl rfl (Nat.le_of_ble_eq_true rfl) rfl ?_)
  refine T_seqC ?_
  simp only [push_cast, reduceIte, Nat.reduceMul, Nat.reduceEqDiff, Nat.reduceAdd, Nat.reduceLT, Nat.reduceLeDiff, reduceCtorEq, Int.reduceToNat]
  refine T_seqC ?_
  simp only [push_cast, reduceIte, Nat.reduceMul, Nat.reduceEqDiff, Nat.reduceAdd, Nat.reduceLT, Nat.reduceLeDiff, reduceCtorEq, Int.reduceToNat]
  refine T_drawS [3, 7, 11, 14] [(6, 0), (10, 0), (10, 4)] mixed (by kernel_rfl) ?_
  simp only [push_cast, reduceIte, Nat.reduceMul, Nat.reduceEqDiff, Nat.reduceAdd, Nat.reduceLT, Nat.reduceLeDiff, reduceCtorEq, Int.reduceToNat]
  refine ⟨_, _, _, clone_call (cloneSpan_ct WG c.res.v4 h4) _ _, ?_⟩
  simp only [push_cast, reduceIte, Nat.reduceMul, Nat.reduceEqDiff, Nat.reduceAdd, Nat.reduceLT, Nat.reduceLeDiff, reduceCtorEq, Int.reduceToNat]
  refine ⟨_, _, _, clone_call (cloneSpan_ct WG c.res.v6 h6) _ _, ?_⟩
  simp only [push_cast, reduceIte, Nat.reduceMul, Nat.reduceEqDiff, Nat.reduceAdd, Nat.reduceLT, Nat.reduceLeDiff, reduceCtorEq, Int.reduceToNat]
  refine ⟨_, _, _, clone_call (cloneAs_ct WG c.res.as_ hA) _ _, ?_⟩
  simp only [push_cast, reduceIte, Nat.reduceMul, Nat.reduceEqDiff, Nat.reduceAdd, Nat.reduceLT, Nat.reduceLeDiff, reduceCtorEq, Int.reduceToNat]
  refine T_seqC ?_
  refine T_drawS [3, 7, 10, 13] [(6, 0)] mixed (by kernel_rfl) ?_
  simp only [push_cast, reduceIte, Nat.reduceMul, Nat.reduceEqDiff, Nat.reduceAdd, Nat.reduceLT, Nat.reduceLeDiff, reduceCtorEq, Int.reduceToNat]
  refine ⟨_, _, _, clone_call (cloneShort_ct WG c.sig.chains hC) _ _, ?_⟩
  simp only [push_cast, reduceIte, Nat.reduceMul, Nat.reduceEqDiff, Nat.reduceAdd, Nat.reduceLT, Nat.reduceLeDiff, reduceCtorEq, Int.reduceToNat]
  refine ⟨_, _, _, clone_call (cloneShort_ct WG c.sig.path hP) _ _, ?_⟩
  simp only [push_cast, reduceIte, Nat.reduceMul, Nat.reduceEqDiff, Nat.reduceAdd, Nat.reduceLT, Nat.reduceLeDiff, reduceCtorEq, Int.reduceToNat]
  refine T_seqC ?_
  simp only [push_cast, reduceIte, Nat.reduceMul, Nat.reduceEqDiff, Nat.reduceAdd, Nat.reduceLT, Nat.reduceLeDiff, reduceCtorEq, Int.reduceToNat]
  refine T_fin ?_
  simp only [push_cast, reduceIte, Nat.reduceMul, Nat.reduceEqDiff, Nat.reduceAdd, Nat.reduceLT, Nat.reduceLeDiff, reduceCtorEq, Int.reduceToNat]
  refine ⟨[(0, 2), (1, 3), (2, 4), (3, 5), (4, 6)], twinV c 0, _, 5, ⟨rfl, rfl, rfl⟩, rfl, ?_, Nat.zero_le _, ?_⟩
  · simp [V.bd, V.bdL]
  · simp [LeR, rnf, aget, envR, tabR, injR, notIn, loR, V.rn, V.rnL, V.bd, V.bdL, Blk.rn, Blk.bd, envRn, envBd]

set_option maxHeartbeats 8000000 in
theorem rResTwin_fv (WG : World) (r : Res) (h : OkR r) : FV Tryz.prog WG 85 [resP r] (.p (resP r)) := by
  have h4 := h.n4
  have h6 := h.n6
  have hA := h.nas
  refine CallT.pureS rfl (CallT_fnT Tryz.func85 (rs := [.cell 2 33]) (n := 16) rfl rfl (Nat.le_of_ble_eq_true rfl) rfl ?_)
  refine T_seqC ?_
  simp only [push_cast, reduceIte, Nat.reduceMul, Nat.reduceEqDiff, Nat.reduceAdd, Nat.reduceLT, Nat.reduceLeDiff, reduceCtorEq, Int.reduceToNat]
  refine T_seqC ?_
  refine T_drawS [3, 7, 11, 13] [(6, 0), (10, 0), (10, 4)] mixed (by kernel_rfl) ?_
  simp only [push_cast, reduceIte, Nat.reduceMul, Nat.reduceEqDiff, Nat.reduceAdd, Nat.reduceLT, Nat.reduceLeDiff, reduceCtorEq, Int.reduceToNat]
  refine ⟨by omega, by omega, by omega, ?_⟩
  refine T_fin ?_
  simp only [push_cast, reduceIte, Nat.reduceMul, Nat.reduceEqDiff, Nat.reduceAdd, Nat.reduceLT, Nat.reduceLeDiff, reduceCtorEq, Int.reduceToNat]
  simp [List.take_of_length_le]

set_option maxHeartbeats 8000000 in
theorem rTwinSig_fv (WG : World) (s : Sig) (h : OkS s) : FV Tryz.prog WG 33 [sigP (kS s)] (.p (sigP (kS s))) := by
  have hC := h.nc
  have hP := h.np
  refine CallT.pureS rfl (CallT_fnT Tryz.func33 (rs := [.cell 2 36]) (n := 14) rfl rfl (Nat.le_of_ble_eq_true rfl) rfl ?_)
  refine T_seqC ?_
  simp only [kS, push_cast, reduceIte, Nat.reduceMul, Nat.reduceEqDiff, Nat.reduceAdd, Nat.reduceLT, Nat.reduceLeDiff, reduceCtorEq, Int.reduceToNat]
  refine T_seqC ?_
  refine T_drawS [5, 9, 11] [(1, 6), (1, 10), (8, 0)] mixed (by kernel_rfl) ?_
  simp only [push_cast, reduceIte, Nat.reduceMul, Nat.reduceEqDiff, Nat.reduceAdd, Nat.reduceLT, Nat.reduceLeDiff, reduceCtorEq, Int.reduceToNat]
  refine ⟨by omega, by omega, ?_⟩
  refine T_fin ?_
  simp only [push_cast, reduceIte, Nat.reduceMul, Nat.reduceEqDiff, Nat.reduceAdd, Nat.reduceLT, Nat.reduceLeDiff, reduceCtorEq, Int.reduceToNat]
  simp [List.take_of_length_le]

set_option maxHeartbeats 8000000 in
theorem rCertTwin_fv (WG : World) (c : Crt) (h : OkC c) : FV Tryz.prog WG 38 [crtP c] (.p (crtP c)) := by
  refine CallT.pureS rfl (CallT_fnT Tryz.func38 (rs := [.cell 2 38]) (n := 12) rfl rfl (Nat.le_of_ble_eq_true rfl) rfl ?_)
  refine T_seqC ?_
  simp only [push_cast, reduceIte, Nat.reduceMul, Nat.reduceEqDiff, Nat.reduceAdd, Nat.reduceLT, Nat.reduceLeDiff, reduceCtorEq, Int.reduceToNat]
  refine T_seqC ?_
  simp only [push_cast, reduceIte, Nat.reduceMul, Nat.reduceEqDiff, Nat.reduceAdd, Nat.reduceLT, Nat.reduceLeDiff, reduceCtorEq, Int.reduceToNat]
  refine (rResTwin_fv WG c.res h.res).call rfl ?_
  simp only [push_cast, reduceIte, Nat.reduceMul, Nat.reduceEqDiff, Nat.reduceAdd, Nat.reduceLT, Nat.reduceLeDiff, reduceCtorEq, Int.reduceToNat]
  refine T_seqC ?_
  simp only [push_cast, reduceIte, Nat.reduceMul, Nat.reduceEqDiff, Nat.reduceAdd, Nat.reduceLT, Nat.reduceLeDiff, reduceCtorEq, Int.reduceToNat]
  refine (rTwinSig_fv WG c.sig h.sig).call rfl ?_
  simp only [kS, push_cast, reduceIte, Nat.reduceMul, Nat.reduceEqDiff, Nat.reduceAdd, Nat.reduceLT, Nat.reduceLeDiff, reduceCtorEq, Int.reduceToNat]
  refine T_seqC ?_
  simp only [push_cast, reduceIte, Nat.reduceMul, Nat.reduceEqDiff, Nat.reduceAdd, Nat.reduceLT, Nat.reduceLeDiff, reduceCtorEq, Int.reduceToNat]
  refine T_fin ?_
  simp only [push_cast, reduceIte, Nat.reduceMul, Nat.reduceEqDiff, Nat.reduceAdd, Nat.reduceLT, Nat.reduceLeDiff, reduceCtorEq, Int.reduceToNat]
end Go.Proofs.YtplpggeefemelaaGreatDoor

namespace Go.Proofs.YtplpggeefemelaaGreatDoor
open Go Go.Gp

set_option maxHeartbeats 8000000 in
theorem eqShorts_fv (WG : World) (a b : List (List Nat)) (ha : ∀ x ∈ a, x.length = 16) (hb : ∀ x ∈ b, x.length = 16) (hn : a.length < 1000000) : FV Tryz.prog WG 50 [.sl 16 (a.map shortP), .sl 16 (b.map shortP)] (vB (decide (a = b))) := by
  refine CallT.pure rfl (CallT_fn Tryz.func50 (rs := [.tmp 4]) (n := 26) rfl rfl (Nat.le_of_ble_eq_true rfl) rfl ?_)
  simp only [push_cast, reduceIte, Nat.reduceMul, Nat.reduceEqDiff, Nat.reduceAdd, Nat.reduceLT, Nat.reduceLeDiff, reduceCtorEq, Int.reduceToNat]
  refine ⟨fun h => ?_, fun h => ?_⟩
  · have : ¬ a = b := fun e => by subst e; simp at h
    rw [decide_eq_false this]
  · have hl : a.length = b.length := by simp at h; omega
    refine T_loopS (fun i : Nat => ⟨[(0, .p (.sl 16 (a.map shortP))), (1, .p (.sl 16 (b.map shortP))), (12, vI a.length), (13, vI i)], [], 0, 0, 26⟩) (fun i => i ≤ a.length ∧ a.take i = b.take i) (fun i => a.length - i) 0 ⟨Nat.zero_le _, by simp⟩ (by simp [Le, subE, aget]) (fun i hi => ?_)
    simp only [push_cast, reduceIte, Nat.reduceMul, Nat.reduceEqDiff, Nat.reduceAdd, Nat.reduceLT, Nat.reduceLeDiff, reduceCtorEq, Int.reduceToNat]
    refine ⟨fun h1 => ?_, fun h1 => ?_⟩
    · have h2 : i < a.length := by simpa using h1
      have hga : a[i]? = some a[i] := List.getElem?_eq_getElem h2
      have hgb : b[i]? = some (b[i]'(by omega)) := List.getElem?_eq_getElem (by omega)
      have h16a := ha _ (List.mem_of_getElem? hga)
      have h16b := hb _ (List.mem_of_getElem? hgb)
      generalize a[i] = x at hga h16a
      generalize (b[i]'(by omega)) = y at hgb h16b
      refine T_drawS [] [] mixed (by kernel_rfl) ?_
      simp only [push_cast, reduceIte, Nat.reduceMul, Nat.reduceEqDiff, Nat.reduceAdd, Nat.reduceLT, Nat.reduceLeDiff, reduceCtorEq, Int.reduceToNat, List.getElem?_map, hga, hgb, h16a, h16b, pvs_short (h16a.trans h16b.symm)]
      refine ⟨by omega, by omega, ⟨fit_short 16 h16a, fit_short 16 h16b⟩, fun h3 => ?_, fun h3 => ⟨i + 1, ⟨by omega, ?_⟩, by omega, ?_⟩⟩
      · have hne : ¬ x = y := by simpa using h3
        have : ¬ a = b := fun e => by subst e; rw [hga] at hgb; cases hgb; exact hne rfl
        rw [decide_eq_false this]
      · have he : x = y := by simpa using h3
        rw [List.take_add_one, List.take_add_one, hga, hgb, hi.2, he]
      · simp [Le, subE, aget, wrap_i64 (i + 1) (by omega) (by omega)]
    · have : i = a.length := by simp at h1; omega
      subst this
      have : a = b := by have := hi.2; rwa [List.take_of_length_le (Nat.le_refl _), List.take_of_length_le (by omega)] at this
      rw [decide_eq_true this]

set_option maxHeartbeats 8000000 in
theorem eqSpans_fv (WG : World) (a b : List (Nat × Nat)) (hn : a.length < 1000000) : FV Tryz.prog WG 159 [spansP a, spansP b] (vB (decide (a = b))) := by
  refine CallT.pure rfl (CallT_fn Tryz.func159 (rs := [.tmp 4]) (n := 26) rfl rfl (Nat.le_of_ble_eq_true rfl) rfl ?_)
  simp only [push_cast, reduceIte, Nat.reduceMul, Nat.reduceEqDiff, Nat.reduceAdd, Nat.reduceLT, Nat.reduceLeDiff, reduceCtorEq, Int.reduceToNat]
  refine ⟨fun h => ?_, fun h => ?_⟩
  · have : ¬ a = b := fun e => by subst e; simp at h
    rw [decide_eq_false this]
  · have hl : a.length = b.length := by simp at h; omega
    refine T_loopS (fun i : Nat => ⟨[(0, .p (spansP a)), (1, .p (spansP b)), (12, vI a.length), (13, vI i)], [], 0, 0, 26⟩) (fun i => i ≤ a.length ∧ a.take i = b.take i) (fun i => a.length - i) 0 ⟨Nat.zero_le _, by simp⟩ (by simp [Le, subE, aget]) (fun i hi => ?_)
    simp only [push_cast, reduceIte, Nat.reduceMul, Nat.reduceEqDiff, Nat.reduceAdd, Nat.reduceLT, Nat.reduceLeDiff, reduceCtorEq, Int.reduceToNat]
    refine ⟨fun h1 => ?_, fun h1 => ?_⟩
    · have h2 : i < a.length := by simpa using h1
      have hga : a[i]? = some a[i] := List.getElem?_eq_getElem h2
      have hgb : b[i]? = some (b[i]'(by omega)) := List.getElem?_eq_getElem (by omega)
      generalize a[i] = x at hga
      generalize (b[i]'(by omega)) = y at hgb
      refine T_drawS [] [] mixed (by kernel_rfl) ?_
      simp only [push_cast, reduceIte, Nat.reduceMul, Nat.reduceEqDiff, Nat.reduceAdd, Nat.reduceLT, Nat.reduceLeDiff, reduceCtorEq, Int.reduceToNat, List.getElem?_map, hga, hgb, pvs_span]
      refine ⟨by omega, by omega, fun h3 => ?_, fun h3 => ⟨i + 1, ⟨by omega, ?_⟩, by omega, ?_⟩⟩
      · have hne : ¬ x = y := by simpa using h3
        have : ¬ a = b := fun e => by subst e; rw [hga] at hgb; cases hgb; exact hne rfl
        rw [decide_eq_false this]
      · have he : x = y := by simpa using h3
        rw [List.take_add_one, List.take_add_one, hga, hgb, hi.2, he]
      · simp [Le, subE, aget, wrap_i64 (i + 1) (by omega) (by omega)]
    · have : i = a.length := by simp at h1; omega
      subst this
      have : a = b := by have := hi.2; rwa [List.take_of_length_le (Nat.le_refl _), List.take_of_length_le (by omega)] at this
      rw [decide_eq_true this]

theorem pvs_as (s t : Nat × Nat) : pvsEq [.v (.int .u32 s.1), .v (.int .u32 s.2)] [.v (.int .u32 t.1), .v (.int .u32 t.2)] = decide (s = t) := by
  simp only [pvsEq, pvEq, valEq, Bool.and_true]
  by_cases e : s = t
  · subst e; simp
  · rw [decide_eq_false e]
    have : ¬ (s.1 = t.1 ∧ s.2 = t.2) := fun h => e (Prod.ext h.1 h.2)
    simp only [Bool.and_eq_false_iff, decide_eq_false_iff_not]
    omega
set_option maxHeartbeats 8000000 in
theorem eqAs_fv (WG : World) (a b : List (Nat × Nat)) (hn : a.length < 1000000) : FV Tryz.prog WG 160 [.sl 2 (a.map asP), .sl 2 (b.map asP)] (vB (decide (a = b))) := by
  refine CallT.pure rfl (CallT_fn Tryz.func160 (rs := [.tmp 4]) (n := 26) rfl rfl (Nat.le_of_ble_eq_true rfl) rfl ?_)
  simp only [push_cast, reduceIte, Nat.reduceMul, Nat.reduceEqDiff, Nat.reduceAdd, Nat.reduceLT, Nat.reduceLeDiff, reduceCtorEq, Int.reduceToNat]
  refine ⟨fun h => ?_, fun h => ?_⟩
  · have : ¬ a = b := fun e => by subst e; simp at h
    rw [decide_eq_false this]
  · have hl : a.length = b.length := by simp at h; omega
    refine T_loopS (fun i : Nat => ⟨[(0, .p (.sl 2 (a.map asP))), (1, .p (.sl 2 (b.map asP))), (12, vI a.length), (13, vI i)], [], 0, 0, 26⟩) (fun i => i ≤ a.length ∧ a.take i = b.take i) (fun i => a.length - i) 0 ⟨Nat.zero_le _, by simp⟩ (by simp [Le, subE, aget]) (fun i hi => ?_)
    simp only [push_cast, reduceIte, Nat.reduceMul, Nat.reduceEqDiff, Nat.reduceAdd, Nat.reduceLT, Nat.reduceLeDiff, reduceCtorEq, Int.reduceToNat]
    refine ⟨fun h1 => ?_, fun h1 => ?_⟩
    · have h2 : i < a.length := by simpa using h1
      have hga : a[i]? = some a[i] := List.getElem?_eq_getElem h2
      have hgb : b[i]? = some (b[i]'(by omega)) := List.getElem?_eq_getElem (by omega)
      generalize a[i] = x at hga
      generalize (b[i]'(by omega)) = y at hgb
      refine T_drawS [] [] mixed (by kernel_rfl) ?_
      simp only [push_cast, reduceIte, Nat.reduceMul, Nat.reduceEqDiff, Nat.reduceAdd, Nat.reduceLT, Nat.reduceLeDiff, reduceCtorEq, Int.reduceToNat, List.getElem?_map, hga, hgb, pvs_as]
      refine ⟨by omega, by omega, fun h3 => ?_, fun h3 => ⟨i + 1, ⟨by omega, ?_⟩, by omega, ?_⟩⟩
      · have hne : ¬ x = y := by simpa using h3
        have : ¬ a = b := fun e => by subst e; rw [hga] at hgb; cases hgb; exact hne rfl
        rw [decide_eq_false this]
      · have he : x = y := by simpa using h3
        rw [List.take_add_one, List.take_add_one, hga, hgb, hi.2, he]
      · simp [Le, subE, aget, wrap_i64 (i + 1) (by omega) (by omega)]
    · have : i = a.length := by simp at h1; omega
      subst this
      have : a = b := by have := hi.2; rwa [List.take_of_length_le (Nat.le_refl _), List.take_of_length_le (by omega)] at this
      rw [decide_eq_true this]

set_option maxHeartbeats 8000000 in
theorem resSame_fv (WG : World) (a b : Res) (ha : OkR a) : FV Tryz.prog WG 107 [resP a, resP b] (vB (sameR a b)) := by
  refine CallT.pure rfl (CallT_fn Tryz.func107 (rs := [.tmp 4]) (n := 24) rfl rfl (Nat.le_of_ble_eq_true rfl) rfl ?_)
  simp only [push_cast, reduceIte, Nat.reduceMul, Nat.reduceEqDiff, Nat.reduceAdd, Nat.reduceLT, Nat.reduceLeDiff, reduceCtorEq, Int.reduceToNat]
  refine (eqSpans_fv WG a.v4 b.v4 ha.n4).call rfl ?_
  simp only [push_cast, reduceIte, Nat.reduceMul, Nat.reduceEqDiff, Nat.reduceAdd, Nat.reduceLT, Nat.reduceLeDiff, reduceCtorEq, Int.reduceToNat]
  refine ⟨_, fun _ => (eqSpans_fv WG a.v6 b.v6 ha.n6).q rfl, ?_⟩
  simp only [push_cast, reduceIte, Nat.reduceMul, Nat.reduceEqDiff, Nat.reduceAdd, Nat.reduceLT, Nat.reduceLeDiff, reduceCtorEq, Int.reduceToNat]
  refine ⟨_, fun _ => (eqAs_fv WG a.as_ b.as_ ha.nas).q rfl, ?_⟩
  simp only [push_cast, reduceIte, Nat.reduceMul, Nat.reduceEqDiff, Nat.reduceAdd, Nat.reduceLT, Nat.reduceLeDiff, reduceCtorEq, Int.reduceToNat, sameR]
  rw [Bool.eq_iff_iff]; simp only [Bool.and_eq_true, decide_eq_true_eq, and_assoc]

def greatS (s : KSig) : Bool := decide ((60 : Int) < s.chains.length) || decide ((60 : Int) < s.path.length)
set_option maxHeartbeats 4000000 in
theorem greatSig_fv (WG : World) (s : KSig) : FV Tryz.prog WG 37 [sigP s] (vB (greatS s)) := by
  refine CallT.pure rfl (CallT_fn Tryz.func37 (rs := [.tmp 2]) (n := 13) rfl rfl (Nat.le_of_ble_eq_true rfl) rfl ?_)
  simp only [push_cast, reduceIte, Nat.reduceMul, Nat.reduceEqDiff, Nat.reduceAdd, Nat.reduceLT, Nat.reduceLeDiff, reduceCtorEq, Int.reduceToNat, greatS]
end Go.Proofs.YtplpggeefemelaaGreatDoor

namespace Go.Proofs.YtplpggeefemelaaGreatDoor
open Go Go.Gp

def strsC (c : Crt) : List ByteArray := [c.issuer, c.subject, c.repo, c.manifest, c.notify, c.crl, c.parent]
abbrev boxC (c : Crt) : List V := [.p (pU64 c.serial), .p (pS c.issuer), .p (pS c.subject), .p (pI c.frm), .p (pI c.til), .p (pU8 (c.root 0)), .p (pU8 (c.root 1)), .p (pU8 (c.root 2)), .p (pU8 (c.root 3)), .p (pU8 (c.root 4)), .p (pU8 (c.root 5)), .p (pU8 (c.root 6)), .p (pU8 (c.root 7)), .p (pU8 (c.root 8)), .p (pU8 (c.root 9)), .p (pU8 (c.root 10)), .p (pU8 (c.root 11)), .p (pU8 (c.root 12)), .p (pU8 (c.root 13)), .p (pU8 (c.root 14)), .p (pU8 (c.root 15)), .p (pI c.height), .p (pB c.ca), .p (pB c.inherit),
  .p (spansP c.res.v4), .p (spansP c.res.v6), .p (.sl 2 (c.res.as_.map asP)), .p (pS c.repo), .p (pS c.manifest), .p (pS c.notify), .p (pS c.crl), .p (pS c.parent), .p (pI c.sig.index), .p (shortsP c.sig.chains), .p (shortsP c.sig.path)]
def greatC (c : Crt) : Bool := (strsC c).any (fun s => decide (500 < s.size)) || (decide ((210 : Int) < c.res.v4.length) || decide ((210 : Int) < c.res.v6.length) || decide ((210 : Int) < c.res.as_.length) || greatS (kS c.sig))
set_option maxHeartbeats 8000000 in
theorem rGreat_fv (WG : World) (c : Crt) : FV Tryz.prog WG 36 [crtP c] (vB (greatC c)) := by
  refine CallT.pure rfl (CallT_fnT Tryz.func36 (rs := [.tmp 2]) (n := 56) rfl rfl (Nat.le_of_ble_eq_true rfl) rfl ?_)
  refine T_seqC ?_
  simp only [push_cast, reduceIte, Nat.reduceMul, Nat.reduceEqDiff, Nat.reduceAdd, Nat.reduceLT, Nat.reduceLeDiff, reduceCtorEq, Int.reduceToNat]
  refine T_seqC ?_
  simp only [push_cast, reduceIte, Nat.reduceMul, Nat.reduceEqDiff, Nat.reduceAdd, Nat.reduceLT, Nat.reduceLeDiff, reduceCtorEq, Int.reduceToNat]
  refine T_seqC ?_
  simp only [push_cast, reduceIte, Nat.reduceMul, Nat.reduceEqDiff, Nat.reduceAdd, Nat.reduceLT, Nat.reduceLeDiff, reduceCtorEq, Int.reduceToNat]
  refine T_loopR (fun i : Nat => ⟨[(1, .ref 0 0), (3, .osl 1 1 0 7 (some 7)), (4, vI i)], [(0, .box (boxC c)), (1, .arr 1 ((strsC c).map pS) false)], 2, 0, 56⟩) (fun i => i ≤ 7 ∧ ∀ q s, q < i → (strsC c)[q]? = some s → ¬ 500 < s.size) (fun i => 7 - i) 0 [] ⟨Nat.zero_le _, fun q s hq => absurd hq (Nat.not_lt_zero q)⟩ (by simp [LeR, rnf, aget, envR, tabR, injR, notIn, loR, V.rn, V.rnL, V.bd, V.bdL, Blk.rn, Blk.bd, envRn, envBd, strsC]) (fun i hi => ?_)
  simp only [push_cast, reduceIte, Nat.reduceMul, Nat.reduceEqDiff, Nat.reduceAdd, Nat.reduceLT, Nat.reduceLeDiff, reduceCtorEq, Int.reduceToNat]
  refine ⟨fun h1 => ?_, fun h1 => ?_⟩
  · have h2 : i < 7 := by simp at h1; omega
    have hg : (strsC c)[i]? = some ((strsC c)[i]'h2) := List.getElem?_eq_getElem h2
    generalize ((strsC c)[i]'h2) = s at hg
    simp only [push_cast, reduceIte, Nat.reduceMul, Nat.reduceEqDiff, Nat.reduceAdd, Nat.reduceLT, Nat.reduceLeDiff, reduceCtorEq, Int.reduceToNat, List.getElem?_map, hg]
    refine ⟨by omega, fun h3 => ?_, fun h3 => ⟨i + 1, ⟨by omega, fun q t hq ht => ?_⟩, by omega, [], ?_⟩⟩
    · have : (strsC c).any (fun s => decide (500 < s.size)) = true := List.any_eq_true.2 ⟨s, List.mem_of_getElem? hg, by simp at h3 ⊢; omega⟩
      simp only [greatC, this, Bool.true_or]
    · by_cases e : q = i
      · subst e; rw [hg] at ht; cases ht; simp at h3; omega
      · exact hi.2 q t (by omega) ht
    · simp [LeR, rnf, aget, envR, tabR, injR, notIn, loR, V.rn, V.rnL, V.bd, V.bdL, Blk.rn, Blk.bd, envRn, envBd, wrap_i64 (i + 1) (by omega) (by omega)]
  · have h2 : i = 7 := by simp at h1; omega
    subst h2
    have hn : (strsC c).any (fun s => decide (500 < s.size)) = false := List.any_eq_false.2 fun s hs => by
      obtain ⟨q, hq⟩ := List.mem_iff_getElem?.1 hs
      have := hi.2 q s (by have := (List.getElem?_eq_some_iff.1 hq).1; simpa [strsC] using this) hq
      simpa using this
    refine T_fin ?_
    simp only [push_cast, reduceIte, Nat.reduceMul, Nat.reduceEqDiff, Nat.reduceAdd, Nat.reduceLT, Nat.reduceLeDiff, reduceCtorEq, Int.reduceToNat]
    refine ⟨_, fun _ => (greatSig_fv WG (kS c.sig)).q rfl, ?_⟩
    simp only [push_cast, reduceIte, Nat.reduceMul, Nat.reduceEqDiff, Nat.reduceAdd, Nat.reduceLT, Nat.reduceLeDiff, reduceCtorEq, Int.reduceToNat, greatC, hn]
end Go.Proofs.YtplpggeefemelaaGreatDoor

namespace Go.Proofs.YtplpggeefemelaaGreatDoor
open Go Go.Gp

def row64 (x : PV) : Prop := ∃ a b c d : Int, x = .agg [.v (.int .u64 a), .v (.int .u64 b), .v (.int .u64 c), .v (.int .u64 d)]
def row32 (x : PV) : Prop := ∃ a b : Int, x = .agg [.v (.int .u32 a), .v (.int .u32 b)]
def row8 (x : PV) : Prop := ∃ (a : Int) (r : List PV), r.length = 15 ∧ x = .agg (.v (.int .u8 a) :: r)
theorem set_all {Q : PV → Prop} {xs : List PV} {i : Nat} {y : PV} (h : ∀ x ∈ xs, Q x) (hy : Q y) : ∀ x ∈ xs.set i y, Q x := fun x hx => by
  rcases List.mem_or_eq_of_mem_set hx with h1 | rfl
  · exact h x h1
  · exact hy

end Go.Proofs.YtplpggeefemelaaGreatDoor

namespace Go.Proofs.YtplpggeefemelaaGreatDoor
open Go Go.Gp

theorem countL_mem : ∀ {l : List Oct}, ∀ x ∈ l, countO x ≤ countL l
  | [], x, hx => by simp at hx
  | y :: r, x, hx => by
    simp only [countL]
    rcases List.mem_cons.1 hx with h | h
    · rw [h]; omega
    · have := countL_mem x h; omega
theorem oct_ind {Q : Oct → Prop} (h : ∀ t b l, (∀ x ∈ l, Q x) → Q (.mk t b l)) (v : Oct) : Q v := by
  suffices ∀ n, ∀ v, countO v ≤ n → Q v from this _ v (Nat.le_refl _)
  intro n
  induction n with
  | zero => intro v hv; cases v with | mk t b l => simp only [countO] at hv; omega
  | succ n ih =>
    intro v hv
    cases v with
    | mk t b l =>
      simp only [countO] at hv
      exact h t b l fun x hx => ih x (by have := countL_mem x hx; omega)
theorem sizeL_append : ∀ (a b : List Oct), sizeL (a ++ b) = sizeL a + sizeL b
  | [], b => by simp [sizeL]
  | x :: a, b => by simp only [List.cons_append, sizeL, sizeL_append a b]; omega
theorem encL_append : ∀ (a b : List Oct), encL (a ++ b) = encL a ++ encL b
  | [], b => rfl
  | x :: a, b => by simp only [List.cons_append, encL, encL_append a b, List.append_assoc]
theorem sizeL_take {l : List Oct} {i : Nat} {x : Oct} (h : l[i]? = some x) : sizeL (l.take (i + 1)) = sizeL (l.take i) + sizeO x := by
  rw [List.take_add_one, h, sizeL_append]; simp [sizeL]
theorem sizeL_le (l : List Oct) (i : Nat) : sizeL (l.take i) ≤ sizeL l := by
  have := sizeL_append (l.take i) (l.drop i)
  rw [List.take_append_drop] at this; omega
theorem lenB_pos (n : Nat) : 1 ≤ (lenB n).length := by
  rw [lenB_len]
  split
  · omega
  · split
    · omega
    · split <;> omega

theorem lenB_le4 (n : Nat) : (lenB n).length ≤ 4 := by
  rw [lenB_len]
  split
  · omega
  · split
    · omega
    · split <;> omega
theorem tmod_nat (a b : Nat) : ((a : Int)).tmod b = ((a % b : Nat) : Int) := rfl
theorem tdiv_nat (a b : Nat) : ((a : Int)).tdiv b = ((a / b : Nat) : Int) := rfl
set_option maxHeartbeats 8000000 in
theorem rLength_fv (WG : World) (n : Nat) (hn : n < 16777216) : FV Tryz.prog WG 115 [pI n] (.p (.sl 1 (bytesP (lenB n)))) := by
  refine CallT.pureS rfl (CallT_fn Tryz.func115 (rs := [.tmp 2]) (n := 33) rfl rfl (Nat.le_of_ble_eq_true rfl) rfl ?_)
  simp only [push_cast, reduceIte, Nat.reduceMul, Nat.reduceEqDiff, Nat.reduceAdd, Nat.reduceLT, Nat.reduceLeDiff, reduceCtorEq, Int.reduceToNat]
  have t1 : ((n : Int)).tdiv 256 = ((n / 256 : Nat) : Int) := rfl
  have t2 : ((n : Int)).tdiv 65536 = ((n / 65536 : Nat) : Int) := rfl
  have t3 : ((n : Int)).tmod 256 = ((n % 256 : Nat) : Int) := rfl
  have t4 : (((n / 256 : Nat) : Int)).tmod 256 = ((n / 256 % 256 : Nat) : Int) := rfl
  rw [t1, t2, t3, wrap_i64 (n / 256 : Nat) (by omega) (by omega), wrap_i64 (n / 65536 : Nat) (by omega) (by omega), t4, wrap_u8, wrap_u8, wrap_u8, wrap_u8, wrap_u8, Nat.mod_mod, Nat.mod_mod]
  have hb : ∀ k : Nat, byteP (UInt8.ofNat k) = .v (.int .u8 ((k % 256 : Nat) : Int)) := fun k => by simp [byteP]
  refine ⟨fun h1 => ?_, fun h1 => ⟨fun h2 => ?_, fun h2 => ⟨fun h3 => ?_, fun h3 => ?_⟩⟩⟩
  · have e : lenB n = [UInt8.ofNat n] := by rw [lenB, if_pos (by simp at h1; omega)]
    rw [e]
    simp only [bytesP, List.map_cons, List.map_nil, hb]
  · have e : lenB n = [129, UInt8.ofNat n] := by rw [lenB, if_neg (by simp at h1; omega), if_pos (by simp at h2; omega)]
    rw [e]
    simp only [bytesP, List.map_cons, List.map_nil, hb]; rfl
  · have e : lenB n = [130, UInt8.ofNat (n / 256), UInt8.ofNat n] := by rw [lenB, if_neg (by simp at h1; omega), if_neg (by simp at h2; omega), if_pos (by simp at h3; omega)]
    rw [e]
    exact ⟨by decide, by decide, by simp only [bytesP, List.map_cons, List.map_nil, hb]; rfl⟩
  · have e : lenB n = [131, UInt8.ofNat (n / 65536), UInt8.ofNat (n / 256), UInt8.ofNat n] := by rw [lenB, if_neg (by simp at h1; omega), if_neg (by simp at h2; omega), if_neg (by simp at h3; omega)]
    rw [e]
    exact ⟨by decide, by decide, by decide, by decide, by simp only [bytesP, List.map_cons, List.map_nil, hb]; rfl⟩

theorem numF_len : ∀ k x : Nat, (numF k x).length ≤ k
  | 0, x => by simp [numF]
  | k + 1, x => by
    simp only [numF]
    split
    · simp
    · have := numF_len k (x / 256); simp only [List.length_append, List.length_singleton]; omega
theorem numB_len (x : Nat) : (numB x).length ≤ 9 := numF_len 9 x
set_option maxHeartbeats 8000000 in
theorem rBytes_ct (WG : World) : ∀ (k x : Nat), x < 256 ^ k → x < 18446744073709551616 → CallT Tryz.prog WG 172 ([pU64 x].map .p) [] 0 (cloneK 1 (bytesP (numB x))) noP := by
  intro k
  induction k with
  | zero =>
    intro x hk hx
    have : x = 0 := by simpa using hk
    subst this
    refine CallT.ownNil 1 (CallT.tidy (CallT_fn Tryz.func172 (rs := [.tmp 2]) (n := 13) rfl rfl (Nat.le_of_ble_eq_true rfl) rfl ?_))
    simp only [push_cast, reduceIte, Nat.reduceMul, Nat.reduceEqDiff, Nat.reduceAdd, Nat.reduceLT, Nat.reduceLeDiff, reduceCtorEq, Int.reduceToNat]
    exact clone_nil (by simp [numB_zero, bytesP])
  | succ k ih =>
    intro x hk hx
    refine CallT.ownNil 1 (CallT.tidy (CallT_fn Tryz.func172 (rs := [.tmp 2]) (n := 13) rfl rfl (Nat.le_of_ble_eq_true rfl) rfl ?_))
    simp only [push_cast, reduceIte, Nat.reduceMul, Nat.reduceEqDiff, Nat.reduceAdd, Nat.reduceLT, Nat.reduceLeDiff, reduceCtorEq, Int.reduceToNat]
    refine ⟨fun h => ?_, fun h => ⟨by decide, ?_⟩⟩
    · have : x = 0 := by simp at h; omega
      subst this
      exact clone_nil (by simp [numB_zero, bytesP])
    · have hne : x ≠ 0 := by simp at h; omega
      have e1 : ((x : Int)).tdiv 256 = ((x / 256 : Nat) : Int) := rfl
      have e2 : ((x : Int)).tmod 256 = ((x % 256 : Nat) : Int) := rfl
      rw [e1, wrap_u64' (x / 256) (by omega)]
      refine (clone_call (ih (x / 256) (by rw [Nat.pow_succ] at hk; omega) (by omega)) [] 0).mono (fun r t n hq => ?_) (fun _ _ _ h => h.elim)
      obtain ⟨rfl, rfl, rfl⟩ := hq
      simp only [push_cast, reduceIte, Nat.reduceMul, Nat.reduceEqDiff, Nat.reduceAdd, Nat.reduceLT, Nat.reduceLeDiff, reduceCtorEq, Int.reduceToNat]
      rw [e2, wrap_u8, Nat.mod_mod]
      have hl := numB_len (x / 256)
      have hb : bytesP (numB x) = bytesP (numB (x / 256)) ++ [.v (.int .u8 ((x % 256 : Nat) : Int))] := by rw [bytesP_snoc, numB_step hne hx]
      refine ⟨by decide, by rw [bytesP_length]; omega, [(0, 2)], .osl 0 1 0 (bytesP (numB x)).length none, [(0, .arr 1 (bytesP (numB x)) true)], 1, .inl ⟨rfl, rfl, rfl⟩, ?_, by simp [V.bd], Nat.zero_le _, ?_⟩
      · rw [hb]; simp [V.rn, rnf, aget]
      · rw [← hb]; simp [LeR, rnf, aget, envR, tabR, injR, notIn, loR, V.rn, V.rnL, V.bd, V.bdL, Blk.rn, Blk.bd, envRn, envBd]

set_option maxHeartbeats 8000000 in
theorem rNum_fv (WG : World) (t : UInt8) (x : Nat) (hx : x < 18446744073709551616) : FV Tryz.prog WG 117 [pU8 t.toNat, pU64 x] (.p (octP (.mk t (numB x) []))) := by
  refine CallT.pureS rfl (CallT_fnT Tryz.func117 (rs := [.cell 4 95]) (n := 9) rfl rfl (Nat.le_of_ble_eq_true rfl) rfl ?_)
  refine T_seqC ?_
  simp only [push_cast, reduceIte, Nat.reduceMul, Nat.reduceEqDiff, Nat.reduceAdd, Nat.reduceLT, Nat.reduceLeDiff, reduceCtorEq, Int.reduceToNat]
  refine T_seqC ?_
  simp only [push_cast, reduceIte, Nat.reduceMul, Nat.reduceEqDiff, Nat.reduceAdd, Nat.reduceLT, Nat.reduceLeDiff, reduceCtorEq, Int.reduceToNat]
  refine (clone_call (rBytes_ct WG 8 x hx hx) _ _).mono (fun r t' n hq => ?_) (fun _ _ _ h => h.elim)
  obtain ⟨rfl, rfl, rfl⟩ := hq
  simp only [push_cast, reduceIte, Nat.reduceMul, Nat.reduceEqDiff, Nat.reduceAdd, Nat.reduceLT, Nat.reduceLeDiff, reduceCtorEq, Int.reduceToNat]
  refine T_nilBox 0 2 3 rfl rfl ?_
  refine T_fin ?_
  simp only [push_cast, reduceIte, Nat.reduceMul, Nat.reduceEqDiff, Nat.reduceAdd, Nat.reduceLT, Nat.reduceLeDiff, reduceCtorEq, Int.reduceToNat]
  simp [octP_mk, List.take_of_length_le]

/-- The bytes of a list of values put together so far. -/
def smallO (v : Oct) : Prop := sizeO v < 16777216
theorem smallO_mem {t : UInt8} {b : List UInt8} {l : List Oct} (h : smallO (.mk t b l)) : (∀ x ∈ l, smallO x) ∧ b.length < 16777216 ∧ l.length < 16777216 ∧ b.length + sizeL l < 16777216 := by
  unfold smallO at h
  simp only [sizeO] at h
  have := len_sizeL l
  exact ⟨fun x hx => by unfold smallO; have := sizeL_mem x hx; omega, by omega, by omega, by omega⟩

set_option maxHeartbeats 8000000 in
theorem size8_fv (WG : World) : ∀ v : Oct, smallO v → FV Tryz.prog WG 181 [octP v] (vI (sizeO v)) := by
  refine oct_ind fun t b l ih hs => ?_
  obtain ⟨hm, hb, hl, hsz⟩ := smallO_mem hs
  rw [octP_mk]
  refine CallT.pure rfl (CallT_fnT Tryz.func181 (rs := [.tmp 2]) (n := 26) rfl rfl (Nat.le_of_ble_eq_true rfl) rfl ?_)
  refine T_seqC ?_
  simp only [push_cast, reduceIte, Nat.reduceMul, Nat.reduceEqDiff, Nat.reduceAdd, Nat.reduceLT, Nat.reduceLeDiff, reduceCtorEq, Int.reduceToNat]
  refine T_seqC ?_
  simp only [push_cast, reduceIte, Nat.reduceMul, Nat.reduceEqDiff, Nat.reduceAdd, Nat.reduceLT, Nat.reduceLeDiff, reduceCtorEq, Int.reduceToNat]
  refine T_seqC ?_
  simp only [push_cast, reduceIte, Nat.reduceMul, Nat.reduceEqDiff, Nat.reduceAdd, Nat.reduceLT, Nat.reduceLeDiff, reduceCtorEq, Int.reduceToNat]
  refine T_loopR (fun i : Nat => ⟨[(1, .ref 0 0), (3, vI ((b.length + sizeL (l.take i) : Nat) : Int)), (10, .p (.sl 3 (l.map octP))), (11, vI l.length), (12, vI i)], [(0, .box [.p (pU8 t.toNat), .p (.sl 1 (bytesP b)), .p (.sl 3 (l.map octP))])], 1, 0, 26⟩)
    (fun i => i ≤ l.length) (fun i => l.length - i) 0 [] (Nat.zero_le _) (by simp [LeR, rnf, aget, envR, tabR, injR, notIn, loR, V.rn, V.rnL, V.bd, V.bdL, Blk.rn, Blk.bd, envRn, envBd, sizeL, bytesP_length]) (fun i hi => ?_)
  simp only [push_cast, reduceIte, Nat.reduceMul, Nat.reduceEqDiff, Nat.reduceAdd, Nat.reduceLT, Nat.reduceLeDiff, reduceCtorEq, Int.reduceToNat]
  refine ⟨fun h1 => ?_, fun h1 => ?_⟩
  · have h2 : i < l.length := by simpa using h1
    have hg : l[i]? = some l[i] := List.getElem?_eq_getElem h2
    have hst := sizeL_take hg
    have hle := sizeL_le l (i + 1)
    have ihx := ih _ (List.mem_of_getElem? hg) (hm _ (List.mem_of_getElem? hg))
    generalize l[i] = x at hg hst ihx
    obtain ⟨t', b', l'⟩ := x
    rw [octP_mk] at ihx
    simp only [push_cast, reduceIte, Nat.reduceMul, Nat.reduceEqDiff, Nat.reduceAdd, Nat.reduceLT, Nat.reduceLeDiff, reduceCtorEq, Int.reduceToNat, List.getElem?_map, hg, Option.map_some, octP_mk]
    refine ⟨by omega, ?_⟩
    refine ihx.call rfl ?_
    simp only [push_cast, reduceIte, Nat.reduceMul, Nat.reduceEqDiff, Nat.reduceAdd, Nat.reduceLT, Nat.reduceLeDiff, reduceCtorEq, Int.reduceToNat]
    have hw : IntKind.i64.wrap ((b.length : Int) + (sizeL (l.take i) : Int) + (sizeO (.mk t' b' l') : Int)) = (b.length : Int) + (sizeL (l.take (i + 1)) : Int) := by
      rw [hst, wrap_i64 _ (by omega) (by omega)]; omega
    refine ⟨i + 1, by omega, by omega, [], ?_⟩
    simp [LeR, rnf, aget, envR, tabR, injR, notIn, loR, V.rn, V.rnL, V.bd, V.bdL, Blk.rn, Blk.bd, envRn, envBd, hw, wrap_i64 ((i : Int) + 1) (by omega) (by omega)]
  · have : i = l.length := by simp at h1; omega
    subst this
    rw [List.take_of_length_le (Nat.le_refl _)]
    refine T_fin ?_
    simp only [push_cast, reduceIte, Nat.reduceMul, Nat.reduceEqDiff, Nat.reduceAdd, Nat.reduceLT, Nat.reduceLeDiff, reduceCtorEq, Int.reduceToNat]
    refine (wide8_fv WG (b.length + sizeL l) (by omega)).call rfl ?_
    simp only [push_cast, reduceIte, Nat.reduceMul, Nat.reduceEqDiff, Nat.reduceAdd, Nat.reduceLT, Nat.reduceLeDiff, reduceCtorEq, Int.reduceToNat]
    have hwl := wide_len (n := b.length + sizeL l) (by omega)
    have hw4 : wideN (b.length + sizeL l) ≤ 4 := by rw [hwl]; exact lenB_le4 _
    rw [wrap_i64 (1 + (wideN (b.length + sizeL l) : Int)) (by omega) (by omega), wrap_i64 _ (by omega) (by omega)]
    have : sizeO (.mk t b l) = 1 + wideN (b.length + sizeL l) + (b.length + sizeL l) := by rw [sizeO, hwl]
    rw [this]; simp

set_option maxHeartbeats 8000000 in
theorem cloneOct_ct (WG : World) (l : List Oct) (hl : l.length < 16777216) : CallT Tryz.prog WG 179 ([.sl 3 (l.map octP)].map .p) [] 0 (cloneK 3 (l.map octP)) noP := by
  refine CallT.ownNil 3 (CallT.tidy (CallT_fn Tryz.func179 (rs := [.tmp 2]) (n := 8) rfl rfl (Nat.le_of_ble_eq_true rfl) rfl ?_))
  simp only [push_cast, reduceIte, Nat.reduceMul, Nat.reduceEqDiff, Nat.reduceAdd, Nat.reduceLT, Nat.reduceLeDiff, reduceCtorEq, Int.reduceToNat]
  exact ⟨⟨by first | omega | (simp; omega), clone_end (by simp)⟩, fun h => clone_nil h⟩
set_option maxHeartbeats 8000000 in
theorem cloneBs_ct (WG : World) (l : List UInt8) (hl : l.length < 16777216) : CallT Tryz.prog WG 178 ([.sl 1 (bytesP l)].map .p) [] 0 (cloneK 1 (bytesP l)) noP := by
  refine CallT.ownNil 1 (CallT.tidy (CallT_fn Tryz.func178 (rs := [.tmp 2]) (n := 8) rfl rfl (Nat.le_of_ble_eq_true rfl) rfl ?_))
  simp only [push_cast, reduceIte, Nat.reduceMul, Nat.reduceEqDiff, Nat.reduceAdd, Nat.reduceLT, Nat.reduceLeDiff, reduceCtorEq, Int.reduceToNat]
  exact ⟨⟨by first | omega | (simp [bytesP]; omega), clone_end (by simp [bytesP])⟩, fun h => clone_nil h⟩

set_option maxHeartbeats 16000000 in
theorem twin8_fv (WG : World) : ∀ v : Oct, smallO v → FV Tryz.prog WG 122 [octP v] (.p (octP v)) := by
  refine oct_ind fun t b l ih hs => ?_
  obtain ⟨hm, hb, hl, hsz⟩ := smallO_mem hs
  rw [octP_mk]
  refine CallT.pureS rfl (CallT_fnT Tryz.func122 (rs := [.cell 2 95]) (n := 29) rfl rfl (Nat.le_of_ble_eq_true rfl) rfl ?_)
  refine T_seqC ?_
  simp only [push_cast, reduceIte, Nat.reduceMul, Nat.reduceEqDiff, Nat.reduceAdd, Nat.reduceLT, Nat.reduceLeDiff, reduceCtorEq, Int.reduceToNat]
  refine T_seqC ?_
  refine T_drawS [2, 5, 7, 9] [(4, 0)] mixed (by kernel_rfl) ?_
  simp only [push_cast, reduceIte, Nat.reduceMul, Nat.reduceEqDiff, Nat.reduceAdd, Nat.reduceLT, Nat.reduceLeDiff, reduceCtorEq, Int.reduceToNat]
  refine ⟨_, _, _, clone_call (cloneBs_ct WG b (by omega)) _ _, ?_⟩
  simp only [push_cast, reduceIte, Nat.reduceMul, Nat.reduceEqDiff, Nat.reduceAdd, Nat.reduceLT, Nat.reduceLeDiff, reduceCtorEq, Int.reduceToNat]
  refine ⟨_, _, _, clone_call (cloneOct_ct WG l (by omega)) _ _, ?_⟩
  simp only [push_cast, reduceIte, Nat.reduceMul, Nat.reduceEqDiff, Nat.reduceAdd, Nat.reduceLT, Nat.reduceLeDiff, reduceCtorEq, Int.reduceToNat]
  refine T_seqC ?_
  simp only [push_cast, reduceIte, Nat.reduceMul, Nat.reduceEqDiff, Nat.reduceAdd, Nat.reduceLT, Nat.reduceLeDiff, reduceCtorEq, Int.reduceToNat]
  refine T_loopR (fun i : Nat => ⟨[(1, .ref 0 0), (2, .ref 1 0), (14, .osl 3 3 0 l.length none), (15, vI l.length), (16, vI i)], [(0, .box [.p (pU8 t.toNat), .osl 2 1 0 (bytesP b).length none, .osl 3 3 0 l.length none]), (1, .box [.p (pU8 0), .p (.v (.slice none 0 0)), .p (.v (.slice none 0 0))]), (2, .arr 1 (bytesP b) true), (3, .arr 3 (l.map octP) true)], 4, 0, 29⟩)
    (fun i => i ≤ l.length) (fun i => l.length - i) 0 [] (Nat.zero_le _) (by simp [LeR, rnf, aget, envR, tabR, injR, notIn, loR, V.rn, V.rnL, V.bd, V.bdL, Blk.rn, Blk.bd, envRn, envBd]) (fun i hi => ?_)
  simp only [push_cast, reduceIte, Nat.reduceMul, Nat.reduceEqDiff, Nat.reduceAdd, Nat.reduceLT, Nat.reduceLeDiff, reduceCtorEq, Int.reduceToNat]
  refine ⟨fun h1 => ?_, fun h1 => ?_⟩
  · have h2 : i < l.length := by simpa using h1
    have hg : l[i]? = some l[i] := List.getElem?_eq_getElem h2
    have ihx := ih _ (List.mem_of_getElem? hg) (hm _ (List.mem_of_getElem? hg))
    generalize l[i] = x at hg ihx
    have hset : (l.map octP).set i (octP x) = l.map octP := by
      apply List.ext_getElem?
      intro k
      rw [List.getElem?_set]
      split
      · rename_i e; subst e; rw [List.getElem?_map, hg]; simp [h2]
      · rfl
    obtain ⟨t', b', l'⟩ := x
    rw [octP_mk] at ihx hset
    simp only [push_cast, reduceIte, Nat.reduceMul, Nat.reduceEqDiff, Nat.reduceAdd, Nat.reduceLT, Nat.reduceLeDiff, reduceCtorEq, Int.reduceToNat, List.getElem?_map, hg, Option.map_some, octP_mk]
    refine ⟨by omega, ?_⟩
    refine T_drawS [6] [] mixed (by kernel_rfl) ?_
    simp only [push_cast, reduceIte, Nat.reduceMul, Nat.reduceEqDiff, Nat.reduceAdd, Nat.reduceLT, Nat.reduceLeDiff, reduceCtorEq, Int.reduceToNat]
    refine ⟨_, ihx.v rfl, ?_⟩
    simp only [push_cast, reduceIte, Nat.reduceMul, Nat.reduceEqDiff, Nat.reduceAdd, Nat.reduceLT, Nat.reduceLeDiff, reduceCtorEq, Int.reduceToNat, List.getElem?_map, hg, Option.map_some, octP_mk]
    refine ⟨by omega, i + 1, by omega, by omega, [], ?_⟩
    simp [LeR, rnf, aget, envR, tabR, injR, notIn, loR, V.rn, V.rnL, V.bd, V.bdL, Blk.rn, Blk.bd, envRn, envBd, setE, putP, hset, wrap_i64 ((i : Int) + 1) (by omega) (by omega)]
  · have : i = l.length := by simp at h1; omega
    subst this
    refine T_fin ?_
    simp only [push_cast, reduceIte, Nat.reduceMul, Nat.reduceEqDiff, Nat.reduceAdd, Nat.reduceLT, Nat.reduceLeDiff, reduceCtorEq, Int.reduceToNat]
    simp [List.take_of_length_le]
end Go.Proofs.YtplpggeefemelaaGreatDoor
