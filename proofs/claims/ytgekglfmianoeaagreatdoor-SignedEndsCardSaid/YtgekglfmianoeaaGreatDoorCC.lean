/-
  Places: strings that are empty or locators of a kind.
  Copies of lists and of certificates.
  Certificates compared by the program; large certificates.
  Large certificates; spoiling a copy.
  A copy is spoilt: what else there is stays.
-/
import Derived.Test.YtgekglfmianoeaaGreatDoorCB
import Derived.Test.YtgekglfmianoeaaGreatDoorMB
set_option linter.unusedSimpArgs false
set_option linter.unusedVariables false
set_option maxRecDepth 20000
namespace Go.Proofs.YtgekglfmianoeaaGreatDoor
open Go Go.Gp
set_option maxHeartbeats 4000000 in
theorem isFile_fv (WG : World) (l : Locator) : FV Tryz.prog WG 81 [locP l] (vB (!l.dir)) := by
  refine CallT.pure rfl (CallT_fn Tryz.func81 (rs := [.tmp 2]) (n := 6) rfl rfl (Nat.le_of_ble_eq_true rfl) rfl ?_)
  simp only [locP, push_cast, reduceIte, Nat.reduceMul, Nat.reduceEqDiff, Nat.reduceAdd, Nat.reduceLT, Nat.reduceLeDiff, reduceCtorEq, Int.reduceToNat]
set_option maxHeartbeats 4000000 in
theorem isDir_fv (WG : World) (l : Locator) : FV Tryz.prog WG 80 [locP l] (vB l.dir) := by
  refine CallT.pure rfl (CallT_fn Tryz.func80 (rs := [.tmp 2]) (n := 5) rfl rfl (Nat.le_of_ble_eq_true rfl) rfl ?_)
  simp only [locP, push_cast, reduceIte, Nat.reduceMul, Nat.reduceEqDiff, Nat.reduceAdd, Nat.reduceLT, Nat.reduceLeDiff, reduceCtorEq, Int.reduceToNat]
def noteB (l : Locator) : Bool := !l.dir && decide (l.scheme = 2)
set_option maxHeartbeats 4000000 in
theorem isNote_fv (WG : World) (l : Locator) : FV Tryz.prog WG 82 [locP l] (vB (noteB l)) := by
  refine CallT.pure rfl (CallT_fn Tryz.func82 (rs := [.tmp 2]) (n := 11) rfl rfl (Nat.le_of_ble_eq_true rfl) rfl ?_)
  simp only [locP, push_cast, reduceIte, Nat.reduceMul, Nat.reduceEqDiff, Nat.reduceAdd, Nat.reduceLT, Nat.reduceLeDiff, reduceCtorEq, Int.reduceToNat, noteB]

def placeB (p : Locator → Bool) (s : ByteArray) : Bool := strEq s eB || (match lParse s with | none => false | some l => p l)
set_option maxHeartbeats 8000000 in
theorem place_fv (WG : World) (g : GW WG) (ge : GE WG) (acc : FuncId) (p : Locator → Bool) (hc : callable Tryz.prog acc = true) (ha : ∀ l, FV Tryz.prog WG acc [locP l] (vB (p l))) (s : ByteArray) : FV Tryz.prog WG 79 [pS s, .clo (.func acc) [] []] (vB (placeB p s)) := by
  refine CallT.pure rfl (CallT_fn Tryz.func79 (rs := [.tmp 4]) (n := 21) rfl rfl (Nat.le_of_ble_eq_true rfl) rfl ?_)
  simp only [push_cast, reduceIte, Nat.reduceMul, Nat.reduceEqDiff, Nat.reduceAdd, Nat.reduceLT, Nat.reduceLeDiff, reduceCtorEq, Int.reduceToNat]
  refine ⟨fun h => ?_, fun h => ?_⟩
  · simp only [placeB, eB, h, Bool.true_or]
  · have hp : placeB p s = (match lParse s with | none => false | some l => p l) := by simp only [placeB, eB, h, Bool.false_or]
    refine parse_call (lParse_ct0 WG g ge s) (fun h => ?_) (fun l h => ?_)
    · simp only [locZ, push_cast, reduceIte, Nat.reduceMul, Nat.reduceEqDiff, Nat.reduceAdd, Nat.reduceLT, Nat.reduceLeDiff, reduceCtorEq, Int.reduceToNat, hc]
      refine ⟨vB false, fun h => by simp at h, ?_⟩
      simp only [push_cast, reduceIte, Nat.reduceMul, Nat.reduceEqDiff, Nat.reduceAdd, Nat.reduceLT, Nat.reduceLeDiff, reduceCtorEq, Int.reduceToNat, hp, h]
    · simp only [locO, arrO, push_cast, reduceIte, Nat.reduceMul, Nat.reduceEqDiff, Nat.reduceAdd, Nat.reduceLT, Nat.reduceLeDiff, reduceCtorEq, Int.reduceToNat, hc]
      refine ⟨_, CallT.borrow (ha l) rfl (by simp [snapT, snap, snapL, snap1, aget, locP, List.take_of_length_le]), ?_⟩
      simp only [push_cast, reduceIte, Nat.reduceMul, Nat.reduceEqDiff, Nat.reduceAdd, Nat.reduceLT, Nat.reduceLeDiff, reduceCtorEq, Int.reduceToNat, hp, h]

end Go.Proofs.YtgekglfmianoeaaGreatDoor

namespace Go.Gp
section
variable {P : Program} {WG : World}
theorem CallT.ownNil (s : Nat) {f : FuncId} {vs : List V} {tab : Tab} {nx : Nat} {K KP : V → Tab → Nat → Prop}
    (h : CallT P WG f vs tab nx (fun r t n => K r t n ∨ (r = .p (.v (.slice none 0 0)) ∧ K (.osl n s 0 0 none) (aset t n (.arr s [] true)) (n + 1))) KP) : CallT P WG f vs tab nx K KP := by
  intro C j w ms h1 h2 h3 h4 hm0 hvs
  refine (h C j w ms h1 h2 h3 h4 hm0 hvs).mono fun e w' he => ?_
  cases e with
  | panicked ch => exact he
  | outgrown => exact he.elim
  | returned m =>
    obtain ⟨j1, t, n, r, hm, hv, hK⟩ := he
    rcases hK with hK | ⟨rfl, hK⟩
    · exact ⟨j1, t, n, r, hm, hv, hK⟩
    · let C' : Ctx := { C with rnd := none, base := [] }
      have hr : ERel WG C' j1 ⟨[(0, .p (.v (.slice none 0 0)))], t, n, C.nb, 1⟩ { tmps := #[m], defers := [] } w' := by
        refine ⟨{ nb := hm.nb, low := hm.low, blk := hm.blk, apart := hm.apart, agree := hm.agree, own := hm.own, ownG := hm.ownG, size := hm.size, keep := hm.keep, os := hm.os, tape := hm.tape, output := hm.output, glob := hm.glob, rd := hm.rd }, Nat.le_refl _, hm.nb, fun q v hq => ?_, rfl, ⟨⟨[], rfl, List.nodup_nil, by simp⟩, fun l hl => by cases hl⟩⟩
        simp only [aget] at hq
        split at hq
        · rename_i e; subst e; cases hq; exact ⟨m, rfl, hv⟩
        · cases hq
      obtain ⟨j2, hr2⟩ := Weak.nilTmp (σ := ⟨[(0, .p (.v (.slice none 0 0)))], t, n, C.nb, 1⟩) 0 s rfl C' j1 _ w' hr
      have hm2 := hr2.mem
      obtain ⟨m', e1, e2⟩ := hr2.env 0 (.osl n s 0 0 none) rfl
      have : m' = m := by simpa using e1.symm
      subst this
      exact ⟨j2, aset t n (.arr s [] true), n + 1, .osl n s 0 0 none, { nb := hm2.nb, low := hm2.low, blk := hm2.blk, apart := hm2.apart, agree := hm2.agree, own := hm2.own, ownG := hm2.ownG, size := hm2.size, keep := hm2.keep, os := hm2.os, tape := hm2.tape, output := hm2.output, glob := hm2.glob, rd := hm2.rd }, e2, hK⟩
end
end Go.Gp
namespace Go.Proofs.YtgekglfmianoeaaGreatDoor
open Go Go.Gp
def cloneK (s : Nat) (ys : List PV) : V → Tab → Nat → Prop := fun r t n => r = .osl 0 s 0 ys.length none ∧ t = [(0, .arr s ys true)] ∧ n = 1
theorem clone_call {WG : World} {f : FuncId} {x : PV} {s : Nat} {ys : List PV} (h : CallT Tryz.prog WG f ([x].map .p) [] 0 (cloneK s ys) noP) (tab : Tab) (nx : Nat) :
    CallT Tryz.prog WG f [.p x] tab nx (fun r t n => r = .osl nx s 0 ys.length none ∧ t = tab ++ [(nx, .arr s ys true)] ∧ n = nx + 1) noP :=
  CallT.frame (ps := [x]) h (fun r t n hq => by
    obtain ⟨rfl, rfl, rfl⟩ := hq
    simp [V.sh, tsh, Blk.sh]) (fun _ _ _ h => h.elim)

theorem clone_end {s : Nat} {ys : List PV} {n : Nat} (hn : ys.length = n) : tidyK 0 (fun r t n => cloneK s ys r t n ∨ r = .p (.v (.slice none 0 0)) ∧ cloneK s ys (.osl n s 0 0 none) (aset t n (.arr s [] true)) (n + 1)) (.osl 1 s 0 n none) [(1, .arr s ys true)] 2 := by
  refine ⟨[(0, 1)], .osl 0 s 0 n none, [(0, .arr s ys true)], 1, .inl ⟨by subst hn; rfl, rfl, rfl⟩, rfl, ?_, Nat.zero_le _, ?_⟩
  · simp [V.bd]
  · simp [LeR, rnf, aget, envR, tabR, injR, notIn, loR, V.rn, V.rnL, V.bd, V.bdL, Blk.rn, Blk.bd, envRn, envBd]
theorem clone_nil {s : Nat} {ys : List PV} (hn : ys = []) : tidyK 0 (fun r t n => cloneK s ys r t n ∨ r = .p (.v (.slice none 0 0)) ∧ cloneK s ys (.osl n s 0 0 none) (aset t n (.arr s [] true)) (n + 1)) (.p (.v (.slice none 0 0))) [] 0 := by
  subst hn
  refine ⟨[], .p (.v (.slice none 0 0)), [], 0, .inr ⟨rfl, rfl, rfl, rfl⟩, rfl, ?_, Nat.zero_le _, ?_⟩
  · simp [V.bd]
  · simp [LeR, rnf, aget, envR, tabR, injR, notIn, loR, V.rn, V.rnL, V.bd, V.bdL, Blk.rn, Blk.bd, envRn, envBd]

end Go.Proofs.YtgekglfmianoeaaGreatDoor

namespace Go.Proofs.YtgekglfmianoeaaGreatDoor
open Go Go.Gp
def greatS (s : KSig) : Bool := decide ((60 : Int) < s.chains.length) || decide ((60 : Int) < s.path.length)
set_option maxHeartbeats 4000000 in
theorem greatSig_fv (WG : World) (s : KSig) : FV Tryz.prog WG 31 [sigP s] (vB (greatS s)) := by
  refine CallT.pure rfl (CallT_fn Tryz.func31 (rs := [.tmp 2]) (n := 13) rfl rfl (Nat.le_of_ble_eq_true rfl) rfl ?_)
  simp only [push_cast, reduceIte, Nat.reduceMul, Nat.reduceEqDiff, Nat.reduceAdd, Nat.reduceLT, Nat.reduceLeDiff, reduceCtorEq, Int.reduceToNat, greatS]
end Go.Proofs.YtgekglfmianoeaaGreatDoor

namespace Go.Proofs.YtgekglfmianoeaaGreatDoor
open Go Go.Gp
def strsC (c : Crt) : List ByteArray := [c.issuer, c.subject, c.repo, c.manifest, c.notify, c.crl, c.parent]
abbrev boxC (c : Crt) : List V := [.p (pU64 c.serial), .p (pS c.issuer), .p (pS c.subject), .p (pI c.frm), .p (pI c.til), .p (pU8 (c.root 0)), .p (pU8 (c.root 1)), .p (pU8 (c.root 2)), .p (pU8 (c.root 3)), .p (pU8 (c.root 4)), .p (pU8 (c.root 5)), .p (pU8 (c.root 6)), .p (pU8 (c.root 7)), .p (pU8 (c.root 8)), .p (pU8 (c.root 9)), .p (pU8 (c.root 10)), .p (pU8 (c.root 11)), .p (pU8 (c.root 12)), .p (pU8 (c.root 13)), .p (pU8 (c.root 14)), .p (pU8 (c.root 15)), .p (pI c.height), .p (pB c.ca), .p (pB c.inherit),
  .p (spansP c.res.v4), .p (spansP c.res.v6), .p (.sl 2 (c.res.as_.map asP)), .p (pS c.repo), .p (pS c.manifest), .p (pS c.notify), .p (pS c.crl), .p (pS c.parent), .p (pI c.sig.index), .p (shortsP c.sig.chains), .p (shortsP c.sig.path)]
def greatC (c : Crt) : Bool := (strsC c).any (fun s => decide (500 < s.size)) || (decide ((210 : Int) < c.res.v4.length) || decide ((210 : Int) < c.res.v6.length) || decide ((210 : Int) < c.res.as_.length) || greatS (kS c.sig))
set_option maxHeartbeats 8000000 in
theorem rGreat_fv (WG : World) (c : Crt) : FV Tryz.prog WG 8 [crtP c] (vB (greatC c)) := by
  refine CallT.pure rfl (CallT_fnT Tryz.func8 (rs := [.tmp 2]) (n := 56) rfl rfl (Nat.le_of_ble_eq_true rfl) rfl ?_)
  refine T_seqC ?_
  simp only [push_cast, reduceIte, Nat.reduceMul, Nat.reduceEqDiff, Nat.reduceAdd, Nat.reduceLT, Nat.reduceLeDiff, reduceCtorEq, Int.reduceToNat]
  refine T_seqC ?_
  simp only [push_cast, reduceIte, Nat.reduceMul, Nat.reduceEqDiff, Nat.reduceAdd, Nat.reduceLT, Nat.reduceLeDiff, reduceCtorEq, Int.reduceToNat]
  refine T_seqC ?_
  simp only [push_cast, reduceIte, Nat.reduceMul, Nat.reduceEqDiff, Nat.reduceAdd, Nat.reduceLT, Nat.reduceLeDiff, reduceCtorEq, Int.reduceToNat]
  refine T_loopR (fun i : Nat => ⟨[(1, .ref 0 0), (3, .osl 1 1 0 7 (some 7)), (4, vI i)], [(0, .box (boxC c)), (1, .arr 1 ((strsC c).map pS) false)], 2, 0, 56⟩) (fun i => i ≤ 7 ∧ ∀ q s, q < i → (strsC c)[q]? = some s → ¬ 500 < s.size) (fun i => 7 - i) 0 [] ⟨Nat.zero_le _, fun q s hq => absurd hq (Nat.not_lt_zero q)⟩ (by simp [LeR, rnf, aget, envR, tabR, injR, notIn, loR, V.rn, V.rnL, V.bd, V.bdL, Blk.rn, Blk.bd, envRn, envBd, strsC]) (fun i hi => ?_)
  simp only [push_cast, reduceIte, Nat.reduceMul, Nat.reduceEqDiff, Nat.reduceAdd, Nat.reduceLT, Nat.reduceLeDiff, reduceCtorEq, Int.reduceToNat]
  refine ⟨fun h1 => ?_, fun h1 => ?_⟩
  · have h2 : i < 7 := by simp at h1; omega
    have hg : (strsC c)[i]? = some ((strsC c)[i]'h2) := List.getElem?_eq_getElem h2
    generalize ((strsC c)[i]'h2) = s at hg
    simp only [push_cast, reduceIte, Nat.reduceMul, Nat.reduceEqDiff, Nat.reduceAdd, Nat.reduceLT, Nat.reduceLeDiff, reduceCtorEq, Int.reduceToNat, List.getElem?_map, hg]
    refine ⟨by omega, fun h3 => ?_, fun h3 => ⟨i + 1, ⟨by omega, fun q t hq ht => ?_⟩, by omega, [], ?_⟩⟩
    · have : (strsC c).any (fun s => decide (500 < s.size)) = true := List.any_eq_true.2 ⟨s, List.mem_of_getElem? hg, by simp at h3 ⊢; omega⟩
      simp only [greatC, this, Bool.true_or]
    · by_cases e : q = i
      · subst e; rw [hg] at ht; cases ht; simp at h3; omega
      · exact hi.2 q t (by omega) ht
    · simp [LeR, rnf, aget, envR, tabR, injR, notIn, loR, V.rn, V.rnL, V.bd, V.bdL, Blk.rn, Blk.bd, envRn, envBd, wrap_i64 (i + 1) (by omega) (by omega)]
  · have h2 : i = 7 := by simp at h1; omega
    subst h2
    have hn : (strsC c).any (fun s => decide (500 < s.size)) = false := List.any_eq_false.2 fun s hs => by
      obtain ⟨q, hq⟩ := List.mem_iff_getElem?.1 hs
      have := hi.2 q s (by have := (List.getElem?_eq_some_iff.1 hq).1; simpa [strsC] using this) hq
      simpa using this
    refine T_fin ?_
    simp only [push_cast, reduceIte, Nat.reduceMul, Nat.reduceEqDiff, Nat.reduceAdd, Nat.reduceLT, Nat.reduceLeDiff, reduceCtorEq, Int.reduceToNat]
    refine ⟨_, fun _ => (greatSig_fv WG (kS c.sig)).q rfl, ?_⟩
    simp only [push_cast, reduceIte, Nat.reduceMul, Nat.reduceEqDiff, Nat.reduceAdd, Nat.reduceLT, Nat.reduceLeDiff, reduceCtorEq, Int.reduceToNat, greatC, hn]
end Go.Proofs.YtgekglfmianoeaaGreatDoor

namespace Go.Proofs.YtgekglfmianoeaaGreatDoor
open Go Go.Gp
end Go.Proofs.YtgekglfmianoeaaGreatDoor
