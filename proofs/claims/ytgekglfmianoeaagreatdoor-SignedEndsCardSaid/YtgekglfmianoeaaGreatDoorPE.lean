/-
  The chapter's example.
  The chapter's example holds.
  The laws: back, once.
  The law: bodies.
  A parameter that is a row of bytes.
-/
import Derived.Test.YtgekglfmianoeaaGreatDoorPD
set_option linter.unusedSimpArgs false
set_option linter.unusedVariables false
set_option maxRecDepth 20000
namespace Go.Proofs.YtgekglfmianoeaaGreatDoor
open Go Go.Gp
theorem byteP_inj {a b : UInt8} (h : (a.toNat : Int) = b.toNat) : a = b := UInt8.toNat_inj.1 (by omega)
set_option maxHeartbeats 8000000 in
theorem sameBytes_fv (WG : World) (a b : List UInt8) (hn : a.length < 1000000) : FV Tryz.prog WG 16 [.sl 1 (bytesP a), .sl 1 (bytesP b)] (vB (decide (a = b))) := by
  refine CallT.pure rfl (CallT_fn Tryz.func16 (rs := [.tmp 4]) (n := 26) rfl rfl (Nat.le_of_ble_eq_true rfl) rfl ?_)
  simp only [push_cast, reduceIte, Nat.reduceMul, Nat.reduceEqDiff, Nat.reduceAdd, Nat.reduceLT, Nat.reduceLeDiff, reduceCtorEq, Int.reduceToNat, bytesP_length]
  refine ⟨fun h => ?_, fun h => ?_⟩
  · have : ¬ a = b := fun e => by subst e; simp at h
    rw [decide_eq_false this]
  · have hl : a.length = b.length := by simp at h; omega
    refine T_loopS (fun i : Nat => ⟨[(0, .p (.sl 1 (bytesP a))), (1, .p (.sl 1 (bytesP b))), (5, vI i)], [], 0, 0, 26⟩) (fun i => i ≤ a.length ∧ a.take i = b.take i) (fun i => a.length - i) 0 ⟨Nat.zero_le _, by simp⟩ (by simp [Le, subE, aget]) (fun i hi => ?_)
    simp only [push_cast, reduceIte, Nat.reduceMul, Nat.reduceEqDiff, Nat.reduceAdd, Nat.reduceLT, Nat.reduceLeDiff, reduceCtorEq, Int.reduceToNat, bytesP_length]
    refine ⟨fun h1 => ?_, fun h1 => ?_⟩
    · refine T_drawS [] [] mixed (by kernel_rfl) ?_
      have h2 : i < a.length := by simpa using h1
      have hga : a[i]? = some a[i] := List.getElem?_eq_getElem h2
      have hgb : b[i]? = some (b[i]'(by omega)) := List.getElem?_eq_getElem (by omega)
      generalize a[i] = x at hga
      generalize (b[i]'(by omega)) = y at hgb
      have ea : (bytesP a)[i]? = some (.v (.int .u8 x.toNat)) := by simp [bytesP, hga, byteP]
      have eb : (bytesP b)[i]? = some (.v (.int .u8 y.toNat)) := by simp [bytesP, hgb, byteP]
      simp only [push_cast, reduceIte, Nat.reduceMul, Nat.reduceEqDiff, Nat.reduceAdd, Nat.reduceLT, Nat.reduceLeDiff, reduceCtorEq, Int.reduceToNat, ea, eb, bytesP_length]
      refine ⟨by omega, by omega, fun h3 => ?_, fun h3 => ⟨i + 1, ⟨by omega, ?_⟩, by omega, ?_⟩⟩
      · have hne : ¬ x = y := fun e => by subst e; simp at h3
        have : ¬ a = b := fun e => by subst e; rw [hga] at hgb; cases hgb; exact hne rfl
        rw [decide_eq_false this]
      · have he : x = y := byteP_inj (by simpa using h3)
        rw [List.take_add_one, List.take_add_one, hga, hgb, hi.2, he]
      · simp [Le, subE, aget, wrap_i64 (i + 1) (by omega) (by omega)]
    · have : i = a.length := by simp at h1; omega
      subst this
      have : a = b := by have := hi.2; rwa [List.take_of_length_le (Nat.le_refl _), List.take_of_length_le (by omega)] at this
      rw [decide_eq_true this]

def smC : Crt := ⟨1, ⟨#[97]⟩, ⟨#[98]⟩, 0, 9, fun _ => 0, 0, false, false, ⟨[], [], []⟩, ⟨#[]⟩, ⟨#[]⟩, ⟨#[]⟩, ⟨#[]⟩, ⟨#[]⟩, ⟨0, [], []⟩⟩
def zeC : Crt := ⟨0, ⟨#[]⟩, ⟨#[]⟩, 0, 0, fun _ => 0, 0, false, false, ⟨[], [], []⟩, ⟨#[]⟩, ⟨#[]⟩, ⟨#[]⟩, ⟨#[]⟩, ⟨#[]⟩, ⟨0, [], []⟩⟩
theorem Soft.of1 {cs ds : List PV} (h : softL cs ds) : Soft (.agg cs) (.agg ds) := by
  have key : ∀ {x y : PV}, softV x y → Soft x y ∧ x.one = y.one := fun {x y} h => by
    refine ⟨?_, softV_one h⟩
    unfold softV at h
    split at h
    · subst h; exact .nil
    · subst h; exact .refl
  obtain ⟨h1, h2⟩ := softL_get h
  refine .agg h1 (fun i c d hc hd => ?_) (fun i c d hc hd => ?_)
  · obtain ⟨x, hx, hs⟩ := h2 i d hd
    rw [hc] at hx; cases hx
    exact (key hs).2
  · obtain ⟨x, hx, hs⟩ := h2 i d hd
    rw [hc] at hx; cases hx
    exact (key hs).1
theorem smC_pre : PreD smC := { v4 := by simp [smC], v6 := by simp [smC], as_ := by simp [smC], chains := by simp [smC], path := by simp [smC], serial := by decide, root := by intro x hx; simp [rootL, smC] at hx; omega, cb := by simp [smC], pb := by simp [smC] }
theorem smC_small : SmallC smC := { toOkC := ⟨⟨by simp [smC], by simp [smC], by simp [smC], by decide, by decide, by decide⟩, ⟨by simp [smC], by simp [smC], by decide, by decide⟩⟩, issuer := by decide, subject := by decide, repo := by decide, manifest := by decide, notify := by decide, crl := by decide, parent := by decide, n4 := by decide, n6 := by decide, nas := by decide, nc := by decide, np := by decide }
end Go.Proofs.YtgekglfmianoeaaGreatDoor

namespace Go.Proofs.YtgekglfmianoeaaGreatDoor
open Go Go.Gp
theorem sbT (WG : World) (a b : List UInt8) (ha : a.length < 1000000) (h : a = b) : FV Tryz.prog WG 16 [.sl 1 (bytesP a), .sl 1 (bytesP b)] (vB true) := by
  have := sameBytes_fv WG a b ha
  rwa [decide_eq_true h] at this
end Go.Proofs.YtgekglfmianoeaaGreatDoor

namespace Go.Proofs.YtgekglfmianoeaaGreatDoor
open Go Go.Gp
theorem smallD {c : Crt} (hp : PreD c) (hg : greatC c = false) : SmallC c := small_of { v4 := hp.v4, v6 := hp.v6, as_ := hp.as_, chains := hp.chains, path := hp.path } hg
theorem small_of_chk {c : Crt} (hp : PreD c) (hk : chkC c = 0) : SmallC c := by
  obtain ⟨hT, hS⟩ := bounds_of hp hk
  have h1 := hT.issuer
  have h2 := hT.subject
  have h3 := hT.repo
  have h4 := hT.manifest
  have h5 := hT.notify
  have h6 := hT.crl
  have h7 := hT.parent
  have h8 := hT.n4
  have h9 := hT.n6
  have h10 := hT.nas
  have h11 := hS.nc
  have h12 := hS.np
  exact ⟨⟨⟨hp.v4, hp.v6, hp.as_, by omega, by omega, by omega⟩, ⟨hp.chains, hp.path, by omega, by omega⟩⟩, by omega, by omega, by omega, by omega, by omega, by omega, by omega, by omega, by omega, by omega, by omega, by omega⟩
theorem bytesP_nil : bytesP [] = [] := rfl
end Go.Proofs.YtgekglfmianoeaaGreatDoor

namespace Go.Proofs.YtgekglfmianoeaaGreatDoor
open Go Go.Gp
end Go.Proofs.YtgekglfmianoeaaGreatDoor

namespace Go.Proofs.YtgekglfmianoeaaGreatDoor
open Go Go.Gp
theorem u8_of (p : PV) (h : SInt .u8 p) : ∃ x : UInt8, p = byteP x ∧ True := by
  obtain ⟨n, rfl, hn⟩ := int_of h rfl
  have e : IntKind.u8.max = 255 := by decide
  rw [e] at hn
  refine ⟨UInt8.ofNat n, ?_, trivial⟩
  have : (UInt8.ofNat n).toNat = n := by
    rw [UInt8.toNat_ofNat']; omega
  simp [byteP, this]
theorem bytesArg_of {p : PV} (h : SSl 1 (SInt .u8) p) : ∃ l : List UInt8, p = .sl 1 (bytesP l) := by
  obtain ⟨xs, rfl, hx, _⟩ := h
  obtain ⟨l, rfl, _⟩ := list_of u8_of hx
  exact ⟨l, rfl⟩
end Go.Proofs.YtgekglfmianoeaaGreatDoor
