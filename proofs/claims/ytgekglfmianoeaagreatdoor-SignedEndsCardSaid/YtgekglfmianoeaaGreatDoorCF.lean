/-
  The law of checks.
  Arguments as certificates.
-/
import Derived.Test.YtgekglfmianoeaaGreatDoorCE
import Derived.Test.YtgekglfmianoeaaGreatDoorCD
import Derived.Test.YtgekglfmianoeaaGreatDoorCC
import Derived.Test.YtgekglfmianoeaaGreatDoorMB
set_option linter.unusedSimpArgs false
set_option linter.unusedVariables false
set_option maxRecDepth 20000
namespace Go.Proofs.YtgekglfmianoeaaGreatDoor
open Go Go.Gp
structure PreC (c : Crt) : Prop where
  v4 : ∀ s ∈ c.res.v4, s.1 < 340282366920938463463374607431768211456 ∧ s.2 < 340282366920938463463374607431768211456
  v6 : ∀ s ∈ c.res.v6, s.1 < 340282366920938463463374607431768211456 ∧ s.2 < 340282366920938463463374607431768211456
  as_ : ∀ s ∈ c.res.as_, s.1 < 4294967296 ∧ s.2 < 4294967296
  chains : ∀ x ∈ c.sig.chains, x.length = 16
  path : ∀ x ∈ c.sig.path, x.length = 16
structure SmallC (c : Crt) : Prop extends OkC c where
  issuer : c.issuer.size ≤ 500
  subject : c.subject.size ≤ 500
  repo : c.repo.size ≤ 500
  manifest : c.manifest.size ≤ 500
  notify : c.notify.size ≤ 500
  crl : c.crl.size ≤ 500
  parent : c.parent.size ≤ 500
  n4 : c.res.v4.length ≤ 210
  n6 : c.res.v6.length ≤ 210
  nas : c.res.as_.length ≤ 210
  nc : c.sig.chains.length ≤ 60
  np : c.sig.path.length ≤ 60
theorem small_of {c : Crt} (h : PreC c) (hg : greatC c = false) : SmallC c := by
  simp only [greatC, strsC, greatS, kS, List.any_cons, List.any_nil, Bool.or_eq_false_iff, decide_eq_false_iff_not, List.length_map] at hg
  obtain ⟨⟨h1, h2, h3, h4, h5, h6, h7, _⟩, ⟨⟨h8, h9⟩, h10⟩, h11, h12⟩ := hg
  exact ⟨⟨⟨h.v4, h.v6, h.as_, by omega, by omega, by omega⟩, ⟨h.chains, h.path, by omega, by omega⟩⟩, by omega, by omega, by omega, by omega, by omega, by omega, by omega, by omega, by omega, by omega, by omega, by omega⟩

theorem sameC_self (a : Crt) : sameC a a = true := by
  simp [sameC, headC, sameR, sameS, strEq, pvsEq, pvEq, valEq]

end Go.Proofs.YtgekglfmianoeaaGreatDoor

namespace Go.Proofs.YtgekglfmianoeaaGreatDoor
open Go Go.Gp Go.RowKit
theorem int_of {k : IntKind} {p : PV} (h : SInt k p) (h0 : k.min = 0) : ∃ n : Nat, p = .v (.int k n) ∧ (n : Int) ≤ k.max := by
  obtain ⟨n, rfl, hw⟩ := h
  simp only [Lit.wf, Bool.and_eq_true, decide_eq_true_eq, h0] at hw
  exact ⟨n.toNat, by rw [Int.toNat_of_nonneg hw.1], by rw [Int.toNat_of_nonneg hw.1]; exact hw.2⟩
theorem addr_of {x y : PV} (hx : SInt .u64 x) (hy : SInt .u64 y) : ∃ v : Nat, v < 340282366920938463463374607431768211456 ∧ x = pU64 (hiN v) ∧ y = pU64 (loN v) := by
  obtain ⟨a, rfl, ha⟩ := int_of hx rfl
  obtain ⟨b, rfl, hb⟩ := int_of hy rfl
  have e : IntKind.u64.max = 18446744073709551615 := by decide
  rw [e] at ha hb
  refine ⟨a * 18446744073709551616 + b, by omega, ?_, ?_⟩
  · have : hiN (a * 18446744073709551616 + b) = a := by unfold hiN; omega
    rw [this]
  · have : loN (a * 18446744073709551616 + b) = b := by unfold loN; omega
    rw [this]
theorem list_of {α : Type} {f : α → PV} {Q : α → Prop} {S : PV → Prop} (h : ∀ p, S p → ∃ x, p = f x ∧ Q x) : ∀ {xs : List PV}, (∀ x ∈ xs, S x) → ∃ l : List α, xs = l.map f ∧ ∀ x ∈ l, Q x
  | [], _ => ⟨[], rfl, by simp⟩
  | x :: r, hx => by
    obtain ⟨y, rfl, hy⟩ := h x (hx x List.mem_cons_self)
    obtain ⟨l, rfl, hl⟩ := list_of h (fun z hz => hx z (List.mem_cons_of_mem _ hz))
    exact ⟨y :: l, rfl, by simpa [hy] using hl⟩
theorem span_of (p : PV) (h : SAgg [SAgg [SInt .u64, SInt .u64], SAgg [SInt .u64, SInt .u64]] p) : ∃ s : Nat × Nat, p = spanP s ∧ s.1 < 340282366920938463463374607431768211456 ∧ s.2 < 340282366920938463463374607431768211456 := by
  obtain ⟨ps, h, rfl⟩ := h
  cases h with | cons h1 h => cases h with | cons h2 h =>
    cases h
    obtain ⟨qs, h1, rfl⟩ := h1
    obtain ⟨rs, h2, rfl⟩ := h2
    cases h1 with | cons a1 h1 => cases h1 with | cons a2 h1 =>
      cases h1
      cases h2 with | cons b1 h2 => cases h2 with | cons b2 h2 =>
        cases h2
        obtain ⟨v, hv, rfl, rfl⟩ := addr_of a1 a2
        obtain ⟨u, hu, rfl, rfl⟩ := addr_of b1 b2
        exact ⟨(v, u), rfl, hv, hu⟩
theorem as_of (p : PV) (h : SAgg [SInt .u32, SInt .u32] p) : ∃ s : Nat × Nat, p = asP s ∧ s.1 < 4294967296 ∧ s.2 < 4294967296 := by
  obtain ⟨ps, h, rfl⟩ := h
  cases h with | cons h1 h => cases h with | cons h2 h =>
    cases h
    obtain ⟨a, rfl, ha⟩ := int_of h1 rfl
    obtain ⟨b, rfl, hb⟩ := int_of h2 rfl
    have e : IntKind.u32.max = 4294967295 := by decide
    rw [e] at ha hb
    exact ⟨(a, b), rfl, by omega, by omega⟩
theorem bytes_of : ∀ (n : Nat) {ps : List PV}, AllS (List.replicate n (SInt .u8)) ps → ∃ l : List Nat, l.length = n ∧ ps = l.map (fun x : Nat => pU8 x) ∧ ∀ x ∈ l, x < 256
  | 0, ps, h => by cases h; exact ⟨[], rfl, rfl, by simp⟩
  | n + 1, ps, h => by
    rw [List.replicate_succ] at h
    cases h with | cons h1 h =>
      obtain ⟨a, rfl, ha⟩ := int_of h1 rfl
      have e : IntKind.u8.max = 255 := by decide
      rw [e] at ha
      obtain ⟨l, hl, rfl, hb⟩ := bytes_of n h
      exact ⟨a :: l, by simp [hl], rfl, by simp; exact ⟨by omega, hb⟩⟩
theorem cat_bytes (l : List Nat) : catC (l.map fun x : Nat => pU8 x) = l.map fun x : Nat => pU8 x := by
  induction l with
  | nil => rfl
  | cons a r ih => simp only [List.map_cons, catC, List.flatMap_cons] at ih ⊢; rw [ih]; rfl
theorem spans_of {p : PV} (h : SSl 4 (SAgg [SAgg [SInt .u64, SInt .u64], SAgg [SInt .u64, SInt .u64]]) p) : ∃ l : List (Nat × Nat), p = spansP l ∧ ∀ s ∈ l, s.1 < 340282366920938463463374607431768211456 ∧ s.2 < 340282366920938463463374607431768211456 := by
  obtain ⟨xs, rfl, hx, _⟩ := h
  obtain ⟨l, rfl, hl⟩ := list_of span_of hx
  exact ⟨l, rfl, hl⟩
end Go.Proofs.YtgekglfmianoeaaGreatDoor
