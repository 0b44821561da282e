/-
  What the laid variables give; arguments as locators and strings.
-/
import Derived.Test.YtpcancnnbjadeaaDoorLm
import Derived.Test.YtpcancnnbjadeaaDoorGpY
import Derived.Test.YtpcancnnbjadeaaDoorTie
set_option linter.unusedSimpArgs false
set_option linter.unusedVariables false
namespace Go.Proofs.YtpcancnnbjadeaaDoor
open Go Go.Gp Go.RowKit

theorem laid_mem {P : Program} {w : World} {n : String} {d : DataW Unit} : ∀ {l : List (String × DataW Unit)} {ps : List MemPlace}, DataW.LaidVars P w l ps → (n, d) ∈ l →
    ∃ g t cs fuel p, P.globalNamed n = some g ∧ (P.globals[g]?).map (·.type) = some t ∧ w.var? P n = some cs ∧ DataW.trod (fun _ => ()) P w 0 (fun _ => true) false fuel t cs.toList = some (d, p)
  | [], ps, _, h => by cases h
  | (n', d') :: r, ps, hl, h => by
    obtain ⟨g, t, cs, fuel, p, q, h1, h2, h3, h4, h5, _⟩ := hl
    rcases List.mem_cons.1 h with e | h
    · cases e; exact ⟨g, t, cs, fuel, p, h1, h2, h3, h4⟩
    · exact laid_mem h5 h

theorem pow10_data : (Rows.laid_internal_strconv_uint64pow10 : DataW Unit) = Lib.tabData .u64 Lib.pow10Tab := by kernel_rfl

theorem gw_of {laid : List (String × DataW Unit)} {W : World} (h : laidMet Tryd.prog laid W) (hm : ("internal/strconv.uint64pow10", Rows.laid_internal_strconv_uint64pow10) ∈ laid) (hs : W.ShapedOpen Tryd.prog) : GW W := by
  refine ⟨Go.Proofs.cell_of_shapedOpen_int (g := 0) (zero := #[.int .i64 0]) (t := 3) hs (of_decide_eq_true (by kernel_rfl)) (by kernel_rfl) rfl (by kernel_rfl) (by kernel_rfl) Tryd.underlying3, ?_⟩
  obtain ⟨ps, hl, _⟩ := h
  obtain ⟨g, t, cs, fuel, p, h1, h2, h3, h4⟩ := laid_mem hl hm
  rw [pow10_data] at h4
  obtain rfl : g = 3 := Option.some.inj (h1.symm.trans (show Tryd.prog.globalNamed "internal/strconv.uint64pow10" = some 3 by kernel_rfl))
  obtain rfl : t = 124 := Option.some.inj (h2.symm.trans (show (Tryd.prog.globals[3]?).map (·.type) = some 124 by kernel_rfl))
  unfold Lib.TabIs
  rw [h3, ← Lib.cells_of_tab (by first | exact Tryd.underlying124 | kernel_rfl) (e := 98) (by first | exact Tryd.underlying98 | kernel_rfl) (by kernel_rfl) (by kernel_rfl) h4]

theorem str_of {p : PV} (h : SStr p) : ∃ s : ByteArray, p = pS s ∧ s.size ≤ maxLen := h
theorem strs_of : ∀ {xs : List PV}, (∀ x ∈ xs, SStr x) → ∃ l : List ByteArray, xs = l.map pS
  | [], _ => ⟨[], rfl⟩
  | x :: r, h => by
    obtain ⟨s, rfl, _⟩ := h x List.mem_cons_self
    obtain ⟨l, rfl⟩ := strs_of (fun y hy => h y (List.mem_cons_of_mem _ hy))
    exact ⟨s :: l, rfl⟩
theorem loc_of {p : PV} (h : S_api_Locator p) : ∃ l : Locator, p = locP l := by
  obtain ⟨ps, h, rfl⟩ := h
  cases h with | cons h1 h => cases h with | cons h2 h => cases h with | cons h3 h => cases h with | cons h4 h => cases h with | cons h5 h =>
    cases h
    obtain ⟨n, rfl, _⟩ := h1
    obtain ⟨s, rfl, _⟩ := h2
    obtain ⟨q, rfl, _⟩ := h3
    obtain ⟨xs, rfl, hx, _⟩ := h4
    obtain ⟨b, rfl⟩ := h5
    obtain ⟨l, rfl⟩ := strs_of hx
    exact ⟨⟨n, s, q, l, b⟩, rfl⟩
end Go.Proofs.YtpcancnnbjadeaaDoor
