/-
  From contracts on data to a law's row: arguments opened, the call's end read back.
-/
import Derived.Test.YtpcancnnbjadeaaDoorGpV
import Derived.ProofKit
import Derived.OpenShut
import Derived.LaidMore
import Derived.Lay
import Derived.Carry
import Derived.ChangeOld
import Derived.SevenTiedAt
import Derived.Stop.Joined
import Derived.Shelf.Vars
import Derived.Lib.LaidTab
import Derived.HandedShaped
set_option linter.unusedSimpArgs false
set_option linter.unusedVariables false
namespace Go.Gp
open Go.RowKit Go.ChangeShapes Go.WideShapes Go.ChangeAt

def allK (w : World) : Nat → Prop := fun k => k < w.heap.size
/-- These cells are the data's cells. -/
def CellsR (w : World) (pv : PV) (cs : List Value) : Prop :=
  cs.length = pv.cells.length ∧ ∀ (i : Nat) c, pv.cells[i]? = some c → c.one = true ∧ PR w (allK w) c (cs.getD i undef)

section
variable {P : Program}

/-- What is read at type 't' is data of this kind. -/
def Opens (P : Program) (t : TypeId) (S : PV → Prop) : Prop :=
  ∀ (H : Type) (enc : TypeId × Value → H) (w : World) (fuel : Nat) (cs : List Value) (x : DataW H × List MemPlace), DataW.trod enc P w 0 (fun _ => true) true fuel t cs = some x → ∃ pv, S pv ∧ CellsR w pv cs

theorem CellsR.flat {w : World} {v : Value} (h : flatV v = true) : CellsR w (.v v) [v] :=
  ⟨rfl, fun i c hi => by
    rcases i with _ | i
    · simp [PV.cells] at hi; subst hi; exact ⟨rfl, .v h⟩
    · simp [PV.cells] at hi⟩

def SBool (p : PV) : Prop := ∃ b, p = .v (.bool b)
def SInt (k : IntKind) (p : PV) : Prop := ∃ n, p = .v (.int k n) ∧ (Lit.int k n).wf = true
def SStr (p : PV) : Prop := ∃ s : ByteArray, p = .v (.string s) ∧ s.size ≤ maxLen
def SSl (s : Nat) (S : PV → Prop) (p : PV) : Prop := ∃ xs : List PV, p = .sl s xs ∧ (∀ x ∈ xs, S x) ∧ xs.length ≤ maxLen
inductive AllS : List (PV → Prop) → List PV → Prop
  | nil : AllS [] []
  | cons {S p Ss ps} (h : S p) (r : AllS Ss ps) : AllS (S :: Ss) (p :: ps)
def catC (ps : List PV) : List PV := ps.flatMap PV.cells
def SAgg (Ss : List (PV → Prop)) (p : PV) : Prop := ∃ ps, AllS Ss ps ∧ p = .agg (catC ps)

theorem opens_bool {t : TypeId} (ht : P.underlying t = some .bool) : Opens P t SBool := fun H enc w fuel cs x h => by
  obtain ⟨b, rfl, _⟩ := DataW.trod_bool ht h
  exact ⟨_, ⟨b, rfl⟩, .flat rfl⟩
theorem opens_int {t : TypeId} {k : IntKind} (ht : P.underlying t = some (.int k)) : Opens P t (SInt k) := fun H enc w fuel cs x h => by
  obtain ⟨n, rfl, _, hw⟩ := DataW.trod_int ht h
  exact ⟨_, ⟨n, rfl, hw⟩, .flat rfl⟩
theorem opens_str {t : TypeId} (ht : P.underlying t = some .string) : Opens P t SStr := fun H enc w fuel cs x h => by
  obtain ⟨s, rfl, _, hs⟩ := DataW.trod_string ht h
  exact ⟨_, ⟨s, rfl, hs⟩, .flat rfl⟩

theorem opens_slice {t e : TypeId} {s : Nat} {S : PV → Prop} (ht : P.underlying t = some (.slice e)) (he : Opens P e S) (hs : P.cellsOf e = s) (h0 : 0 < s) : Opens P t (SSl s S) := fun H enc w fuel cs x h => by
  rcases DataW.trod_slice ht h with ⟨rfl, _⟩ | ⟨a, len, cap, elems, rest, n, rfl, rfl, _, hb, hle, hc, hlen, hel, _⟩
  · refine ⟨.sl s [], ⟨[], rfl, by simp, Nat.zero_le _⟩, rfl, fun i c hi => ?_⟩
    rcases i with _ | i
    · simp [PV.cells] at hi; subst hi; exact ⟨rfl, .nil⟩
    · simp [PV.cells] at hi
  · rw [hs] at hel
    have one : ∀ i, i < len → ∃ pv cs', S pv ∧ w.cells? 0 (a.add (i * s)) s = some cs' ∧ CellsR w pv cs' := fun i hi => by
      have h1 := hel i hi
      obtain ⟨y, hy⟩ : ∃ y, elems[i]? = some y := ⟨_, List.getElem?_eq_getElem (by omega)⟩
      rw [hy, Option.bind_eq_some_iff] at h1
      obtain ⟨cs', h2, h3⟩ := h1
      obtain ⟨pv, h4, h5⟩ := he H enc w n cs' y h3
      exact ⟨pv, cs', h4, h2, h5⟩
    rcases Nat.eq_zero_or_pos len with h00 | hpos
    · subst h00
      refine ⟨.sl s [], ⟨[], rfl, by simp, Nat.zero_le _⟩, rfl, fun i c hi => ?_⟩
      rcases i with _ | i
      · simp [PV.cells] at hi; subst hi; exact ⟨rfl, .nil⟩
      · simp [PV.cells] at hi
    have hcells : ∀ i cs', w.cells? 0 (a.add (i * s)) s = some cs' → cs'.length = s ∧ ∀ k, k < s → w.cell? ((a.add (i * s)).add k) = some (cs'.getD k undef) := fun i cs' h2 => by
      obtain ⟨_, h3, h4⟩ := World.cells?_some h2
      refine ⟨h3, fun k hk => ?_⟩
      rw [h4 k hk, List.getD_eq_getElem?_getD, List.getElem?_eq_getElem (by omega)]; rfl
    have hspot : a.spot = none ∧ a.block < w.heap.size := by
      obtain ⟨pv, cs', _, h2, _⟩ := one 0 hpos
      have h3 := (hcells 0 cs' h2).2 0 h0
      simp only [Nat.zero_mul, Addr.add_zero'] at h3
      have h4 := World.cells?_block h2 h0
      simp only [Nat.zero_mul, Addr.add_zero'] at h4
      unfold World.cell? at h3
      split at h3
      · split at h3
        · cases h3
        · rename_i hn; exact ⟨by simpa using hn, h4⟩
      · cases h3
    obtain ⟨B, o, sp⟩ := a
    obtain ⟨rfl, hlt⟩ := hspot
    have hadd : ∀ i k, ((⟨B, o, none⟩ : Addr).add (i * s)).add k = ⟨B, o + (i * s + k), none⟩ := fun i k => by rw [addr_add, addr_add, Nat.add_assoc]
    -- a choice of the elements
    have ch : ∃ xs : List PV, xs.length = len ∧ ∀ i, i < len → ∃ pv, xs[i]? = some pv ∧ S pv ∧ pv.cells.length = s ∧ ∀ k c, pv.cells[k]? = some c → c.one = true ∧ ∃ v, w.cell? ⟨B, o + (i * s + k), none⟩ = some v ∧ PR w (allK w) c v := by
      have : ∀ m, m ≤ len → ∃ xs : List PV, xs.length = m ∧ ∀ i, i < m → ∃ pv, xs[i]? = some pv ∧ S pv ∧ pv.cells.length = s ∧ ∀ k c, pv.cells[k]? = some c → c.one = true ∧ ∃ v, w.cell? ⟨B, o + (i * s + k), none⟩ = some v ∧ PR w (allK w) c v := by
        intro m
        induction m with
        | zero => exact fun _ => ⟨[], rfl, fun i hi => absurd hi (Nat.not_lt_zero i)⟩
        | succ m ih =>
          intro hm
          obtain ⟨xs, h1, h2⟩ := ih (by omega)
          obtain ⟨pv, cs', h3, h4, h5⟩ := one m (by omega)
          obtain ⟨h6, h7⟩ := hcells m cs' h4
          refine ⟨xs ++ [pv], by simp [h1], fun i hi => ?_⟩
          by_cases e : i = m
          · subst e
            refine ⟨pv, by simp [h1], h3, by rw [← h5.1, h6], fun k c hk => ?_⟩
            obtain ⟨h8, h9⟩ := h5.2 k c hk
            have hk' : k < s := by have := (List.getElem?_eq_some_iff.1 hk).1; rw [← h5.1, h6] at this; exact this
            refine ⟨h8, _, ?_, h9⟩
            rw [← hadd]; exact h7 k hk'
          · obtain ⟨pv', h8, h9⟩ := h2 i (by omega)
            exact ⟨pv', by rw [List.getElem?_append_left (by omega)]; exact h8, h9⟩
      exact this len (Nat.le_refl _)
    obtain ⟨xs, hx, hxs⟩ := ch
    refine ⟨.sl s xs, ⟨xs, rfl, fun x hx' => ?_, by omega⟩, rfl, fun i c hi => ?_⟩
    · obtain ⟨k, hk⟩ := List.mem_iff_getElem?.1 hx'
      have := (List.getElem?_eq_some_iff.1 hk).1
      obtain ⟨pv, h1, h2, _⟩ := hxs k (by omega)
      rw [hk] at h1; cases h1; exact h2
    · rcases i with _ | i
      · simp [PV.cells] at hi; subst hi
        refine ⟨rfl, ?_⟩
        have hcell : ∀ k, k < len * s → ∃ v, w.cell? ⟨B, o + k, none⟩ = some v := fun k hk => by
          have hi : k / s < len := (Nat.div_lt_iff_lt_mul h0).2 hk
          obtain ⟨pv, h1, _, h3, h4⟩ := hxs (k / s) hi
          have hm : k % s < s := Nat.mod_lt _ h0
          obtain ⟨_, v, h5, _⟩ := h4 (k % s) _ (List.getElem?_eq_getElem (by omega))
          refine ⟨v, ?_⟩
          rw [← h5]
          have : k / s * s + k % s = k := Nat.div_add_mod' k s
          rw [this]
        refine .sl (fun k => (w.cell? ⟨B, o + k, none⟩).getD undef) hx.symm hlt hle (fun k hk => ?_) (fun i x hx' => ?_) (fun i k x y hx' hy => ?_) (fun i k x y hx' hy => ?_)
        · obtain ⟨v, hv⟩ := hcell k hk
          rw [hv]; rfl
        · have := (List.getElem?_eq_some_iff.1 hx').1
          obtain ⟨pv, h1, _, h3, _⟩ := hxs i (by omega)
          rw [hx'] at h1; cases h1; exact h3
        · have := (List.getElem?_eq_some_iff.1 hx').1
          obtain ⟨pv, h1, _, h3, h4⟩ := hxs i (by omega)
          rw [hx'] at h1; cases h1; exact (h4 k y hy).1
        · have := (List.getElem?_eq_some_iff.1 hx').1
          obtain ⟨pv, h1, _, h3, h4⟩ := hxs i (by omega)
          rw [hx'] at h1; cases h1
          obtain ⟨_, v, h5, h6⟩ := h4 k y hy
          show PR w (allK w) y ((w.cell? ⟨B, o + (i * s + k), none⟩).getD undef)
          rw [h5]; exact h6
      · simp [PV.cells] at hi

/-- Places that follow each other. -/
def contig : Nat → List (Nat × TypeId × Nat) → Nat → Bool
  | o, [], n => o == n
  | o, f :: r, n => f.1 == o && contig (o + f.2.2) r n
inductive OpensAll (P : Program) : List (Nat × TypeId × Nat) → List (PV → Prop) → Prop
  | nil : OpensAll P [] []
  | cons {f S fs Ss} (h : Opens P f.2.1 S) (r : OpensAll P fs Ss) : OpensAll P (f :: fs) (S :: Ss)

theorem open_fields {H : Type} {enc : TypeId × Value → H} {w : World} {cs : List Value} : ∀ {l : List (Nat × TypeId × Nat)} {Ss : List (PV → Prop)} {o : Nat}, OpensAll P l Ss → contig o l cs.length = true → o ≤ cs.length →
    (∀ f ∈ l, f.1 + f.2.2 ≤ cs.length ∧ ∃ n x, DataW.trod enc P w 0 (fun _ => true) true n f.2.1 ((cs.drop f.1).take f.2.2) = some x) →
    ∃ ps, AllS Ss ps ∧ (catC ps).length = cs.length - o ∧ ∀ (i : Nat) c, (catC ps)[i]? = some c → c.one = true ∧ PR w (allK w) c (cs.getD (o + i) undef)
  | [], _, o, .nil, hc, _, _ => by
    simp only [contig, beq_iff_eq] at hc
    exact ⟨[], .nil, by simp [catC]; omega, fun i c hi => by simp [catC] at hi⟩
  | f :: l, _, o, .cons (S := S) h r, hc, ho, hf => by
    simp only [contig, Bool.and_eq_true, beq_iff_eq] at hc
    obtain ⟨rfl, hc⟩ := hc
    obtain ⟨hle, n, x, hx⟩ := hf f List.mem_cons_self
    obtain ⟨pv, hS, hl, hcells⟩ := h H enc w n _ x hx
    have hlen : pv.cells.length = f.2.2 := by rw [← hl]; simp; omega
    obtain ⟨ps, h1, h2, h3⟩ := open_fields r hc (by omega) (fun g hg => hf g (List.mem_cons_of_mem _ hg))
    refine ⟨pv :: ps, .cons hS h1, by simp only [catC, List.flatMap_cons, List.length_append] at h2 ⊢; omega, fun i c hi => ?_⟩
    simp only [catC, List.flatMap_cons] at hi h3
    rcases Nat.lt_or_ge i pv.cells.length with hlt | hge
    · rw [List.getElem?_append_left hlt] at hi
      obtain ⟨h4, h5⟩ := hcells i c hi
      refine ⟨h4, ?_⟩
      have : ((cs.drop f.1).take f.2.2).getD i undef = cs.getD (f.1 + i) undef := by
        rw [List.getD_eq_getElem?_getD, List.getD_eq_getElem?_getD, List.getElem?_take, if_pos (by omega), List.getElem?_drop]
      rw [← this]; exact h5
    · rw [List.getElem?_append_right hge] at hi
      obtain ⟨h4, h5⟩ := h3 _ c hi
      refine ⟨h4, ?_⟩
      have : f.1 + f.2.2 + (i - pv.cells.length) = f.1 + i := by omega
      rw [← this]; exact h5

theorem opens_struct {t : TypeId} {fs : Array Field} {Ss : List (PV → Prop)} (ht : P.underlying t = some (.struct fs)) (h : OpensAll P (fs.toList.map fun f => (f.offset, f.type, P.cellsOf f.type)) Ss)
    (hc : contig 0 (fs.toList.map fun f => (f.offset, f.type, P.cellsOf f.type)) (P.cellsOf t) = true) (hin : (fs.toList.all fun f => decide (f.offset + P.cellsOf f.type ≤ P.cellsOf t)) = true) : Opens P t (SAgg Ss) := fun H enc w fuel cs x hx => by
  obtain ⟨xs, n, rfl, _, hlen, hl, hf⟩ := DataW.trod_struct ht hx
  obtain ⟨ps, h1, h2, h3⟩ := open_fields (enc := enc) (w := w) (cs := cs) h (by rw [hlen]; exact hc) (Nat.zero_le _) (fun g hg => by
    obtain ⟨f, hfm, rfl⟩ := List.mem_map.1 hg
    have := List.all_eq_true.1 hin f hfm
    refine ⟨by rw [hlen]; exact of_decide_eq_true this, n, ?_⟩
    obtain ⟨i, hi⟩ := List.mem_iff_getElem?.1 hfm
    have hi' : fs[i]? = some f := by simpa using hi
    have hlt := (Array.getElem?_eq_some_iff.1 hi').1
    have := hf i f hi'
    rw [List.getElem?_eq_getElem (by omega)] at this
    exact ⟨_, this⟩)
  refine ⟨_, ⟨ps, h1, rfl⟩, by simp only [PV.cells]; omega, fun i c hi => ?_⟩
  have := h3 i c hi
  rwa [Nat.zero_add] at this

theorem opens_array {t e : TypeId} {n : Nat} {Ss : List (PV → Prop)} (ht : P.underlying t = some (.array n e)) (h : OpensAll P ((List.range n).map fun i => (i * P.cellsOf e, e, P.cellsOf e)) Ss)
    (hc : contig 0 ((List.range n).map fun i => (i * P.cellsOf e, e, P.cellsOf e)) (P.cellsOf t) = true) (hin : ((List.range n).all fun i => decide (i * P.cellsOf e + P.cellsOf e ≤ P.cellsOf t)) = true) : Opens P t (SAgg Ss) := fun H enc w fuel cs x hx => by
  obtain ⟨xs, m, rfl, _, hlen, hl, hf⟩ := DataW.trod_array ht hx
  obtain ⟨ps, h1, h2, h3⟩ := open_fields (enc := enc) (w := w) (cs := cs) h (by rw [hlen]; exact hc) (Nat.zero_le _) (fun g hg => by
    obtain ⟨i, hi, rfl⟩ := List.mem_map.1 hg
    have := List.all_eq_true.1 hin i hi
    refine ⟨by rw [hlen]; exact of_decide_eq_true this, m, ?_⟩
    have hlt := List.mem_range.1 hi
    have := hf i hlt
    rw [List.getElem?_eq_getElem (by omega)] at this
    exact ⟨_, this⟩)
  refine ⟨_, ⟨ps, h1, rfl⟩, by simp only [PV.cells]; omega, fun i c hi => ?_⟩
  have := h3 i c hi
  rwa [Nat.zero_add] at this

/-- A value whose cells are the data's. -/
theorem CellsR.value {w : World} {pv : PV} {v : Value} (h : CellsR w pv v.cells.toList) (ha : (∃ ms, v = .agg ms) ↔ ∃ cs, pv = .agg cs) : PR w (allK w) pv v := by
  cases pv with
  | agg cs =>
    obtain ⟨ms, rfl⟩ := ha.2 ⟨cs, rfl⟩
    refine .agg (by have := h.1; simpa [PV.cells, Value.cells] using this) (fun i c hi => (h.2 i c hi).1) (fun i c hi => ?_)
    have := (h.2 i c hi).2
    simpa [Value.cells, List.getD_eq_getElem?_getD, Array.getD_eq_getD_getElem?] using this
  | _ =>
    have hv : ∀ ms, v ≠ .agg ms := fun ms e => by obtain ⟨cs, hcs⟩ := ha.1 ⟨ms, e⟩; cases hcs
    have e : v.cells = #[v] := by cases v <;> first | rfl | exact absurd rfl (hv _)
    rw [e] at h
    exact (h.2 0 _ rfl).2
end
end Go.Gp
