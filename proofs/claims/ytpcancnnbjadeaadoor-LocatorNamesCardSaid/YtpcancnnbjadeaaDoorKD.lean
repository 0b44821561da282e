/-
  From contracts on data to a law's row: arguments opened, the call's end read back.
  A law's row, out of its contract on data.
  What the types of this translation are; which functions can be called. Printed by a program (types.py).
  What the laws' parameters read as. Printed by a program (opens.py).
  The rules of evaluation and the facts on types, as one set of rules.
-/
import Derived.Test.YtpcancnnbjadeaaDoorKC
import Derived.ProofKit
import Derived.OpenShut
import Derived.LaidMore
import Derived.Lay
import Derived.Carry
import Derived.ChangeOld
import Derived.SevenTiedAt
import Derived.Stop.Joined
import Derived.Shelf.Vars
import Derived.Lib.LaidTab
import Derived.HandedShaped
import Derived.Test.YtpcancnnbjadeaaDoorKA
import Derived.Test.YtpcancnnbjadeaaDoorKB
import Derived.Test.YtpcancnnbjadeaaDoorProg
import Derived.KernelRfl
set_option linter.unusedSimpArgs false
set_option linter.unusedVariables false
set_option maxRecDepth 20000
namespace Go.Gp
open Go.RowKit Go.ChangeShapes Go.WideShapes Go.ChangeAt

def allK (w : World) : Nat → Prop := fun k => k < w.heap.size
/-- These cells are the data's cells. -/
def CellsR (w : World) (pv : PV) (cs : List Value) : Prop :=
  cs.length = pv.cells.length ∧ ∀ (i : Nat) c, pv.cells[i]? = some c → c.one = true ∧ PR w (allK w) c (cs.getD i undef)

section
variable {P : Program}

/-- What is read at type 't' is data of this kind. -/
def Opens (P : Program) (t : TypeId) (S : PV → Prop) : Prop :=
  ∀ (H : Type) (enc : TypeId × Value → H) (w : World) (fuel : Nat) (cs : List Value) (x : DataW H × List MemPlace), DataW.trod enc P w 0 (fun _ => true) true fuel t cs = some x → ∃ pv, S pv ∧ CellsR w pv cs

theorem CellsR.flat {w : World} {v : Value} (h : flatV v = true) : CellsR w (.v v) [v] :=
  ⟨rfl, fun i c hi => by
    rcases i with _ | i
    · simp [PV.cells] at hi; subst hi; exact ⟨rfl, .v h⟩
    · simp [PV.cells] at hi⟩

def SBool (p : PV) : Prop := ∃ b, p = .v (.bool b)
def SInt (k : IntKind) (p : PV) : Prop := ∃ n, p = .v (.int k n) ∧ (Lit.int k n).wf = true
def SStr (p : PV) : Prop := ∃ s : ByteArray, p = .v (.string s) ∧ s.size ≤ maxLen
def SSl (s : Nat) (S : PV → Prop) (p : PV) : Prop := ∃ xs : List PV, p = .sl s xs ∧ (∀ x ∈ xs, S x) ∧ xs.length ≤ maxLen
inductive AllS : List (PV → Prop) → List PV → Prop
  | nil : AllS [] []
  | cons {S p Ss ps} (h : S p) (r : AllS Ss ps) : AllS (S :: Ss) (p :: ps)
def catC (ps : List PV) : List PV := ps.flatMap PV.cells
def SAgg (Ss : List (PV → Prop)) (p : PV) : Prop := ∃ ps, AllS Ss ps ∧ p = .agg (catC ps)

theorem opens_bool {t : TypeId} (ht : P.underlying t = some .bool) : Opens P t SBool := fun H enc w fuel cs x h => by
  obtain ⟨b, rfl, _⟩ := DataW.trod_bool ht h
  exact ⟨_, ⟨b, rfl⟩, .flat rfl⟩
theorem opens_int {t : TypeId} {k : IntKind} (ht : P.underlying t = some (.int k)) : Opens P t (SInt k) := fun H enc w fuel cs x h => by
  obtain ⟨n, rfl, _, hw⟩ := DataW.trod_int ht h
  exact ⟨_, ⟨n, rfl, hw⟩, .flat rfl⟩
theorem opens_str {t : TypeId} (ht : P.underlying t = some .string) : Opens P t SStr := fun H enc w fuel cs x h => by
  obtain ⟨s, rfl, _, hs⟩ := DataW.trod_string ht h
  exact ⟨_, ⟨s, rfl, hs⟩, .flat rfl⟩

theorem opens_slice {t e : TypeId} {s : Nat} {S : PV → Prop} (ht : P.underlying t = some (.slice e)) (he : Opens P e S) (hs : P.cellsOf e = s) (h0 : 0 < s) : Opens P t (SSl s S) := fun H enc w fuel cs x h => by
  rcases DataW.trod_slice ht h with ⟨rfl, _⟩ | ⟨a, len, cap, elems, rest, n, rfl, rfl, _, hb, hle, hc, hlen, hel, _⟩
  · refine ⟨.sl s [], ⟨[], rfl, by simp, Nat.zero_le _⟩, rfl, fun i c hi => ?_⟩
    rcases i with _ | i
    · simp [PV.cells] at hi; subst hi; exact ⟨rfl, .nil⟩
    · simp [PV.cells] at hi
  · rw [hs] at hel
    have one : ∀ i, i < len → ∃ pv cs', S pv ∧ w.cells? 0 (a.add (i * s)) s = some cs' ∧ CellsR w pv cs' := fun i hi => by
      have h1 := hel i hi
      obtain ⟨y, hy⟩ : ∃ y, elems[i]? = some y := ⟨_, List.getElem?_eq_getElem (by omega)⟩
      rw [hy, Option.bind_eq_some_iff] at h1
      obtain ⟨cs', h2, h3⟩ := h1
      obtain ⟨pv, h4, h5⟩ := he H enc w n cs' y h3
      exact ⟨pv, cs', h4, h2, h5⟩
    rcases Nat.eq_zero_or_pos len with h00 | hpos
    · subst h00
      refine ⟨.sl s [], ⟨[], rfl, by simp, Nat.zero_le _⟩, rfl, fun i c hi => ?_⟩
      rcases i with _ | i
      · simp [PV.cells] at hi; subst hi; exact ⟨rfl, .nil⟩
      · simp [PV.cells] at hi
    have hcells : ∀ i cs', w.cells? 0 (a.add (i * s)) s = some cs' → cs'.length = s ∧ ∀ k, k < s → w.cell? ((a.add (i * s)).add k) = some (cs'.getD k undef) := fun i cs' h2 => by
      obtain ⟨_, h3, h4⟩ := World.cells?_some h2
      refine ⟨h3, fun k hk => ?_⟩
      rw [h4 k hk, List.getD_eq_getElem?_getD, List.getElem?_eq_getElem (by omega)]; rfl
    have hspot : a.spot = none ∧ a.block < w.heap.size := by
      obtain ⟨pv, cs', _, h2, _⟩ := one 0 hpos
      have h3 := (hcells 0 cs' h2).2 0 h0
      simp only [Nat.zero_mul, Addr.add_zero'] at h3
      have h4 := World.cells?_block h2 h0
      simp only [Nat.zero_mul, Addr.add_zero'] at h4
      unfold World.cell? at h3
      split at h3
      · split at h3
        · cases h3
        · rename_i hn; exact ⟨by simpa using hn, h4⟩
      · cases h3
    obtain ⟨B, o, sp⟩ := a
    obtain ⟨rfl, hlt⟩ := hspot
    have hadd : ∀ i k, ((⟨B, o, none⟩ : Addr).add (i * s)).add k = ⟨B, o + (i * s + k), none⟩ := fun i k => by rw [addr_add, addr_add, Nat.add_assoc]
    -- a choice of the elements
    have ch : ∃ xs : List PV, xs.length = len ∧ ∀ i, i < len → ∃ pv, xs[i]? = some pv ∧ S pv ∧ pv.cells.length = s ∧ ∀ k c, pv.cells[k]? = some c → c.one = true ∧ ∃ v, w.cell? ⟨B, o + (i * s + k), none⟩ = some v ∧ PR w (allK w) c v := by
      have : ∀ m, m ≤ len → ∃ xs : List PV, xs.length = m ∧ ∀ i, i < m → ∃ pv, xs[i]? = some pv ∧ S pv ∧ pv.cells.length = s ∧ ∀ k c, pv.cells[k]? = some c → c.one = true ∧ ∃ v, w.cell? ⟨B, o + (i * s + k), none⟩ = some v ∧ PR w (allK w) c v := by
        intro m
        induction m with
        | zero => exact fun _ => ⟨[], rfl, fun i hi => absurd hi (Nat.not_lt_zero i)⟩
        | succ m ih =>
          intro hm
          obtain ⟨xs, h1, h2⟩ := ih (by omega)
          obtain ⟨pv, cs', h3, h4, h5⟩ := one m (by omega)
          obtain ⟨h6, h7⟩ := hcells m cs' h4
          refine ⟨xs ++ [pv], by simp [h1], fun i hi => ?_⟩
          by_cases e : i = m
          · subst e
            refine ⟨pv, by simp [h1], h3, by rw [← h5.1, h6], fun k c hk => ?_⟩
            obtain ⟨h8, h9⟩ := h5.2 k c hk
            have hk' : k < s := by have := (List.getElem?_eq_some_iff.1 hk).1; rw [← h5.1, h6] at this; exact this
            refine ⟨h8, _, ?_, h9⟩
            rw [← hadd]; exact h7 k hk'
          · obtain ⟨pv', h8, h9⟩ := h2 i (by omega)
            exact ⟨pv', by rw [List.getElem?_append_left (by omega)]; exact h8, h9⟩
      exact this len (Nat.le_refl _)
    obtain ⟨xs, hx, hxs⟩ := ch
    refine ⟨.sl s xs, ⟨xs, rfl, fun x hx' => ?_, by omega⟩, rfl, fun i c hi => ?_⟩
    · obtain ⟨k, hk⟩ := List.mem_iff_getElem?.1 hx'
      have := (List.getElem?_eq_some_iff.1 hk).1
      obtain ⟨pv, h1, h2, _⟩ := hxs k (by omega)
      rw [hk] at h1; cases h1; exact h2
    · rcases i with _ | i
      · simp [PV.cells] at hi; subst hi
        refine ⟨rfl, ?_⟩
        have hcell : ∀ k, k < len * s → ∃ v, w.cell? ⟨B, o + k, none⟩ = some v := fun k hk => by
          have hi : k / s < len := (Nat.div_lt_iff_lt_mul h0).2 hk
          obtain ⟨pv, h1, _, h3, h4⟩ := hxs (k / s) hi
          have hm : k % s < s := Nat.mod_lt _ h0
          obtain ⟨_, v, h5, _⟩ := h4 (k % s) _ (List.getElem?_eq_getElem (by omega))
          refine ⟨v, ?_⟩
          rw [← h5]
          have : k / s * s + k % s = k := Nat.div_add_mod' k s
          rw [this]
        rcases Nat.eq_zero_or_pos len with hz | hpos
        · subst hz
          obtain rfl : xs = [] := List.eq_nil_of_length_eq_zero hx
          exact .nil
        have hcl : IsCells w B := by
          obtain ⟨v, hv⟩ := hcell 0 (Nat.mul_pos hpos h0)
          obtain ⟨ob, ho1, ho2⟩ := cells_of_cell hv
          cases ob <;> simp [Obj.isCells] at ho2
          exact ⟨_, _, _, ho1⟩
        refine .sl (fun k => (w.cell? ⟨B, o + k, none⟩).getD undef) hx.symm ⟨hlt, hcl⟩ hle (fun k hk => ?_) (fun i x hx' => ?_) (fun i k x y hx' hy => ?_) (fun i k x y hx' hy => ?_)
        · obtain ⟨v, hv⟩ := hcell k hk
          rw [hv]; rfl
        · have := (List.getElem?_eq_some_iff.1 hx').1
          obtain ⟨pv, h1, _, h3, _⟩ := hxs i (by omega)
          rw [hx'] at h1; cases h1; exact h3
        · have := (List.getElem?_eq_some_iff.1 hx').1
          obtain ⟨pv, h1, _, h3, h4⟩ := hxs i (by omega)
          rw [hx'] at h1; cases h1; exact (h4 k y hy).1
        · have := (List.getElem?_eq_some_iff.1 hx').1
          obtain ⟨pv, h1, _, h3, h4⟩ := hxs i (by omega)
          rw [hx'] at h1; cases h1
          obtain ⟨_, v, h5, h6⟩ := h4 k y hy
          show PR w (allK w) y ((w.cell? ⟨B, o + (i * s + k), none⟩).getD undef)
          rw [h5]; exact h6
      · simp [PV.cells] at hi

/-- Places that follow each other. -/
def contig : Nat → List (Nat × TypeId × Nat) → Nat → Bool
  | o, [], n => o == n
  | o, f :: r, n => f.1 == o && contig (o + f.2.2) r n
inductive OpensAll (P : Program) : List (Nat × TypeId × Nat) → List (PV → Prop) → Prop
  | nil : OpensAll P [] []
  | cons {f S fs Ss} (h : Opens P f.2.1 S) (r : OpensAll P fs Ss) : OpensAll P (f :: fs) (S :: Ss)

theorem open_fields {H : Type} {enc : TypeId × Value → H} {w : World} {cs : List Value} : ∀ {l : List (Nat × TypeId × Nat)} {Ss : List (PV → Prop)} {o : Nat}, OpensAll P l Ss → contig o l cs.length = true → o ≤ cs.length →
    (∀ f ∈ l, f.1 + f.2.2 ≤ cs.length ∧ ∃ n x, DataW.trod enc P w 0 (fun _ => true) true n f.2.1 ((cs.drop f.1).take f.2.2) = some x) →
    ∃ ps, AllS Ss ps ∧ (catC ps).length = cs.length - o ∧ ∀ (i : Nat) c, (catC ps)[i]? = some c → c.one = true ∧ PR w (allK w) c (cs.getD (o + i) undef)
  | [], _, o, .nil, hc, _, _ => by
    simp only [contig, beq_iff_eq] at hc
    exact ⟨[], .nil, by simp [catC]; omega, fun i c hi => by simp [catC] at hi⟩
  | f :: l, _, o, .cons (S := S) h r, hc, ho, hf => by
    simp only [contig, Bool.and_eq_true, beq_iff_eq] at hc
    obtain ⟨rfl, hc⟩ := hc
    obtain ⟨hle, n, x, hx⟩ := hf f List.mem_cons_self
    obtain ⟨pv, hS, hl, hcells⟩ := h H enc w n _ x hx
    have hlen : pv.cells.length = f.2.2 := by rw [← hl]; simp; omega
    obtain ⟨ps, h1, h2, h3⟩ := open_fields r hc (by omega) (fun g hg => hf g (List.mem_cons_of_mem _ hg))
    refine ⟨pv :: ps, .cons hS h1, by simp only [catC, List.flatMap_cons, List.length_append] at h2 ⊢; omega, fun i c hi => ?_⟩
    simp only [catC, List.flatMap_cons] at hi h3
    rcases Nat.lt_or_ge i pv.cells.length with hlt | hge
    · rw [List.getElem?_append_left hlt] at hi
      obtain ⟨h4, h5⟩ := hcells i c hi
      refine ⟨h4, ?_⟩
      have : ((cs.drop f.1).take f.2.2).getD i undef = cs.getD (f.1 + i) undef := by
        rw [List.getD_eq_getElem?_getD, List.getD_eq_getElem?_getD, List.getElem?_take, if_pos (by omega), List.getElem?_drop]
      rw [← this]; exact h5
    · rw [List.getElem?_append_right hge] at hi
      obtain ⟨h4, h5⟩ := h3 _ c hi
      refine ⟨h4, ?_⟩
      have : f.1 + f.2.2 + (i - pv.cells.length) = f.1 + i := by omega
      rw [← this]; exact h5

theorem opens_struct {t : TypeId} {fs : Array Field} {Ss : List (PV → Prop)} (ht : P.underlying t = some (.struct fs)) (h : OpensAll P (fs.toList.map fun f => (f.offset, f.type, P.cellsOf f.type)) Ss)
    (hc : contig 0 (fs.toList.map fun f => (f.offset, f.type, P.cellsOf f.type)) (P.cellsOf t) = true) (hin : (fs.toList.all fun f => decide (f.offset + P.cellsOf f.type ≤ P.cellsOf t)) = true) : Opens P t (SAgg Ss) := fun H enc w fuel cs x hx => by
  obtain ⟨xs, n, rfl, _, hlen, hl, hf⟩ := DataW.trod_struct ht hx
  obtain ⟨ps, h1, h2, h3⟩ := open_fields (enc := enc) (w := w) (cs := cs) h (by rw [hlen]; exact hc) (Nat.zero_le _) (fun g hg => by
    obtain ⟨f, hfm, rfl⟩ := List.mem_map.1 hg
    have := List.all_eq_true.1 hin f hfm
    refine ⟨by rw [hlen]; exact of_decide_eq_true this, n, ?_⟩
    obtain ⟨i, hi⟩ := List.mem_iff_getElem?.1 hfm
    have hi' : fs[i]? = some f := by simpa using hi
    have hlt := (Array.getElem?_eq_some_iff.1 hi').1
    have := hf i f hi'
    rw [List.getElem?_eq_getElem (by omega)] at this
    exact ⟨_, this⟩)
  refine ⟨_, ⟨ps, h1, rfl⟩, by simp only [PV.cells]; omega, fun i c hi => ?_⟩
  have := h3 i c hi
  rwa [Nat.zero_add] at this

theorem opens_array {t e : TypeId} {n : Nat} {Ss : List (PV → Prop)} (ht : P.underlying t = some (.array n e)) (h : OpensAll P ((List.range n).map fun i => (i * P.cellsOf e, e, P.cellsOf e)) Ss)
    (hc : contig 0 ((List.range n).map fun i => (i * P.cellsOf e, e, P.cellsOf e)) (P.cellsOf t) = true) (hin : ((List.range n).all fun i => decide (i * P.cellsOf e + P.cellsOf e ≤ P.cellsOf t)) = true) : Opens P t (SAgg Ss) := fun H enc w fuel cs x hx => by
  obtain ⟨xs, m, rfl, _, hlen, hl, hf⟩ := DataW.trod_array ht hx
  obtain ⟨ps, h1, h2, h3⟩ := open_fields (enc := enc) (w := w) (cs := cs) h (by rw [hlen]; exact hc) (Nat.zero_le _) (fun g hg => by
    obtain ⟨i, hi, rfl⟩ := List.mem_map.1 hg
    have := List.all_eq_true.1 hin i hi
    refine ⟨by rw [hlen]; exact of_decide_eq_true this, m, ?_⟩
    have hlt := List.mem_range.1 hi
    have := hf i hlt
    rw [List.getElem?_eq_getElem (by omega)] at this
    exact ⟨_, this⟩)
  refine ⟨_, ⟨ps, h1, rfl⟩, by simp only [PV.cells]; omega, fun i c hi => ?_⟩
  have := h3 i c hi
  rwa [Nat.zero_add] at this

/-- A value whose cells are the data's. -/
theorem CellsR.value {w : World} {pv : PV} {v : Value} (h : CellsR w pv v.cells.toList) (ha : (∃ ms, v = .agg ms) ↔ ∃ cs, pv = .agg cs) : PR w (allK w) pv v := by
  cases pv with
  | agg cs =>
    obtain ⟨ms, rfl⟩ := ha.2 ⟨cs, rfl⟩
    refine .agg (by have := h.1; simpa [PV.cells, Value.cells] using this) (fun i c hi => (h.2 i c hi).1) (fun i c hi => ?_)
    have := (h.2 i c hi).2
    simpa [Value.cells, List.getD_eq_getElem?_getD, Array.getD_eq_getD_getElem?] using this
  | _ =>
    have hv : ∀ ms, v ≠ .agg ms := fun ms e => by obtain ⟨cs, hcs⟩ := ha.1 ⟨ms, e⟩; cases hcs
    have e : v.cells = #[v] := by cases v <;> first | rfl | exact absurd rfl (hv _)
    rw [e] at h
    exact (h.2 0 _ rfl).2
end
end Go.Gp

namespace Go.Gp
open Go.RowKit Go.ChangeShapes Go.WideShapes Go.ChangeAt

section
variable {P : Program}

structure OpensArg (P : Program) (t : TypeId) (S : PV → Prop) : Prop where
  op : Opens P t S
  ag : ∀ (w : World) (r : Reach) (base : Nat) (v : Value) (pv : PV), Value.okWide P w r base t v → S pv → ((∃ ms, v = .agg ms) ↔ ∃ cs, pv = .agg cs)

theorem arg_bool {t : TypeId} (ht : P.underlying t = some .bool) : OpensArg P t SBool := ⟨opens_bool ht, fun w r base v pv h ⟨b, hb⟩ => by
  obtain ⟨b', rfl⟩ := okWide_bool ht h
  subst hb; simp⟩
theorem arg_int {t : TypeId} {k : IntKind} (ht : P.underlying t = some (.int k)) : OpensArg P t (SInt k) := ⟨opens_int ht, fun w r base v pv h ⟨b, hb, _⟩ => by
  obtain ⟨b', rfl⟩ := okWide_int ht h
  subst hb; simp⟩
theorem arg_str {t : TypeId} (ht : P.underlying t = some .string) : OpensArg P t SStr := ⟨opens_str ht, fun w r base v pv h ⟨b, hb, _⟩ => by
  obtain ⟨b', rfl⟩ := okWide_string ht h
  subst hb; simp⟩
theorem arg_slice {t e : TypeId} {s : Nat} {S : PV → Prop} (ht : P.underlying t = some (.slice e)) (he : Opens P e S) (hs : P.cellsOf e = s) (h0 : 0 < s) : OpensArg P t (SSl s S) := ⟨opens_slice ht he hs h0, fun w r base v pv h ⟨b, hb, _⟩ => by
  obtain ⟨a, n, c, rfl⟩ := okWide_slice ht h
  subst hb; simp⟩
theorem arg_struct {t : TypeId} {fs : Array Field} {Ss : List (PV → Prop)} (ht : P.underlying t = some (.struct fs)) (h : Opens P t (SAgg Ss)) : OpensArg P t (SAgg Ss) := ⟨h, fun w r base v pv h ⟨ps, _, hb⟩ => by
  obtain ⟨ms, rfl, _⟩ := okWide_struct ht h
  subst hb; simp⟩

inductive OpensArgs (P : Program) : List TypeId → List (PV → Prop) → Prop
  | nil : OpensArgs P [] []
  | cons {t S ts Ss} (h : OpensArg P t S) (r : OpensArgs P ts Ss) : OpensArgs P (t :: ts) (S :: Ss)

theorem args_open {H : Type} {enc : TypeId × Value → H} {W : World} {base : Nat} : ∀ {ts : List TypeId} {Ss : List (PV → Prop)} {vs : List Value} {ds : List (DataW H)} {p : List MemPlace}, OpensArgs P ts Ss →
    DataW.TrodAll enc P W 0 (fun _ => true) true ts vs ds p → (∀ (j : Nat) t v, ts[j]? = some t → vs[j]? = some v → Value.okWide P W .any base t v) →
    ds.length = ts.length ∧ vs.length = ts.length ∧ ∃ ps, AllS Ss ps ∧ ps.length = vs.length ∧ ∀ (i : Nat) v pv, vs[i]? = some v → ps[i]? = some pv → PR W (allK W) pv v
  | [], _, vs, ds, p, .nil, hA, _ => by
    cases vs <;> cases ds <;> simp [DataW.TrodAll] at hA
    exact ⟨rfl, rfl, [], .nil, rfl, fun i v pv hv => by simp at hv⟩
  | t :: ts, _, vs, ds, p, .cons h r, hA, hv => by
    obtain ⟨v, vs', d, ds', p', q, rfl, rfl, rfl, ⟨fuel, hf⟩, hr⟩ := trodAll_cons hA
    obtain ⟨h1, h2, ps, h3, h4, h5⟩ := args_open r hr (fun j t v a b => hv (j + 1) t v (by simpa using a) (by simpa using b))
    obtain ⟨pv, hS, hC⟩ := h.op H enc W fuel _ _ hf
    have := hC.value (h.ag W .any base v pv (hv 0 t v rfl rfl) hS)
    refine ⟨by simp [h1], by simp [h2], pv :: ps, .cons hS h3, by simp [h4], fun i u y hu hy => ?_⟩
    cases i with
    | zero => simp at hu hy; subst hu hy; exact this
    | succ i => exact h5 i u y (by simpa using hu) (by simpa using hy)

theorem args_keep {H : Type} {enc : TypeId × Value → H} {W W' : World} (hl : laidOutB P = true) (hb : Below W.heap.size W W') : ∀ {ts : List TypeId} {vs : List Value} {ds : List (DataW H)} {p : List MemPlace},
    (ts.all fun t => P.readableRec t && decide (t < P.types.size)) = true → DataW.TrodAll enc P W 0 (fun _ => true) true ts vs ds p → DataW.TrodAll enc P W' 0 (fun b => decide (b < W.heap.size)) true ts vs ds p
  | [], vs, ds, p, _, hA => by
    cases vs <;> cases ds <;> simp [DataW.TrodAll] at hA
    subst hA; exact rfl
  | t :: ts, vs, ds, p, ht, hA => by
    obtain ⟨v, vs', d, ds', p', q, rfl, rfl, rfl, hd, hr⟩ := trodAll_cons hA
    simp only [List.all_cons, Bool.and_eq_true, decide_eq_true_eq] at ht
    refine trodAll_cons_mk (Below.trod hl ht.1.1 ht.1.2 hd hb ?_) (args_keep hl hb ht.2 hr)
    obtain ⟨m, hm⟩ := hd
    exact DataW.trod_lt m _ _ _ hm

/-- The call from a world, by its contract on data. -/
theorem FV.calls {f : FuncId} {ps : List PV} {r : PV} {W : World} {ms : Array Value} (h : FV P W f ps (.p r)) (hsz : ms.size = ps.length) (hms : ∀ (i : Nat) x, ps[i]? = some x → PR W (allK W) x (ms.getD i undef)) :
    Calls P f ms W fun e w' => ∃ m ok, e = .returned m ∧ PR w' ok r m ∧ Below W.heap.size W w' := by
  let C0 : Ctx := ⟨0, fun _ => none, Own (fun _ => none) ([] : Tab), allK W, W, none, []⟩
  have hno : ∀ k, ¬ Own (fun _ => none) ([] : Tab) k := fun k ⟨b, x, l, hb, _⟩ => by simp [aget] at hb
  have hm0 : MemR W C0 (fun _ => none) [] 0 W := {
    nb := Nat.le_refl _
    low := fun b x hb => by simp [aget] at hb
    blk := fun b x hb => by simp [aget] at hb
    apart := fun b b' x x' l l' hb => by simp [aget] at hb
    agree := fun b hb => absurd hb (Nat.not_lt_zero _)
    own := fun k hk => (hno k hk).elim
    ownG := fun k hk => (hno k hk).elim
    size := Nat.le_refl _
    keep := fun _ _ _ => rfl
    os := rfl
    tape := rfl
    output := rfl
    glob := Below.refl _ _
    rd := fun k hk => ⟨hk, hno k⟩ }
  have hvs : VRs W (okc C0 (Own (fun _ => none) ([] : Tab)) W) (fun _ => none) 0 (ps.map .p) ms := by
    refine ⟨by simp [hsz], fun i v hv => ?_⟩
    simp only [List.getElem?_map] at hv
    cases hq : ps[i]? with
    | none => simp [hq] at hv
    | some x =>
      simp [hq] at hv; subst hv
      exact .p ((hms i x hq).mono (fun k hk => ⟨⟨hk, hno k, .inl hk⟩, rfl⟩))
  refine (h [] 0 C0 (fun _ => none) W ms rfl rfl rfl rfl hm0 hvs).mono fun e w' he => ?_
  cases e with
  | panicked ch => obtain ⟨_, _, _, _, _, _, _, _, d⟩ := he; exact d.elim
  | outgrown => exact he.elim
  | returned m =>
    obtain ⟨j, tab, nx, r', a, b, rfl, rfl, rfl⟩ := he
    cases b with
    | p hp => exact ⟨m, _, rfl, hp, a.os, a.tape, a.output, a.size, fun k hk => a.keep k hk (hno k)⟩

theorem law_lifted {C : Checked} {f : FuncId} {fn : Func} {s : ChangeSpec} {conds : List PathCond} {laid : List (String × DataW Unit)} {ts : List TypeId} {Ss : List (PV → Prop)} {rt : TypeId} {os : Os} {H : Type} {enc : TypeId × Value → H}
    (own : ownKnob C.prog.godebug = none) (started : os.Started) (noInit : C.prog.inits.idxOf? f = none) (hfn : C.prog.funcs[f]? = some fn)
    (witness : ∃ (w : World) (tape : Tape) (i : Input), w.os = os ∧ (w.forCall tape i).Shaped C.prog ∧ i.vars = [] ∧ Input.okWide C.prog (w.forCall tape i) .any w.heap.size f i ∧
      ((s.pre enc C.prog fn conds false (w.forCall tape i).memory i.args ∧ laidMetH C.prog laid (w.forCall tape i).memory) ∧ sizedMet enc C.prog fn (OpenSpec.ofChange s) false (w.forCall tape i).memory i.args) ∧
        ({} : Assume).holds C.prog (lone (Frame.enter C.prog f i.args .normal) [] (w.forCall tape i)))
    (hl : laidOutB C.prog = true) (hpt : fn.params.toList = ts) (hp : (ts.all fun t => C.prog.readableRec t && decide (t < C.prog.types.size)) = true)
    (hrt : fn.resultTypes = #[rt]) (hrb : C.prog.underlying rt = some .bool)
    (hv : s.vars = []) (hs : ∀ ds : List (DataW H), ds.length = ts.length → s.fn H ds = { results := [.lit (.bool true)], args := ds })
    (hop : OpensArgs C.prog ts Ss)
    (contract : ∀ W : World, laidMetH C.prog laid W → W.ShapedOpen C.prog → ∀ ps, AllS Ss ps → FV C.prog W f ps (.p (.v (.bool true)))) :
    ReturnsInHanded {} C os f .any (fun w args => (s.pre enc C.prog fn conds false w args ∧ laidMetH C.prog laid w) ∧ sizedMet enc C.prog fn (OpenSpec.ofChange s) false w args) (s.post enc C.prog fn false true false false) := by
  refine returnsInHanded_of_calls own started noInit witness ?_
  intro w tape i _ hsh _ hok hpre hholds
  obtain ⟨_, _, _, fn', hfn', _, _, _, hasz, hval⟩ := hok
  have e : fn' = fn := Option.some.inj (hfn'.symm.trans hfn)
  subst e
  obtain ⟨⟨⟨ds, gs, before, hw, hc⟩, hx⟩, hz⟩ := hpre
  have hw' := DataW.Whole.of_heap (w' := w.forCall tape i) (by rfl) hw
  have hx' : laidMetH C.prog laid (w.forCall tape i) := hx.of_heap (by rfl)
  have hW := hw'
  obtain ⟨p, q, hA, hV, rfl, hfz, hnd⟩ := hW
  rw [hv] at hV
  obtain ⟨rfl, rfl⟩ := trodVars_none hV
  rw [hpt] at hA
  obtain ⟨hdl, hvl, ps, hS, hpl, hPR⟩ := args_open (base := w.heap.size) hop hA (fun j t v a b => hval j t v (by rw [← hpt] at a; simpa using a) (by simpa using b))
  refine ((contract _ hx' hsh ps hS).calls (ms := i.args) (by rw [hpl]; simp) (fun k x hk => ?_)).mono fun e W' he => ?_
  · have hlt := (List.getElem?_eq_some_iff.1 hk).1
    have hlt' : k < i.args.toList.length := by rw [← hpl]; exact hlt
    have h1 : i.args.toList[k]? = some i.args.toList[k] := List.getElem?_eq_getElem hlt'
    have := hPR k _ x h1 hk
    have e2 : i.args.getD k undef = i.args.toList[k] := by
      have : k < i.args.size := by simpa using hlt'
      simp [Array.getD, this]
    rw [e2]; exact this
  · obtain ⟨m, ok, rfl, hm, bel⟩ := he
    cases hm with
    | v _ =>
      refine ChangeSpec.post_blind ?_
      have hrl : fn'.resultTypes.toList = [rt] := by rw [hrt]
      have hrs : fn'.resultTypes.size = 1 := by rw [hrt]; rfl
      refine ⟨ds, [], p, [], p, [], by simpa using hw', ?_, ?_, ?_, bel.frame _, fun h => by cases h⟩
      · rw [List.append_nil, hs ds hdl, hrl, hrs]
        exact trodAll_mk1 (shut_bool hrb _)
      · rw [List.append_nil, hs ds hdl, hpt]
        exact args_keep hl bel hp hA
      · rw [List.append_nil, hs ds hdl, hv]; exact rfl
end
end Go.Gp

namespace Go.Proofs.YtpcancnnbjadeaaDoor
open Go Go.Gp
theorem ti1 : tiOf Tryd.prog 1 = some ⟨1, 8, .func, [.nilFunc]⟩ := by kernel_rfl   -- func()
theorem ti2 : tiOf Tryd.prog 2 = some ⟨1, 8, .int .i64, [.int .i64 0]⟩ := by kernel_rfl   -- int64
theorem ti3 : tiOf Tryd.prog 3 = some ⟨1, 8, .int .i64, [.int .i64 0]⟩ := by kernel_rfl   -- int
theorem ti4 : tiOf Tryd.prog 4 = some ⟨1, 1, .bool, [.bool false]⟩ := by kernel_rfl   -- bool
theorem ti5 : tiOf Tryd.prog 5 = some ⟨1, 1, .int .u8, [.int .u8 0]⟩ := by kernel_rfl   -- uint8
theorem ti6 : tiOf Tryd.prog 6 = some ⟨1, 1, .int .u8, [.int .u8 0]⟩ := by kernel_rfl   -- abi.BoundsErrorCode
theorem ti7 : tiOf Tryd.prog 7 = some ⟨4, 24, .struct [(0, 2, 1), (1, 3, 1), (2, 4, 1), (3, 6, 1)], [.int .i64 0, .int .i64 0, .bool false, .int .u8 0]⟩ := by kernel_rfl   -- struct ( x int64; y int; signed bool; code abi.BoundsErrorCo
theorem ti8 : tiOf Tryd.prog 8 = some ⟨4, 24, .struct [(0, 2, 1), (1, 3, 1), (2, 4, 1), (3, 6, 1)], [.int .i64 0, .int .i64 0, .bool false, .int .u8 0]⟩ := by kernel_rfl   -- runtime.boundsError
theorem ti9 : tiOf Tryd.prog 9 = some ⟨1, 16, .str, [.string ⟨#[]⟩]⟩ := by kernel_rfl   -- string
theorem ti10 : tiOf Tryd.prog 10 = some ⟨1, 16, .str, [.string ⟨#[]⟩]⟩ := by kernel_rfl   -- runtime.errorString
theorem ti11 : tiOf Tryd.prog 11 = some ⟨1, 16, .str, [.string ⟨#[]⟩]⟩ := by kernel_rfl   -- runtime.plainError
theorem ti12 : tiOf Tryd.prog 12 = some ⟨1, 8, .int .u64, [.int .u64 0]⟩ := by kernel_rfl   -- uintptr
theorem ti13 : tiOf Tryd.prog 13 = some ⟨2, 24, .struct [(0, 9, 1), (1, 12, 1)], [.string ⟨#[]⟩, .int .u64 0]⟩ := by kernel_rfl   -- struct ( msg string; addr uintptr )
theorem ti14 : tiOf Tryd.prog 14 = some ⟨2, 24, .struct [(0, 9, 1), (1, 12, 1)], [.string ⟨#[]⟩, .int .u64 0]⟩ := by kernel_rfl   -- runtime.errorAddressString
theorem ti15 : tiOf Tryd.prog 15 = some ⟨1, 8, .ptr 135, [.pointer none]⟩ := by kernel_rfl   -- *runtime.TypeAssertionError
theorem ti16 : tiOf Tryd.prog 16 = some ⟨1, 8, .ptr 138, [.pointer none]⟩ := by kernel_rfl   -- *runtime.PanicNilError
theorem ti17 : tiOf Tryd.prog 17 = some ⟨1, 8, .ptr 146, [.pointer none]⟩ := by kernel_rfl   -- *abi.Type
theorem ti18 : tiOf Tryd.prog 18 = some ⟨1, 8, .struct [(0, 17, 1)], [.pointer none]⟩ := by kernel_rfl   -- struct ( typ *abi.Type )
theorem ti19 : tiOf Tryd.prog 19 = some ⟨1, 8, .struct [(0, 17, 1)], [.pointer none]⟩ := by kernel_rfl   -- maps.unhashableTypeError
theorem ti20 : tiOf Tryd.prog 20 = some ⟨1, 16, .iface, [.nilIface]⟩ := by kernel_rfl   -- interface ()
theorem ti21 : tiOf Tryd.prog 21 = some ⟨1, 4, .int .i32, [.int .i32 0]⟩ := by kernel_rfl   -- int32
theorem ti22 : tiOf Tryd.prog 22 = some ⟨1, 24, .slice 9, [.slice none 0 0]⟩ := by kernel_rfl   -- []string
theorem ti23 : tiOf Tryd.prog 23 = some ⟨5, 64, .struct [(0, 5, 1), (1, 9, 1), (2, 3, 1), (3, 22, 1), (4, 4, 1)], [.int .u8 0, .string ⟨#[]⟩, .int .i64 0, .slice none 0 0, .bool false]⟩ := by kernel_rfl   -- struct ( Scheme uint8; Host string; Port int; Parts []string
theorem ti24 : tiOf Tryd.prog 24 = some ⟨5, 64, .struct [(0, 5, 1), (1, 9, 1), (2, 3, 1), (3, 22, 1), (4, 4, 1)], [.int .u8 0, .string ⟨#[]⟩, .int .i64 0, .slice none 0 0, .bool false]⟩ := by kernel_rfl   -- api.Locator
theorem ti25 : tiOf Tryd.prog 25 = some ⟨1, 8, .func, [.nilFunc]⟩ := by kernel_rfl   -- func(api.Locator) bool
theorem ti26 : tiOf Tryd.prog 26 = some ⟨1, 8, .func, [.nilFunc]⟩ := by kernel_rfl   -- func(api.Locator) api.Locator
theorem ti27 : tiOf Tryd.prog 27 = some ⟨1, 8, .int .i64, [.int .i64 0]⟩ := by kernel_rfl   -- api.Errno
theorem ti29 : tiOf Tryd.prog 29 = some ⟨1, 8, .func, [.nilFunc]⟩ := by kernel_rfl   -- func(api.Locator) (string, api.Errno)
theorem ti31 : tiOf Tryd.prog 31 = some ⟨1, 8, .func, [.nilFunc]⟩ := by kernel_rfl   -- func(api.Locator) (string, int)
theorem ti32 : tiOf Tryd.prog 32 = some ⟨1, 8, .func, [.nilFunc]⟩ := by kernel_rfl   -- func(api.Locator) api.Errno
theorem ti33 : tiOf Tryd.prog 33 = some ⟨1, 8, .func, [.nilFunc]⟩ := by kernel_rfl   -- func(api.Locator) int
theorem ti34 : tiOf Tryd.prog 34 = some ⟨1, 8, .func, [.nilFunc]⟩ := by kernel_rfl   -- func(api.Locator, api.Locator) bool
theorem ti36 : tiOf Tryd.prog 36 = some ⟨1, 8, .func, [.nilFunc]⟩ := by kernel_rfl   -- func(string) (api.Locator, api.Errno)
theorem ti38 : tiOf Tryd.prog 38 = some ⟨1, 8, .func, [.nilFunc]⟩ := by kernel_rfl   -- func(string) (api.Locator, int)
theorem ti40 : tiOf Tryd.prog 40 = some ⟨1, 8, .func, [.nilFunc]⟩ := by kernel_rfl   -- func(string) (string, string, api.Errno)
theorem ti42 : tiOf Tryd.prog 42 = some ⟨1, 8, .func, [.nilFunc]⟩ := by kernel_rfl   -- func(string) (string, string, int)
theorem ti43 : tiOf Tryd.prog 43 = some ⟨1, 8, .func, [.nilFunc]⟩ := by kernel_rfl   -- func(string) bool
theorem ti44 : tiOf Tryd.prog 44 = some ⟨1, 8, .func, [.nilFunc]⟩ := by kernel_rfl   -- func(string) uint8
theorem ti45 : tiOf Tryd.prog 45 = some ⟨1, 8, .func, [.nilFunc]⟩ := by kernel_rfl   -- func() bool
theorem ti47 : tiOf Tryd.prog 47 = some ⟨1, 8, .func, [.nilFunc]⟩ := by kernel_rfl   -- func(string, string) (bool, api.Errno)
theorem ti48 : tiOf Tryd.prog 48 = some ⟨1, 8, .func, [.nilFunc]⟩ := by kernel_rfl   -- func(string, string, string) bool
theorem ti49 : tiOf Tryd.prog 49 = some ⟨1, 8, .func, [.nilFunc]⟩ := by kernel_rfl   -- func(string, string) (string, api.Errno)
theorem ti50 : tiOf Tryd.prog 50 = some ⟨1, 8, .func, [.nilFunc]⟩ := by kernel_rfl   -- func(string, string) (string, int)
theorem ti52 : tiOf Tryd.prog 52 = some ⟨1, 8, .func, [.nilFunc]⟩ := by kernel_rfl   -- func(string, string) (bool, int)
theorem ti53 : tiOf Tryd.prog 53 = some ⟨1, 8, .func, [.nilFunc]⟩ := by kernel_rfl   -- func(string, string) bool
theorem ti54 : tiOf Tryd.prog 54 = some ⟨1, 8, .func, [.nilFunc]⟩ := by kernel_rfl   -- func(int) string
theorem ti55 : tiOf Tryd.prog 55 = some ⟨1, 24, .slice 24, [.slice none 0 0]⟩ := by kernel_rfl   -- []api.Locator
theorem ti56 : tiOf Tryd.prog 56 = some ⟨1, 8, .func, [.nilFunc]⟩ := by kernel_rfl   -- func(api.Locator) string
theorem ti57 : tiOf Tryd.prog 57 = some ⟨1, 8, .func, [.nilFunc]⟩ := by kernel_rfl   -- func([]string, func(string) bool) bool
theorem ti58 : tiOf Tryd.prog 58 = some ⟨1, 8, .func, [.nilFunc]⟩ := by kernel_rfl   -- func(uint8) int
theorem ti60 : tiOf Tryd.prog 60 = some ⟨1, 8, .func, [.nilFunc]⟩ := by kernel_rfl   -- func(string, string) (string, string, bool)
theorem ti61 : tiOf Tryd.prog 61 = some ⟨1, 8, .func, [.nilFunc]⟩ := by kernel_rfl   -- func(string) (string, bool)
theorem ti63 : tiOf Tryd.prog 63 = some ⟨1, 8, .map 9 5, [.map none]⟩ := by kernel_rfl   -- map[string]uint8
theorem ti64 : tiOf Tryd.prog 64 = some ⟨1, 16, .iface, [.nilIface]⟩ := by kernel_rfl   -- interface ( Error() string )
theorem ti65 : tiOf Tryd.prog 65 = some ⟨1, 16, .iface, [.nilIface]⟩ := by kernel_rfl   -- error
theorem ti67 : tiOf Tryd.prog 67 = some ⟨1, 8, .func, [.nilFunc]⟩ := by kernel_rfl   -- func(string) (int, error)
theorem ti68 : tiOf Tryd.prog 68 = some ⟨1, 8, .func, [.nilFunc]⟩ := by kernel_rfl   -- func(string, int, uint8, uint8) int
theorem ti69 : tiOf Tryd.prog 69 = some ⟨256, 256, .array 256 5, (List.replicate 256 (.int .u8 0))⟩ := by kernel_rfl   -- [256]uint8
theorem ti70 : tiOf Tryd.prog 70 = some ⟨1, 8, .func, [.nilFunc]⟩ := by kernel_rfl   -- func() [256]uint8
theorem ti71 : tiOf Tryd.prog 71 = some ⟨1, 8, .func, [.nilFunc]⟩ := by kernel_rfl   -- func(uint8) bool
theorem ti72 : tiOf Tryd.prog 72 = some ⟨1, 8, .func, [.nilFunc]⟩ := by kernel_rfl   -- func() map[string]uint8
theorem ti73 : tiOf Tryd.prog 73 = some ⟨1, 8, .func, [.nilFunc]⟩ := by kernel_rfl   -- func([]string, []string) bool
theorem ti74 : tiOf Tryd.prog 74 = some ⟨1, 24, .slice 5, [.slice none 0 0]⟩ := by kernel_rfl   -- []uint8
theorem ti75 : tiOf Tryd.prog 75 = some ⟨1, 8, .func, [.nilFunc]⟩ := by kernel_rfl   -- func([]string, string) string
theorem ti76 : tiOf Tryd.prog 76 = some ⟨1, 8, .func, [.nilFunc]⟩ := by kernel_rfl   -- func(string, string) []string
theorem ti77 : tiOf Tryd.prog 77 = some ⟨1, 8, .func, [.nilFunc]⟩ := by kernel_rfl   -- func([]string, func(string) bool) int
theorem ti78 : tiOf Tryd.prog 78 = some ⟨1, 8, .func, [.nilFunc]⟩ := by kernel_rfl   -- func(string, string, int, int, error) error
theorem ti79 : tiOf Tryd.prog 79 = some ⟨1, 8, .ptr 81, [.pointer none]⟩ := by kernel_rfl   -- *strings.Builder
theorem ti80 : tiOf Tryd.prog 80 = some ⟨2, 32, .struct [(0, 79, 1), (1, 74, 1)], [.pointer none, .slice none 0 0]⟩ := by kernel_rfl   -- struct ( addr *strings.Builder; buf []uint8 )
theorem ti81 : tiOf Tryd.prog 81 = some ⟨2, 32, .struct [(0, 79, 1), (1, 74, 1)], [.pointer none, .slice none 0 0]⟩ := by kernel_rfl   -- strings.Builder
theorem ti82 : tiOf Tryd.prog 82 = some ⟨1, 8, .func, [.nilFunc]⟩ := by kernel_rfl   -- func(int)
theorem ti83 : tiOf Tryd.prog 83 = some ⟨1, 8, .func, [.nilFunc]⟩ := by kernel_rfl   -- func() string
theorem ti84 : tiOf Tryd.prog 84 = some ⟨1, 8, .func, [.nilFunc]⟩ := by kernel_rfl   -- func(string, string, int, int) []string
theorem ti85 : tiOf Tryd.prog 85 = some ⟨1, 8, .func, [.nilFunc]⟩ := by kernel_rfl   -- func(string, string) int
theorem ti86 : tiOf Tryd.prog 86 = some ⟨1, 8, .int .i64, [.int .i64 0]⟩ := by kernel_rfl   -- strconv.Error
theorem ti88 : tiOf Tryd.prog 88 = some ⟨1, 8, .func, [.nilFunc]⟩ := by kernel_rfl   -- func(string, int, int) (int64, error)
theorem ti89 : tiOf Tryd.prog 89 = some ⟨1, 8, .ptr 103, [.pointer none]⟩ := by kernel_rfl   -- *strconv.NumError
theorem ti90 : tiOf Tryd.prog 90 = some ⟨1, 8, .func, [.nilFunc]⟩ := by kernel_rfl   -- func(string, string) *strconv.NumError
theorem ti91 : tiOf Tryd.prog 91 = some ⟨1, 8, .func, [.nilFunc]⟩ := by kernel_rfl   -- func(string, string, int) *strconv.NumError
theorem ti92 : tiOf Tryd.prog 92 = some ⟨1, 8, .func, [.nilFunc]⟩ := by kernel_rfl   -- func(int64, int) string
theorem ti93 : tiOf Tryd.prog 93 = some ⟨1, 8, .ptr 5, [.pointer none]⟩ := by kernel_rfl   -- *uint8
theorem ti94 : tiOf Tryd.prog 94 = some ⟨1, 8, .func, [.nilFunc]⟩ := by kernel_rfl   -- func(string, int) []string
theorem ti95 : tiOf Tryd.prog 95 = some ⟨1, 8, .func, [.nilFunc]⟩ := by kernel_rfl   -- func(string, uint8) int
theorem ti96 : tiOf Tryd.prog 96 = some ⟨1, 8, .func, [.nilFunc]⟩ := by kernel_rfl   -- func(int) int
theorem ti97 : tiOf Tryd.prog 97 = some ⟨1, 8, .int .u64, [.int .u64 0]⟩ := by kernel_rfl   -- uint
theorem ti98 : tiOf Tryd.prog 98 = some ⟨1, 8, .int .u64, [.int .u64 0]⟩ := by kernel_rfl   -- uint64
theorem ti100 : tiOf Tryd.prog 100 = some ⟨1, 8, .func, [.nilFunc]⟩ := by kernel_rfl   -- func(string, int, int) (uint64, error)
theorem ti101 : tiOf Tryd.prog 101 = some ⟨1, 8, .func, [.nilFunc]⟩ := by kernel_rfl   -- func(string) string
theorem ti102 : tiOf Tryd.prog 102 = some ⟨3, 48, .struct [(0, 9, 1), (1, 9, 1), (2, 65, 1)], [.string ⟨#[]⟩, .string ⟨#[]⟩, .nilIface]⟩ := by kernel_rfl   -- struct ( Func string; Num string; Err error )
theorem ti103 : tiOf Tryd.prog 103 = some ⟨3, 48, .struct [(0, 9, 1), (1, 9, 1), (2, 65, 1)], [.string ⟨#[]⟩, .string ⟨#[]⟩, .nilIface]⟩ := by kernel_rfl   -- strconv.NumError
theorem ti104 : tiOf Tryd.prog 104 = some ⟨1, 8, .func, [.nilFunc]⟩ := by kernel_rfl   -- func(string) error
theorem ti105 : tiOf Tryd.prog 105 = some ⟨24, 24, .array 24 5, (List.replicate 24 (.int .u8 0))⟩ := by kernel_rfl   -- [24]uint8
theorem ti106 : tiOf Tryd.prog 106 = some ⟨1, 8, .func, [.nilFunc]⟩ := by kernel_rfl   -- func(uint64) int
theorem ti107 : tiOf Tryd.prog 107 = some ⟨1, 8, .func, [.nilFunc]⟩ := by kernel_rfl   -- func([]uint8, uint64)
theorem ti109 : tiOf Tryd.prog 109 = some ⟨1, 8, .func, [.nilFunc]⟩ := by kernel_rfl   -- func([]uint8, uint64, int, bool, bool) ([]uint8, string)
theorem ti111 : tiOf Tryd.prog 111 = some ⟨1, 8, .func, [.nilFunc]⟩ := by kernel_rfl   -- func(raw.Pointer) raw.Pointer
theorem ti112 : tiOf Tryd.prog 112 = some ⟨1, 8, .func, [.nilFunc]⟩ := by kernel_rfl   -- func(int) []uint8
theorem ti113 : tiOf Tryd.prog 113 = some ⟨1, 8, .func, [.nilFunc]⟩ := by kernel_rfl   -- func(string) int
theorem ti115 : tiOf Tryd.prog 115 = some ⟨1, 8, .func, [.nilFunc]⟩ := by kernel_rfl   -- func(string) (int32, int)
theorem ti116 : tiOf Tryd.prog 116 = some ⟨1, 4, .int .u32, [.int .u32 0]⟩ := by kernel_rfl   -- uint32
theorem ti118 : tiOf Tryd.prog 118 = some ⟨1, 8, .func, [.nilFunc]⟩ := by kernel_rfl   -- func(string) (uint32, uint32)
theorem ti119 : tiOf Tryd.prog 119 = some ⟨1, 8, .func, [.nilFunc]⟩ := by kernel_rfl   -- func(uint8) uint8
theorem ti120 : tiOf Tryd.prog 120 = some ⟨1, 8, .ptr 122, [.pointer none]⟩ := by kernel_rfl   -- *errors.errorString
theorem ti121 : tiOf Tryd.prog 121 = some ⟨1, 16, .struct [(0, 9, 1)], [.string ⟨#[]⟩]⟩ := by kernel_rfl   -- struct ( s string )
theorem ti122 : tiOf Tryd.prog 122 = some ⟨1, 16, .struct [(0, 9, 1)], [.string ⟨#[]⟩]⟩ := by kernel_rfl   -- errors.errorString
theorem ti123 : tiOf Tryd.prog 123 = some ⟨1, 8, .func, [.nilFunc]⟩ := by kernel_rfl   -- func(bool) int
theorem ti124 : tiOf Tryd.prog 124 = some ⟨20, 160, .array 20 98, (List.replicate 20 (.int .u64 0))⟩ := by kernel_rfl   -- [20]uint64
theorem ti125 : tiOf Tryd.prog 125 = some ⟨65, 65, .array 65 5, (List.replicate 65 (.int .u8 0))⟩ := by kernel_rfl   -- [65]uint8
theorem ti126 : tiOf Tryd.prog 126 = some ⟨1, 8, .func, [.nilFunc]⟩ := by kernel_rfl   -- func(int) bool
theorem ti127 : tiOf Tryd.prog 127 = some ⟨1, 8, .func, [.nilFunc]⟩ := by kernel_rfl   -- func(uint) int
theorem ti128 : tiOf Tryd.prog 128 = some ⟨1, 8, .func, [.nilFunc]⟩ := by kernel_rfl   -- func(uint32) int
theorem ti129 : tiOf Tryd.prog 129 = some ⟨2, 2, .struct [(0, 5, 1), (1, 5, 1)], [.int .u8 0, .int .u8 0]⟩ := by kernel_rfl   -- struct ( lo uint8; hi uint8 )
theorem ti130 : tiOf Tryd.prog 130 = some ⟨2, 2, .struct [(0, 5, 1), (1, 5, 1)], [.int .u8 0, .int .u8 0]⟩ := by kernel_rfl   -- utf8.acceptRange
theorem ti131 : tiOf Tryd.prog 131 = some ⟨32, 32, .array 16 130, (List.replicate 32 (.int .u8 0))⟩ := by kernel_rfl   -- [16]utf8.acceptRange
theorem ti132 : tiOf Tryd.prog 132 = some ⟨32, 32, .array 32 5, (List.replicate 32 (.int .u8 0))⟩ := by kernel_rfl   -- [32]uint8
theorem ti133 : tiOf Tryd.prog 133 = some ⟨64, 64, .array 64 5, (List.replicate 64 (.int .u8 0))⟩ := by kernel_rfl   -- [64]uint8
theorem ti134 : tiOf Tryd.prog 134 = some ⟨4, 40, .struct [(0, 17, 1), (1, 17, 1), (2, 17, 1), (3, 9, 1)], [.pointer none, .pointer none, .pointer none, .string ⟨#[]⟩]⟩ := by kernel_rfl   -- struct ( _interface *abi.Type; concrete *abi.Type; asserted 
theorem ti135 : tiOf Tryd.prog 135 = some ⟨4, 40, .struct [(0, 17, 1), (1, 17, 1), (2, 17, 1), (3, 9, 1)], [.pointer none, .pointer none, .pointer none, .string ⟨#[]⟩]⟩ := by kernel_rfl   -- runtime.TypeAssertionError
theorem ti136 : tiOf Tryd.prog 136 = some ⟨0, 0, .array 0 16, []⟩ := by kernel_rfl   -- [0]*runtime.PanicNilError
theorem ti137 : tiOf Tryd.prog 137 = some ⟨0, 0, .struct [(0, 136, 0)], []⟩ := by kernel_rfl   -- struct ( _ [0]*runtime.PanicNilError )
theorem ti138 : tiOf Tryd.prog 138 = some ⟨0, 0, .struct [(0, 136, 0)], []⟩ := by kernel_rfl   -- runtime.PanicNilError
theorem ti139 : tiOf Tryd.prog 139 = some ⟨1, 8, .func, [.nilFunc]⟩ := by kernel_rfl   -- func() int
theorem ti140 : tiOf Tryd.prog 140 = some ⟨1, 1, .int .u8, [.int .u8 0]⟩ := by kernel_rfl   -- abi.TFlag
theorem ti141 : tiOf Tryd.prog 141 = some ⟨1, 1, .int .u8, [.int .u8 0]⟩ := by kernel_rfl   -- abi.Kind
theorem ti142 : tiOf Tryd.prog 142 = some ⟨1, 8, .func, [.nilFunc]⟩ := by kernel_rfl   -- func(raw.Pointer, raw.Pointer) bool
theorem ti143 : tiOf Tryd.prog 143 = some ⟨1, 4, .int .i32, [.int .i32 0]⟩ := by kernel_rfl   -- abi.NameOff
theorem ti144 : tiOf Tryd.prog 144 = some ⟨1, 4, .int .i32, [.int .i32 0]⟩ := by kernel_rfl   -- abi.TypeOff
theorem ti145 : tiOf Tryd.prog 145 = some ⟨11, 48, .struct [(0, 12, 1), (1, 12, 1), (2, 116, 1), (3, 140, 1), (4, 5, 1), (5, 5, 1), (6, 141, 1), (7, 142, 1), (8, 93, 1), (9, 143, 1), (10, 144, 1)], [.int .u64 0, .int .u64 0, .int .u32 0, .int .u8 0, .int .u8 0, .int .u8 0, .int .u8 0, .nilFunc, .pointer none, .int .i32 0, .int .i32 0]⟩ := by kernel_rfl   -- struct ( Size_ uintptr; PtrBytes uintptr; Hash uint32; TFlag
theorem ti146 : tiOf Tryd.prog 146 = some ⟨11, 48, .struct [(0, 12, 1), (1, 12, 1), (2, 116, 1), (3, 140, 1), (4, 5, 1), (5, 5, 1), (6, 141, 1), (7, 142, 1), (8, 93, 1), (9, 143, 1), (10, 144, 1)], [.int .u64 0, .int .u64 0, .int .u32 0, .int .u8 0, .int .u8 0, .int .u8 0, .int .u8 0, .nilFunc, .pointer none, .int .i32 0, .int .i32 0]⟩ := by kernel_rfl   -- abi.Type
theorem cb3 : callable Tryd.prog 3 = true := by kernel_rfl   -- gatepath/gatepathlaw09.LocatorChecks
theorem cb4 : callable Tryd.prog 4 = true := by kernel_rfl   -- gatepath/gatepathlaw09.LocatorParses
theorem cb5 : callable Tryd.prog 5 = true := by kernel_rfl   -- gatepath/gatepathlaw09.LocatorWithin
theorem cb6 : callable Tryd.prog 6 = true := by kernel_rfl   -- gatepath/gatepathlaw09.LocatorBack
theorem cb7 : callable Tryd.prog 7 = true := by kernel_rfl   -- gatepath/gatepathlaw09.LocatorOnce
theorem cb8 : callable Tryd.prog 8 = true := by kernel_rfl   -- gatepath/gatepathlaw09.LocatorPaths
theorem cb9 : callable Tryd.prog 9 = true := by kernel_rfl   -- gatepath/gatepathlaw09.LocatorNames
theorem cb10 : callable Tryd.prog 10 = true := by kernel_rfl   -- gatepath/gatepathlaw09.LocatorJoins
theorem cb11 : callable Tryd.prog 11 = true := by kernel_rfl   -- gatepath/gatepathref09.Great
theorem cb12 : callable Tryd.prog 12 = true := by kernel_rfl   -- gatepath/gatepathref09.Twin
theorem cb13 : callable Tryd.prog 13 = true := by kernel_rfl   -- gatepath/locator.Text
theorem cb14 : callable Tryd.prog 14 = true := by kernel_rfl   -- gatepath/gatepathref09.Text
theorem cb15 : callable Tryd.prog 15 = true := by kernel_rfl   -- gatepath/locator.Check
theorem cb16 : callable Tryd.prog 16 = true := by kernel_rfl   -- gatepath/gatepathref09.Check
theorem cb17 : callable Tryd.prog 17 = true := by kernel_rfl   -- gatepath/gatepathref09.Same
theorem cb18 : callable Tryd.prog 18 = true := by kernel_rfl   -- gatepath/locator.Parse
theorem cb19 : callable Tryd.prog 19 = true := by kernel_rfl   -- gatepath/gatepathref09.Parse
theorem cb20 : callable Tryd.prog 20 = true := by kernel_rfl   -- gatepath/locator.Split
theorem cb21 : callable Tryd.prog 21 = true := by kernel_rfl   -- gatepath/gatepathref09.Split
theorem cb22 : callable Tryd.prog 22 = true := by kernel_rfl   -- gatepath/locator.Name
theorem cb23 : callable Tryd.prog 23 = true := by kernel_rfl   -- gatepath/gatepathref09.Name
theorem cb24 : callable Tryd.prog 24 = true := by kernel_rfl   -- gatepath/locator.Kind
theorem cb25 : callable Tryd.prog 25 = true := by kernel_rfl   -- gatepath/gatepathref09.Kind
theorem cb26 : callable Tryd.prog 26 = true := by kernel_rfl   -- gatepath/gatepathlaw09.alive
theorem cb27 : callable Tryd.prog 27 = true := by kernel_rfl   -- gatepath/locator.Within
theorem cb28 : callable Tryd.prog 28 = true := by kernel_rfl   -- gatepath/locator.Join
theorem cb29 : callable Tryd.prog 29 = true := by kernel_rfl   -- gatepath/gatepathref09.Join
theorem cb30 : callable Tryd.prog 30 = true := by kernel_rfl   -- gatepath/gatepathref09.Within
theorem cb31 : callable Tryd.prog 31 = true := by kernel_rfl   -- gatepath/gatepathlaw09.letters
theorem cb32 : callable Tryd.prog 32 = true := by kernel_rfl   -- gatepath/gatepathlaw09.refused
theorem cb33 : callable Tryd.prog 33 = true := by kernel_rfl   -- gatepath/locator.write
theorem cb34 : callable Tryd.prog 34 = true := by kernel_rfl   -- gatepath/gatepathref09.Write
theorem cb35 : callable Tryd.prog 35 = true := by kernel_rfl   -- gatepath/locator.host
theorem cb36 : callable Tryd.prog 36 = true := by kernel_rfl   -- slices.ContainsFunc[[]string,string]
theorem cb37 : callable Tryd.prog 37 = true := by kernel_rfl   -- gatepath/locator.Check$1
theorem cb38 : callable Tryd.prog 38 = true := by kernel_rfl   -- gatepath/gatepathref09.host
theorem cb39 : callable Tryd.prog 39 = true := by kernel_rfl   -- gatepath/gatepathref09.usual
theorem cb40 : callable Tryd.prog 40 = true := by kernel_rfl   -- gatepath/locator.Parse$1
theorem cb41 : callable Tryd.prog 41 = true := by kernel_rfl   -- strings.Cut
theorem cb42 : callable Tryd.prog 42 = true := by kernel_rfl   -- strconv.Atoi
theorem cb43 : callable Tryd.prog 43 = true := by kernel_rfl   -- gatepath/gatepathref09.until
theorem cb44 : callable Tryd.prog 44 = true := by kernel_rfl   -- gatepath/locator.class
theorem cb45 : callable Tryd.prog 45 = true := by kernel_rfl   -- gatepath/gatepathref09.letter
theorem cb46 : callable Tryd.prog 46 = true := by kernel_rfl   -- gatepath/locator.ends
theorem cb47 : callable Tryd.prog 47 = true := by kernel_rfl   -- slices.Equal[[]string,string]
theorem cb48 : callable Tryd.prog 48 = true := by kernel_rfl   -- gatepath/gatepathref09.Holds
theorem cb49 : callable Tryd.prog 49 = true := by kernel_rfl   -- strconv.Itoa
theorem cb50 : callable Tryd.prog 50 = true := by kernel_rfl   -- strings.Join
theorem cb51 : callable Tryd.prog 51 = true := by kernel_rfl   -- gatepath/gatepathref09.Decimal
theorem cb52 : callable Tryd.prog 52 = true := by kernel_rfl   -- strings.Split
theorem cb53 : callable Tryd.prog 53 = true := by kernel_rfl   -- strings.HasPrefix
theorem cb54 : callable Tryd.prog 54 = true := by kernel_rfl   -- strings.HasSuffix
theorem cb55 : callable Tryd.prog 55 = true := by kernel_rfl   -- slices.IndexFunc[[]string,string]
theorem cb56 : callable Tryd.prog 56 = true := by kernel_rfl   -- internal/stringslite.Cut
theorem cb57 : callable Tryd.prog 57 = true := by kernel_rfl   -- internal/strconv.Atoi
theorem cb58 : callable Tryd.prog 58 = true := by kernel_rfl   -- strconv.toError
theorem cb59 : callable Tryd.prog 59 = true := by kernel_rfl   -- internal/strconv.Itoa
theorem cb60 : callable Tryd.prog 60 = true := by kernel_rfl   -- (*strings.Builder).Grow
theorem cb61 : callable Tryd.prog 61 = true := by kernel_rfl   -- (*strings.Builder).WriteString
theorem cb62 : callable Tryd.prog 62 = true := by kernel_rfl   -- (*strings.Builder).String
theorem cb63 : callable Tryd.prog 63 = true := by kernel_rfl   -- strings.genSplit
theorem cb64 : callable Tryd.prog 64 = true := by kernel_rfl   -- internal/stringslite.HasPrefix
theorem cb65 : callable Tryd.prog 65 = true := by kernel_rfl   -- internal/stringslite.HasSuffix
theorem cb66 : callable Tryd.prog 66 = true := by kernel_rfl   -- internal/stringslite.Index
theorem cb67 : callable Tryd.prog 67 = true := by kernel_rfl   -- internal/strconv.ParseInt
theorem cb68 : callable Tryd.prog 68 = true := by kernel_rfl   -- strconv.syntaxError
theorem cb69 : callable Tryd.prog 69 = true := by kernel_rfl   -- strconv.rangeError
theorem cb70 : callable Tryd.prog 70 = true := by kernel_rfl   -- strconv.baseError
theorem cb71 : callable Tryd.prog 71 = true := by kernel_rfl   -- strconv.bitSizeError
theorem cb72 : callable Tryd.prog 72 = true := by kernel_rfl   -- internal/strconv.FormatInt
theorem cb73 : callable Tryd.prog 73 = true := by kernel_rfl   -- (*strings.Builder).copyCheck
theorem cb74 : callable Tryd.prog 74 = true := by kernel_rfl   -- (*strings.Builder).grow
theorem cb75 : callable Tryd.prog 75 = true := by kernel_rfl   -- strings.explode
theorem cb76 : callable Tryd.prog 76 = true := by kernel_rfl   -- strings.Count
theorem cb77 : callable Tryd.prog 77 = true := by kernel_rfl   -- strings.Index
theorem cb78 : callable Tryd.prog 78 = true := by kernel_rfl   -- internal/stringslite.IndexByte
theorem cb79 : callable Tryd.prog 79 = false := by kernel_rfl   -- internal/bytealg.IndexString
theorem cb80 : callable Tryd.prog 80 = true := by kernel_rfl   -- internal/bytealg.Cutover
theorem cb81 : callable Tryd.prog 81 = true := by kernel_rfl   -- internal/bytealg.IndexRabinKarp[string]
theorem cb82 : callable Tryd.prog 82 = true := by kernel_rfl   -- internal/strconv.ParseUint
theorem cb83 : callable Tryd.prog 83 = true := by kernel_rfl   -- internal/stringslite.Clone
theorem cb84 : callable Tryd.prog 84 = true := by kernel_rfl   -- errors.New
theorem cb85 : callable Tryd.prog 85 = true := by kernel_rfl   -- internal/strconv.small
theorem cb86 : callable Tryd.prog 86 = true := by kernel_rfl   -- internal/strconv.numDigits
theorem cb87 : callable Tryd.prog 87 = true := by kernel_rfl   -- internal/strconv.formatBase10
theorem cb88 : callable Tryd.prog 88 = true := by kernel_rfl   -- internal/strconv.formatBits
theorem cb89 : callable Tryd.prog 89 = false := by kernel_rfl   -- internal/abi.NoEscape
theorem cb90 : callable Tryd.prog 90 = false := by kernel_rfl   -- internal/bytealg.MakeNoZero
theorem cb91 : callable Tryd.prog 91 = true := by kernel_rfl   -- unicode/utf8.RuneCountInString
theorem cb92 : callable Tryd.prog 92 = true := by kernel_rfl   -- unicode/utf8.DecodeRuneInString
theorem cb93 : callable Tryd.prog 93 = false := by kernel_rfl   -- internal/bytealg.CountString
theorem cb94 : callable Tryd.prog 94 = false := by kernel_rfl   -- internal/bytealg.IndexByteString
theorem cb95 : callable Tryd.prog 95 = true := by kernel_rfl   -- internal/bytealg.hashStr[string]
theorem cb96 : callable Tryd.prog 96 = true := by kernel_rfl   -- internal/strconv.lower
theorem cb97 : callable Tryd.prog 97 = true := by kernel_rfl   -- internal/strconv.underscoreOK
theorem cb98 : callable Tryd.prog 98 = true := by kernel_rfl   -- internal/strconv.log10Pow2
theorem cb99 : callable Tryd.prog 99 = true := by kernel_rfl   -- math/bits.Len64
theorem cb100 : callable Tryd.prog 100 = true := by kernel_rfl   -- internal/strconv.bool2[int]
theorem cb101 : callable Tryd.prog 101 = true := by kernel_rfl   -- internal/strconv.isPowerOfTwo
theorem cb102 : callable Tryd.prog 102 = true := by kernel_rfl   -- math/bits.TrailingZeros
theorem cb103 : callable Tryd.prog 103 = true := by kernel_rfl   -- unicode/utf8.decodeRuneInStringSlow
theorem cb104 : callable Tryd.prog 104 = true := by kernel_rfl   -- math/bits.TrailingZeros32
theorem cb105 : callable Tryd.prog 105 = true := by kernel_rfl   -- math/bits.TrailingZeros64
theorem cb106 : callable Tryd.prog 106 = false := by kernel_rfl   -- (runtime.boundsError).Error
theorem cb107 : callable Tryd.prog 107 = false := by kernel_rfl   -- (runtime.boundsError).RuntimeError
theorem cb108 : callable Tryd.prog 108 = false := by kernel_rfl   -- (runtime.errorString).Error
theorem cb109 : callable Tryd.prog 109 = false := by kernel_rfl   -- (runtime.errorString).RuntimeError
theorem cb110 : callable Tryd.prog 110 = false := by kernel_rfl   -- (runtime.plainError).Error
theorem cb111 : callable Tryd.prog 111 = false := by kernel_rfl   -- (runtime.plainError).RuntimeError
theorem cb112 : callable Tryd.prog 112 = false := by kernel_rfl   -- (runtime.errorAddressString).Error
theorem cb113 : callable Tryd.prog 113 = false := by kernel_rfl   -- (runtime.errorAddressString).RuntimeError
theorem cb114 : callable Tryd.prog 114 = false := by kernel_rfl   -- (*runtime.TypeAssertionError).Error
theorem cb115 : callable Tryd.prog 115 = false := by kernel_rfl   -- (*runtime.TypeAssertionError).RuntimeError
theorem cb116 : callable Tryd.prog 116 = false := by kernel_rfl   -- (*runtime.PanicNilError).Error
theorem cb117 : callable Tryd.prog 117 = false := by kernel_rfl   -- (*runtime.PanicNilError).RuntimeError
theorem cb118 : callable Tryd.prog 118 = false := by kernel_rfl   -- (*internal/abi.Type).Align
theorem cb119 : callable Tryd.prog 119 = false := by kernel_rfl   -- (internal/runtime/maps.unhashableTypeError).Error
theorem cb120 : callable Tryd.prog 120 = false := by kernel_rfl   -- (internal/runtime/maps.unhashableTypeError).RuntimeError
theorem cb121 : callable Tryd.prog 121 = false := by kernel_rfl   -- (gatepath/api.Errno).Error
theorem cb122 : callable Tryd.prog 122 = false := by kernel_rfl   -- (*strings.Builder).Reset
theorem cb123 : callable Tryd.prog 123 = false := by kernel_rfl   -- (internal/strconv.Error).Error
theorem cb124 : callable Tryd.prog 124 = false := by kernel_rfl   -- (*strconv.NumError).Error
theorem cb125 : callable Tryd.prog 125 = false := by kernel_rfl   -- (*errors.errorString).Error
theorem cb126 : callable Tryd.prog 126 = false := by kernel_rfl   -- (internal/abi.Kind).String
theorem cb127 : callable Tryd.prog 127 = false := by kernel_rfl   -- var's door: gosem.cut.vars holds initialisers alone; see the manifest's row cutvarsword (look 11, test files too)
theorem cb128 : callable Tryd.prog 128 = false := by kernel_rfl   -- var's door: internal/strconv.uint64pow10 is laid by its own initialiser, plain data (look 11)
theorem cb129 : callable Tryd.prog 129 = false := by kernel_rfl   -- var's door: math/bits.deBruijn32tab is laid by its own initialiser, plain data (look 11)
theorem cb130 : callable Tryd.prog 130 = false := by kernel_rfl   -- var's door: math/bits.deBruijn64tab is laid by its own initialiser, plain data (look 11)
theorem cb131 : callable Tryd.prog 131 = false := by kernel_rfl   -- var's door: strconv.ErrRange is laid by its own call of errors.New on one literal (look 11)
theorem cb132 : callable Tryd.prog 132 = false := by kernel_rfl   -- var's door: strconv.ErrSyntax is laid by its own call of errors.New on one literal (look 11)
theorem cb133 : callable Tryd.prog 133 = false := by kernel_rfl   -- var's door: the look of gosem.cut.vars went over the folder that the caller named as the repository's root (look 11)
theorem cb134 : callable Tryd.prog 134 = false := by kernel_rfl   -- var's door: unicode/utf8.acceptRanges is laid by its own initialiser, plain data (look 11)
theorem cb135 : callable Tryd.prog 135 = false := by kernel_rfl   -- var's door: unicode/utf8.first is laid by its text alone (pinned 1)
theorem cb136 : callable Tryd.prog 136 = true := by kernel_rfl   -- gosem.cut.vars
end Go.Proofs.YtpcancnnbjadeaaDoor

namespace Go.Proofs.YtpcancnnbjadeaaDoor
open Go Go.Gp
theorem op5 : Opens Tryd.prog 5 (SInt .u8) := opens_int Tryd.underlying5
theorem arg5 : OpensArg Tryd.prog 5 (SInt .u8) := arg_int Tryd.underlying5
theorem op9 : Opens Tryd.prog 9 SStr := opens_str Tryd.underlying9
theorem arg9 : OpensArg Tryd.prog 9 SStr := arg_str Tryd.underlying9
theorem op3 : Opens Tryd.prog 3 (SInt .i64) := opens_int Tryd.underlying3
theorem arg3 : OpensArg Tryd.prog 3 (SInt .i64) := arg_int Tryd.underlying3
theorem op22 : Opens Tryd.prog 22 (SSl 1 SStr) := opens_slice Tryd.underlying22 op9 (by kernel_rfl) (by decide)
theorem arg22 : OpensArg Tryd.prog 22 (SSl 1 SStr) := arg_slice Tryd.underlying22 op9 (by kernel_rfl) (by decide)
theorem op4 : Opens Tryd.prog 4 SBool := opens_bool Tryd.underlying4
theorem arg4 : OpensArg Tryd.prog 4 SBool := arg_bool Tryd.underlying4
theorem op24 : Opens Tryd.prog 24 (SAgg [(SInt .u8), SStr, (SInt .i64), (SSl 1 SStr), SBool]) := opens_struct Tryd.underlying24 (.cons op5 (.cons op9 (.cons op3 (.cons op22 (.cons op4 .nil))))) (by kernel_rfl) (by kernel_rfl)
theorem arg24 : OpensArg Tryd.prog 24 (SAgg [(SInt .u8), SStr, (SInt .i64), (SSl 1 SStr), SBool]) := arg_struct Tryd.underlying24 op24
abbrev S_api_Locator : PV → Prop := (SAgg [(SInt .u8), SStr, (SInt .i64), (SSl 1 SStr), SBool])
end Go.Proofs.YtpcancnnbjadeaaDoor

namespace Go.Proofs.YtpcancnnbjadeaaDoor
open Go Go.Gp
attribute [push_cast] enter' enumFrom List.map_cons List.map_nil wpC_seq wpC_region wpC_ret wpC_skip wpC_exit wpC_block wpC_cond wpC_loop wpC_draw wpR_cons wpR_nil thenQ_normal thenQ_ret thenQ_exit thenQ_panic blockQ_normal blockQ_ret blockQ_exit blockQ_panic condK_some condW stepE guardC aget aset adel ev evB evsS evs flatV opF opM binF binI' binS' unF callF lenF minF convF loadF fieldAddrF fieldF indexF indexAddrF ifaceF buildF extractF fillV placesOf elemsOf Gp.elemOf List.range List.range.loop List.flatten_cons List.flatten_nil List.set_cons_zero List.set_cons_succ Gp.byteOf appF makeF bytesF okSrc srcV convA convS sliceF sliceV boundF lenV readV readX mkAgg allP addrAdd putL List.drop_succ_cons List.drop_zero List.take_succ_cons List.take_zero List.getD_cons_zero List.getD_cons_succ List.getElem?_cons_zero List.getElem?_cons_succ zipParts pv isMem isShift cloOf Op.operands Call.operands List.append_toArray fin_pure TI.agg TD.agg V.isAgg V.cells V.isTup List.length_cons List.length_nil wpD_nil wpD_cons finD_pure finD_call finD_callM finD_mem stepV inP inM isLoad stP pEnv uV againAll againM againF Option.getD_some Option.getD_none false_implies fin_mem fin_call fin_callc putC putM putS dropD condV stripV if_true pickF dstOk pickB_or pickB_and Bool.false_eq_true Nat.mul_one Nat.add_zero Nat.zero_add List.length_map Nat.le_refl Nat.zero_le Bool.true_and Bool.and_true Bool.or_true Bool.true_or Bool.false_or Bool.or_false Bool.false_and Bool.and_false Bool.not_true Bool.not_false decide_true decide_false true_or or_true or_false false_or and_false false_and if_false true_implies true_and and_true Bool.and_self forall_const implies_true imp_self beq_self_eq_true beq_true' beq_false' callK_eq callP_eq bodyQ'_normal bodyQ'_ret bodyQ'_panic resK resV resL res1 List.nil_append List.cons_append List.append_nil loopK_eq snap1 snapL Gp.snap snapT snapR PV.cells PV.one pS pI pB pU8 vS vI vB vU8 notImp notImp2 Int.toNat_natCast V.p.injEq PV.v.injEq Value.bool.injEq TI.zeroP Option.toArray_none Option.toArray_some Option.map_some Option.map_none cutK_eq cut1_eq cutR_eq loopKR_eq nilF isNilV TD.isIface TD.isPtr lookupF insertF makeMapF kkOf keyK mpVal frzS frzE frzT frzB frzL frz1 List.take_length and_self Nat.add_sub_cancel setE putP fin_yld putPs roundQ_normal roundQ_ret roundQ_exit roundQ_goto loopQ_eq
attribute [push_cast] ti1  ti2  ti3  ti4  ti5  ti6  ti7  ti8  ti9  ti10  ti11  ti12  ti13  ti14  ti15  ti16  ti17  ti18  ti19  ti20  ti21  ti22  ti23  ti24  ti25  ti26  ti27  ti29  ti31  ti32  ti33  ti34  ti36  ti38  ti40  ti42  ti43  ti44  ti45  ti47  ti48  ti49  ti50  ti52  ti53  ti54  ti55  ti56  ti57  ti58  ti60  ti61  ti63  ti64  ti65  ti67  ti68  ti69  ti70  ti71  ti72  ti73  ti74  ti75  ti76  ti77  ti78  ti79  ti80  ti81  ti82  ti83  ti84  ti85  ti86  ti88  ti89  ti90  ti91  ti92  ti93  ti94  ti95  ti96  ti97  ti98  ti100  ti101  ti102  ti103  ti104  ti105  ti106  ti107  ti109  ti111  ti112  ti113  ti115  ti116  ti118  ti119  ti120  ti121  ti122  ti123  ti124  ti125  ti126  ti127  ti128  ti129  ti130  ti131  ti132  ti133  ti134  ti135  ti136  ti137  ti138  ti139  ti140  ti141  ti142  ti143  ti144  ti145  ti146  cb3  cb4  cb5  cb6  cb7  cb8  cb9  cb10  cb11  cb12  cb13  cb14  cb15  cb16  cb17  cb18  cb19  cb20  cb21  cb22  cb23  cb24  cb25  cb26  cb27  cb28  cb29  cb30  cb31  cb32  cb33  cb34  cb35  cb36  cb37  cb38  cb39  cb40  cb41  cb42  cb43  cb44  cb45  cb46  cb47  cb48  cb49  cb50  cb51  cb52  cb53  cb54  cb55  cb56  cb57  cb58  cb59  cb60  cb61  cb62  cb63  cb64  cb65  cb66  cb67  cb68  cb69  cb70  cb71  cb72  cb73  cb74  cb75  cb76  cb77  cb78  cb79  cb80  cb81  cb82  cb83  cb84  cb85  cb86  cb87  cb88  cb89  cb90  cb91  cb92  cb93  cb94  cb95  cb96  cb97  cb98  cb99  cb100  cb101  cb102  cb103  cb104  cb105  cb106  cb107  cb108  cb109  cb110  cb111  cb112  cb113  cb114  cb115  cb116  cb117  cb118  cb119  cb120  cb121  cb122  cb123  cb124  cb125  cb126  cb127  cb128  cb129  cb130  cb131  cb132  cb133  cb134  cb135  cb136
end Go.Proofs.YtpcancnnbjadeaaDoor
