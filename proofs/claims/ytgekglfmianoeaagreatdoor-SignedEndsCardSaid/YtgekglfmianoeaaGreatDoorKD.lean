/-
  From contracts on data to a law's row: arguments opened, the call's end read back.
  A law's row, out of its contract on data.
  What the types of this translation are; which functions can be called. Printed by a program (types.py).
  What the laws' parameters read as. Printed by a program (opens.py).
  The rules of evaluation and the facts on types, as one set of rules.
-/
import Derived.Test.YtgekglfmianoeaaGreatDoorKC
import Derived.ProofKit
import Derived.OpenShut
import Derived.LaidMore
import Derived.Lay
import Derived.Carry
import Derived.ChangeOld
import Derived.SevenTiedAt
import Derived.Stop.Joined
import Derived.Shelf.Vars
import Derived.Lib.LaidTab
import Derived.HandedShaped
import Derived.Test.YtgekglfmianoeaaGreatDoorKA
import Derived.Test.YtgekglfmianoeaaGreatDoorKB
import Derived.Test.YtgekglfmianoeaaGreatDoorProg
import Derived.KernelRfl
set_option linter.unusedSimpArgs false
set_option linter.unusedVariables false
set_option maxRecDepth 20000
namespace Go.Gp
open Go.RowKit Go.ChangeShapes Go.WideShapes Go.ChangeAt
def allK (w : World) : Nat → Prop := fun k => k < w.heap.size
def CellsR (w : World) (pv : PV) (cs : List Value) : Prop :=
  cs.length = pv.cells.length ∧ ∀ (i : Nat) c, pv.cells[i]? = some c → c.one = true ∧ PR w (allK w) c (cs.getD i undef)

section
variable {P : Program}
def Opens (P : Program) (t : TypeId) (S : PV → Prop) : Prop :=
  ∀ (H : Type) (enc : TypeId × Value → H) (w : World) (fuel : Nat) (cs : List Value) (x : DataW H × List MemPlace), DataW.trod enc P w 0 (fun _ => true) true fuel t cs = some x → ∃ pv, S pv ∧ CellsR w pv cs

theorem CellsR.flat {w : World} {v : Value} (h : flatV v = true) : CellsR w (.v v) [v] :=
  ⟨rfl, fun i c hi => by
    rcases i with _ | i
    · simp [PV.cells] at hi; subst hi; exact ⟨rfl, .v h⟩
    · simp [PV.cells] at hi⟩

def SBool (p : PV) : Prop := ∃ b, p = .v (.bool b)
def SInt (k : IntKind) (p : PV) : Prop := ∃ n, p = .v (.int k n) ∧ (Lit.int k n).wf = true
def SStr (p : PV) : Prop := ∃ s : ByteArray, p = .v (.string s) ∧ s.size ≤ maxLen
def SSl (s : Nat) (S : PV → Prop) (p : PV) : Prop := ∃ xs : List PV, p = .sl s xs ∧ (∀ x ∈ xs, S x) ∧ xs.length ≤ maxLen
inductive AllS : List (PV → Prop) → List PV → Prop
  | nil : AllS [] []
  | cons {S p Ss ps} (h : S p) (r : AllS Ss ps) : AllS (S :: Ss) (p :: ps)
def catC (ps : List PV) : List PV := ps.flatMap PV.cells
def SAgg (Ss : List (PV → Prop)) (p : PV) : Prop := ∃ ps, AllS Ss ps ∧ p = .agg (catC ps)

theorem opens_bool {t : TypeId} (ht : P.underlying t = some .bool) : Opens P t SBool := fun H enc w fuel cs x h => by
  obtain ⟨b, rfl, _⟩ := DataW.trod_bool ht h
  exact ⟨_, ⟨b, rfl⟩, .flat rfl⟩
theorem opens_int {t : TypeId} {k : IntKind} (ht : P.underlying t = some (.int k)) : Opens P t (SInt k) := fun H enc w fuel cs x h => by
  obtain ⟨n, rfl, _, hw⟩ := DataW.trod_int ht h
  exact ⟨_, ⟨n, rfl, hw⟩, .flat rfl⟩
theorem opens_str {t : TypeId} (ht : P.underlying t = some .string) : Opens P t SStr := fun H enc w fuel cs x h => by
  obtain ⟨s, rfl, _, hs⟩ := DataW.trod_string ht h
  exact ⟨_, ⟨s, rfl, hs⟩, .flat rfl⟩

theorem opens_slice {t e : TypeId} {s : Nat} {S : PV → Prop} (ht : P.underlying t = some (.slice e)) (he : Opens P e S) (hs : P.cellsOf e = s) (h0 : 0 < s) : Opens P t (SSl s S) := fun H enc w fuel cs x h => by
  rcases DataW.trod_slice ht h with ⟨rfl, _⟩ | ⟨a, len, cap, elems, rest, n, rfl, rfl, _, hb, hle, hc, hlen, hel, _⟩
  · refine ⟨.sl s [], ⟨[], rfl, by simp, Nat.zero_le _⟩, rfl, fun i c hi => ?_⟩
    rcases i with _ | i
    · simp [PV.cells] at hi; subst hi; exact ⟨rfl, .nil⟩
    · simp [PV.cells] at hi
  · rw [hs] at hel
    have one : ∀ i, i < len → ∃ pv cs', S pv ∧ w.cells? 0 (a.add (i * s)) s = some cs' ∧ CellsR w pv cs' := fun i hi => by
      have h1 := hel i hi
      obtain ⟨y, hy⟩ : ∃ y, elems[i]? = some y := ⟨_, List.getElem?_eq_getElem (by omega)⟩
      rw [hy, Option.bind_eq_some_iff] at h1
      obtain ⟨cs', h2, h3⟩ := h1
      obtain ⟨pv, h4, h5⟩ := he H enc w n cs' y h3
      exact ⟨pv, cs', h4, h2, h5⟩
    rcases Nat.eq_zero_or_pos len with h00 | hpos
    · subst h00
      refine ⟨.sl s [], ⟨[], rfl, by simp, Nat.zero_le _⟩, rfl, fun i c hi => ?_⟩
      rcases i with _ | i
      · simp [PV.cells] at hi; subst hi; exact ⟨rfl, .nil⟩
      · simp [PV.cells] at hi
    have hcells : ∀ i cs', w.cells? 0 (a.add (i * s)) s = some cs' → cs'.length = s ∧ ∀ k, k < s → w.cell? ((a.add (i * s)).add k) = some (cs'.getD k undef) := fun i cs' h2 => by
      obtain ⟨_, h3, h4⟩ := World.cells?_some h2
      refine ⟨h3, fun k hk => ?_⟩
      rw [h4 k hk, List.getD_eq_getElem?_getD, List.getElem?_eq_getElem (by omega)]; rfl
    have hspot : a.spot = none ∧ a.block < w.heap.size := by
      obtain ⟨pv, cs', _, h2, _⟩ := one 0 hpos
      have h3 := (hcells 0 cs' h2).2 0 h0
      simp only [Nat.zero_mul, Addr.add_zero'] at h3
      have h4 := World.cells?_block h2 h0
      simp only [Nat.zero_mul, Addr.add_zero'] at h4
      unfold World.cell? at h3
      split at h3
      · split at h3
        · cases h3
        · rename_i hn; exact ⟨by simpa using hn, h4⟩
      · cases h3
    obtain ⟨B, o, sp⟩ := a
    obtain ⟨rfl, hlt⟩ := hspot
    have hadd : ∀ i k, ((⟨B, o, none⟩ : Addr).add (i * s)).add k = ⟨B, o + (i * s + k), none⟩ := fun i k => by rw [addr_add, addr_add, Nat.add_assoc]

    have ch : ∃ xs : List PV, xs.length = len ∧ ∀ i, i < len → ∃ pv, xs[i]? = some pv ∧ S pv ∧ pv.cells.length = s ∧ ∀ k c, pv.cells[k]? = some c → c.one = true ∧ ∃ v, w.cell? ⟨B, o + (i * s + k), none⟩ = some v ∧ PR w (allK w) c v := by
      have : ∀ m, m ≤ len → ∃ xs : List PV, xs.length = m ∧ ∀ i, i < m → ∃ pv, xs[i]? = some pv ∧ S pv ∧ pv.cells.length = s ∧ ∀ k c, pv.cells[k]? = some c → c.one = true ∧ ∃ v, w.cell? ⟨B, o + (i * s + k), none⟩ = some v ∧ PR w (allK w) c v := by
        intro m
        induction m with
        | zero => exact fun _ => ⟨[], rfl, fun i hi => absurd hi (Nat.not_lt_zero i)⟩
        | succ m ih =>
          intro hm
          obtain ⟨xs, h1, h2⟩ := ih (by omega)
          obtain ⟨pv, cs', h3, h4, h5⟩ := one m (by omega)
          obtain ⟨h6, h7⟩ := hcells m cs' h4
          refine ⟨xs ++ [pv], by simp [h1], fun i hi => ?_⟩
          by_cases e : i = m
          · subst e
            refine ⟨pv, by simp [h1], h3, by rw [← h5.1, h6], fun k c hk => ?_⟩
            obtain ⟨h8, h9⟩ := h5.2 k c hk
            have hk' : k < s := by have := (List.getElem?_eq_some_iff.1 hk).1; rw [← h5.1, h6] at this; exact this
            refine ⟨h8, _, ?_, h9⟩
            rw [← hadd]; exact h7 k hk'
          · obtain ⟨pv', h8, h9⟩ := h2 i (by omega)
            exact ⟨pv', by rw [List.getElem?_append_left (by omega)]; exact h8, h9⟩
      exact this len (Nat.le_refl _)
    obtain ⟨xs, hx, hxs⟩ := ch
    refine ⟨.sl s xs, ⟨xs, rfl, fun x hx' => ?_, by omega⟩, rfl, fun i c hi => ?_⟩
    · obtain ⟨k, hk⟩ := List.mem_iff_getElem?.1 hx'
      have := (List.getElem?_eq_some_iff.1 hk).1
      obtain ⟨pv, h1, h2, _⟩ := hxs k (by omega)
      rw [hk] at h1; cases h1; exact h2
    · rcases i with _ | i
      · simp [PV.cells] at hi; subst hi
        refine ⟨rfl, ?_⟩
        have hcell : ∀ k, k < len * s → ∃ v, w.cell? ⟨B, o + k, none⟩ = some v := fun k hk => by
          have hi : k / s < len := (Nat.div_lt_iff_lt_mul h0).2 hk
          obtain ⟨pv, h1, _, h3, h4⟩ := hxs (k / s) hi
          have hm : k % s < s := Nat.mod_lt _ h0
          obtain ⟨_, v, h5, _⟩ := h4 (k % s) _ (List.getElem?_eq_getElem (by omega))
          refine ⟨v, ?_⟩
          rw [← h5]
          have : k / s * s + k % s = k := Nat.div_add_mod' k s
          rw [this]
        rcases Nat.eq_zero_or_pos len with hz | hpos
        · subst hz
          obtain rfl : xs = [] := List.eq_nil_of_length_eq_zero hx
          exact .nil
        have hcl : IsCells w B := by
          obtain ⟨v, hv⟩ := hcell 0 (Nat.mul_pos hpos h0)
          obtain ⟨ob, ho1, ho2⟩ := cells_of_cell hv
          cases ob <;> simp [Obj.isCells] at ho2
          exact ⟨_, _, _, ho1⟩
        refine .sl (fun k => (w.cell? ⟨B, o + k, none⟩).getD undef) hx.symm ⟨hlt, hcl⟩ hle (fun k hk => ?_) (fun i x hx' => ?_) (fun i k x y hx' hy => ?_) (fun i k x y hx' hy => ?_)
        · obtain ⟨v, hv⟩ := hcell k hk
          rw [hv]; rfl
        · have := (List.getElem?_eq_some_iff.1 hx').1
          obtain ⟨pv, h1, _, h3, _⟩ := hxs i (by omega)
          rw [hx'] at h1; cases h1; exact h3
        · have := (List.getElem?_eq_some_iff.1 hx').1
          obtain ⟨pv, h1, _, h3, h4⟩ := hxs i (by omega)
          rw [hx'] at h1; cases h1; exact (h4 k y hy).1
        · have := (List.getElem?_eq_some_iff.1 hx').1
          obtain ⟨pv, h1, _, h3, h4⟩ := hxs i (by omega)
          rw [hx'] at h1; cases h1
          obtain ⟨_, v, h5, h6⟩ := h4 k y hy
          show PR w (allK w) y ((w.cell? ⟨B, o + (i * s + k), none⟩).getD undef)
          rw [h5]; exact h6
      · simp [PV.cells] at hi

def contig : Nat → List (Nat × TypeId × Nat) → Nat → Bool
  | o, [], n => o == n
  | o, f :: r, n => f.1 == o && contig (o + f.2.2) r n
inductive OpensAll (P : Program) : List (Nat × TypeId × Nat) → List (PV → Prop) → Prop
  | nil : OpensAll P [] []
  | cons {f S fs Ss} (h : Opens P f.2.1 S) (r : OpensAll P fs Ss) : OpensAll P (f :: fs) (S :: Ss)

theorem open_fields {H : Type} {enc : TypeId × Value → H} {w : World} {cs : List Value} : ∀ {l : List (Nat × TypeId × Nat)} {Ss : List (PV → Prop)} {o : Nat}, OpensAll P l Ss → contig o l cs.length = true → o ≤ cs.length →
    (∀ f ∈ l, f.1 + f.2.2 ≤ cs.length ∧ ∃ n x, DataW.trod enc P w 0 (fun _ => true) true n f.2.1 ((cs.drop f.1).take f.2.2) = some x) →
    ∃ ps, AllS Ss ps ∧ (catC ps).length = cs.length - o ∧ ∀ (i : Nat) c, (catC ps)[i]? = some c → c.one = true ∧ PR w (allK w) c (cs.getD (o + i) undef)
  | [], _, o, .nil, hc, _, _ => by
    simp only [contig, beq_iff_eq] at hc
    exact ⟨[], .nil, by simp [catC]; omega, fun i c hi => by simp [catC] at hi⟩
  | f :: l, _, o, .cons (S := S) h r, hc, ho, hf => by
    simp only [contig, Bool.and_eq_true, beq_iff_eq] at hc
    obtain ⟨rfl, hc⟩ := hc
    obtain ⟨hle, n, x, hx⟩ := hf f List.mem_cons_self
    obtain ⟨pv, hS, hl, hcells⟩ := h H enc w n _ x hx
    have hlen : pv.cells.length = f.2.2 := by rw [← hl]; simp; omega
    obtain ⟨ps, h1, h2, h3⟩ := open_fields r hc (by omega) (fun g hg => hf g (List.mem_cons_of_mem _ hg))
    refine ⟨pv :: ps, .cons hS h1, by simp only [catC, List.flatMap_cons, List.length_append] at h2 ⊢; omega, fun i c hi => ?_⟩
    simp only [catC, List.flatMap_cons] at hi h3
    rcases Nat.lt_or_ge i pv.cells.length with hlt | hge
    · rw [List.getElem?_append_left hlt] at hi
      obtain ⟨h4, h5⟩ := hcells i c hi
      refine ⟨h4, ?_⟩
      have : ((cs.drop f.1).take f.2.2).getD i undef = cs.getD (f.1 + i) undef := by
        rw [List.getD_eq_getElem?_getD, List.getD_eq_getElem?_getD, List.getElem?_take, if_pos (by omega), List.getElem?_drop]
      rw [← this]; exact h5
    · rw [List.getElem?_append_right hge] at hi
      obtain ⟨h4, h5⟩ := h3 _ c hi
      refine ⟨h4, ?_⟩
      have : f.1 + f.2.2 + (i - pv.cells.length) = f.1 + i := by omega
      rw [← this]; exact h5

theorem opens_struct {t : TypeId} {fs : Array Field} {Ss : List (PV → Prop)} (ht : P.underlying t = some (.struct fs)) (h : OpensAll P (fs.toList.map fun f => (f.offset, f.type, P.cellsOf f.type)) Ss)
    (hc : contig 0 (fs.toList.map fun f => (f.offset, f.type, P.cellsOf f.type)) (P.cellsOf t) = true) (hin : (fs.toList.all fun f => decide (f.offset + P.cellsOf f.type ≤ P.cellsOf t)) = true) : Opens P t (SAgg Ss) := fun H enc w fuel cs x hx => by
  obtain ⟨xs, n, rfl, _, hlen, hl, hf⟩ := DataW.trod_struct ht hx
  obtain ⟨ps, h1, h2, h3⟩ := open_fields (enc := enc) (w := w) (cs := cs) h (by rw [hlen]; exact hc) (Nat.zero_le _) (fun g hg => by
    obtain ⟨f, hfm, rfl⟩ := List.mem_map.1 hg
    have := List.all_eq_true.1 hin f hfm
    refine ⟨by rw [hlen]; exact of_decide_eq_true this, n, ?_⟩
    obtain ⟨i, hi⟩ := List.mem_iff_getElem?.1 hfm
    have hi' : fs[i]? = some f := by simpa using hi
    have hlt := (Array.getElem?_eq_some_iff.1 hi').1
    have := hf i f hi'
    rw [List.getElem?_eq_getElem (by omega)] at this
    exact ⟨_, this⟩)
  refine ⟨_, ⟨ps, h1, rfl⟩, by simp only [PV.cells]; omega, fun i c hi => ?_⟩
  have := h3 i c hi
  rwa [Nat.zero_add] at this

theorem opens_array {t e : TypeId} {n : Nat} {Ss : List (PV → Prop)} (ht : P.underlying t = some (.array n e)) (h : OpensAll P ((List.range n).map fun i => (i * P.cellsOf e, e, P.cellsOf e)) Ss)
    (hc : contig 0 ((List.range n).map fun i => (i * P.cellsOf e, e, P.cellsOf e)) (P.cellsOf t) = true) (hin : ((List.range n).all fun i => decide (i * P.cellsOf e + P.cellsOf e ≤ P.cellsOf t)) = true) : Opens P t (SAgg Ss) := fun H enc w fuel cs x hx => by
  obtain ⟨xs, m, rfl, _, hlen, hl, hf⟩ := DataW.trod_array ht hx
  obtain ⟨ps, h1, h2, h3⟩ := open_fields (enc := enc) (w := w) (cs := cs) h (by rw [hlen]; exact hc) (Nat.zero_le _) (fun g hg => by
    obtain ⟨i, hi, rfl⟩ := List.mem_map.1 hg
    have := List.all_eq_true.1 hin i hi
    refine ⟨by rw [hlen]; exact of_decide_eq_true this, m, ?_⟩
    have hlt := List.mem_range.1 hi
    have := hf i hlt
    rw [List.getElem?_eq_getElem (by omega)] at this
    exact ⟨_, this⟩)
  refine ⟨_, ⟨ps, h1, rfl⟩, by simp only [PV.cells]; omega, fun i c hi => ?_⟩
  have := h3 i c hi
  rwa [Nat.zero_add] at this

theorem CellsR.value {w : World} {pv : PV} {v : Value} (h : CellsR w pv v.cells.toList) (ha : (∃ ms, v = .agg ms) ↔ ∃ cs, pv = .agg cs) : PR w (allK w) pv v := by
  cases pv with
  | agg cs =>
    obtain ⟨ms, rfl⟩ := ha.2 ⟨cs, rfl⟩
    refine .agg (by have := h.1; simpa [PV.cells, Value.cells] using this) (fun i c hi => (h.2 i c hi).1) (fun i c hi => ?_)
    have := (h.2 i c hi).2
    simpa [Value.cells, List.getD_eq_getElem?_getD, Array.getD_eq_getD_getElem?] using this
  | _ =>
    have hv : ∀ ms, v ≠ .agg ms := fun ms e => by obtain ⟨cs, hcs⟩ := ha.1 ⟨ms, e⟩; cases hcs
    have e : v.cells = #[v] := by cases v <;> first | rfl | exact absurd rfl (hv _)
    rw [e] at h
    exact (h.2 0 _ rfl).2
end
end Go.Gp

namespace Go.Gp
open Go.RowKit Go.ChangeShapes Go.WideShapes Go.ChangeAt
section
variable {P : Program}
structure OpensArg (P : Program) (t : TypeId) (S : PV → Prop) : Prop where
  op : Opens P t S
  ag : ∀ (w : World) (r : Reach) (base : Nat) (v : Value) (pv : PV), Value.okWide P w r base t v → S pv → ((∃ ms, v = .agg ms) ↔ ∃ cs, pv = .agg cs)

theorem arg_slice {t e : TypeId} {s : Nat} {S : PV → Prop} (ht : P.underlying t = some (.slice e)) (he : Opens P e S) (hs : P.cellsOf e = s) (h0 : 0 < s) : OpensArg P t (SSl s S) := ⟨opens_slice ht he hs h0, fun w r base v pv h ⟨b, hb, _⟩ => by
  obtain ⟨a, n, c, rfl⟩ := okWide_slice ht h
  subst hb; simp⟩
theorem arg_struct {t : TypeId} {fs : Array Field} {Ss : List (PV → Prop)} (ht : P.underlying t = some (.struct fs)) (h : Opens P t (SAgg Ss)) : OpensArg P t (SAgg Ss) := ⟨h, fun w r base v pv h ⟨ps, _, hb⟩ => by
  obtain ⟨ms, rfl, _⟩ := okWide_struct ht h
  subst hb; simp⟩

inductive OpensArgs (P : Program) : List TypeId → List (PV → Prop) → Prop
  | nil : OpensArgs P [] []
  | cons {t S ts Ss} (h : OpensArg P t S) (r : OpensArgs P ts Ss) : OpensArgs P (t :: ts) (S :: Ss)

theorem args_open {H : Type} {enc : TypeId × Value → H} {W : World} {base : Nat} : ∀ {ts : List TypeId} {Ss : List (PV → Prop)} {vs : List Value} {ds : List (DataW H)} {p : List MemPlace}, OpensArgs P ts Ss →
    DataW.TrodAll enc P W 0 (fun _ => true) true ts vs ds p → (∀ (j : Nat) t v, ts[j]? = some t → vs[j]? = some v → Value.okWide P W .any base t v) →
    ds.length = ts.length ∧ vs.length = ts.length ∧ ∃ ps, AllS Ss ps ∧ ps.length = vs.length ∧ ∀ (i : Nat) v pv, vs[i]? = some v → ps[i]? = some pv → PR W (allK W) pv v
  | [], _, vs, ds, p, .nil, hA, _ => by
    cases vs <;> cases ds <;> simp [DataW.TrodAll] at hA
    exact ⟨rfl, rfl, [], .nil, rfl, fun i v pv hv => by simp at hv⟩
  | t :: ts, _, vs, ds, p, .cons h r, hA, hv => by
    obtain ⟨v, vs', d, ds', p', q, rfl, rfl, rfl, ⟨fuel, hf⟩, hr⟩ := trodAll_cons hA
    obtain ⟨h1, h2, ps, h3, h4, h5⟩ := args_open r hr (fun j t v a b => hv (j + 1) t v (by simpa using a) (by simpa using b))
    obtain ⟨pv, hS, hC⟩ := h.op H enc W fuel _ _ hf
    have := hC.value (h.ag W .any base v pv (hv 0 t v rfl rfl) hS)
    refine ⟨by simp [h1], by simp [h2], pv :: ps, .cons hS h3, by simp [h4], fun i u y hu hy => ?_⟩
    cases i with
    | zero => simp at hu hy; subst hu hy; exact this
    | succ i => exact h5 i u y (by simpa using hu) (by simpa using hy)

theorem args_keep {H : Type} {enc : TypeId × Value → H} {W W' : World} (hl : laidOutB P = true) (hb : Below W.heap.size W W') : ∀ {ts : List TypeId} {vs : List Value} {ds : List (DataW H)} {p : List MemPlace},
    (ts.all fun t => P.readableRec t && decide (t < P.types.size)) = true → DataW.TrodAll enc P W 0 (fun _ => true) true ts vs ds p → DataW.TrodAll enc P W' 0 (fun b => decide (b < W.heap.size)) true ts vs ds p
  | [], vs, ds, p, _, hA => by
    cases vs <;> cases ds <;> simp [DataW.TrodAll] at hA
    subst hA; exact rfl
  | t :: ts, vs, ds, p, ht, hA => by
    obtain ⟨v, vs', d, ds', p', q, rfl, rfl, rfl, hd, hr⟩ := trodAll_cons hA
    simp only [List.all_cons, Bool.and_eq_true, decide_eq_true_eq] at ht
    refine trodAll_cons_mk (Below.trod hl ht.1.1 ht.1.2 hd hb ?_) (args_keep hl hb ht.2 hr)
    obtain ⟨m, hm⟩ := hd
    exact DataW.trod_lt m _ _ _ hm

theorem FV.calls {f : FuncId} {ps : List PV} {r : PV} {W : World} {ms : Array Value} (h : FV P W f ps (.p r)) (hsz : ms.size = ps.length) (hms : ∀ (i : Nat) x, ps[i]? = some x → PR W (allK W) x (ms.getD i undef)) :
    Calls P f ms W fun e w' => ∃ m ok, e = .returned m ∧ PR w' ok r m ∧ Below W.heap.size W w' := by
  let C0 : Ctx := ⟨0, fun _ => none, Own (fun _ => none) ([] : Tab), allK W, W, none, []⟩
  have hno : ∀ k, ¬ Own (fun _ => none) ([] : Tab) k := fun k ⟨b, x, l, hb, _⟩ => by simp [aget] at hb
  have hm0 : MemR W C0 (fun _ => none) [] 0 W := {
    nb := Nat.le_refl _
    low := fun b x hb => by simp [aget] at hb
    blk := fun b x hb => by simp [aget] at hb
    apart := fun b b' x x' l l' hb => by simp [aget] at hb
    agree := fun b hb => absurd hb (Nat.not_lt_zero _)
    own := fun k hk => (hno k hk).elim
    ownG := fun k hk => (hno k hk).elim
    size := Nat.le_refl _
    keep := fun _ _ _ => rfl
    os := rfl
    tape := rfl
    output := rfl
    glob := Below.refl _ _
    rd := fun k hk => ⟨hk, hno k⟩ }
  have hvs : VRs W (okc C0 (Own (fun _ => none) ([] : Tab)) W) (fun _ => none) 0 (ps.map .p) ms := by
    refine ⟨by simp [hsz], fun i v hv => ?_⟩
    simp only [List.getElem?_map] at hv
    cases hq : ps[i]? with
    | none => simp [hq] at hv
    | some x =>
      simp [hq] at hv; subst hv
      exact .p ((hms i x hq).mono (fun k hk => ⟨⟨hk, hno k, .inl hk⟩, rfl⟩))
  refine (h [] 0 C0 (fun _ => none) W ms rfl rfl rfl rfl hm0 hvs).mono fun e w' he => ?_
  cases e with
  | panicked ch => obtain ⟨_, _, _, _, _, _, _, _, d⟩ := he; exact d.elim
  | outgrown => exact he.elim
  | returned m =>
    obtain ⟨j, tab, nx, r', a, b, rfl, rfl, rfl⟩ := he
    cases b with
    | p hp => exact ⟨m, _, rfl, hp, a.os, a.tape, a.output, a.size, fun k hk => a.keep k hk (hno k)⟩

theorem law_lifted {C : Checked} {f : FuncId} {fn : Func} {s : ChangeSpec} {conds : List PathCond} {laid : List (String × DataW Unit)} {ts : List TypeId} {Ss : List (PV → Prop)} {rt : TypeId} {os : Os} {H : Type} {enc : TypeId × Value → H}
    (own : ownKnob C.prog.godebug = none) (started : os.Started) (noInit : C.prog.inits.idxOf? f = none) (hfn : C.prog.funcs[f]? = some fn)
    (witness : ∃ (w : World) (tape : Tape) (i : Input), w.os = os ∧ (w.forCall tape i).Shaped C.prog ∧ i.vars = [] ∧ Input.okWide C.prog (w.forCall tape i) .any w.heap.size f i ∧
      ((s.pre enc C.prog fn conds false (w.forCall tape i).memory i.args ∧ laidMetH C.prog laid (w.forCall tape i).memory) ∧ sizedMet enc C.prog fn (OpenSpec.ofChange s) false (w.forCall tape i).memory i.args) ∧
        ({} : Assume).holds C.prog (lone (Frame.enter C.prog f i.args .normal) [] (w.forCall tape i)))
    (hl : laidOutB C.prog = true) (hpt : fn.params.toList = ts) (hp : (ts.all fun t => C.prog.readableRec t && decide (t < C.prog.types.size)) = true)
    (hrt : fn.resultTypes = #[rt]) (hrb : C.prog.underlying rt = some .bool)
    (hv : s.vars = []) (hs : ∀ ds : List (DataW H), ds.length = ts.length → s.fn H ds = { results := [.lit (.bool true)], args := ds })
    (hop : OpensArgs C.prog ts Ss)
    (contract : ∀ W : World, laidMetH C.prog laid W → W.ShapedOpen C.prog → ∀ ps, AllS Ss ps → FV C.prog W f ps (.p (.v (.bool true)))) :
    ReturnsInHanded {} C os f .any (fun w args => (s.pre enc C.prog fn conds false w args ∧ laidMetH C.prog laid w) ∧ sizedMet enc C.prog fn (OpenSpec.ofChange s) false w args) (s.post enc C.prog fn false true false false) := by
  refine returnsInHanded_of_calls own started noInit witness ?_
  intro w tape i _ hsh _ hok hpre hholds
  obtain ⟨_, _, _, fn', hfn', _, _, _, hasz, hval⟩ := hok
  have e : fn' = fn := Option.some.inj (hfn'.symm.trans hfn)
  subst e
  obtain ⟨⟨⟨ds, gs, before, hw, hc⟩, hx⟩, hz⟩ := hpre
  have hw' := DataW.Whole.of_heap (w' := w.forCall tape i) (by rfl) hw
  have hx' : laidMetH C.prog laid (w.forCall tape i) := hx.of_heap (by rfl)
  have hW := hw'
  obtain ⟨p, q, hA, hV, rfl, hfz, hnd⟩ := hW
  rw [hv] at hV
  obtain ⟨rfl, rfl⟩ := trodVars_none hV
  rw [hpt] at hA
  obtain ⟨hdl, hvl, ps, hS, hpl, hPR⟩ := args_open (base := w.heap.size) hop hA (fun j t v a b => hval j t v (by rw [← hpt] at a; simpa using a) (by simpa using b))
  refine ((contract _ hx' hsh ps hS).calls (ms := i.args) (by rw [hpl]; simp) (fun k x hk => ?_)).mono fun e W' he => ?_
  · have hlt := (List.getElem?_eq_some_iff.1 hk).1
    have hlt' : k < i.args.toList.length := by rw [← hpl]; exact hlt
    have h1 : i.args.toList[k]? = some i.args.toList[k] := List.getElem?_eq_getElem hlt'
    have := hPR k _ x h1 hk
    have e2 : i.args.getD k undef = i.args.toList[k] := by
      have : k < i.args.size := by simpa using hlt'
      simp [Array.getD, this]
    rw [e2]; exact this
  · obtain ⟨m, ok, rfl, hm, bel⟩ := he
    cases hm with
    | v _ =>
      refine ChangeSpec.post_blind ?_
      have hrl : fn'.resultTypes.toList = [rt] := by rw [hrt]
      have hrs : fn'.resultTypes.size = 1 := by rw [hrt]; rfl
      refine ⟨ds, [], p, [], p, [], by simpa using hw', ?_, ?_, ?_, bel.frame _, fun h => by cases h⟩
      · rw [List.append_nil, hs ds hdl, hrl, hrs]
        exact trodAll_mk1 (shut_bool hrb _)
      · rw [List.append_nil, hs ds hdl, hpt]
        exact args_keep hl bel hp hA
      · rw [List.append_nil, hs ds hdl, hv]; exact rfl
end
end Go.Gp

namespace Go.Proofs.YtgekglfmianoeaaGreatDoor
open Go Go.Gp
theorem ti1 : tiOf Tryz.prog 1 = some ⟨1, 8, .func, [.nilFunc]⟩ := by kernel_rfl
theorem ti2 : tiOf Tryz.prog 2 = some ⟨1, 8, .int .i64, [.int .i64 0]⟩ := by kernel_rfl
theorem ti3 : tiOf Tryz.prog 3 = some ⟨1, 8, .int .i64, [.int .i64 0]⟩ := by kernel_rfl
theorem ti4 : tiOf Tryz.prog 4 = some ⟨1, 1, .bool, [.bool false]⟩ := by kernel_rfl
theorem ti5 : tiOf Tryz.prog 5 = some ⟨1, 1, .int .u8, [.int .u8 0]⟩ := by kernel_rfl
theorem ti6 : tiOf Tryz.prog 6 = some ⟨1, 1, .int .u8, [.int .u8 0]⟩ := by kernel_rfl
theorem ti7 : tiOf Tryz.prog 7 = some ⟨4, 24, .struct [(0, 2, 1), (1, 3, 1), (2, 4, 1), (3, 6, 1)], [.int .i64 0, .int .i64 0, .bool false, .int .u8 0]⟩ := by kernel_rfl
theorem ti8 : tiOf Tryz.prog 8 = some ⟨4, 24, .struct [(0, 2, 1), (1, 3, 1), (2, 4, 1), (3, 6, 1)], [.int .i64 0, .int .i64 0, .bool false, .int .u8 0]⟩ := by kernel_rfl
theorem ti9 : tiOf Tryz.prog 9 = some ⟨1, 16, .str, [.string ⟨#[]⟩]⟩ := by kernel_rfl
theorem ti10 : tiOf Tryz.prog 10 = some ⟨1, 16, .str, [.string ⟨#[]⟩]⟩ := by kernel_rfl
theorem ti11 : tiOf Tryz.prog 11 = some ⟨1, 16, .str, [.string ⟨#[]⟩]⟩ := by kernel_rfl
theorem ti12 : tiOf Tryz.prog 12 = some ⟨1, 8, .int .u64, [.int .u64 0]⟩ := by kernel_rfl
theorem ti13 : tiOf Tryz.prog 13 = some ⟨2, 24, .struct [(0, 9, 1), (1, 12, 1)], [.string ⟨#[]⟩, .int .u64 0]⟩ := by kernel_rfl
theorem ti16 : tiOf Tryz.prog 16 = some ⟨1, 8, .ptr 298, [.pointer none]⟩ := by kernel_rfl
theorem ti17 : tiOf Tryz.prog 17 = some ⟨1, 8, .ptr 305, [.pointer none]⟩ := by kernel_rfl
theorem ti18 : tiOf Tryz.prog 18 = some ⟨1, 8, .struct [(0, 17, 1)], [.pointer none]⟩ := by kernel_rfl
theorem ti20 : tiOf Tryz.prog 20 = some ⟨1, 16, .iface, [.nilIface]⟩ := by kernel_rfl
theorem ti21 : tiOf Tryz.prog 21 = some ⟨1, 4, .int .i32, [.int .i32 0]⟩ := by kernel_rfl
theorem ti22 : tiOf Tryz.prog 22 = some ⟨1, 8, .int .u64, [.int .u64 0]⟩ := by kernel_rfl
theorem ti23 : tiOf Tryz.prog 23 = some ⟨2, 16, .struct [(0, 2, 1), (1, 2, 1)], [.int .i64 0, .int .i64 0]⟩ := by kernel_rfl
theorem ti24 : tiOf Tryz.prog 24 = some ⟨2, 16, .struct [(0, 2, 1), (1, 2, 1)], [.int .i64 0, .int .i64 0]⟩ := by kernel_rfl
theorem ti26 : tiOf Tryz.prog 26 = some ⟨16, 16, .array 16 5, [.int .u8 0, .int .u8 0, .int .u8 0, .int .u8 0, .int .u8 0, .int .u8 0, .int .u8 0, .int .u8 0, .int .u8 0, .int .u8 0, .int .u8 0, .int .u8 0, .int .u8 0, .int .u8 0, .int .u8 0, .int .u8 0]⟩ := by kernel_rfl
theorem ti27 : tiOf Tryz.prog 27 = some ⟨17, 24, .struct [(0, 26, 16), (16, 3, 1)], [.int .u8 0, .int .u8 0, .int .u8 0, .int .u8 0, .int .u8 0, .int .u8 0, .int .u8 0, .int .u8 0, .int .u8 0, .int .u8 0, .int .u8 0, .int .u8 0, .int .u8 0, .int .u8 0, .int .u8 0, .int .u8 0, .int .i64 0]⟩ := by kernel_rfl
theorem ti28 : tiOf Tryz.prog 28 = some ⟨17, 24, .struct [(0, 26, 16), (16, 3, 1)], [.int .u8 0, .int .u8 0, .int .u8 0, .int .u8 0, .int .u8 0, .int .u8 0, .int .u8 0, .int .u8 0, .int .u8 0, .int .u8 0, .int .u8 0, .int .u8 0, .int .u8 0, .int .u8 0, .int .u8 0, .int .u8 0, .int .i64 0]⟩ := by kernel_rfl
theorem ti29 : tiOf Tryz.prog 29 = some ⟨1, 24, .slice 110, [.slice none 0 0]⟩ := by kernel_rfl
theorem ti30 : tiOf Tryz.prog 30 = some ⟨1, 24, .slice 99, [.slice none 0 0]⟩ := by kernel_rfl
theorem ti31 : tiOf Tryz.prog 31 = some ⟨3, 72, .struct [(0, 29, 1), (1, 29, 1), (2, 30, 1)], [.slice none 0 0, .slice none 0 0, .slice none 0 0]⟩ := by kernel_rfl
theorem ti32 : tiOf Tryz.prog 32 = some ⟨3, 72, .struct [(0, 29, 1), (1, 29, 1), (2, 30, 1)], [.slice none 0 0, .slice none 0 0, .slice none 0 0]⟩ := by kernel_rfl
theorem ti33 : tiOf Tryz.prog 33 = some ⟨1, 24, .slice 26, [.slice none 0 0]⟩ := by kernel_rfl
theorem ti35 : tiOf Tryz.prog 35 = some ⟨3, 56, .struct [(0, 3, 1), (1, 33, 1), (2, 33, 1)], [.int .i64 0, .slice none 0 0, .slice none 0 0]⟩ := by kernel_rfl
theorem ti37 : tiOf Tryz.prog 37 = some ⟨35, 296, .struct [(0, 22, 1), (1, 9, 1), (2, 9, 1), (3, 24, 2), (5, 28, 17), (22, 4, 1), (23, 4, 1), (24, 32, 3), (27, 9, 1), (28, 9, 1), (29, 9, 1), (30, 9, 1), (31, 9, 1), (32, 35, 3)], [.int .u64 0, .string ⟨#[]⟩, .string ⟨#[]⟩, .int .i64 0, .int .i64 0, .int .u8 0, .int .u8 0, .int .u8 0, .int .u8 0, .int .u8 0, .int .u8 0, .int .u8 0, .int .u8 0, .int .u8 0, .int .u8 0, .int .u8 0, .int .u8 0, .int .u8 0, .int .u8 0, .int .u8 0, .int .u8 0, .int .i64 0, .bool false, .bool false, .slice none 0 0, .slice none 0 0, .slice none 0 0, .string ⟨#[]⟩, .string ⟨#[]⟩, .string ⟨#[]⟩, .string ⟨#[]⟩, .string ⟨#[]⟩, .int .i64 0, .slice none 0 0, .slice none 0 0]⟩ := by kernel_rfl
theorem ti38 : tiOf Tryz.prog 38 = some ⟨1, 24, .slice 5, [.slice none 0 0]⟩ := by kernel_rfl
theorem ti40 : tiOf Tryz.prog 40 = some ⟨1, 8, .func, [.nilFunc]⟩ := by kernel_rfl
theorem ti41 : tiOf Tryz.prog 41 = some ⟨1, 8, .int .i64, [.int .i64 0]⟩ := by kernel_rfl
theorem ti55 : tiOf Tryz.prog 55 = some ⟨40, 384, .struct [(0, 5, 1), (1, 38, 1), (2, 37, 35), (37, 35, 3)], [.int .u8 0, .slice none 0 0, .int .u64 0, .string ⟨#[]⟩, .string ⟨#[]⟩, .int .i64 0, .int .i64 0, .int .u8 0, .int .u8 0, .int .u8 0, .int .u8 0, .int .u8 0, .int .u8 0, .int .u8 0, .int .u8 0, .int .u8 0, .int .u8 0, .int .u8 0, .int .u8 0, .int .u8 0, .int .u8 0, .int .u8 0, .int .u8 0, .int .i64 0, .bool false, .bool false, .slice none 0 0, .slice none 0 0, .slice none 0 0, .string ⟨#[]⟩, .string ⟨#[]⟩, .string ⟨#[]⟩, .string ⟨#[]⟩, .string ⟨#[]⟩, .int .i64 0, .slice none 0 0, .slice none 0 0, .int .i64 0, .slice none 0 0, .slice none 0 0]⟩ := by kernel_rfl
theorem ti56 : tiOf Tryz.prog 56 = some ⟨1, 8, .func, [.nilFunc]⟩ := by kernel_rfl
theorem ti64 : tiOf Tryz.prog 64 = some ⟨1, 8, .func, [.nilFunc]⟩ := by kernel_rfl
theorem ti65 : tiOf Tryz.prog 65 = some ⟨1, 8, .func, [.nilFunc]⟩ := by kernel_rfl
theorem ti69 : tiOf Tryz.prog 69 = some ⟨1, 8, .func, [.nilFunc]⟩ := by kernel_rfl
theorem ti70 : tiOf Tryz.prog 70 = some ⟨1, 24, .slice 9, [.slice none 0 0]⟩ := by kernel_rfl
theorem ti72 : tiOf Tryz.prog 72 = some ⟨1, 8, .func, [.nilFunc]⟩ := by kernel_rfl
theorem ti75 : tiOf Tryz.prog 75 = some ⟨1, 24, .slice 77, [.slice none 0 0]⟩ := by kernel_rfl
theorem ti77 : tiOf Tryz.prog 77 = some ⟨3, 56, .struct [(0, 5, 1), (1, 38, 1), (2, 75, 1)], [.int .u8 0, .slice none 0 0, .slice none 0 0]⟩ := by kernel_rfl
theorem ti88 : tiOf Tryz.prog 88 = some ⟨1, 8, .ptr 90, [.pointer none]⟩ := by kernel_rfl
theorem ti90 : tiOf Tryz.prog 90 = some ⟨1, 8, .struct [(0, 41, 1)], [.int .i64 0]⟩ := by kernel_rfl
theorem ti92 : tiOf Tryz.prog 92 = some ⟨1, 8, .func, [.nilFunc]⟩ := by kernel_rfl
theorem ti93 : tiOf Tryz.prog 93 = some ⟨1, 8, .func, [.nilFunc]⟩ := by kernel_rfl
theorem ti97 : tiOf Tryz.prog 97 = some ⟨1, 4, .int .u32, [.int .u32 0]⟩ := by kernel_rfl
theorem ti99 : tiOf Tryz.prog 99 = some ⟨2, 8, .struct [(0, 97, 1), (1, 97, 1)], [.int .u32 0, .int .u32 0]⟩ := by kernel_rfl
theorem ti100 : tiOf Tryz.prog 100 = some ⟨1, 8, .ptr 9, [.pointer none]⟩ := by kernel_rfl
theorem ti101 : tiOf Tryz.prog 101 = some ⟨1, 24, .slice 100, [.slice none 0 0]⟩ := by kernel_rfl
theorem ti108 : tiOf Tryz.prog 108 = some ⟨2, 16, .struct [(0, 22, 1), (1, 22, 1)], [.int .u64 0, .int .u64 0]⟩ := by kernel_rfl
theorem ti110 : tiOf Tryz.prog 110 = some ⟨4, 32, .struct [(0, 108, 2), (2, 108, 2)], [.int .u64 0, .int .u64 0, .int .u64 0, .int .u64 0]⟩ := by kernel_rfl
theorem ti116 : tiOf Tryz.prog 116 = some ⟨1, 8, .func, [.nilFunc]⟩ := by kernel_rfl
theorem ti126 : tiOf Tryz.prog 126 = some ⟨1, 8, .map 5 4, [.map none]⟩ := by kernel_rfl
theorem ti129 : tiOf Tryz.prog 129 = some ⟨1, 8, .func, [.nilFunc]⟩ := by kernel_rfl
theorem ti134 : tiOf Tryz.prog 134 = some ⟨5, 64, .struct [(0, 5, 1), (1, 9, 1), (2, 3, 1), (3, 70, 1), (4, 4, 1)], [.int .u8 0, .string ⟨#[]⟩, .int .i64 0, .slice none 0 0, .bool false]⟩ := by kernel_rfl
theorem ti135 : tiOf Tryz.prog 135 = some ⟨1, 8, .func, [.nilFunc]⟩ := by kernel_rfl
theorem ti141 : tiOf Tryz.prog 141 = some ⟨1, 24, .slice 22, [.slice none 0 0]⟩ := by kernel_rfl
theorem ti142 : tiOf Tryz.prog 142 = some ⟨1, 8, .func, [.nilFunc]⟩ := by kernel_rfl
theorem ti143 : tiOf Tryz.prog 143 = some ⟨1, 8, .func, [.nilFunc]⟩ := by kernel_rfl
theorem ti155 : tiOf Tryz.prog 155 = some ⟨0, 0, .struct [], []⟩ := by kernel_rfl
theorem ti157 : tiOf Tryz.prog 157 = some ⟨1, 8, .ptr 159, [.pointer none]⟩ := by kernel_rfl
theorem ti159 : tiOf Tryz.prog 159 = some ⟨1, 24, .struct [(0, 38, 1)], [.slice none 0 0]⟩ := by kernel_rfl
theorem ti160 : tiOf Tryz.prog 160 = some ⟨1, 8, .func, [.nilFunc]⟩ := by kernel_rfl
theorem ti162 : tiOf Tryz.prog 162 = some ⟨1, 8, .func, [.nilFunc]⟩ := by kernel_rfl
theorem ti163 : tiOf Tryz.prog 163 = some ⟨1, 8, .func, [.nilFunc]⟩ := by kernel_rfl
theorem ti165 : tiOf Tryz.prog 165 = some ⟨1, 24, .slice 41, [.slice none 0 0]⟩ := by kernel_rfl
theorem ti166 : tiOf Tryz.prog 166 = some ⟨1, 8, .func, [.nilFunc]⟩ := by kernel_rfl
theorem ti173 : tiOf Tryz.prog 173 = some ⟨1, 24, .slice 29, [.slice none 0 0]⟩ := by kernel_rfl
theorem ti177 : tiOf Tryz.prog 177 = some ⟨1, 8, .int .u64, [.int .u64 0]⟩ := by kernel_rfl
theorem ti180 : tiOf Tryz.prog 180 = some ⟨1, 24, .slice 110, [.slice none 0 0]⟩ := by kernel_rfl
theorem ti181 : tiOf Tryz.prog 181 = some ⟨3, 72, .array 3 180, [.slice none 0 0, .slice none 0 0, .slice none 0 0]⟩ := by kernel_rfl
theorem ti184 : tiOf Tryz.prog 184 = some ⟨1, 8, .func, [.nilFunc]⟩ := by kernel_rfl
theorem ti191 : tiOf Tryz.prog 191 = some ⟨1, 8, .func, [.nilFunc]⟩ := by kernel_rfl
theorem ti208 : tiOf Tryz.prog 208 = some ⟨1, 8, .func, [.nilFunc]⟩ := by kernel_rfl
theorem ti212 : tiOf Tryz.prog 212 = some ⟨1, 8, .func, [.nilFunc]⟩ := by kernel_rfl
theorem ti214 : tiOf Tryz.prog 214 = some ⟨1, 8, .map 9 5, [.map none]⟩ := by kernel_rfl
theorem ti216 : tiOf Tryz.prog 216 = some ⟨1, 16, .iface, [.nilIface]⟩ := by kernel_rfl
theorem ti221 : tiOf Tryz.prog 221 = some ⟨1, 8, .func, [.nilFunc]⟩ := by kernel_rfl
theorem ti232 : tiOf Tryz.prog 232 = some ⟨1, 8, .func, [.nilFunc]⟩ := by kernel_rfl
theorem ti243 : tiOf Tryz.prog 243 = some ⟨1, 8, .int .i64, [.int .i64 0]⟩ := by kernel_rfl
theorem ti246 : tiOf Tryz.prog 246 = some ⟨1, 8, .ptr 265, [.pointer none]⟩ := by kernel_rfl
theorem ti251 : tiOf Tryz.prog 251 = some ⟨256, 256, .array 256 5, (List.replicate 256 (.int .u8 0))⟩ := by kernel_rfl
theorem ti254 : tiOf Tryz.prog 254 = some ⟨1, 8, .ptr 256, [.pointer none]⟩ := by kernel_rfl
theorem ti256 : tiOf Tryz.prog 256 = some ⟨2, 32, .struct [(0, 254, 1), (1, 38, 1)], [.pointer none, .slice none 0 0]⟩ := by kernel_rfl
theorem ti265 : tiOf Tryz.prog 265 = some ⟨3, 48, .struct [(0, 9, 1), (1, 9, 1), (2, 216, 1)], [.string ⟨#[]⟩, .string ⟨#[]⟩, .nilIface]⟩ := by kernel_rfl
theorem ti269 : tiOf Tryz.prog 269 = some ⟨1, 8, .ptr 5, [.pointer none]⟩ := by kernel_rfl
theorem ti273 : tiOf Tryz.prog 273 = some ⟨1, 8, .ptr 275, [.pointer none]⟩ := by kernel_rfl
theorem ti275 : tiOf Tryz.prog 275 = some ⟨1, 16, .struct [(0, 9, 1)], [.string ⟨#[]⟩]⟩ := by kernel_rfl
theorem ti277 : tiOf Tryz.prog 277 = some ⟨24, 24, .array 24 5, [.int .u8 0, .int .u8 0, .int .u8 0, .int .u8 0, .int .u8 0, .int .u8 0, .int .u8 0, .int .u8 0, .int .u8 0, .int .u8 0, .int .u8 0, .int .u8 0, .int .u8 0, .int .u8 0, .int .u8 0, .int .u8 0, .int .u8 0, .int .u8 0, .int .u8 0, .int .u8 0, .int .u8 0, .int .u8 0, .int .u8 0, .int .u8 0]⟩ := by kernel_rfl
theorem ti287 : tiOf Tryz.prog 287 = some ⟨20, 160, .array 20 22, [.int .u64 0, .int .u64 0, .int .u64 0, .int .u64 0, .int .u64 0, .int .u64 0, .int .u64 0, .int .u64 0, .int .u64 0, .int .u64 0, .int .u64 0, .int .u64 0, .int .u64 0, .int .u64 0, .int .u64 0, .int .u64 0, .int .u64 0, .int .u64 0, .int .u64 0, .int .u64 0]⟩ := by kernel_rfl
theorem ti288 : tiOf Tryz.prog 288 = some ⟨65, 65, .array 65 5, (List.replicate 65 (.int .u8 0))⟩ := by kernel_rfl
theorem ti290 : tiOf Tryz.prog 290 = some ⟨2, 2, .struct [(0, 5, 1), (1, 5, 1)], [.int .u8 0, .int .u8 0]⟩ := by kernel_rfl
theorem ti291 : tiOf Tryz.prog 291 = some ⟨32, 32, .array 16 290, [.int .u8 0, .int .u8 0, .int .u8 0, .int .u8 0, .int .u8 0, .int .u8 0, .int .u8 0, .int .u8 0, .int .u8 0, .int .u8 0, .int .u8 0, .int .u8 0, .int .u8 0, .int .u8 0, .int .u8 0, .int .u8 0, .int .u8 0, .int .u8 0, .int .u8 0, .int .u8 0, .int .u8 0, .int .u8 0, .int .u8 0, .int .u8 0, .int .u8 0, .int .u8 0, .int .u8 0, .int .u8 0, .int .u8 0, .int .u8 0, .int .u8 0, .int .u8 0]⟩ := by kernel_rfl
theorem ti292 : tiOf Tryz.prog 292 = some ⟨32, 32, .array 32 5, [.int .u8 0, .int .u8 0, .int .u8 0, .int .u8 0, .int .u8 0, .int .u8 0, .int .u8 0, .int .u8 0, .int .u8 0, .int .u8 0, .int .u8 0, .int .u8 0, .int .u8 0, .int .u8 0, .int .u8 0, .int .u8 0, .int .u8 0, .int .u8 0, .int .u8 0, .int .u8 0, .int .u8 0, .int .u8 0, .int .u8 0, .int .u8 0, .int .u8 0, .int .u8 0, .int .u8 0, .int .u8 0, .int .u8 0, .int .u8 0, .int .u8 0, .int .u8 0]⟩ := by kernel_rfl
theorem ti293 : tiOf Tryz.prog 293 = some ⟨64, 64, .array 64 5, (List.replicate 64 (.int .u8 0))⟩ := by kernel_rfl
theorem ti296 : tiOf Tryz.prog 296 = some ⟨0, 0, .array 0 16, []⟩ := by kernel_rfl
theorem ti298 : tiOf Tryz.prog 298 = some ⟨0, 0, .struct [(0, 296, 0)], []⟩ := by kernel_rfl
theorem ti299 : tiOf Tryz.prog 299 = some ⟨1, 1, .int .u8, [.int .u8 0]⟩ := by kernel_rfl
theorem ti300 : tiOf Tryz.prog 300 = some ⟨1, 1, .int .u8, [.int .u8 0]⟩ := by kernel_rfl
theorem ti301 : tiOf Tryz.prog 301 = some ⟨1, 8, .func, [.nilFunc]⟩ := by kernel_rfl
theorem ti302 : tiOf Tryz.prog 302 = some ⟨1, 4, .int .i32, [.int .i32 0]⟩ := by kernel_rfl
theorem ti303 : tiOf Tryz.prog 303 = some ⟨1, 4, .int .i32, [.int .i32 0]⟩ := by kernel_rfl
theorem ti305 : tiOf Tryz.prog 305 = some ⟨11, 48, .struct [(0, 12, 1), (1, 12, 1), (2, 97, 1), (3, 299, 1), (4, 5, 1), (5, 5, 1), (6, 300, 1), (7, 301, 1), (8, 269, 1), (9, 302, 1), (10, 303, 1)], [.int .u64 0, .int .u64 0, .int .u32 0, .int .u8 0, .int .u8 0, .int .u8 0, .int .u8 0, .nilFunc, .pointer none, .int .i32 0, .int .i32 0]⟩ := by kernel_rfl
theorem eq24 : eqA Tryz.prog 24 = true := by kernel_rfl
theorem eq26 : eqA Tryz.prog 26 = true := by kernel_rfl
theorem eq28 : eqA Tryz.prog 28 = true := by kernel_rfl
theorem eq108 : eqA Tryz.prog 108 = true := by kernel_rfl
theorem eq110 : eqA Tryz.prog 110 = true := by kernel_rfl
theorem cb5 : callable Tryz.prog 5 = true := by kernel_rfl
theorem cb6 : callable Tryz.prog 6 = true := by kernel_rfl
theorem cb7 : callable Tryz.prog 7 = true := by kernel_rfl
theorem cb8 : callable Tryz.prog 8 = true := by kernel_rfl
theorem cb10 : callable Tryz.prog 10 = true := by kernel_rfl
theorem cb14 : callable Tryz.prog 14 = true := by kernel_rfl
theorem cb16 : callable Tryz.prog 16 = true := by kernel_rfl
theorem cb17 : callable Tryz.prog 17 = true := by kernel_rfl
theorem cb19 : callable Tryz.prog 19 = true := by kernel_rfl
theorem cb21 : callable Tryz.prog 21 = true := by kernel_rfl
theorem cb23 : callable Tryz.prog 23 = true := by kernel_rfl
theorem cb25 : callable Tryz.prog 25 = true := by kernel_rfl
theorem cb27 : callable Tryz.prog 27 = true := by kernel_rfl
theorem cb29 : callable Tryz.prog 29 = true := by kernel_rfl
theorem cb30 : callable Tryz.prog 30 = true := by kernel_rfl
theorem cb31 : callable Tryz.prog 31 = true := by kernel_rfl
theorem cb34 : callable Tryz.prog 34 = true := by kernel_rfl
theorem cb35 : callable Tryz.prog 35 = true := by kernel_rfl
theorem cb36 : callable Tryz.prog 36 = true := by kernel_rfl
theorem cb37 : callable Tryz.prog 37 = true := by kernel_rfl
theorem cb38 : callable Tryz.prog 38 = true := by kernel_rfl
theorem cb39 : callable Tryz.prog 39 = true := by kernel_rfl
theorem cb40 : callable Tryz.prog 40 = true := by kernel_rfl
theorem cb45 : callable Tryz.prog 45 = true := by kernel_rfl
theorem cb46 : callable Tryz.prog 46 = true := by kernel_rfl
theorem cb47 : callable Tryz.prog 47 = true := by kernel_rfl
theorem cb48 : callable Tryz.prog 48 = true := by kernel_rfl
theorem cb49 : callable Tryz.prog 49 = true := by kernel_rfl
theorem cb50 : callable Tryz.prog 50 = true := by kernel_rfl
theorem cb51 : callable Tryz.prog 51 = true := by kernel_rfl
theorem cb54 : callable Tryz.prog 54 = true := by kernel_rfl
theorem cb55 : callable Tryz.prog 55 = true := by kernel_rfl
theorem cb56 : callable Tryz.prog 56 = true := by kernel_rfl
theorem cb57 : callable Tryz.prog 57 = true := by kernel_rfl
theorem cb58 : callable Tryz.prog 58 = true := by kernel_rfl
theorem cb62 : callable Tryz.prog 62 = true := by kernel_rfl
theorem cb63 : callable Tryz.prog 63 = true := by kernel_rfl
theorem cb64 : callable Tryz.prog 64 = true := by kernel_rfl
theorem cb65 : callable Tryz.prog 65 = true := by kernel_rfl
theorem cb66 : callable Tryz.prog 66 = true := by kernel_rfl
theorem cb67 : callable Tryz.prog 67 = true := by kernel_rfl
theorem cb68 : callable Tryz.prog 68 = true := by kernel_rfl
theorem cb72 : callable Tryz.prog 72 = true := by kernel_rfl
theorem cb73 : callable Tryz.prog 73 = true := by kernel_rfl
theorem cb74 : callable Tryz.prog 74 = true := by kernel_rfl
theorem cb75 : callable Tryz.prog 75 = true := by kernel_rfl
theorem cb76 : callable Tryz.prog 76 = true := by kernel_rfl
theorem cb77 : callable Tryz.prog 77 = true := by kernel_rfl
theorem cb78 : callable Tryz.prog 78 = true := by kernel_rfl
theorem cb79 : callable Tryz.prog 79 = true := by kernel_rfl
theorem cb80 : callable Tryz.prog 80 = true := by kernel_rfl
theorem cb81 : callable Tryz.prog 81 = true := by kernel_rfl
theorem cb82 : callable Tryz.prog 82 = true := by kernel_rfl
theorem cb83 : callable Tryz.prog 83 = true := by kernel_rfl
theorem cb84 : callable Tryz.prog 84 = true := by kernel_rfl
theorem cb85 : callable Tryz.prog 85 = true := by kernel_rfl
theorem cb86 : callable Tryz.prog 86 = true := by kernel_rfl
theorem cb87 : callable Tryz.prog 87 = true := by kernel_rfl
theorem cb88 : callable Tryz.prog 88 = true := by kernel_rfl
theorem cb89 : callable Tryz.prog 89 = true := by kernel_rfl
theorem cb90 : callable Tryz.prog 90 = true := by kernel_rfl
theorem cb91 : callable Tryz.prog 91 = true := by kernel_rfl
theorem cb92 : callable Tryz.prog 92 = true := by kernel_rfl
theorem cb107 : callable Tryz.prog 107 = true := by kernel_rfl
theorem cb108 : callable Tryz.prog 108 = true := by kernel_rfl
theorem cb109 : callable Tryz.prog 109 = true := by kernel_rfl
theorem cb110 : callable Tryz.prog 110 = true := by kernel_rfl
theorem cb111 : callable Tryz.prog 111 = true := by kernel_rfl
theorem cb118 : callable Tryz.prog 118 = true := by kernel_rfl
theorem cb119 : callable Tryz.prog 119 = true := by kernel_rfl
theorem cb121 : callable Tryz.prog 121 = true := by kernel_rfl
theorem cb122 : callable Tryz.prog 122 = true := by kernel_rfl
theorem cb123 : callable Tryz.prog 123 = true := by kernel_rfl
theorem cb124 : callable Tryz.prog 124 = true := by kernel_rfl
theorem cb125 : callable Tryz.prog 125 = true := by kernel_rfl
theorem cb126 : callable Tryz.prog 126 = true := by kernel_rfl
theorem cb127 : callable Tryz.prog 127 = true := by kernel_rfl
theorem cb128 : callable Tryz.prog 128 = true := by kernel_rfl
theorem cb129 : callable Tryz.prog 129 = true := by kernel_rfl
theorem cb130 : callable Tryz.prog 130 = true := by kernel_rfl
theorem cb131 : callable Tryz.prog 131 = true := by kernel_rfl
theorem cb132 : callable Tryz.prog 132 = true := by kernel_rfl
theorem cb142 : callable Tryz.prog 142 = true := by kernel_rfl
theorem cb143 : callable Tryz.prog 143 = true := by kernel_rfl
theorem cb144 : callable Tryz.prog 144 = true := by kernel_rfl
theorem cb150 : callable Tryz.prog 150 = true := by kernel_rfl
theorem cb151 : callable Tryz.prog 151 = true := by kernel_rfl
theorem cb152 : callable Tryz.prog 152 = true := by kernel_rfl
theorem cb153 : callable Tryz.prog 153 = true := by kernel_rfl
theorem cb154 : callable Tryz.prog 154 = true := by kernel_rfl
theorem cb155 : callable Tryz.prog 155 = true := by kernel_rfl
theorem cb156 : callable Tryz.prog 156 = true := by kernel_rfl
theorem cb157 : callable Tryz.prog 157 = true := by kernel_rfl
theorem cb158 : callable Tryz.prog 158 = true := by kernel_rfl
theorem cb159 : callable Tryz.prog 159 = true := by kernel_rfl
theorem cb160 : callable Tryz.prog 160 = true := by kernel_rfl
theorem cb161 : callable Tryz.prog 161 = true := by kernel_rfl
theorem cb170 : callable Tryz.prog 170 = true := by kernel_rfl
theorem cb171 : callable Tryz.prog 171 = true := by kernel_rfl
theorem cb172 : callable Tryz.prog 172 = true := by kernel_rfl
theorem cb173 : callable Tryz.prog 173 = true := by kernel_rfl
theorem cb174 : callable Tryz.prog 174 = true := by kernel_rfl
theorem cb175 : callable Tryz.prog 175 = true := by kernel_rfl
theorem cb176 : callable Tryz.prog 176 = true := by kernel_rfl
theorem cb177 : callable Tryz.prog 177 = true := by kernel_rfl
theorem cb178 : callable Tryz.prog 178 = true := by kernel_rfl
theorem cb179 : callable Tryz.prog 179 = true := by kernel_rfl
theorem cb180 : callable Tryz.prog 180 = true := by kernel_rfl
theorem cb181 : callable Tryz.prog 181 = true := by kernel_rfl
theorem cb182 : callable Tryz.prog 182 = true := by kernel_rfl
theorem cb183 : callable Tryz.prog 183 = true := by kernel_rfl
theorem cb184 : callable Tryz.prog 184 = true := by kernel_rfl
theorem cb191 : callable Tryz.prog 191 = true := by kernel_rfl
theorem cb192 : callable Tryz.prog 192 = true := by kernel_rfl
theorem cb193 : callable Tryz.prog 193 = false := by kernel_rfl
theorem cb194 : callable Tryz.prog 194 = true := by kernel_rfl
theorem cb195 : callable Tryz.prog 195 = true := by kernel_rfl
theorem cb196 : callable Tryz.prog 196 = true := by kernel_rfl
theorem cb197 : callable Tryz.prog 197 = true := by kernel_rfl
theorem cb198 : callable Tryz.prog 198 = true := by kernel_rfl
theorem cb199 : callable Tryz.prog 199 = true := by kernel_rfl
theorem cb200 : callable Tryz.prog 200 = true := by kernel_rfl
theorem cb201 : callable Tryz.prog 201 = true := by kernel_rfl
theorem cb202 : callable Tryz.prog 202 = true := by kernel_rfl
theorem cb203 : callable Tryz.prog 203 = true := by kernel_rfl
theorem cb204 : callable Tryz.prog 204 = true := by kernel_rfl
theorem cb205 : callable Tryz.prog 205 = true := by kernel_rfl
theorem cb206 : callable Tryz.prog 206 = true := by kernel_rfl
theorem cb207 : callable Tryz.prog 207 = true := by kernel_rfl
theorem cb208 : callable Tryz.prog 208 = true := by kernel_rfl
theorem cb209 : callable Tryz.prog 209 = true := by kernel_rfl
theorem cb211 : callable Tryz.prog 211 = true := by kernel_rfl
theorem cb212 : callable Tryz.prog 212 = true := by kernel_rfl
theorem cb213 : callable Tryz.prog 213 = false := by kernel_rfl
theorem cb214 : callable Tryz.prog 214 = true := by kernel_rfl
theorem cb215 : callable Tryz.prog 215 = true := by kernel_rfl
theorem cb216 : callable Tryz.prog 216 = true := by kernel_rfl
theorem cb217 : callable Tryz.prog 217 = true := by kernel_rfl
theorem cb218 : callable Tryz.prog 218 = true := by kernel_rfl
theorem cb219 : callable Tryz.prog 219 = true := by kernel_rfl
theorem cb220 : callable Tryz.prog 220 = true := by kernel_rfl
theorem cb221 : callable Tryz.prog 221 = true := by kernel_rfl
theorem cb222 : callable Tryz.prog 222 = true := by kernel_rfl
theorem cb223 : callable Tryz.prog 223 = true := by kernel_rfl
theorem cb224 : callable Tryz.prog 224 = true := by kernel_rfl
theorem cb225 : callable Tryz.prog 225 = false := by kernel_rfl
theorem cb226 : callable Tryz.prog 226 = true := by kernel_rfl
theorem cb227 : callable Tryz.prog 227 = true := by kernel_rfl
theorem cb228 : callable Tryz.prog 228 = true := by kernel_rfl
theorem cb229 : callable Tryz.prog 229 = true := by kernel_rfl
theorem cb230 : callable Tryz.prog 230 = true := by kernel_rfl
theorem cb231 : callable Tryz.prog 231 = true := by kernel_rfl
theorem cb232 : callable Tryz.prog 232 = true := by kernel_rfl
theorem cb233 : callable Tryz.prog 233 = true := by kernel_rfl
theorem cb234 : callable Tryz.prog 234 = true := by kernel_rfl
theorem cb235 : callable Tryz.prog 235 = true := by kernel_rfl
theorem cb236 : callable Tryz.prog 236 = false := by kernel_rfl
theorem cb237 : callable Tryz.prog 237 = false := by kernel_rfl
theorem cb238 : callable Tryz.prog 238 = true := by kernel_rfl
theorem cb239 : callable Tryz.prog 239 = true := by kernel_rfl
theorem cb240 : callable Tryz.prog 240 = false := by kernel_rfl
theorem cb241 : callable Tryz.prog 241 = true := by kernel_rfl
theorem cb242 : callable Tryz.prog 242 = true := by kernel_rfl
theorem cb243 : callable Tryz.prog 243 = true := by kernel_rfl
theorem cb244 : callable Tryz.prog 244 = true := by kernel_rfl
theorem cb245 : callable Tryz.prog 245 = true := by kernel_rfl
theorem cb246 : callable Tryz.prog 246 = true := by kernel_rfl
theorem cb247 : callable Tryz.prog 247 = true := by kernel_rfl
theorem xt193 : extOf Tryz.prog 193 = some .add64 := by kernel_rfl
theorem xt225 : extOf Tryz.prog 225 = some .idxB := by kernel_rfl
end Go.Proofs.YtgekglfmianoeaaGreatDoor

namespace Go.Proofs.YtgekglfmianoeaaGreatDoor
open Go Go.Gp
theorem op22 : Opens Tryz.prog 22 (SInt .u64) := opens_int Tryz.underlying22
theorem op9 : Opens Tryz.prog 9 SStr := opens_str Tryz.underlying9
theorem op2 : Opens Tryz.prog 2 (SInt .i64) := opens_int Tryz.underlying2
theorem op24 : Opens Tryz.prog 24 (SAgg [(SInt .i64), (SInt .i64)]) := opens_struct Tryz.underlying24 (.cons op2 (.cons op2 .nil)) (by kernel_rfl) (by kernel_rfl)
theorem op5 : Opens Tryz.prog 5 (SInt .u8) := opens_int Tryz.underlying5
theorem op26 : Opens Tryz.prog 26 (SAgg (List.replicate 16 (SInt .u8))) := opens_array Tryz.underlying26 (.cons op5 (.cons op5 (.cons op5 (.cons op5 (.cons op5 (.cons op5 (.cons op5 (.cons op5 (.cons op5 (.cons op5 (.cons op5 (.cons op5 (.cons op5 (.cons op5 (.cons op5 (.cons op5 .nil)))))))))))))))) (by kernel_rfl) (by kernel_rfl)
theorem op3 : Opens Tryz.prog 3 (SInt .i64) := opens_int Tryz.underlying3
theorem op28 : Opens Tryz.prog 28 (SAgg [(SAgg (List.replicate 16 (SInt .u8))), (SInt .i64)]) := opens_struct Tryz.underlying28 (.cons op26 (.cons op3 .nil)) (by kernel_rfl) (by kernel_rfl)
theorem op4 : Opens Tryz.prog 4 SBool := opens_bool Tryz.underlying4
theorem op108 : Opens Tryz.prog 108 (SAgg [(SInt .u64), (SInt .u64)]) := opens_struct Tryz.underlying108 (.cons op22 (.cons op22 .nil)) (by kernel_rfl) (by kernel_rfl)
theorem op110 : Opens Tryz.prog 110 (SAgg [(SAgg [(SInt .u64), (SInt .u64)]), (SAgg [(SInt .u64), (SInt .u64)])]) := opens_struct Tryz.underlying110 (.cons op108 (.cons op108 .nil)) (by kernel_rfl) (by kernel_rfl)
theorem op29 : Opens Tryz.prog 29 (SSl 4 (SAgg [(SAgg [(SInt .u64), (SInt .u64)]), (SAgg [(SInt .u64), (SInt .u64)])])) := opens_slice Tryz.underlying29 op110 (by kernel_rfl) (by decide)
theorem op97 : Opens Tryz.prog 97 (SInt .u32) := opens_int Tryz.underlying97
theorem op99 : Opens Tryz.prog 99 (SAgg [(SInt .u32), (SInt .u32)]) := opens_struct Tryz.underlying99 (.cons op97 (.cons op97 .nil)) (by kernel_rfl) (by kernel_rfl)
theorem op30 : Opens Tryz.prog 30 (SSl 2 (SAgg [(SInt .u32), (SInt .u32)])) := opens_slice Tryz.underlying30 op99 (by kernel_rfl) (by decide)
theorem op32 : Opens Tryz.prog 32 (SAgg [(SSl 4 (SAgg [(SAgg [(SInt .u64), (SInt .u64)]), (SAgg [(SInt .u64), (SInt .u64)])])), (SSl 4 (SAgg [(SAgg [(SInt .u64), (SInt .u64)]), (SAgg [(SInt .u64), (SInt .u64)])])), (SSl 2 (SAgg [(SInt .u32), (SInt .u32)]))]) := opens_struct Tryz.underlying32 (.cons op29 (.cons op29 (.cons op30 .nil))) (by kernel_rfl) (by kernel_rfl)
theorem op33 : Opens Tryz.prog 33 (SSl 16 (SAgg (List.replicate 16 (SInt .u8)))) := opens_slice Tryz.underlying33 op26 (by kernel_rfl) (by decide)
theorem op35 : Opens Tryz.prog 35 (SAgg [(SInt .i64), (SSl 16 (SAgg (List.replicate 16 (SInt .u8)))), (SSl 16 (SAgg (List.replicate 16 (SInt .u8))))]) := opens_struct Tryz.underlying35 (.cons op3 (.cons op33 (.cons op33 .nil))) (by kernel_rfl) (by kernel_rfl)
abbrev S_api_KeySig : PV → Prop := (SAgg [(SInt .i64), (SSl 16 (SAgg (List.replicate 16 (SInt .u8)))), (SSl 16 (SAgg (List.replicate 16 (SInt .u8))))])
theorem op37 : Opens Tryz.prog 37 (SAgg [(SInt .u64), SStr, SStr, (SAgg [(SInt .i64), (SInt .i64)]), (SAgg [(SAgg (List.replicate 16 (SInt .u8))), (SInt .i64)]), SBool, SBool, (SAgg [(SSl 4 (SAgg [(SAgg [(SInt .u64), (SInt .u64)]), (SAgg [(SInt .u64), (SInt .u64)])])), (SSl 4 (SAgg [(SAgg [(SInt .u64), (SInt .u64)]), (SAgg [(SInt .u64), (SInt .u64)])])), (SSl 2 (SAgg [(SInt .u32), (SInt .u32)]))]), SStr, SStr, SStr, SStr, SStr, (SAgg [(SInt .i64), (SSl 16 (SAgg (List.replicate 16 (SInt .u8)))), (SSl 16 (SAgg (List.replicate 16 (SInt .u8))))])]) := opens_struct Tryz.underlying37 (.cons op22 (.cons op9 (.cons op9 (.cons op24 (.cons op28 (.cons op4 (.cons op4 (.cons op32 (.cons op9 (.cons op9 (.cons op9 (.cons op9 (.cons op9 (.cons op35 .nil)))))))))))))) (by kernel_rfl) (by kernel_rfl)
abbrev S_api_Cert : PV → Prop := (SAgg [(SInt .u64), SStr, SStr, (SAgg [(SInt .i64), (SInt .i64)]), (SAgg [(SAgg (List.replicate 16 (SInt .u8))), (SInt .i64)]), SBool, SBool, (SAgg [(SSl 4 (SAgg [(SAgg [(SInt .u64), (SInt .u64)]), (SAgg [(SInt .u64), (SInt .u64)])])), (SSl 4 (SAgg [(SAgg [(SInt .u64), (SInt .u64)]), (SAgg [(SInt .u64), (SInt .u64)])])), (SSl 2 (SAgg [(SInt .u32), (SInt .u32)]))]), SStr, SStr, SStr, SStr, SStr, (SAgg [(SInt .i64), (SSl 16 (SAgg (List.replicate 16 (SInt .u8)))), (SSl 16 (SAgg (List.replicate 16 (SInt .u8))))])])
theorem op38 : Opens Tryz.prog 38 (SSl 1 (SInt .u8)) := opens_slice Tryz.underlying38 op5 (by kernel_rfl) (by decide)
theorem arg38 : OpensArg Tryz.prog 38 (SSl 1 (SInt .u8)) := arg_slice Tryz.underlying38 op5 (by kernel_rfl) (by decide)
theorem op55 : Opens Tryz.prog 55 (SAgg [(SInt .u8), (SSl 1 (SInt .u8)), (SAgg [(SInt .u64), SStr, SStr, (SAgg [(SInt .i64), (SInt .i64)]), (SAgg [(SAgg (List.replicate 16 (SInt .u8))), (SInt .i64)]), SBool, SBool, (SAgg [(SSl 4 (SAgg [(SAgg [(SInt .u64), (SInt .u64)]), (SAgg [(SInt .u64), (SInt .u64)])])), (SSl 4 (SAgg [(SAgg [(SInt .u64), (SInt .u64)]), (SAgg [(SInt .u64), (SInt .u64)])])), (SSl 2 (SAgg [(SInt .u32), (SInt .u32)]))]), SStr, SStr, SStr, SStr, SStr, (SAgg [(SInt .i64), (SSl 16 (SAgg (List.replicate 16 (SInt .u8)))), (SSl 16 (SAgg (List.replicate 16 (SInt .u8))))])]), (SAgg [(SInt .i64), (SSl 16 (SAgg (List.replicate 16 (SInt .u8)))), (SSl 16 (SAgg (List.replicate 16 (SInt .u8))))])]) := opens_struct Tryz.underlying55 (.cons op5 (.cons op38 (.cons op37 (.cons op35 .nil)))) (by kernel_rfl) (by kernel_rfl)
theorem arg55 : OpensArg Tryz.prog 55 (SAgg [(SInt .u8), (SSl 1 (SInt .u8)), (SAgg [(SInt .u64), SStr, SStr, (SAgg [(SInt .i64), (SInt .i64)]), (SAgg [(SAgg (List.replicate 16 (SInt .u8))), (SInt .i64)]), SBool, SBool, (SAgg [(SSl 4 (SAgg [(SAgg [(SInt .u64), (SInt .u64)]), (SAgg [(SInt .u64), (SInt .u64)])])), (SSl 4 (SAgg [(SAgg [(SInt .u64), (SInt .u64)]), (SAgg [(SInt .u64), (SInt .u64)])])), (SSl 2 (SAgg [(SInt .u32), (SInt .u32)]))]), SStr, SStr, SStr, SStr, SStr, (SAgg [(SInt .i64), (SSl 16 (SAgg (List.replicate 16 (SInt .u8)))), (SSl 16 (SAgg (List.replicate 16 (SInt .u8))))])]), (SAgg [(SInt .i64), (SSl 16 (SAgg (List.replicate 16 (SInt .u8)))), (SSl 16 (SAgg (List.replicate 16 (SInt .u8))))])]) := arg_struct Tryz.underlying55 op55
abbrev S_api_SignedObj : PV → Prop := (SAgg [(SInt .u8), (SSl 1 (SInt .u8)), (SAgg [(SInt .u64), SStr, SStr, (SAgg [(SInt .i64), (SInt .i64)]), (SAgg [(SAgg (List.replicate 16 (SInt .u8))), (SInt .i64)]), SBool, SBool, (SAgg [(SSl 4 (SAgg [(SAgg [(SInt .u64), (SInt .u64)]), (SAgg [(SInt .u64), (SInt .u64)])])), (SSl 4 (SAgg [(SAgg [(SInt .u64), (SInt .u64)]), (SAgg [(SInt .u64), (SInt .u64)])])), (SSl 2 (SAgg [(SInt .u32), (SInt .u32)]))]), SStr, SStr, SStr, SStr, SStr, (SAgg [(SInt .i64), (SSl 16 (SAgg (List.replicate 16 (SInt .u8)))), (SSl 16 (SAgg (List.replicate 16 (SInt .u8))))])]), (SAgg [(SInt .i64), (SSl 16 (SAgg (List.replicate 16 (SInt .u8)))), (SSl 16 (SAgg (List.replicate 16 (SInt .u8))))])])
end Go.Proofs.YtgekglfmianoeaaGreatDoor

namespace Go.Proofs.YtgekglfmianoeaaGreatDoor
open Go Go.Gp
attribute [push_cast] enter' nilCheckF assertF enumFrom List.map_cons List.map_nil wpC_seq wpC_region wpC_ret wpC_skip wpC_exit wpC_block wpC_cond wpC_loop wpC_draw wpR_cons wpR_nil thenQ_normal thenQ_ret thenQ_exit thenQ_panic blockQ_normal blockQ_ret blockQ_exit blockQ_panic condK_some condW stepE guardC aget aset adel ev evB evsS evs flatV opF opM binF binI' binS' unF callF lenF minF max3F convF loadF fieldAddrF fieldF indexF indexAddrF ifaceF buildF extractF fillV placesOf elemsOf Gp.elemOf List.range List.range.loop List.flatten_cons List.flatten_nil List.set_cons_zero List.set_cons_succ Gp.byteOf appF makeF bytesF okSrc srcV convA convS sliceF sliceV boundF lenV readV readX mkAgg allP addrAdd putL List.drop_succ_cons List.drop_zero List.take_succ_cons List.take_zero List.getD_cons_zero List.getD_cons_succ List.getElem?_cons_zero List.getElem?_cons_succ zipParts pv isMem isShift cloOf Op.operands Call.operands List.append_toArray fin_pure TI.agg TD.agg V.isAgg V.cells V.isTup List.length_cons List.length_nil wpD_nil wpD_cons finD_pure finD_call finD_callE finD_callM finD_mem stepV inP inM isLoad stP pEnv uV againAll againM againF Option.getD_some Option.getD_none false_implies fin_mem fin_call fin_callc fin_both fin_yld putPs nilS nilP isNilC TD.isSli putC putM putS dropD condV stripV if_true pickF dstOk pickB_or pickB_and Bool.false_eq_true Nat.mul_one Nat.add_zero Nat.zero_add List.length_map Nat.le_refl Nat.zero_le Bool.true_and Bool.and_true Bool.or_true Bool.true_or Bool.false_or Bool.or_false Bool.false_and Bool.and_false Bool.not_true Bool.not_false decide_true decide_false true_or or_true or_false false_or and_false false_and if_false true_implies true_and and_true Bool.and_self forall_const implies_true imp_self beq_self_eq_true beq_true' beq_false' callK_eq callP_eq bodyQ'_normal bodyQ'_ret bodyQ'_panic resK resV resL res1 List.nil_append List.cons_append List.append_nil loopK_eq snap1 snapL Gp.snap snapT snapR PV.cells PV.one pS pI pB pU8 vS vI vB vU8 notImp notImp2 Int.toNat_natCast V.p.injEq PV.v.injEq Value.bool.injEq TI.zeroP Option.toArray_none Option.toArray_some Option.map_some Option.map_none cutK_eq cut1_eq cutR_eq loopKR_eq nilF isNilV TD.isIface TD.isPtr lookupF insertF makeMapF kkOf keyK mpVal frzS frzE frzT frzB frzL frz1 List.take_length and_self Nat.add_sub_cancel setE putP roundQ_normal roundQ_ret roundQ_exit roundQ_goto loopQ_eq copyF fitKs fitK sameK extV Nat.zero_mul Nat.one_mul finD_memF freshG freshV isPz allPz isFresh List.append_eq
attribute [push_cast] ti1  ti2  ti3  ti4  ti5  ti6  ti7  ti8  ti9  ti10  ti11  ti12  ti13  ti16  ti17  ti18  ti20  ti21  ti22  ti23  ti24  ti26  ti27  ti28  ti29  ti30  ti31  ti32  ti33  ti35  ti37  ti38  ti40  ti41  ti55  ti56  ti64  ti65  ti69  ti70  ti72  ti75  ti77  ti88  ti90  ti92  ti93  ti97  ti99  ti100  ti101  ti108  ti110  ti116  ti126  ti129  ti134  ti135  ti141  ti142  ti143  ti155  ti157  ti159  ti160  ti162  ti163  ti165  ti166  ti173  ti177  ti180  ti181  ti184  ti191  ti208  ti212  ti214  ti216  ti221  ti232  ti243  ti246  ti251  ti254  ti256  ti265  ti269  ti273  ti275  ti277  ti287  ti288  ti290  ti291  ti292  ti293  ti296  ti298  ti299  ti300  ti301  ti302  ti303  ti305  eq24  eq26  eq28  eq108  eq110    cb5  cb6  cb7  cb8   cb10     cb14   cb16  cb17   cb19   cb21   cb23   cb25   cb27   cb29  cb30  cb31    cb34  cb35  cb36  cb37  cb38  cb39  cb40      cb45  cb46  cb47  cb48  cb49  cb50  cb51    cb54  cb55  cb56  cb57  cb58     cb62  cb63  cb64  cb65  cb66  cb67  cb68     cb72  cb73  cb74  cb75  cb76  cb77  cb78  cb79  cb80  cb81  cb82  cb83  cb84  cb85  cb86  cb87  cb88  cb89  cb90  cb91  cb92                cb107  cb108  cb109  cb110  cb111        cb118  cb119   cb121  cb122  cb123  cb124  cb125  cb126  cb127  cb128  cb129  cb130  cb131  cb132           cb142  cb143  cb144       cb150  cb151  cb152  cb153  cb154  cb155  cb156  cb157  cb158  cb159  cb160  cb161          cb170  cb171  cb172  cb173  cb174  cb175  cb176  cb177  cb178  cb179  cb180  cb181  cb182  cb183  cb184        cb191  cb192  cb193  cb194  cb195  cb196  cb197  cb198  cb199  cb200  cb201  cb202  cb203  cb204  cb205  cb206  cb207  cb208  cb209   cb211  cb212  cb213  cb214  cb215  cb216  cb217  cb218  cb219  cb220  cb221  cb222  cb223  cb224  cb225  cb226  cb227  cb228  cb229  cb230  cb231  cb232  cb233  cb234  cb235  cb236  cb237  cb238  cb239  cb240  cb241  cb242  cb243  cb244  cb245  cb246  cb247                                 xt193  xt225
theorem mixed : Tryz.prog.follows .mixedOrders = true := by kernel_rfl
end Go.Proofs.YtgekglfmianoeaaGreatDoor
