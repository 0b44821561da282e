/-
  What the machine's reads and writes of cells come to where local memory is related to the world.
-/
import Derived.Test.YtpcancnnbjadeaaDoorGpC
set_option linter.unusedSimpArgs false
set_option linter.unusedVariables false
namespace Go.Gp
open Go.RowKit

def updCells : Array Value → Nat → List Value → Array Value
  | ms, _, [] => ms
  | ms, o, v :: r => updCells (ms.setIfInBounds o v) (o + 1) r
theorem updCells_size (vs : List Value) : ∀ (ms : Array Value) (o : Nat), (updCells ms o vs).size = ms.size := by
  induction vs with
  | nil => intro ms o; rfl
  | cons v r ih => intro ms o; simp [updCells, ih]
theorem getD_set (ms : Array Value) (o k : Nat) (v : Value) (h : o < ms.size) : (ms.setIfInBounds o v).getD k undef = if k = o then v else ms.getD k undef := by
  by_cases e : k = o
  · subst e; simp [Array.getD, h]
  · rw [if_neg e]
    simp only [Array.getD_eq_getD_getElem?, Array.getElem?_setIfInBounds]
    rw [if_neg (fun h => e h.symm)]
theorem updCells_getD (vs : List Value) : ∀ (ms : Array Value) (o k : Nat), o + vs.length ≤ ms.size →
    (updCells ms o vs).getD k undef = if o ≤ k ∧ k < o + vs.length then vs.getD (k - o) undef else ms.getD k undef := by
  induction vs with
  | nil => intro ms o k h; rw [if_neg (by simp <;> omega)]; rfl
  | cons v r ih =>
    intro ms o k h
    simp only [List.length_cons] at h
    rw [updCells, ih _ _ _ (by simp; omega), getD_set _ _ _ _ (by omega)]
    by_cases h1 : o + 1 ≤ k ∧ k < o + 1 + r.length
    · rw [if_pos h1, if_pos (by simp; omega)]
      obtain ⟨q, hq⟩ : ∃ q, k - o = q + 1 := ⟨k - o - 1, by omega⟩
      rw [hq, List.getD_cons_succ]
      congr 1
      omega
    · rw [if_neg h1]
      by_cases h2 : k = o
      · subst h2; rw [if_pos rfl, if_pos (by simp)]; simp
      · rw [if_neg h2, if_neg (by simp; omega)]

theorem addr_add (B o n : Nat) : (⟨B, o, none⟩ : Addr).add n = ⟨B, o + n, none⟩ := by unfold Addr.add; split <;> simp_all

section
variable {P : Program}

/-- Only block 'B' has turned. -/
structure Turned (w w' : World) (B : Nat) : Prop where
  size : w'.heap.size = w.heap.size
  other : ∀ k, k ≠ B → w'.heap[k]? = w.heap[k]?
  os : w'.os = w.os
  tape : w'.tape = w.tape
  output : w'.output = w.output
theorem Turned.refl (w : World) (B : Nat) : Turned w w B := ⟨rfl, fun _ _ => rfl, rfl, rfl, rfl⟩
theorem Turned.trans {a b c : World} {B : Nat} (h : Turned a b B) (k : Turned b c B) : Turned a c B :=
  ⟨k.size.trans h.size, fun i hi => (k.other i hi).trans (h.other i hi), k.os.trans h.os, k.tape.trans h.tape, k.output.trans h.output⟩

theorem cell_row {w : World} {B o : Nat} {ms : Array Value} {e : TypeId} {fr : Nat × Nat} (h : w.heap[B]? = some (.cells ms e fr)) : w.cell? ⟨B, o, none⟩ = ms[o]? := by
  simp [World.cell?, h]
theorem frozen_row {w : World} {B o : Nat} {ms : Array Value} {e : TypeId} {fr : Nat × Nat} (h : w.heap[B]? = some (.cells ms e fr)) (hf : Opn fr ms.size) (ho : o < ms.size) : w.frozen? ⟨B, o, none⟩ = false := by
  have := hf o ho
  obtain ⟨lo, hi⟩ := fr
  simp only at this
  simp only [World.frozen?, h]
  by_cases h1 : lo ≤ o <;> by_cases h2 : o < hi <;> simp_all

theorem run_store_row (w : World) (B o : Nat) (v : Value) (ms : Array Value) (e : TypeId) (fr : Nat × Nat) (h : w.heap[B]? = some (.cells ms e fr)) (hf : Opn fr ms.size) (ho : o < ms.size) (h1 : v.oneCell' = true) :
    ∃ w', (store ⟨B, o, none⟩ v).run P w = .ok () w' ∧ Turned w w' B ∧ w'.heap[B]? = some (.cells (ms.setIfInBounds o v) e fr) := by
  refine ⟨w.setCell ⟨B, o, none⟩ v, ?_, ⟨by simp, fun k hk => Below.heap_setCell w _ _ k hk, rfl, rfl, rfl⟩, ?_⟩
  · rw [run_store P w _ v _ h1, cell_row h, Array.getElem?_eq_getElem ho, frozen_row h hf ho]; rfl
  · obtain ⟨hlt, he⟩ := Array.getElem?_eq_some_iff.1 h
    simp only [World.setCell, Array.getElem?_modify, if_true, h, Option.map_some]
    rfl

theorem run_storeCells_row (B o : Nat) (e : TypeId) (fr : Nat × Nat) : ∀ (vs : List Value) (i : Nat) (ms : Array Value) (w : World), w.heap[B]? = some (.cells ms e fr) → Opn fr ms.size →
    o + i + vs.length ≤ ms.size → (∀ v ∈ vs, v.oneCell' = true) →
    ∃ w', (storeCells ⟨B, o, none⟩ vs i).run P w = .ok () w' ∧ Turned w w' B ∧ w'.heap[B]? = some (.cells (updCells ms (o + i) vs) e fr)
  | [], i, ms, w, h, _, _, _ => ⟨w, rfl, Turned.refl w B, h⟩
  | v :: r, i, ms, w, h, hf, hs, h1 => by
    simp only [List.length_cons] at hs
    obtain ⟨w1, hr1, ht1, hh1⟩ := run_store_row (P := P) w B (o + i) v ms e fr h hf (by omega) (h1 v (by simp))
    obtain ⟨w2, hr2, ht2, hh2⟩ := run_storeCells_row B o e fr r (i + 1) (ms.setIfInBounds (o + i) v) w1 hh1 (by simpa using hf) (by simp; omega) (fun x hx => h1 x (by simp [hx]))
    refine ⟨w2, ?_, ht1.trans ht2, ?_⟩
    · simp only [storeCells, Sem.run_bind, addr_add, hr1, Result.andThen_ok, hr2]
    · simpa [updCells, Nat.add_assoc] using hh2

theorem run_loadCells_row (w : World) (B o n : Nat) (f : Nat → Value) (h : ∀ k, k < n → w.cell? ⟨B, o + k, none⟩ = some (f k)) :
    (loadCells ⟨B, o, none⟩ n).run P w = .ok ((List.range n).map f).toArray w :=
  run_loadCells (P := P) w ⟨B, o, none⟩ n f (fun k hk => by rw [addr_add]; exact h k hk)

theorem getD_range (n : Nat) (f : Nat → Value) (k : Nat) (hk : k < n) : ((List.range n).map f).toArray.getD k undef = f k := by
  simp [Array.getD, hk]
theorem size_range (n : Nat) (f : Nat → Value) : ((List.range n).map f).toArray.size = n := by simp

/-- Types, as far as they are needed. -/
inductive TD where
  | int (k : IntKind) | bool | str | slice (e : TypeId) | array (n : Nat) (e : TypeId) | struct (fs : List (Nat × TypeId × Nat)) | ptr (e : TypeId) | iface | map (k v : TypeId) | func | other
  deriving DecidableEq, Repr

def tdOf (P : Program) : TypeDesc → TD
  | .int k => .int k
  | .bool => .bool
  | .string => .str
  | .slice e => .slice e
  | .array n e => .array n e
  | .struct fs => .struct (fs.toList.map fun f => (f.offset, f.type, P.cellsOf f.type))
  | .pointer e => .ptr e
  | .interface _ => .iface
  | .map k v => .map k v
  | .func .. => .func
  | _ => .other

structure TI where
  size : Nat
  bytes : Nat
  d : TD
  zero : List Value

def TD.agg : TD → Bool
  | .struct _ | .array _ _ => true
  | _ => false
def TI.agg (i : TI) : Bool := i.d.agg

/-- The zero value's cells are flat, and it is a row just where the type is one. -/
def zeroOk (d : TD) (z : Value) : Bool :=
  match z with
  | .agg cs => d.agg && cs.all flatV
  | z => !d.agg && flatV z

/-- A struct's fields' types are known. -/
def fieldsOk (P : Program) : TypeDesc → Bool
  | .struct fs => fs.all fun f => (P.info? f.type).isSome
  | _ => true
def tiOf (P : Program) (t : TypeId) : Option TI :=
  match P.info? t, P.underlying t with
  | some i, some d =>
    match i.zero with
    | some z => if zeroOk (tdOf P d) z && z.cells.size == i.size && fieldsOk P d then some ⟨i.size, i.bytes, tdOf P d, z.cells.toList⟩ else none
    | none => none
  | _, _ => none

def TI.zeroP (i : TI) : PV := if i.agg then .agg (i.zero.map .v) else .v (i.zero.getD 0 undef)

structure TIR (P : Program) (t : TypeId) (i : TI) (info : TypeInfo) (d : TypeDesc) (z : Value) : Prop where
  inf : P.info? t = some info
  und : P.underlying t = some d
  size : info.size = i.size
  bytes : info.bytes = i.bytes
  td : tdOf P d = i.d
  hz : info.zero = some z
  zr : ∀ w ok, PR w ok i.zeroP z
  zc : z.cells = i.zero.toArray
  zs : i.zero.length = i.size
  zf : ∀ x ∈ i.zero, flatV x = true
  fo : fieldsOk P d = true

theorem tiOf_some {t : TypeId} {i : TI} (h : tiOf P t = some i) : ∃ info d z, TIR P t i info d z := by
  unfold tiOf at h
  split at h
  · rename_i info d hi hd
    split at h
    · rename_i z hz
      split at h
      · rename_i hc
        cases h
        simp only [Bool.and_eq_true, beq_iff_eq] at hc
        obtain ⟨⟨hz1, hz2⟩, hz3⟩ := hc
        have hfl : ∀ x ∈ z.cells.toList, flatV x = true := by
          unfold zeroOk at hz1
          split at hz1
          · simp only [Bool.and_eq_true] at hz1
            intro x hx
            exact (Array.all_eq_true_iff_forall_mem.1 hz1.2) x (by simpa [Value.cells] using hx)
          · simp only [Bool.and_eq_true] at hz1
            rename_i hna
            intro x hx
            have : z.cells = #[z] := by cases z <;> first | rfl | (exact absurd rfl (hna _))
            rw [this] at hx; simp at hx; subst hx; exact hz1.2
        refine ⟨info, d, z, ⟨hi, hd, rfl, rfl, rfl, hz, ?_, by simp, by simpa using hz2, hfl, hz3⟩⟩
        intro w ok
        unfold zeroOk at hz1
        split at hz1
        · simp only [Bool.and_eq_true] at hz1
          simp only [TI.zeroP, TI.agg, hz1.1, if_true]
          exact PR.constAgg hz1.2
        · simp only [Bool.and_eq_true, Bool.not_eq_true'] at hz1
          rename_i hna
          have : z.cells = #[z] := by cases z <;> first | rfl | (exact absurd rfl (hna _))
          simp only [TI.zeroP, TI.agg, hz1.1, this]
          exact .v hz1.2
      · cases h
    · cases h
  · cases h

theorem TIR.run_und {t : TypeId} {i : TI} {info : TypeInfo} {d : TypeDesc} {z : Value} (h : TIR P t i info d z) (w : World) : (underlying t).run P w = .ok d w := by
  simp [underlying, h.und]
theorem TIR.run_size {t : TypeId} {i : TI} {info : TypeInfo} {d : TypeDesc} {z : Value} (h : TIR P t i info d z) (w : World) : (sizeOf t).run P w = .ok i.size w := by
  simp [sizeOf, typeInfo, h.inf, h.size]
theorem TIR.run_zero {t : TypeId} {i : TI} {info : TypeInfo} {d : TypeDesc} {z : Value} (h : TIR P t i info d z) (w : World) : (zeroValue t).run P w = .ok z w := by
  simp [zeroValue, typeInfo, h.inf, h.hz]
theorem TIR.run_info {t : TypeId} {i : TI} {info : TypeInfo} {d : TypeDesc} {z : Value} (h : TIR P t i info d z) (w : World) : (typeInfo t).run P w = .ok info w := by
  simp [typeInfo, h.inf]
theorem TIR.run_isAgg {t : TypeId} {i : TI} {info : TypeInfo} {d : TypeDesc} {z : Value} (h : TIR P t i info d z) (w : World) : (isAgg t).run P w = .ok i.agg w := by
  have hd := h.td
  simp only [isAgg, Sem.run_bind, h.run_und, Result.andThen_ok, TI.agg, ← hd]
  cases d <;> rfl

/-- A variable of type 't' is read. -/
theorem run_loadVar_ti {t : TypeId} {i : TI} {info : TypeInfo} {d : TypeDesc} {z : Value} (h : TIR P t i info d z) (w : World) (B o : Nat) (f : Nat → Value)
    (hc : ∀ k, k < i.size → w.cell? ⟨B, o + k, none⟩ = some (f k)) (h1 : i.agg = false → i.size = 1) :
    (loadVar t ⟨B, o, none⟩).run P w = .ok (if i.agg then .agg ((List.range i.size).map f).toArray else f 0) w := by
  simp only [loadVar, Sem.run_bind, h.run_isAgg, Result.andThen_ok]
  by_cases hA : i.agg = true
  · simp only [hA, if_true, Sem.run_bind, h.run_size, Result.andThen_ok, run_loadCells_row w B o i.size f hc, Sem.run_pure]
  · simp only [hA]
    have := hc 0 (by rw [h1 (by simpa using hA)]; exact Nat.one_pos)
    simp only [Nat.add_zero] at this
    simp [this]

end
end Go.Gp
