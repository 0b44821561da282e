/-
  Local memory: blocks by number, how they stand to a world, and what a step of each kind does to that.
-/
import Derived.Test.YtpcancnnbjadeaaDoorGpA
set_option linter.unusedSimpArgs false
set_option linter.unusedVariables false
namespace Go.Gp
open Go.RowKit

section assoc
variable {α : Type}
def aget : List (Nat × α) → Nat → Option α
  | [], _ => none
  | (k, x) :: r, b => if k = b then some x else aget r b
def aset : List (Nat × α) → Nat → α → List (Nat × α)
  | [], b, x => [(b, x)]
  | (k, y) :: r, b, x => if k = b then (k, x) :: r else (k, y) :: aset r b x
def adel : List (Nat × α) → Nat → List (Nat × α)
  | [], _ => []
  | (k, y) :: r, b => if k = b then adel r b else (k, y) :: adel r b
theorem aget_aset (t : List (Nat × α)) (b c : Nat) (x : α) : aget (aset t b x) c = if c = b then some x else aget t c := by
  induction t with
  | nil => simp only [aset, aget]; by_cases h : c = b <;> simp [h]; intro e; exact absurd e.symm h
  | cons p r ih =>
    obtain ⟨k, y⟩ := p
    simp only [aset]
    split
    · rename_i h; subst h; simp only [aget]; by_cases h : c = k
      · subst h; simp
      · have h' : ¬ k = c := fun e => h e.symm
        simp [h, h']
    · rename_i h; simp only [aget, ih]
      by_cases h2 : k = c
      · subst h2; simp [h]
      · simp [h2]
theorem aget_adel (t : List (Nat × α)) (b c : Nat) : aget (adel t b) c = if c = b then none else aget t c := by
  induction t with
  | nil => simp [adel, aget]
  | cons p r ih =>
    obtain ⟨k, y⟩ := p
    simp only [adel]
    split
    · rename_i h; subst h; simp only [aget, ih]; by_cases h : c = k
      · subst h; simp
      · have h' : ¬ k = c := fun e => h e.symm
        simp [h, h']
    · rename_i h; simp only [aget, ih]
      by_cases h2 : k = c
      · subst h2; simp [h]
      · simp [h2]
end assoc

inductive Blk where
  | box (cs : List V)
  | arr (s : Nat) (xs : List PV) (gr : Bool)
  deriving Inhabited
abbrev Tab := List (Nat × Blk)

/-- No cell of a row of 'n' may not be written. -/
def Opn (fr : Nat × Nat) (n : Nat) : Prop := ∀ i, i < n → ¬ (fr.1 ≤ i ∧ i < fr.2)
theorem Opn.zero (n : Nat) : Opn (0, 0) n := fun i _ h => by simp at h

def BlkR (w : World) (ok : Nat → Prop) (j : Nat → Option Loc) (nx b : Nat) : Blk → Prop
  | .box cs => ∃ l ms e fr, j b = some l ∧ w.heap[l.blk]? = some (.cells ms e fr) ∧ Opn fr ms.size ∧ l.off + cs.length ≤ ms.size ∧
      (∀ (i : Nat) c, cs[i]? = some c → c.one = true) ∧ ∀ (i : Nat) c, cs[i]? = some c → VR w ok j nx c (ms.getD (l.off + i) undef)
  | .arr s xs gr => (j b = none ∧ xs = [] ∧ gr = true) ∨ ∃ l ms e fr, j b = some l ∧ w.heap[l.blk]? = some (.cells ms e fr) ∧ Opn fr ms.size ∧ l.off + l.cap * s ≤ ms.size ∧ xs.length ≤ l.cap ∧
      (gr = false → xs.length = l.cap) ∧ (∀ (i : Nat) x, xs[i]? = some x → x.cells.length = s) ∧
      (∀ (i k : Nat) x y, xs[i]? = some x → x.cells[k]? = some y → y.one = true) ∧
      ∀ (i k : Nat) x y, xs[i]? = some x → x.cells[k]? = some y → PR w ok y (ms.getD (l.off + (i * s + k)) undef)

def Own (j : Nat → Option Loc) (tab : Tab) (k : Nat) : Prop := ∃ b x l, aget tab b = some x ∧ j b = some l ∧ l.blk = k

/-- What was there when a call began: block numbers below 'nb' are the caller's, 'own0' the machine's blocks that it may turn, 'rd0' those that are looked into. -/
structure Ctx where
  nb : Nat
  j0 : Nat → Option Loc
  own0 : Nat → Prop
  rd0 : Nat → Prop
  w0 : World

def okc (C : Ctx) (own : Nat → Prop) (w : World) (k : Nat) : Prop := k < w.heap.size ∧ ¬ own k ∧ (C.rd0 k ∨ C.w0.heap.size ≤ k)

structure MemR (WG : World) (C : Ctx) (j : Nat → Option Loc) (tab : Tab) (nx : Nat) (w : World) : Prop where
  nb : C.nb ≤ nx
  low : ∀ b x, aget tab b = some x → b < nx
  blk : ∀ b x, aget tab b = some x → BlkR w (okc C (Own j tab) w) j nx b x
  apart : ∀ b b' x x' l l', aget tab b = some x → aget tab b' = some x' → b ≠ b' → j b = some l → j b' = some l' → l.blk ≠ l'.blk
  agree : ∀ b, b < C.nb → j b = C.j0 b
  own : ∀ k, Own j tab k → C.own0 k ∨ C.w0.heap.size ≤ k
  ownG : ∀ k, Own j tab k → WG.heap.size ≤ k
  size : C.w0.heap.size ≤ w.heap.size
  keep : ∀ k, k < C.w0.heap.size → ¬ C.own0 k → w.heap[k]? = C.w0.heap[k]?
  os : w.os = C.w0.os
  tape : w.tape = C.w0.tape
  output : w.output = C.w0.output
  glob : Below WG.heap.size WG w
  rd : ∀ k, C.rd0 k → k < C.w0.heap.size ∧ ¬ C.own0 k

theorem BlkR.mono {w w' : World} {ok ok' : Nat → Prop} {j j' : Nat → Option Loc} {nx nx' b : Nat} (h : ∀ k, ok k → ok' k ∧ w'.heap[k]? = w.heap[k]?)
    (hj : ∀ b, b < nx → j' b = j b ∧ b < nx') (hb : b < nx) (hw : ∀ l, j b = some l → w'.heap[l.blk]? = w.heap[l.blk]?) {x : Blk} (r : BlkR w ok j nx b x) : BlkR w' ok' j' nx' b x := by
  cases x with
  | box cs =>
    obtain ⟨l, ms, e, fr, hl, hh, hfr, hs, h1, hr⟩ := r
    exact ⟨l, ms, e, fr, (hj b hb).1.trans hl, (hw l hl).trans hh, hfr, hs, h1, fun i c hi => (hr i c hi).mono h hj⟩
  | arr s xs gr =>
    rcases r with ⟨hl, hx⟩ | ⟨l, ms, e, fr, hl, hh, hfr, hs, hx, hg, h0, h1, hr⟩
    · exact .inl ⟨(hj b hb).1.trans hl, hx⟩
    · exact .inr ⟨l, ms, e, fr, (hj b hb).1.trans hl, (hw l hl).trans hh, hfr, hs, hx, hg, h0, h1, fun i k x y h1 h2 => (hr i k x y h1 h2).mono h⟩

theorem BlkR.lt {w : World} {ok : Nat → Prop} {j : Nat → Option Loc} {nx b : Nat} {x : Blk} (r : BlkR w ok j nx b x) {l : Loc} (hl : j b = some l) : l.blk < w.heap.size := by
  cases x with
  | box cs => obtain ⟨l', ms, e, fr, hl', hh, _⟩ := r; rw [hl] at hl'; cases hl'; exact (Array.getElem?_eq_some_iff.1 hh).1
  | arr s xs gr =>
    rcases r with ⟨hl', _⟩ | ⟨l', ms, e, fr, hl', hh, _⟩
    · rw [hl] at hl'; cases hl'
    · rw [hl] at hl'; cases hl'; exact (Array.getElem?_eq_some_iff.1 hh).1

section
variable {WG : World} {C : Ctx} {j : Nat → Option Loc} {tab : Tab} {nx : Nat} {w : World}

theorem MemR.own_lt (h : MemR WG C j tab nx w) {k : Nat} (hk : Own j tab k) : k < w.heap.size := by
  obtain ⟨b, x, l, hb, hl, rfl⟩ := hk
  exact (h.blk b x hb).lt hl

/-- The world moves on, the heap stays (a draw). -/
theorem MemR.heap_eq {w' : World} (h : MemR WG C j tab nx w) (he : w'.heap = w.heap) (ho : w'.os = w.os) (ht : w'.tape = w.tape) (hu : w'.output = w.output) : MemR WG C j tab nx w' where
  nb := h.nb
  low := h.low
  blk := fun b x hb => (h.blk b x hb).mono (fun k hk => ⟨⟨by rw [he]; exact hk.1, hk.2⟩, by rw [he]⟩) (fun b hb => ⟨rfl, hb⟩) (h.low b x hb) (fun l _ => by rw [he])
  apart := h.apart
  agree := h.agree
  own := h.own
  ownG := h.ownG
  size := by rw [he]; exact h.size
  keep := by rw [he]; exact h.keep
  os := ho.trans h.os
  tape := ht.trans h.tape
  output := hu.trans h.output
  glob := h.glob.trans ⟨ho, ht, hu, by rw [he]; exact Nat.le_refl _, fun k _ => by rw [he]⟩
  rd := h.rd

def jset (j : Nat → Option Loc) (b : Nat) (l : Option Loc) : Nat → Option Loc := fun k => if k = b then l else j k
theorem jset_same (b : Nat) (l : Option Loc) : jset j b l b = l := by simp [jset]
theorem jset_lt {b c : Nat} (l : Option Loc) (h : c < b) : jset j b l c = j c := by simp [jset]; omega

/-- A new block 'o', under the number 'nx'. -/
theorem MemR.alloc (h : MemR WG C j tab nx w) (o : Obj) (x : Blk) (l : Loc) (hl : l.blk = w.heap.size)
    (hx : BlkR (w.alloc o) (okc C (Own j tab) w) (jset j nx (some l)) (nx + 1) nx x) :
    MemR WG C (jset j nx (some l)) (aset tab nx x) (nx + 1) (w.alloc o) ∧ (∀ k, okc C (Own j tab) w k → okc C (Own (jset j nx (some l)) (aset tab nx x)) (w.alloc o) k ∧ (w.alloc o).heap[k]? = w.heap[k]?) := by
  have hown : ∀ k, Own (jset j nx (some l)) (aset tab nx x) k → Own j tab k ∨ k = w.heap.size := by
    rintro k ⟨b, y, l', hb, hl', rfl⟩
    rw [aget_aset] at hb
    by_cases e : b = nx
    · subst e; rw [jset_same] at hl'; cases hl'; exact .inr hl
    · rw [if_neg e] at hb; exact .inl ⟨b, y, l', hb, by rwa [jset_lt _ (h.low b y hb)] at hl', rfl⟩
  have hk : ∀ k, okc C (Own j tab) w k → okc C (Own (jset j nx (some l)) (aset tab nx x)) (w.alloc o) k ∧ (w.alloc o).heap[k]? = w.heap[k]? := by
    rintro k ⟨h1, h2, h3⟩
    refine ⟨⟨by rw [World.size_alloc]; omega, fun hn => ?_, h3⟩, Below.heap_alloc w o k h1⟩
    rcases hown k hn with h | h
    · exact h2 h
    · omega
  refine ⟨?_, hk⟩
  exact {
    nb := Nat.le_succ_of_le h.nb
    low := fun b y hb => by
      rw [aget_aset] at hb
      by_cases e : b = nx
      · omega
      · rw [if_neg e] at hb; have := h.low b y hb; omega
    blk := fun b y hb => by
      rw [aget_aset] at hb
      by_cases e : b = nx
      · subst e; rw [if_pos rfl] at hb; cases hb
        have lt : ∀ l', jset j b (some l) b = some l' → (w.alloc o).heap[l'.blk]? = (w.alloc o).heap[l'.blk]? := fun _ _ => rfl
        exact hx.mono (fun k hk' => ⟨(hk k hk').1, rfl⟩) (fun b hb => ⟨rfl, hb⟩) (Nat.lt_succ_self _) lt
      · rw [if_neg e] at hb
        have hlt := h.low b y hb
        exact (h.blk b y hb).mono hk (fun c hc => ⟨jset_lt _ hc, by omega⟩) hlt (fun l' hl' => Below.heap_alloc w o _ ((h.blk b y hb).lt hl'))
    apart := fun b b' y y' l1 l2 hb hb' hne h1 h2 => by
      rw [aget_aset] at hb hb'
      by_cases e : b = nx
      · subst e
        rw [jset_same] at h1; cases h1
        rw [if_neg (Ne.symm hne)] at hb'
        have hlt := h.low b' y' hb'
        rw [jset_lt _ hlt] at h2
        have := (h.blk b' y' hb').lt h2
        omega
      · rw [if_neg e] at hb
        have hlt := h.low b y hb
        rw [jset_lt _ hlt] at h1
        have hl1 := (h.blk b y hb).lt h1
        by_cases e' : b' = nx
        · subst e'; rw [jset_same] at h2; cases h2; omega
        · rw [if_neg e'] at hb'
          have hlt' := h.low b' y' hb'
          rw [jset_lt _ hlt'] at h2
          exact h.apart b b' y y' l1 l2 hb hb' hne h1 h2
    agree := fun b hb => by rw [jset_lt _ (Nat.lt_of_lt_of_le hb h.nb)]; exact h.agree b hb
    own := fun k hn => by
      rcases hown k hn with h' | h'
      · exact h.own k h'
      · right; have := h.size; omega
    ownG := fun k hn => by
      rcases hown k hn with h' | h'
      · exact h.ownG k h'
      · have := h.glob.size; omega
    size := by rw [World.size_alloc]; have := h.size; omega
    keep := fun k hk h0 => (Below.heap_alloc w o k (Nat.lt_of_lt_of_le hk h.size)).trans (h.keep k hk h0)
    os := h.os
    tape := h.tape
    output := h.output
    glob := h.glob.alloc h.glob.size o
    rd := h.rd }

/-- Block 'b' is turned in place. -/
theorem MemR.turn {w' : World} (h : MemR WG C j tab nx w) {b : Nat} {x0 : Blk} {l : Loc} (hb : aget tab b = some x0) (hl : j b = some l) (x : Blk)
    (hs : w'.heap.size = w.heap.size) (hh : ∀ k, k ≠ l.blk → w'.heap[k]? = w.heap[k]?) (ho : w'.os = w.os) (ht : w'.tape = w.tape) (hu : w'.output = w.output)
    (hx : (∀ k, okc C (Own j tab) w k → w'.heap[k]? = w.heap[k]?) → BlkR w' (okc C (Own j tab) w) j nx b x) :
    MemR WG C j (aset tab b x) nx w' ∧ (∀ k, okc C (Own j tab) w k → okc C (Own j (aset tab b x)) w' k ∧ w'.heap[k]? = w.heap[k]?) := by
  have hown : ∀ k, Own j (aset tab b x) k ↔ Own j tab k := by
    intro k
    constructor
    · rintro ⟨c, y, l', hc, hl', rfl⟩
      rw [aget_aset] at hc
      by_cases e : c = b
      · subst e; exact ⟨c, x0, l', hb, hl', rfl⟩
      · rw [if_neg e] at hc; exact ⟨c, y, l', hc, hl', rfl⟩
    · rintro ⟨c, y, l', hc, hl', rfl⟩
      by_cases e : c = b
      · exact ⟨c, x, l', by rw [aget_aset, if_pos e], hl', rfl⟩
      · exact ⟨c, y, l', by rw [aget_aset, if_neg e]; exact hc, hl', rfl⟩
  have hO : Own j tab l.blk := ⟨b, x0, l, hb, hl, rfl⟩
  have hk0 : ∀ k, okc C (Own j tab) w k → w'.heap[k]? = w.heap[k]? := fun k hk => hh k (fun e => hk.2.1 (e ▸ hO))
  have hk : ∀ k, okc C (Own j tab) w k → okc C (Own j (aset tab b x)) w' k ∧ w'.heap[k]? = w.heap[k]? := fun k hk =>
    ⟨⟨by rw [hs]; exact hk.1, fun hn => hk.2.1 ((hown k).1 hn), hk.2.2⟩, hk0 k hk⟩
  have hlG := h.ownG l.blk hO
  refine ⟨?_, hk⟩
  exact {
    nb := h.nb
    low := fun c y hc => by
      rw [aget_aset] at hc
      by_cases e : c = b
      · subst e; exact h.low c x0 hb
      · rw [if_neg e] at hc; exact h.low c y hc
    blk := fun c y hc => by
      rw [aget_aset] at hc
      by_cases e : c = b
      · subst e; rw [if_pos rfl] at hc; cases hc
        exact (hx hk0).mono (fun k hk' => ⟨(hk k hk').1, rfl⟩) (fun b hb => ⟨rfl, hb⟩) (h.low c x0 hb) (fun _ _ => rfl)
      · rw [if_neg e] at hc
        refine (h.blk c y hc).mono hk (fun b hb => ⟨rfl, hb⟩) (h.low c y hc) (fun l' hl' => hh _ ?_)
        exact h.apart c b y x0 l' l hc hb e hl' hl
    apart := fun c c' y y' l1 l2 hc hc' hne h1 h2 => by
      have g : ∀ c y, aget (aset tab b x) c = some y → ∃ y, aget tab c = some y := fun c y hc => by
        rw [aget_aset] at hc
        by_cases e : c = b
        · subst e; exact ⟨_, hb⟩
        · rw [if_neg e] at hc; exact ⟨_, hc⟩
      obtain ⟨z, hz⟩ := g c y hc
      obtain ⟨z', hz'⟩ := g c' y' hc'
      exact h.apart c c' z z' l1 l2 hz hz' hne h1 h2
    agree := h.agree
    own := fun k hn => h.own k ((hown k).1 hn)
    ownG := fun k hn => h.ownG k ((hown k).1 hn)
    size := by rw [hs]; exact h.size
    keep := fun k hk h0 => by
      refine (hh k (fun e => ?_)).trans (h.keep k hk h0)
      subst e
      rcases h.own _ hO with h' | h'
      · exact h0 h'
      · omega
    os := ho.trans h.os
    tape := ht.trans h.tape
    output := hu.trans h.output
    glob := h.glob.trans ⟨ho, ht, hu, by rw [hs]; exact Nat.le_refl _, fun k hk => hh k (by omega)⟩
    rd := h.rd }

/-- Block 'b' is let go. What was a part of it is data from now on for whoever holds it so. -/
theorem MemR.del (h : MemR WG C j tab nx w) (b : Nat) :
    MemR WG C j (adel tab b) nx w ∧ (∀ k, okc C (Own j tab) w k → okc C (Own j (adel tab b)) w k ∧ w.heap[k]? = w.heap[k]?) := by
  have hg : ∀ c y, aget (adel tab b) c = some y → aget tab c = some y := fun c y hc => by
    rw [aget_adel] at hc
    by_cases e : c = b
    · simp [e] at hc
    · rwa [if_neg e] at hc
  have hown : ∀ k, Own j (adel tab b) k → Own j tab k := fun k ⟨c, y, l, hc, hl, e⟩ => ⟨c, y, l, hg c y hc, hl, e⟩
  have hk : ∀ k, okc C (Own j tab) w k → okc C (Own j (adel tab b)) w k ∧ w.heap[k]? = w.heap[k]? := fun k hk => ⟨⟨hk.1, fun hn => hk.2.1 (hown k hn), hk.2.2⟩, rfl⟩
  refine ⟨?_, hk⟩
  exact {
    nb := h.nb
    low := fun c y hc => h.low c y (hg c y hc)
    blk := fun c y hc => (h.blk c y (hg c y hc)).mono hk (fun b hb => ⟨rfl, hb⟩) (h.low c y (hg c y hc)) (fun _ _ => rfl)
    apart := fun c c' y y' l1 l2 hc hc' => h.apart c c' y y' l1 l2 (hg _ _ hc) (hg _ _ hc')
    agree := h.agree
    own := fun k hn => h.own k (hown k hn)
    ownG := fun k hn => h.ownG k (hown k hn)
    size := h.size
    keep := h.keep
    os := h.os
    tape := h.tape
    output := h.output
    glob := h.glob
    rd := h.rd }

/-- Block 'b' is turned in place and goes on under the number 'nx'. -/
theorem MemR.move {w' : World} (h : MemR WG C j tab nx w) {b : Nat} {x0 : Blk} {l l' : Loc} (hb : aget tab b = some x0) (hl : j b = some l) (hll : l'.blk = l.blk) (x : Blk)
    (hs : w'.heap.size = w.heap.size) (hh : ∀ k, k ≠ l.blk → w'.heap[k]? = w.heap[k]?) (ho : w'.os = w.os) (ht : w'.tape = w.tape) (hu : w'.output = w.output)
    (hx : (∀ k, okc C (Own j tab) w k → w'.heap[k]? = w.heap[k]?) → BlkR w' (okc C (Own j tab) w) (jset j nx (some l')) (nx + 1) nx x) :
    MemR WG C (jset j nx (some l')) (aset (adel tab b) nx x) (nx + 1) w' ∧ (∀ k, okc C (Own j tab) w k → okc C (Own (jset j nx (some l')) (aset (adel tab b) nx x)) w' k ∧ w'.heap[k]? = w.heap[k]?) := by
  have hget : ∀ c y, aget (aset (adel tab b) nx x) c = some y → (c = nx ∧ y = x) ∨ (c ≠ nx ∧ c ≠ b ∧ aget tab c = some y) := fun c y hc => by
    rw [aget_aset] at hc
    by_cases e : c = nx
    · rw [if_pos e] at hc; cases hc; exact .inl ⟨e, rfl⟩
    · rw [if_neg e, aget_adel] at hc
      by_cases e2 : c = b
      · rw [if_pos e2] at hc; cases hc
      · rw [if_neg e2] at hc; exact .inr ⟨e, e2, hc⟩
  have hO : Own j tab l.blk := ⟨b, x0, l, hb, hl, rfl⟩
  have hown : ∀ k, Own (jset j nx (some l')) (aset (adel tab b) nx x) k → Own j tab k := by
    rintro k ⟨c, y, l1, hc, hl1, rfl⟩
    rcases hget c y hc with ⟨rfl, rfl⟩ | ⟨h1, h2, h3⟩
    · rw [jset_same] at hl1; cases hl1; rw [hll]; exact hO
    · rw [jset_lt _ (h.low c y h3)] at hl1; exact ⟨c, y, l1, h3, hl1, rfl⟩
  have hk0 : ∀ k, okc C (Own j tab) w k → w'.heap[k]? = w.heap[k]? := fun k hk => hh k (fun e => hk.2.1 (e ▸ hO))
  have hk : ∀ k, okc C (Own j tab) w k → okc C (Own (jset j nx (some l')) (aset (adel tab b) nx x)) w' k ∧ w'.heap[k]? = w.heap[k]? := fun k hk =>
    ⟨⟨by rw [hs]; exact hk.1, fun hn => hk.2.1 (hown k hn), hk.2.2⟩, hk0 k hk⟩
  have hlG := h.ownG l.blk hO
  refine ⟨?_, hk⟩
  exact {
    nb := Nat.le_succ_of_le h.nb
    low := fun c y hc => by
      rcases hget c y hc with ⟨rfl, _⟩ | ⟨_, _, h3⟩
      · omega
      · have := h.low c y h3; omega
    blk := fun c y hc => by
      rcases hget c y hc with ⟨rfl, rfl⟩ | ⟨h1, h2, h3⟩
      · exact (hx hk0).mono (fun k hk' => ⟨(hk k hk').1, rfl⟩) (fun b hb => ⟨rfl, hb⟩) (Nat.lt_succ_self _) (fun _ _ => rfl)
      · refine (h.blk c y h3).mono hk (fun q hq => ⟨jset_lt _ hq, by omega⟩) (h.low c y h3) (fun l1 hl1 => hh _ ?_)
        exact h.apart c b y x0 l1 l h3 hb h2 hl1 hl
    apart := fun c c' y y' l1 l2 hc hc' hne h1 h2 => by
      rcases hget c y hc with ⟨rfl, rfl⟩ | ⟨a1, a2, a3⟩ <;> rcases hget c' y' hc' with ⟨rfl, rfl⟩ | ⟨b1, b2, b3⟩
      · exact absurd rfl hne
      · rw [jset_same] at h1; cases h1
        rw [jset_lt _ (h.low c' y' b3)] at h2
        rw [hll]; exact h.apart b c' x0 y' l l2 hb b3 (Ne.symm b2) hl h2
      · rw [jset_same] at h2; cases h2
        rw [jset_lt _ (h.low c y a3)] at h1
        rw [hll]; exact h.apart c b y x0 l1 l a3 hb a2 h1 hl
      · rw [jset_lt _ (h.low c y a3)] at h1
        rw [jset_lt _ (h.low c' y' b3)] at h2
        exact h.apart c c' y y' l1 l2 a3 b3 hne h1 h2
    agree := fun c hc => by rw [jset_lt _ (Nat.lt_of_lt_of_le hc h.nb)]; exact h.agree c hc
    own := fun k hn => h.own k (hown k hn)
    ownG := fun k hn => h.ownG k (hown k hn)
    size := by rw [hs]; exact h.size
    keep := fun k hk h0 => by
      refine (hh k (fun e => ?_)).trans (h.keep k hk h0)
      subst e
      rcases h.own _ hO with h' | h'
      · exact h0 h'
      · omega
    os := ho.trans h.os
    tape := ht.trans h.tape
    output := hu.trans h.output
    glob := h.glob.trans ⟨ho, ht, hu, by rw [hs]; exact Nat.le_refl _, fun k hk => hh k (by omega)⟩
    rd := h.rd }

/-- A number for a slice that has no memory. -/
theorem MemR.noMem (h : MemR WG C j tab nx w) (s : Nat) :
    MemR WG C (jset j nx none) (aset tab nx (.arr s [] true)) (nx + 1) w ∧ (∀ k, okc C (Own j tab) w k → okc C (Own (jset j nx none) (aset tab nx (.arr s [] true))) w k ∧ w.heap[k]? = w.heap[k]?) := by
  have hget : ∀ c y, aget (aset tab nx (.arr s [] true)) c = some y → (c = nx ∧ y = .arr s [] true) ∨ (c ≠ nx ∧ aget tab c = some y) := fun c y hc => by
    rw [aget_aset] at hc
    by_cases e : c = nx
    · rw [if_pos e] at hc; cases hc; exact .inl ⟨e, rfl⟩
    · rw [if_neg e] at hc; exact .inr ⟨e, hc⟩
  have hown : ∀ k, Own (jset j nx none) (aset tab nx (.arr s [] true)) k → Own j tab k := by
    rintro k ⟨c, y, l1, hc, hl1, rfl⟩
    rcases hget c y hc with ⟨rfl, rfl⟩ | ⟨h1, h3⟩
    · rw [jset_same] at hl1; cases hl1
    · rw [jset_lt _ (h.low c y h3)] at hl1; exact ⟨c, y, l1, h3, hl1, rfl⟩
  have hk : ∀ k, okc C (Own j tab) w k → okc C (Own (jset j nx none) (aset tab nx (.arr s [] true))) w k ∧ w.heap[k]? = w.heap[k]? := fun k hk => ⟨⟨hk.1, fun hn => hk.2.1 (hown k hn), hk.2.2⟩, rfl⟩
  refine ⟨?_, hk⟩
  exact {
    nb := Nat.le_succ_of_le h.nb
    low := fun c y hc => by
      rcases hget c y hc with ⟨rfl, _⟩ | ⟨_, h3⟩
      · omega
      · have := h.low c y h3; omega
    blk := fun c y hc => by
      rcases hget c y hc with ⟨rfl, rfl⟩ | ⟨h1, h3⟩
      · exact .inl ⟨jset_same _ _, rfl, rfl⟩
      · exact (h.blk c y h3).mono hk (fun q hq => ⟨jset_lt _ hq, by omega⟩) (h.low c y h3) (fun l1 hl1 => rfl)
    apart := fun c c' y y' l1 l2 hc hc' hne h1 h2 => by
      rcases hget c y hc with ⟨rfl, rfl⟩ | ⟨a1, a3⟩
      · rw [jset_same] at h1; cases h1
      · rcases hget c' y' hc' with ⟨rfl, rfl⟩ | ⟨b1, b3⟩
        · rw [jset_same] at h2; cases h2
        · rw [jset_lt _ (h.low c y a3)] at h1
          rw [jset_lt _ (h.low c' y' b3)] at h2
          exact h.apart c c' y y' l1 l2 a3 b3 hne h1 h2
    agree := fun c hc => by rw [jset_lt _ (Nat.lt_of_lt_of_le hc h.nb)]; exact h.agree c hc
    own := fun k hn => h.own k (hown k hn)
    ownG := fun k hn => h.ownG k (hown k hn)
    size := h.size
    keep := h.keep
    os := h.os
    tape := h.tape
    output := h.output
    glob := h.glob
    rd := h.rd }

end
end Go.Gp
