/-
  Pure data, the values of a frame, and how they stand to machine values and to a world. No program in sight.
  Local memory: blocks by number, how they stand to a world, and what a step of each kind does to that.
  States of a frame, triples for code and for calls, the rules of control.
  What the machine's reads and writes of cells come to where local memory is related to the world.
  The operations: what each comes to from a state. First part: values, memory of local boxes and arrays.
  The operations, second part: addresses, parts, rows, numbers, strings.
  The operations, third part: what makes values: rows, slices, closures, interface values; lengths; slicing.
  The operations, fourth part: numbers, strings, truth values; lengths; making and cutting slices.
  The operations, fifth part: cutting slices and strings; making slices; strings and bytes.
-/
import Derived.Calls
import Derived.CallsIn
import Derived.RangeFuncRecord
import Derived.RangeFuncNested
import Derived.OrdersIn
import Derived.Below
import Derived.WalkKit
import Derived.Laws.CopyRow
import Derived.Laws.Cells
import Derived.Laws.Tables
import Derived.Great.BuildSlice
import Derived.Laws.MakeOwn
set_option linter.unusedSimpArgs false
set_option linter.unusedVariables false
set_option maxRecDepth 20000
namespace Go.Gp
open Go.RowKit
inductive PV where
  | v (x : Value)
  | sl (s : Nat) (xs : List PV)
  | agg (cs : List PV)
  | ptr (x : PV) (o : Nat)
  | clo (fn : Fn) (fs cs : List PV)
  | ifc (t : TypeId) (x : PV)
  deriving Inhabited

def PV.cells : PV → List PV
  | .agg cs => cs
  | x => [x]
def PV.one : PV → Bool
  | .agg _ => false
  | _ => true

def flatV : Value → Bool
  | .bool _ | .int _ _ | .string _ | .nilFunc | .nilIface | .pointer none | .map none | .slice none 0 0 => true
  | _ => false

def IsCells (w : World) (B : Nat) : Prop := ∃ ms e fr, w.heap[B]? = some (.cells ms e fr)
theorem IsCells.mono {w w' : World} {B : Nat} (h : IsCells w B) (e : w'.heap[B]? = w.heap[B]?) : IsCells w' B := let ⟨ms, t, fr, hh⟩ := h; ⟨ms, t, fr, e.trans hh⟩

inductive PR (w : World) (ok : Nat → Prop) : PV → Value → Prop
  | v {x} (h : flatV x = true) : PR w ok (.v x) x
  | nil {s a c} : PR w ok (.sl s []) (.slice a 0 c)
  | sl {s xs B o c n} (f : Nat → Value) (hn : n = xs.length) (hok : ok B ∧ IsCells w B) (hc : n ≤ c)
      (hcell : ∀ k, k < n * s → w.cell? ⟨B, o + k, none⟩ = some (f k))
      (hlen : ∀ (i : Nat) x, xs[i]? = some x → x.cells.length = s)
      (hone : ∀ (i k : Nat) x y, xs[i]? = some x → x.cells[k]? = some y → y.one = true)
      (hrel : ∀ (i k : Nat) x y, xs[i]? = some x → x.cells[k]? = some y → PR w ok y (f (i * s + k))) :
      PR w ok (.sl s xs) (.slice (some ⟨B, o, none⟩) n c)
  | agg {cs ms} (hlen : ms.size = cs.length) (hone : ∀ (i : Nat) c, cs[i]? = some c → c.one = true)
      (hrel : ∀ (i : Nat) c, cs[i]? = some c → PR w ok c (ms.getD i undef)) : PR w ok (.agg cs) (.agg ms)
  | ptr {x B a o q} (f : Nat → Value) (hok : ok B ∧ IsCells w B) (hq : q = a + o)
      (hcell : ∀ k, k < x.cells.length → w.cell? ⟨B, a + k, none⟩ = some (f k))
      (hone : ∀ (i : Nat) c, x.cells[i]? = some c → c.one = true)
      (hrel : ∀ (i : Nat) c, x.cells[i]? = some c → PR w ok c (f i)) : PR w ok (.ptr x o) (.pointer (some ⟨B, q, none⟩))
  | clo {fn fs cs ms ns} (h1 : ms.size = fs.length) (h2 : ns.size = cs.length) (hf : ∀ (i : Nat) c, fs[i]? = some c → PR w ok c (ms.getD i undef))
      (hc : ∀ (i : Nat) c, cs[i]? = some c → PR w ok c (ns.getD i undef)) : PR w ok (.clo fn fs cs) (.func fn ms ns)
  | ifc {t x m} (h : PR w ok x m) : PR w ok (.ifc t x) (.iface t m)

theorem PR.monoC {w w' : World} {ok ok' : Nat → Prop} (h : ∀ k, ok k → IsCells w k → ok' k ∧ w'.heap[k]? = w.heap[k]?) {x : PV} {m : Value} (r : PR w ok x m) : PR w' ok' x m := by
  have hc : ∀ (B o : Nat), ok B ∧ IsCells w B → w'.cell? ⟨B, o, none⟩ = w.cell? ⟨B, o, none⟩ := fun B o hb => World.cell?_of_block (h B hb.1 hb.2).2
  have ho : ∀ B, ok B ∧ IsCells w B → ok' B ∧ IsCells w' B := fun B hb => ⟨(h B hb.1 hb.2).1, hb.2.mono (h B hb.1 hb.2).2⟩
  induction r with
  | v hf => exact .v hf
  | nil => exact .nil
  | sl f hn hok hcap hcell hlen hone _ ih => exact .sl f hn (ho _ hok) hcap (fun k hk => (hc _ _ hok).trans (hcell k hk)) hlen hone ih
  | agg hlen hone _ ih => exact .agg hlen hone ih
  | ptr f hok hq hcell hone _ ih => exact .ptr f (ho _ hok) hq (fun k hk => (hc _ _ hok).trans (hcell k hk)) hone ih
  | clo h1 h2 _ _ ih1 ih2 => exact .clo h1 h2 ih1 ih2
  | ifc _ ih => exact .ifc ih
theorem PR.mono {w w' : World} {ok ok' : Nat → Prop} (h : ∀ k, ok k → ok' k ∧ w'.heap[k]? = w.heap[k]?) {x : PV} {m : Value} (r : PR w ok x m) : PR w' ok' x m := r.monoC fun k hk _ => h k hk

theorem flatV_one {x : Value} (h : flatV x = true) : x.oneCell' = true := by cases x <;> simp_all [flatV, Value.oneCell']
theorem PR.one {w : World} {ok : Nat → Prop} {x : PV} {m : Value} (r : PR w ok x m) (h : x.one = true) : m.oneCell' = true := by
  cases r with
  | v hf => exact flatV_one hf
  | agg => simp [PV.one] at h
  | _ => rfl
theorem PR.cells {w : World} {ok : Nat → Prop} {x : PV} {m : Value} (r : PR w ok x m) :
    m.cells.size = x.cells.length ∧ (∀ (i : Nat) c, x.cells[i]? = some c → c.one = true ∧ PR w ok c (m.cells.getD i undef)) := by
  cases r with
  | agg hlen hone hrel => exact ⟨hlen, fun i c hi => ⟨hone i c hi, hrel i c hi⟩⟩
  | v hf =>
    have e : m.cells = #[m] := by cases m <;> simp_all [flatV, Value.cells]
    refine ⟨by simp [e, PV.cells], fun i c hi => ?_⟩
    have : i = 0 ∧ c = .v m := by
      rcases i with _ | i <;> simp_all [PV.cells]
    obtain ⟨rfl, rfl⟩ := this
    exact ⟨rfl, by simpa [e] using PR.v hf⟩
  | nil =>
    refine ⟨rfl, fun i c hi => ?_⟩
    rcases i with _ | i
    · simp [PV.cells] at hi; subst hi; exact ⟨rfl, .nil⟩
    · simp [PV.cells] at hi
  | sl f hn hok hcap hcell hlen hone hrel =>
    refine ⟨rfl, fun i c hi => ?_⟩
    rcases i with _ | i
    · simp [PV.cells] at hi; subst hi; exact ⟨rfl, .sl f hn hok hcap hcell hlen hone hrel⟩
    · simp [PV.cells] at hi
  | ptr f hok hq hcell hone hrel =>
    refine ⟨rfl, fun i c hi => ?_⟩
    rcases i with _ | i
    · simp [PV.cells] at hi; subst hi; exact ⟨rfl, .ptr f hok hq hcell hone hrel⟩
    · simp [PV.cells] at hi
  | clo h1 h2 h3 h4 =>
    refine ⟨rfl, fun i c hi => ?_⟩
    rcases i with _ | i
    · simp [PV.cells] at hi; subst hi; exact ⟨rfl, .clo h1 h2 h3 h4⟩
    · simp [PV.cells] at hi
  | ifc h =>
    refine ⟨rfl, fun i c hi => ?_⟩
    rcases i with _ | i
    · simp [PV.cells] at hi; subst hi; exact ⟨rfl, .ifc h⟩
    · simp [PV.cells] at hi

inductive V where
  | p (x : PV)
  | ref (b o : Nat)
  | eref (b s i c : Nat)
  | osl (b s lo len : Nat) (cap : Option Nat)
  | bsl (b o s len cap : Nat)
  | agg (cs : List V)
  | tup (vs : List V)
  | clo (fn : Fn) (fs cs : List V)
  | ifc (t : TypeId) (x : V)
  | mp (b : Nat)
  | zc
  | cnd (b : Bool) (x : V)
  | yld (b : Nat)
  deriving Inhabited

def V.one : V → Bool
  | .agg _ | .tup _ | .cnd _ _ => false
  | .p x => x.one
  | _ => true
def V.cells : V → List V
  | .agg cs => cs
  | .p (.agg cs) => cs.map .p
  | x => [x]

structure Loc where
  blk : Nat
  off : Nat
  cap : Nat

inductive VR (w : World) (ok : Nat → Prop) (j : Nat → Option Loc) (nx : Nat) : V → Value → Prop
  | p {x m} (h : PR w ok x m) : VR w ok j nx (.p x) m
  | ref {b o l q} (hb : b < nx) (hl : j b = some l) (hq : q = l.off + o) : VR w ok j nx (.ref b o) (.pointer (some ⟨l.blk, q, none⟩))
  | eref {b s i c l q} (hb : b < nx) (hl : j b = some l) (hq : q = l.off + (i * s + c)) : VR w ok j nx (.eref b s i c) (.pointer (some ⟨l.blk, q, none⟩))
  | oslNil {b s a} (hb : b < nx) (hl : j b = none) : VR w ok j nx (.osl b s 0 0 none) (.slice a 0 0)
  | oslEnd {b s lo cap l a} (hb : b < nx) (hl : j b = some l) (hlo : cap = none → lo = l.cap) (hcap : ∀ k, cap = some k → k = 0) : VR w ok j nx (.osl b s lo 0 cap) (.slice a 0 0)
  | osl {b s lo len cap l c q} (hb : b < nx) (hl : j b = some l) (hq : q = l.off + lo * s) (hlen : len ≤ c) (hc : lo + c ≤ l.cap) (hsome : ∀ k, cap = some k → c = k)
      (hnone : cap = none → lo + c = l.cap) : VR w ok j nx (.osl b s lo len cap) (.slice (some ⟨l.blk, q, none⟩) len c)
  | bsl {b o s len cap l q} (hb : b < nx) (hl : j b = some l) (hq : q = l.off + o) (hlen : len ≤ cap) : VR w ok j nx (.bsl b o s len cap) (.slice (some ⟨l.blk, q, none⟩) len cap)
  | bslEnd {b o s a} : VR w ok j nx (.bsl b o s 0 0) (.slice a 0 0)
  | agg {cs ms} (hlen : ms.size = cs.length) (hone : ∀ (i : Nat) c, cs[i]? = some c → c.one = true)
      (hrel : ∀ (i : Nat) c, cs[i]? = some c → VR w ok j nx c (ms.getD i undef)) : VR w ok j nx (.agg cs) (.agg ms)
  | tup {vs ms} (hlen : ms.size = vs.length) (hrel : ∀ (i : Nat) c, vs[i]? = some c → VR w ok j nx c (ms.getD i undef)) : VR w ok j nx (.tup vs) (.tuple ms)
  | clo {fn fs cs ms ns} (h1 : ms.size = fs.length) (h2 : ns.size = cs.length) (hf : ∀ (i : Nat) c, fs[i]? = some c → VR w ok j nx c (ms.getD i undef))
      (hc : ∀ (i : Nat) c, cs[i]? = some c → VR w ok j nx c (ns.getD i undef)) : VR w ok j nx (.clo fn fs cs) (.func fn ms ns)
  | ifc {t x m} (h : VR w ok j nx x m) : VR w ok j nx (.ifc t x) (.iface t m)
  | mp {b l} (hb : b < nx) (hl : j b = some l) : VR w ok j nx (.mp b) (.map (some l.blk))
  | zc {a} : VR w ok j nx .zc (.slice a 0 0)
  | cnd {b x m} (h : b = true → VR w ok j nx x m) (h0 : b = false → m = undef) : VR w ok j nx (.cnd b x) m
  | yld {b l} (hb : b < nx) (hl : j b = some l) : VR w ok j nx (.yld b) (.func (.yield l.blk) #[] #[])

theorem VR.monoC {w w' : World} {ok ok' : Nat → Prop} {j j' : Nat → Option Loc} {nx nx' : Nat} (h : ∀ k, ok k → IsCells w k → ok' k ∧ w'.heap[k]? = w.heap[k]?)
    (hj : ∀ b, b < nx → j' b = j b ∧ b < nx') {x : V} {m : Value} (r : VR w ok j nx x m) : VR w' ok' j' nx' x m := by
  induction r with
  | p hp => exact .p (hp.monoC h)
  | ref hb hl hq => exact .ref (hj _ hb).2 ((hj _ hb).1.trans hl) hq
  | eref hb hl hq => exact .eref (hj _ hb).2 ((hj _ hb).1.trans hl) hq
  | oslNil hb hl => exact .oslNil (hj _ hb).2 ((hj _ hb).1.trans hl)
  | oslEnd hb hl hlo hcap => exact .oslEnd (hj _ hb).2 ((hj _ hb).1.trans hl) hlo hcap
  | osl hb hl hq hlen hc hs hn => exact .osl (hj _ hb).2 ((hj _ hb).1.trans hl) hq hlen hc hs hn
  | bsl hb hl hq hlen => exact .bsl (hj _ hb).2 ((hj _ hb).1.trans hl) hq hlen
  | bslEnd => exact .bslEnd
  | agg hlen hone _ ih => exact .agg hlen hone ih
  | tup hlen _ ih => exact .tup hlen ih
  | clo h1 h2 _ _ ih1 ih2 => exact .clo h1 h2 ih1 ih2
  | ifc _ ih => exact .ifc ih
  | mp hb hl => exact .mp (hj _ hb).2 ((hj _ hb).1.trans hl)
  | zc => exact .zc
  | cnd _ h0 ih => exact .cnd ih h0
  | yld hb hl => exact .yld (hj _ hb).2 ((hj _ hb).1.trans hl)

theorem VR.mono {w w' : World} {ok ok' : Nat → Prop} {j j' : Nat → Option Loc} {nx nx' : Nat} (h : ∀ k, ok k → ok' k ∧ w'.heap[k]? = w.heap[k]?)
    (hj : ∀ b, b < nx → j' b = j b ∧ b < nx') {x : V} {m : Value} (r : VR w ok j nx x m) : VR w' ok' j' nx' x m := r.monoC (fun k hk _ => h k hk) hj

theorem VR.one {w : World} {ok : Nat → Prop} {j : Nat → Option Loc} {nx : Nat} {x : V} {m : Value} (r : VR w ok j nx x m) (h : x.one = true) : m.oneCell' = true := by
  cases r with
  | p hp => exact hp.one h
  | agg => simp [V.one] at h
  | tup => simp [V.one] at h
  | cnd => simp [V.one] at h
  | _ => rfl

theorem VR.cells {w : World} {ok : Nat → Prop} {j : Nat → Option Loc} {nx : Nat} {x : V} {m : Value} (r : VR w ok j nx x m) (ht : ∀ vs, x ≠ .tup vs) (hcd : ∀ b y, x ≠ .cnd b y) :
    m.cells.size = x.cells.length ∧ (∀ (i : Nat) c, x.cells[i]? = some c → c.one = true ∧ VR w ok j nx c (m.cells.getD i undef)) := by
  have one : ∀ (x : V) (m : Value), x.cells = [x] → m.cells = #[m] → x.one = true → VR w ok j nx x m →
      m.cells.size = x.cells.length ∧ (∀ (i : Nat) c, x.cells[i]? = some c → c.one = true ∧ VR w ok j nx c (m.cells.getD i undef)) := by
    intro x m e1 e2 h1 hr
    refine ⟨by simp [e1, e2], fun i c hi => ?_⟩
    rw [e1] at hi
    rcases i with _ | i
    · simp at hi; subst hi; exact ⟨h1, by simpa [e2] using hr⟩
    · simp at hi
  cases r with
  | @p x m hp =>
    have hc := hp.cells
    cases x with
    | agg cs =>
      refine ⟨by simpa [V.cells, PV.cells] using hc.1, fun i c hi => ?_⟩
      simp only [V.cells, List.getElem?_map] at hi
      cases hcs : cs[i]? with
      | none => simp [hcs] at hi
      | some y =>
        simp [hcs] at hi; subst hi
        obtain ⟨h1, h2⟩ := hc.2 i y hcs
        exact ⟨h1, .p h2⟩
    | _ => exact one _ _ rfl (by cases hp <;> first | rfl | (rename_i hf; cases m <;> simp_all [flatV, Value.cells])) rfl (.p hp)
  | agg hlen hone hrel => exact ⟨hlen, fun i c hi => ⟨hone i c hi, hrel i c hi⟩⟩
  | tup => exact absurd rfl (ht _)
  | cnd => exact absurd rfl (hcd _ _)
  | ref hb hl hq => exact one _ _ rfl rfl rfl (.ref hb hl hq)
  | eref hb hl hq => exact one _ _ rfl rfl rfl (.eref hb hl hq)
  | oslNil hb hl => exact one _ _ rfl rfl rfl (.oslNil hb hl)
  | oslEnd hb hl hlo hcap => exact one _ _ rfl rfl rfl (.oslEnd hb hl hlo hcap)
  | osl hb hl hq hlen hc hs hn => exact one _ _ rfl rfl rfl (.osl hb hl hq hlen hc hs hn)
  | bsl hb hl hq hlen => exact one _ _ rfl rfl rfl (.bsl hb hl hq hlen)
  | bslEnd => exact one _ _ rfl rfl rfl .bslEnd
  | clo h1 h2 h3 h4 => exact one _ _ rfl rfl rfl (.clo h1 h2 h3 h4)
  | ifc h => exact one _ _ rfl rfl rfl (.ifc h)
  | mp hb hl => exact one _ _ rfl rfl rfl (.mp hb hl)
  | zc => exact one _ _ rfl rfl rfl .zc
  | yld hb hl => exact one _ _ rfl rfl rfl (.yld hb hl)

end Go.Gp

namespace Go.Gp
open Go.RowKit
section assoc
variable {α : Type}
def aget : List (Nat × α) → Nat → Option α
  | [], _ => none
  | (k, x) :: r, b => if k = b then some x else aget r b
def aset : List (Nat × α) → Nat → α → List (Nat × α)
  | [], b, x => [(b, x)]
  | (k, y) :: r, b, x => if k = b then (k, x) :: r else (k, y) :: aset r b x
def adel : List (Nat × α) → Nat → List (Nat × α)
  | [], _ => []
  | (k, y) :: r, b => if k = b then adel r b else (k, y) :: adel r b
theorem aget_aset (t : List (Nat × α)) (b c : Nat) (x : α) : aget (aset t b x) c = if c = b then some x else aget t c := by
  induction t with
  | nil => simp only [aset, aget]; by_cases h : c = b <;> simp [h]; intro e; exact absurd e.symm h
  | cons p r ih =>
    obtain ⟨k, y⟩ := p
    simp only [aset]
    split
    · rename_i h; subst h; simp only [aget]; by_cases h : c = k
      · subst h; simp
      · have h' : ¬ k = c := fun e => h e.symm
        simp [h, h']
    · rename_i h; simp only [aget, ih]
      by_cases h2 : k = c
      · subst h2; simp [h]
      · simp [h2]
theorem aget_adel (t : List (Nat × α)) (b c : Nat) : aget (adel t b) c = if c = b then none else aget t c := by
  induction t with
  | nil => simp [adel, aget]
  | cons p r ih =>
    obtain ⟨k, y⟩ := p
    simp only [adel]
    split
    · rename_i h; subst h; simp only [aget, ih]; by_cases h : c = k
      · subst h; simp
      · have h' : ¬ k = c := fun e => h e.symm
        simp [h, h']
    · rename_i h; simp only [aget, ih]
      by_cases h2 : k = c
      · subst h2; simp [h]
      · simp [h2]
end assoc
inductive LSt where
  | ready | busy | done (c : Code) | over
  deriving Inhabited
def LSt.is (s : LSt) (r : Loop) : Prop :=
  match s with
  | .ready => r.state = .ready ∧ r.pending = none
  | .busy => r.state = .busy
  | .done c => r.state = .done ∧ r.pending = some c
  | .over => True
structure LpC where
  ps : Array Nat
  asg : Code
  bd : Code
  n : Nat
  deriving Inhabited
inductive Blk where
  | box (cs : List V)
  | arr (s : Nat) (xs : List PV) (gr : Bool)
  | mp (kk : Option IntKind) (es : List (Value × PV))
  | lp (s : LSt) (c : LpC) (env : List (Nat × V))
  deriving Inhabited
abbrev Tab := List (Nat × Blk)
def keyK : Option IntKind → Value → Bool
  | none, .string _ => true
  | some k, .int k' _ => decide (k' = k)
  | _, _ => false

def Opn (fr : Nat × Nat) (n : Nat) : Prop := ∀ i, i < n → ¬ (fr.1 ≤ i ∧ i < fr.2)
theorem Opn.zero (n : Nat) : Opn (0, 0) n := fun i _ h => by simp at h

def BlkR (w : World) (ok : Nat → Prop) (j : Nat → Option Loc) (nx b : Nat) : Blk → Prop
  | .box cs => ∃ l ms e fr, j b = some l ∧ w.heap[l.blk]? = some (.cells ms e fr) ∧ Opn fr ms.size ∧ l.off + cs.length ≤ ms.size ∧
      (∀ (i : Nat) c, cs[i]? = some c → c.one = true) ∧ ∀ (i : Nat) c, cs[i]? = some c → VR w ok j nx c (ms.getD (l.off + i) undef)
  | .arr s xs gr => (j b = none ∧ xs = [] ∧ gr = true) ∨ ∃ l ms e fr, j b = some l ∧ w.heap[l.blk]? = some (.cells ms e fr) ∧ Opn fr ms.size ∧ l.off + l.cap * s ≤ ms.size ∧ xs.length ≤ l.cap ∧
      (gr = false → xs.length = l.cap) ∧ (∀ (i : Nat) x, xs[i]? = some x → x.cells.length = s) ∧
      (∀ (i k : Nat) x y, xs[i]? = some x → x.cells[k]? = some y → y.one = true) ∧
      ∀ (i k : Nat) x y, xs[i]? = some x → x.cells[k]? = some y → PR w ok y (ms.getD (l.off + (i * s + k)) undef)
  | .mp kk es => ∃ l ms ck, j b = some l ∧ w.heap[l.blk]? = some (.map ms ck) ∧ ms.size = es.length ∧ ∀ (i : Nat) k v, es[i]? = some (k, v) → ∃ e, ms[i]? = some e ∧ e.key = k ∧ keyK kk k = true ∧ PR w ok v e.val
  | .lp s c env => ∃ l r, j b = some l ∧ w.heap[l.blk]? = some (.loop r) ∧ s.is r ∧ r.params = c.ps ∧ r.assign = c.asg ∧ r.body = c.bd ∧ r.tmps.size = c.n ∧
      ∀ t v, aget env t = some v → ∃ m, r.tmps[t]? = some m ∧ VR w ok j nx v m

def Own (j : Nat → Option Loc) (tab : Tab) (k : Nat) : Prop := ∃ b x l, aget tab b = some x ∧ j b = some l ∧ l.blk = k

structure Ctx where
  nb : Nat
  j0 : Nat → Option Loc
  own0 : Nat → Prop
  rd0 : Nat → Prop
  w0 : World
  rnd : Option Nat
  base : List Deferred

def okc (C : Ctx) (own : Nat → Prop) (w : World) (k : Nat) : Prop := k < w.heap.size ∧ ¬ own k ∧ (C.rd0 k ∨ C.own0 k ∨ C.w0.heap.size ≤ k)

structure MemR (WG : World) (C : Ctx) (j : Nat → Option Loc) (tab : Tab) (nx : Nat) (w : World) : Prop where
  nb : C.nb ≤ nx
  low : ∀ b x, aget tab b = some x → b < nx
  blk : ∀ b x, aget tab b = some x → BlkR w (okc C (Own j tab) w) j nx b x
  apart : ∀ b b' x x' l l', aget tab b = some x → aget tab b' = some x' → b ≠ b' → j b = some l → j b' = some l' → l.blk ≠ l'.blk
  agree : ∀ b, b < C.nb → j b = C.j0 b
  own : ∀ k, Own j tab k → C.own0 k ∨ C.w0.heap.size ≤ k
  ownG : ∀ k, Own j tab k → WG.heap.size ≤ k
  size : C.w0.heap.size ≤ w.heap.size
  keep : ∀ k, k < C.w0.heap.size → ¬ C.own0 k → w.heap[k]? = C.w0.heap[k]?
  os : w.os = C.w0.os
  tape : w.tape = C.w0.tape
  output : w.output = C.w0.output
  glob : Below WG.heap.size WG w
  rd : ∀ k, C.rd0 k → k < C.w0.heap.size ∧ ¬ C.own0 k

theorem BlkR.monoC {w w' : World} {ok ok' : Nat → Prop} {j j' : Nat → Option Loc} {nx nx' b : Nat} (h : ∀ k, ok k → IsCells w k → ok' k ∧ w'.heap[k]? = w.heap[k]?)
    (hj : ∀ b, b < nx → j' b = j b ∧ b < nx') (hb : b < nx) (hw : ∀ l, j b = some l → w'.heap[l.blk]? = w.heap[l.blk]?) {x : Blk} (r : BlkR w ok j nx b x) : BlkR w' ok' j' nx' b x := by
  cases x with
  | box cs =>
    obtain ⟨l, ms, e, fr, hl, hh, hfr, hs, h1, hr⟩ := r
    exact ⟨l, ms, e, fr, (hj b hb).1.trans hl, (hw l hl).trans hh, hfr, hs, h1, fun i c hi => (hr i c hi).monoC h hj⟩
  | arr s xs gr =>
    rcases r with ⟨hl, hx⟩ | ⟨l, ms, e, fr, hl, hh, hfr, hs, hx, hg, h0, h1, hr⟩
    · exact .inl ⟨(hj b hb).1.trans hl, hx⟩
    · exact .inr ⟨l, ms, e, fr, (hj b hb).1.trans hl, (hw l hl).trans hh, hfr, hs, hx, hg, h0, h1, fun i k x y h1 h2 => (hr i k x y h1 h2).monoC h⟩
  | mp kk es =>
    obtain ⟨l, ms, ck, hl, hh, hs, hr⟩ := r
    refine ⟨l, ms, ck, (hj b hb).1.trans hl, (hw l hl).trans hh, hs, fun i k v hi => ?_⟩
    obtain ⟨e, h1, h2, h3, h4⟩ := hr i k v hi
    exact ⟨e, h1, h2, h3, h4.monoC h⟩
  | lp s c env =>
    obtain ⟨l, q, hl, hh, h1, h2, h3, h4, h5, hr⟩ := r
    exact ⟨l, q, (hj b hb).1.trans hl, (hw l hl).trans hh, h1, h2, h3, h4, h5, fun t v ht => let ⟨m, a, c⟩ := hr t v ht; ⟨m, a, c.monoC h hj⟩⟩

theorem BlkR.mono {w w' : World} {ok ok' : Nat → Prop} {j j' : Nat → Option Loc} {nx nx' b : Nat} (h : ∀ k, ok k → ok' k ∧ w'.heap[k]? = w.heap[k]?)
    (hj : ∀ b, b < nx → j' b = j b ∧ b < nx') (hb : b < nx) (hw : ∀ l, j b = some l → w'.heap[l.blk]? = w.heap[l.blk]?) {x : Blk} (r : BlkR w ok j nx b x) : BlkR w' ok' j' nx' b x := r.monoC (fun k hk _ => h k hk) hj hb hw

theorem BlkR.lt {w : World} {ok : Nat → Prop} {j : Nat → Option Loc} {nx b : Nat} {x : Blk} (r : BlkR w ok j nx b x) {l : Loc} (hl : j b = some l) : l.blk < w.heap.size := by
  cases x with
  | box cs => obtain ⟨l', ms, e, fr, hl', hh, _⟩ := r; rw [hl] at hl'; cases hl'; exact (Array.getElem?_eq_some_iff.1 hh).1
  | arr s xs gr =>
    rcases r with ⟨hl', _⟩ | ⟨l', ms, e, fr, hl', hh, _⟩
    · rw [hl] at hl'; cases hl'
    · rw [hl] at hl'; cases hl'; exact (Array.getElem?_eq_some_iff.1 hh).1
  | mp kk es => obtain ⟨l', ms, ck, hl', hh, _⟩ := r; rw [hl] at hl'; cases hl'; exact (Array.getElem?_eq_some_iff.1 hh).1
  | lp s c env => obtain ⟨l', q, hl', hh, _⟩ := r; rw [hl] at hl'; cases hl'; exact (Array.getElem?_eq_some_iff.1 hh).1

section
variable {WG : World} {C : Ctx} {j : Nat → Option Loc} {tab : Tab} {nx : Nat} {w : World}
theorem MemR.own_lt (h : MemR WG C j tab nx w) {k : Nat} (hk : Own j tab k) : k < w.heap.size := by
  obtain ⟨b, x, l, hb, hl, rfl⟩ := hk
  exact (h.blk b x hb).lt hl

theorem MemR.heap_eq {w' : World} (h : MemR WG C j tab nx w) (he : w'.heap = w.heap) (ho : w'.os = w.os) (ht : w'.tape = w.tape) (hu : w'.output = w.output) : MemR WG C j tab nx w' where
  nb := h.nb
  low := h.low
  blk := fun b x hb => (h.blk b x hb).mono (fun k hk => ⟨⟨by rw [he]; exact hk.1, hk.2⟩, by rw [he]⟩) (fun b hb => ⟨rfl, hb⟩) (h.low b x hb) (fun l _ => by rw [he])
  apart := h.apart
  agree := h.agree
  own := h.own
  ownG := h.ownG
  size := by rw [he]; exact h.size
  keep := by rw [he]; exact h.keep
  os := ho.trans h.os
  tape := ht.trans h.tape
  output := hu.trans h.output
  glob := h.glob.trans ⟨ho, ht, hu, by rw [he]; exact Nat.le_refl _, fun k _ => by rw [he]⟩
  rd := h.rd

theorem MemR.put (h : MemR WG C j tab nx w) {D : Nat} (o : Obj) (hs : D < w.heap.size) (hD : ¬ Own j tab D) (h0 : C.w0.heap.size ≤ D) (hG : WG.heap.size ≤ D) (hc : ¬ IsCells w D) :
    MemR WG C j tab nx (w.putObj D o) ∧ (∀ k, okc C (Own j tab) w k → okc C (Own j tab) (w.putObj D o) k) ∧ ∀ k, k ≠ D → (w.putObj D o).heap[k]? = w.heap[k]? := by
  have hh : ∀ k, k ≠ D → (w.putObj D o).heap[k]? = w.heap[k]? := fun k hk => World.putObj_heap_other hk
  have hok : ∀ k, okc C (Own j tab) w k → okc C (Own j tab) (w.putObj D o) k := fun k hk => ⟨by rw [World.putObj_size]; exact hk.1, hk.2⟩
  refine ⟨?_, hok, hh⟩
  exact {
    nb := h.nb
    low := h.low
    blk := fun b x hb => (h.blk b x hb).monoC (fun k hk hcl => ⟨hok k hk, hh k (fun e => hc (e ▸ hcl))⟩) (fun b hb => ⟨rfl, hb⟩) (h.low b x hb) (fun l hl => hh _ (fun e => hD ⟨b, x, l, hb, hl, e⟩))
    apart := h.apart
    agree := h.agree
    own := h.own
    ownG := h.ownG
    size := by rw [World.putObj_size]; exact h.size
    keep := fun k hk h1 => (hh k (by omega)).trans (h.keep k hk h1)
    os := h.os
    tape := h.tape
    output := h.output
    glob := h.glob.trans ⟨rfl, rfl, rfl, by rw [World.putObj_size]; exact Nat.le_refl _, fun k hk => hh k (by omega)⟩
    rd := h.rd }

def jset (j : Nat → Option Loc) (b : Nat) (l : Option Loc) : Nat → Option Loc := fun k => if k = b then l else j k
theorem jset_same (b : Nat) (l : Option Loc) : jset j b l b = l := by simp [jset]
theorem jset_lt {b c : Nat} (l : Option Loc) (h : c < b) : jset j b l c = j c := by simp [jset]; omega

theorem MemR.alloc (h : MemR WG C j tab nx w) (o : Obj) (x : Blk) (l : Loc) (hl : l.blk = w.heap.size)
    (hx : BlkR (w.alloc o) (okc C (Own j tab) w) (jset j nx (some l)) (nx + 1) nx x) :
    MemR WG C (jset j nx (some l)) (aset tab nx x) (nx + 1) (w.alloc o) ∧ (∀ k, okc C (Own j tab) w k → okc C (Own (jset j nx (some l)) (aset tab nx x)) (w.alloc o) k ∧ (w.alloc o).heap[k]? = w.heap[k]?) := by
  have hown : ∀ k, Own (jset j nx (some l)) (aset tab nx x) k → Own j tab k ∨ k = w.heap.size := by
    rintro k ⟨b, y, l', hb, hl', rfl⟩
    rw [aget_aset] at hb
    by_cases e : b = nx
    · subst e; rw [jset_same] at hl'; cases hl'; exact .inr hl
    · rw [if_neg e] at hb; exact .inl ⟨b, y, l', hb, by rwa [jset_lt _ (h.low b y hb)] at hl', rfl⟩
  have hk : ∀ k, okc C (Own j tab) w k → okc C (Own (jset j nx (some l)) (aset tab nx x)) (w.alloc o) k ∧ (w.alloc o).heap[k]? = w.heap[k]? := by
    rintro k ⟨h1, h2, h3⟩
    refine ⟨⟨by rw [World.size_alloc]; omega, fun hn => ?_, h3⟩, Below.heap_alloc w o k h1⟩
    rcases hown k hn with h | h
    · exact h2 h
    · omega
  refine ⟨?_, hk⟩
  exact {
    nb := Nat.le_succ_of_le h.nb
    low := fun b y hb => by
      rw [aget_aset] at hb
      by_cases e : b = nx
      · omega
      · rw [if_neg e] at hb; have := h.low b y hb; omega
    blk := fun b y hb => by
      rw [aget_aset] at hb
      by_cases e : b = nx
      · subst e; rw [if_pos rfl] at hb; cases hb
        have lt : ∀ l', jset j b (some l) b = some l' → (w.alloc o).heap[l'.blk]? = (w.alloc o).heap[l'.blk]? := fun _ _ => rfl
        exact hx.mono (fun k hk' => ⟨(hk k hk').1, rfl⟩) (fun b hb => ⟨rfl, hb⟩) (Nat.lt_succ_self _) lt
      · rw [if_neg e] at hb
        have hlt := h.low b y hb
        exact (h.blk b y hb).mono hk (fun c hc => ⟨jset_lt _ hc, by omega⟩) hlt (fun l' hl' => Below.heap_alloc w o _ ((h.blk b y hb).lt hl'))
    apart := fun b b' y y' l1 l2 hb hb' hne h1 h2 => by
      rw [aget_aset] at hb hb'
      by_cases e : b = nx
      · subst e
        rw [jset_same] at h1; cases h1
        rw [if_neg (Ne.symm hne)] at hb'
        have hlt := h.low b' y' hb'
        rw [jset_lt _ hlt] at h2
        have := (h.blk b' y' hb').lt h2
        omega
      · rw [if_neg e] at hb
        have hlt := h.low b y hb
        rw [jset_lt _ hlt] at h1
        have hl1 := (h.blk b y hb).lt h1
        by_cases e' : b' = nx
        · subst e'; rw [jset_same] at h2; cases h2; omega
        · rw [if_neg e'] at hb'
          have hlt' := h.low b' y' hb'
          rw [jset_lt _ hlt'] at h2
          exact h.apart b b' y y' l1 l2 hb hb' hne h1 h2
    agree := fun b hb => by rw [jset_lt _ (Nat.lt_of_lt_of_le hb h.nb)]; exact h.agree b hb
    own := fun k hn => by
      rcases hown k hn with h' | h'
      · exact h.own k h'
      · right; have := h.size; omega
    ownG := fun k hn => by
      rcases hown k hn with h' | h'
      · exact h.ownG k h'
      · have := h.glob.size; omega
    size := by rw [World.size_alloc]; have := h.size; omega
    keep := fun k hk h0 => (Below.heap_alloc w o k (Nat.lt_of_lt_of_le hk h.size)).trans (h.keep k hk h0)
    os := h.os
    tape := h.tape
    output := h.output
    glob := h.glob.alloc h.glob.size o
    rd := h.rd }

theorem MemR.turn {w' : World} (h : MemR WG C j tab nx w) {b : Nat} {x0 : Blk} {l : Loc} (hb : aget tab b = some x0) (hl : j b = some l) (x : Blk)
    (hs : w'.heap.size = w.heap.size) (hh : ∀ k, k ≠ l.blk → w'.heap[k]? = w.heap[k]?) (ho : w'.os = w.os) (ht : w'.tape = w.tape) (hu : w'.output = w.output)
    (hx : (∀ k, okc C (Own j tab) w k → w'.heap[k]? = w.heap[k]?) → BlkR w' (okc C (Own j tab) w) j nx b x) :
    MemR WG C j (aset tab b x) nx w' ∧ (∀ k, okc C (Own j tab) w k → okc C (Own j (aset tab b x)) w' k ∧ w'.heap[k]? = w.heap[k]?) := by
  have hown : ∀ k, Own j (aset tab b x) k ↔ Own j tab k := by
    intro k
    constructor
    · rintro ⟨c, y, l', hc, hl', rfl⟩
      rw [aget_aset] at hc
      by_cases e : c = b
      · subst e; exact ⟨c, x0, l', hb, hl', rfl⟩
      · rw [if_neg e] at hc; exact ⟨c, y, l', hc, hl', rfl⟩
    · rintro ⟨c, y, l', hc, hl', rfl⟩
      by_cases e : c = b
      · exact ⟨c, x, l', by rw [aget_aset, if_pos e], hl', rfl⟩
      · exact ⟨c, y, l', by rw [aget_aset, if_neg e]; exact hc, hl', rfl⟩
  have hO : Own j tab l.blk := ⟨b, x0, l, hb, hl, rfl⟩
  have hk0 : ∀ k, okc C (Own j tab) w k → w'.heap[k]? = w.heap[k]? := fun k hk => hh k (fun e => hk.2.1 (e ▸ hO))
  have hk : ∀ k, okc C (Own j tab) w k → okc C (Own j (aset tab b x)) w' k ∧ w'.heap[k]? = w.heap[k]? := fun k hk =>
    ⟨⟨by rw [hs]; exact hk.1, fun hn => hk.2.1 ((hown k).1 hn), hk.2.2⟩, hk0 k hk⟩
  have hlG := h.ownG l.blk hO
  refine ⟨?_, hk⟩
  exact {
    nb := h.nb
    low := fun c y hc => by
      rw [aget_aset] at hc
      by_cases e : c = b
      · subst e; exact h.low c x0 hb
      · rw [if_neg e] at hc; exact h.low c y hc
    blk := fun c y hc => by
      rw [aget_aset] at hc
      by_cases e : c = b
      · subst e; rw [if_pos rfl] at hc; cases hc
        exact (hx hk0).mono (fun k hk' => ⟨(hk k hk').1, rfl⟩) (fun b hb => ⟨rfl, hb⟩) (h.low c x0 hb) (fun _ _ => rfl)
      · rw [if_neg e] at hc
        refine (h.blk c y hc).mono hk (fun b hb => ⟨rfl, hb⟩) (h.low c y hc) (fun l' hl' => hh _ ?_)
        exact h.apart c b y x0 l' l hc hb e hl' hl
    apart := fun c c' y y' l1 l2 hc hc' hne h1 h2 => by
      have g : ∀ c y, aget (aset tab b x) c = some y → ∃ y, aget tab c = some y := fun c y hc => by
        rw [aget_aset] at hc
        by_cases e : c = b
        · subst e; exact ⟨_, hb⟩
        · rw [if_neg e] at hc; exact ⟨_, hc⟩
      obtain ⟨z, hz⟩ := g c y hc
      obtain ⟨z', hz'⟩ := g c' y' hc'
      exact h.apart c c' z z' l1 l2 hz hz' hne h1 h2
    agree := h.agree
    own := fun k hn => h.own k ((hown k).1 hn)
    ownG := fun k hn => h.ownG k ((hown k).1 hn)
    size := by rw [hs]; exact h.size
    keep := fun k hk h0 => by
      refine (hh k (fun e => ?_)).trans (h.keep k hk h0)
      subst e
      rcases h.own _ hO with h' | h'
      · exact h0 h'
      · omega
    os := ho.trans h.os
    tape := ht.trans h.tape
    output := hu.trans h.output
    glob := h.glob.trans ⟨ho, ht, hu, by rw [hs]; exact Nat.le_refl _, fun k hk => hh k (by omega)⟩
    rd := h.rd }

theorem MemR.del (h : MemR WG C j tab nx w) (b : Nat) :
    MemR WG C j (adel tab b) nx w ∧ (∀ k, okc C (Own j tab) w k → okc C (Own j (adel tab b)) w k ∧ w.heap[k]? = w.heap[k]?) := by
  have hg : ∀ c y, aget (adel tab b) c = some y → aget tab c = some y := fun c y hc => by
    rw [aget_adel] at hc
    by_cases e : c = b
    · simp [e] at hc
    · rwa [if_neg e] at hc
  have hown : ∀ k, Own j (adel tab b) k → Own j tab k := fun k ⟨c, y, l, hc, hl, e⟩ => ⟨c, y, l, hg c y hc, hl, e⟩
  have hk : ∀ k, okc C (Own j tab) w k → okc C (Own j (adel tab b)) w k ∧ w.heap[k]? = w.heap[k]? := fun k hk => ⟨⟨hk.1, fun hn => hk.2.1 (hown k hn), hk.2.2⟩, rfl⟩
  refine ⟨?_, hk⟩
  exact {
    nb := h.nb
    low := fun c y hc => h.low c y (hg c y hc)
    blk := fun c y hc => (h.blk c y (hg c y hc)).mono hk (fun b hb => ⟨rfl, hb⟩) (h.low c y (hg c y hc)) (fun _ _ => rfl)
    apart := fun c c' y y' l1 l2 hc hc' => h.apart c c' y y' l1 l2 (hg _ _ hc) (hg _ _ hc')
    agree := h.agree
    own := fun k hn => h.own k (hown k hn)
    ownG := fun k hn => h.ownG k (hown k hn)
    size := h.size
    keep := h.keep
    os := h.os
    tape := h.tape
    output := h.output
    glob := h.glob
    rd := h.rd }

theorem MemR.move {w' : World} (h : MemR WG C j tab nx w) {b : Nat} {x0 : Blk} {l l' : Loc} (hb : aget tab b = some x0) (hl : j b = some l) (hll : l'.blk = l.blk) (x : Blk)
    (hs : w'.heap.size = w.heap.size) (hh : ∀ k, k ≠ l.blk → w'.heap[k]? = w.heap[k]?) (ho : w'.os = w.os) (ht : w'.tape = w.tape) (hu : w'.output = w.output)
    (hx : (∀ k, okc C (Own j tab) w k → w'.heap[k]? = w.heap[k]?) → BlkR w' (okc C (Own j tab) w) (jset j nx (some l')) (nx + 1) nx x) :
    MemR WG C (jset j nx (some l')) (aset (adel tab b) nx x) (nx + 1) w' ∧ (∀ k, okc C (Own j tab) w k → okc C (Own (jset j nx (some l')) (aset (adel tab b) nx x)) w' k ∧ w'.heap[k]? = w.heap[k]?) := by
  have hget : ∀ c y, aget (aset (adel tab b) nx x) c = some y → (c = nx ∧ y = x) ∨ (c ≠ nx ∧ c ≠ b ∧ aget tab c = some y) := fun c y hc => by
    rw [aget_aset] at hc
    by_cases e : c = nx
    · rw [if_pos e] at hc; cases hc; exact .inl ⟨e, rfl⟩
    · rw [if_neg e, aget_adel] at hc
      by_cases e2 : c = b
      · rw [if_pos e2] at hc; cases hc
      · rw [if_neg e2] at hc; exact .inr ⟨e, e2, hc⟩
  have hO : Own j tab l.blk := ⟨b, x0, l, hb, hl, rfl⟩
  have hown : ∀ k, Own (jset j nx (some l')) (aset (adel tab b) nx x) k → Own j tab k := by
    rintro k ⟨c, y, l1, hc, hl1, rfl⟩
    rcases hget c y hc with ⟨rfl, rfl⟩ | ⟨h1, h2, h3⟩
    · rw [jset_same] at hl1; cases hl1; rw [hll]; exact hO
    · rw [jset_lt _ (h.low c y h3)] at hl1; exact ⟨c, y, l1, h3, hl1, rfl⟩
  have hk0 : ∀ k, okc C (Own j tab) w k → w'.heap[k]? = w.heap[k]? := fun k hk => hh k (fun e => hk.2.1 (e ▸ hO))
  have hk : ∀ k, okc C (Own j tab) w k → okc C (Own (jset j nx (some l')) (aset (adel tab b) nx x)) w' k ∧ w'.heap[k]? = w.heap[k]? := fun k hk =>
    ⟨⟨by rw [hs]; exact hk.1, fun hn => hk.2.1 (hown k hn), hk.2.2⟩, hk0 k hk⟩
  have hlG := h.ownG l.blk hO
  refine ⟨?_, hk⟩
  exact {
    nb := Nat.le_succ_of_le h.nb
    low := fun c y hc => by
      rcases hget c y hc with ⟨rfl, _⟩ | ⟨_, _, h3⟩
      · omega
      · have := h.low c y h3; omega
    blk := fun c y hc => by
      rcases hget c y hc with ⟨rfl, rfl⟩ | ⟨h1, h2, h3⟩
      · exact (hx hk0).mono (fun k hk' => ⟨(hk k hk').1, rfl⟩) (fun b hb => ⟨rfl, hb⟩) (Nat.lt_succ_self _) (fun _ _ => rfl)
      · refine (h.blk c y h3).mono hk (fun q hq => ⟨jset_lt _ hq, by omega⟩) (h.low c y h3) (fun l1 hl1 => hh _ ?_)
        exact h.apart c b y x0 l1 l h3 hb h2 hl1 hl
    apart := fun c c' y y' l1 l2 hc hc' hne h1 h2 => by
      rcases hget c y hc with ⟨rfl, rfl⟩ | ⟨a1, a2, a3⟩ <;> rcases hget c' y' hc' with ⟨rfl, rfl⟩ | ⟨b1, b2, b3⟩
      · exact absurd rfl hne
      · rw [jset_same] at h1; cases h1
        rw [jset_lt _ (h.low c' y' b3)] at h2
        rw [hll]; exact h.apart b c' x0 y' l l2 hb b3 (Ne.symm b2) hl h2
      · rw [jset_same] at h2; cases h2
        rw [jset_lt _ (h.low c y a3)] at h1
        rw [hll]; exact h.apart c b y x0 l1 l a3 hb a2 h1 hl
      · rw [jset_lt _ (h.low c y a3)] at h1
        rw [jset_lt _ (h.low c' y' b3)] at h2
        exact h.apart c c' y y' l1 l2 a3 b3 hne h1 h2
    agree := fun c hc => by rw [jset_lt _ (Nat.lt_of_lt_of_le hc h.nb)]; exact h.agree c hc
    own := fun k hn => h.own k (hown k hn)
    ownG := fun k hn => h.ownG k (hown k hn)
    size := by rw [hs]; exact h.size
    keep := fun k hk h0 => by
      refine (hh k (fun e => ?_)).trans (h.keep k hk h0)
      subst e
      rcases h.own _ hO with h' | h'
      · exact h0 h'
      · omega
    os := ho.trans h.os
    tape := ht.trans h.tape
    output := hu.trans h.output
    glob := h.glob.trans ⟨ho, ht, hu, by rw [hs]; exact Nat.le_refl _, fun k hk => hh k (by omega)⟩
    rd := h.rd }

theorem MemR.noMem (h : MemR WG C j tab nx w) (s : Nat) :
    MemR WG C (jset j nx none) (aset tab nx (.arr s [] true)) (nx + 1) w ∧ (∀ k, okc C (Own j tab) w k → okc C (Own (jset j nx none) (aset tab nx (.arr s [] true))) w k ∧ w.heap[k]? = w.heap[k]?) := by
  have hget : ∀ c y, aget (aset tab nx (.arr s [] true)) c = some y → (c = nx ∧ y = .arr s [] true) ∨ (c ≠ nx ∧ aget tab c = some y) := fun c y hc => by
    rw [aget_aset] at hc
    by_cases e : c = nx
    · rw [if_pos e] at hc; cases hc; exact .inl ⟨e, rfl⟩
    · rw [if_neg e] at hc; exact .inr ⟨e, hc⟩
  have hown : ∀ k, Own (jset j nx none) (aset tab nx (.arr s [] true)) k → Own j tab k := by
    rintro k ⟨c, y, l1, hc, hl1, rfl⟩
    rcases hget c y hc with ⟨rfl, rfl⟩ | ⟨h1, h3⟩
    · rw [jset_same] at hl1; cases hl1
    · rw [jset_lt _ (h.low c y h3)] at hl1; exact ⟨c, y, l1, h3, hl1, rfl⟩
  have hk : ∀ k, okc C (Own j tab) w k → okc C (Own (jset j nx none) (aset tab nx (.arr s [] true))) w k ∧ w.heap[k]? = w.heap[k]? := fun k hk => ⟨⟨hk.1, fun hn => hk.2.1 (hown k hn), hk.2.2⟩, rfl⟩
  refine ⟨?_, hk⟩
  exact {
    nb := Nat.le_succ_of_le h.nb
    low := fun c y hc => by
      rcases hget c y hc with ⟨rfl, _⟩ | ⟨_, h3⟩
      · omega
      · have := h.low c y h3; omega
    blk := fun c y hc => by
      rcases hget c y hc with ⟨rfl, rfl⟩ | ⟨h1, h3⟩
      · exact .inl ⟨jset_same _ _, rfl, rfl⟩
      · exact (h.blk c y h3).mono hk (fun q hq => ⟨jset_lt _ hq, by omega⟩) (h.low c y h3) (fun l1 hl1 => rfl)
    apart := fun c c' y y' l1 l2 hc hc' hne h1 h2 => by
      rcases hget c y hc with ⟨rfl, rfl⟩ | ⟨a1, a3⟩
      · rw [jset_same] at h1; cases h1
      · rcases hget c' y' hc' with ⟨rfl, rfl⟩ | ⟨b1, b3⟩
        · rw [jset_same] at h2; cases h2
        · rw [jset_lt _ (h.low c y a3)] at h1
          rw [jset_lt _ (h.low c' y' b3)] at h2
          exact h.apart c c' y y' l1 l2 a3 b3 hne h1 h2
    agree := fun c hc => by rw [jset_lt _ (Nat.lt_of_lt_of_le hc h.nb)]; exact h.agree c hc
    own := fun k hn => h.own k (hown k hn)
    ownG := fun k hn => h.ownG k (hown k hn)
    size := h.size
    keep := h.keep
    os := h.os
    tape := h.tape
    output := h.output
    glob := h.glob
    rd := h.rd }

end
end Go.Gp

namespace Go.Gp
open Go.RowKit
structure St where
  env : List (Nat × V)
  tab : Tab
  nx : Nat
  lo : Nat
  n : Nat

inductive VX where
  | normal
  | exit (id : Nat)
  | goto (l : Nat)
  | ret
  | panic (v : V)

inductive VXR (w : World) (ok : Nat → Prop) (j : Nat → Option Loc) (nx : Nat) : VX → Exit → Prop
  | normal : VXR w ok j nx .normal .normal
  | exit {i} : VXR w ok j nx (.exit i) (.exit i)
  | goto {l} : VXR w ok j nx (.goto l) (.goto l)
  | ret : VXR w ok j nx .ret .ret
  | panic {v m} (h : VR w ok j nx v m) : VXR w ok j nx (.panic v) (.panic [{ v := m, recovered := false }])

def markOf (D : Nat) : Deferred := { target := .collected D, args := #[] }
structure FrR (C : Ctx) (ok : Nat → Prop) (ds : List Deferred) (w : World) : Prop where
  defers : ∃ Ds : List Nat, ds = Ds.map markOf ++ C.base ∧ Ds.Nodup ∧ ∀ D ∈ Ds, ok D ∧ C.w0.heap.size ≤ D ∧ w.heap[D]? = some (.deferred (some []))
  rnd : ∀ l, C.rnd = some l → ds = [] ∧ ok l ∧ ∃ r, w.heap[l]? = some (.loop r)
theorem FrR.mono {C : Ctx} {ok ok' : Nat → Prop} {ds : List Deferred} {w w' : World} (h : FrR C ok ds w) (hk : ∀ k, ok k → ok' k ∧ w'.heap[k]? = w.heap[k]?) : FrR C ok' ds w' where
  defers := let ⟨Ds, h1, h2, h3⟩ := h.defers; ⟨Ds, h1, h2, fun D hD => let ⟨a, b, c⟩ := h3 D hD; ⟨(hk D a).1, b, (hk D a).2.trans c⟩⟩
  rnd := fun l hl => let ⟨a, b, r, c⟩ := h.rnd l hl; ⟨a, (hk l b).1, r, (hk l b).2.trans c⟩

structure ERel (WG : World) (C : Ctx) (j : Nat → Option Loc) (σ : St) (a : Act) (w : World) : Prop where
  mem : MemR WG C j σ.tab σ.nx w
  lo : C.nb ≤ σ.lo
  lx : σ.lo ≤ σ.nx
  env : ∀ t v, aget σ.env t = some v → ∃ m, a.tmps[t]? = some m ∧ VR w (okc C (Own j σ.tab) w) j σ.nx v m
  n : a.tmps.size = σ.n
  defers : FrR C (okc C (Own j σ.tab) w) a.defers w

section
variable (P : Program) (WG : World)
def PostR (C : Ctx) (Q : VX → St → Prop) : Exit → Act → World → Prop :=
  fun e a w => ∃ x σ j, VXR w (okc C (Own j σ.tab) w) j σ.nx x e ∧ ERel WG C j σ a w ∧ Q x σ

def fw (r : Option Nat) : Fence := { Fence.wide with round := r }

def T (c : Code) (σ : St) (Q : VX → St → Prop) : Prop :=
  ∀ C j a w, ERel WG C j σ a w → c.wpIn (fw C.rnd) 0 P (PostR WG C Q) a w

def VRs (w : World) (ok : Nat → Prop) (j : Nat → Option Loc) (nx : Nat) (vs : List V) (ms : Array Value) : Prop :=
  ms.size = vs.length ∧ ∀ (i : Nat) v, vs[i]? = some v → VR w ok j nx v (ms.getD i undef)

def EndR (C : Ctx) (K KP : V → Tab → Nat → Prop) : Ending → World → Prop
  | .returned m, w => ∃ j tab nx r, MemR WG C j tab nx w ∧ VR w (okc C (Own j tab) w) j nx r m ∧ K r tab nx
  | .panicked chain, w => ∃ j tab nx r m, MemR WG C j tab nx w ∧ chain = [{ v := m, recovered := false }] ∧ VR w (okc C (Own j tab) w) j nx r m ∧ KP r tab nx
  | .outgrown, _ => False

def CallT (f : FuncId) (vs : List V) (tab : Tab) (nx : Nat) (K KP : V → Tab → Nat → Prop) : Prop :=
  ∀ C j w ms, C.nb = nx → C.j0 = j → C.own0 = Own j tab → C.w0 = w → MemR WG C j tab nx w → VRs w (okc C (Own j tab) w) j nx vs ms → Calls P f ms w (EndR WG C K KP)

end
def noP : V → Tab → Nat → Prop := fun _ _ _ => False

section rules
variable {P : Program} {WG : World} {σ : St} {Q : VX → St → Prop}
theorem T.mono {c : Code} {Q' : VX → St → Prop} (h : T P WG c σ Q) (hq : ∀ x σ, Q x σ → Q' x σ) : T P WG c σ Q' :=
  fun C j a w hr => wpIn_mono (h C j a w hr) fun _ _ _ ⟨x, σ, j, h1, h2, h3⟩ => ⟨x, σ, j, h1, h2, hq _ _ h3⟩

theorem CallT.mono {f : FuncId} {vs : List V} {tab : Tab} {nx : Nat} {K KP K' KP' : V → Tab → Nat → Prop} (h : CallT P WG f vs tab nx K KP)
    (hk : ∀ r t n, K r t n → K' r t n) (hp : ∀ r t n, KP r t n → KP' r t n) : CallT P WG f vs tab nx K' KP' :=
  fun C j w ms h1 h2 h3 h4 h5 h6 => (h C j w ms h1 h2 h3 h4 h5 h6).mono fun e w' he => by
    cases e with
    | returned m => obtain ⟨j, t, n, r, a, b, c⟩ := he; exact ⟨j, t, n, r, a, b, hk _ _ _ c⟩
    | panicked ch => obtain ⟨j, t, n, r, m, a, b, c, d⟩ := he; exact ⟨j, t, n, r, m, a, b, c, hp _ _ _ d⟩
    | outgrown => exact he

theorem T_skip (h : Q .normal σ) : T P WG .skip σ Q := fun _ j _ _ hr => wpIn_skip ⟨.normal, σ, j, .normal, hr, h⟩
theorem T_label {l : Nat} (h : Q .normal σ) : T P WG (.label l) σ Q := fun _ j _ _ hr => wpIn_label ⟨.normal, σ, j, .normal, hr, h⟩
theorem T_exit {i : Nat} (h : Q (.exit i) σ) : T P WG (.exit i) σ Q := fun _ j _ _ hr => wpIn_exit ⟨.exit i, σ, j, .exit, hr, h⟩
theorem T_goto {i : Nat} (h : Q (.goto i) σ) : T P WG (.goto i) σ Q := fun _ j _ _ hr => wpIn_goto ⟨.goto i, σ, j, .goto, hr, h⟩
theorem T_ret (h : Q .ret σ) : T P WG .ret σ Q := fun _ j _ _ hr => wpIn_ret ⟨.ret, σ, j, .ret, hr, h⟩

def thenQ (K : St → Prop) (Q : VX → St → Prop) : VX → St → Prop
  | .normal, σ => K σ
  | x, σ => Q x σ

theorem T_seq {x y : Code} (h : T P WG x σ (thenQ (fun σ' => T P WG y σ' Q) Q)) : T P WG (.seq x y) σ Q :=
  fun C j a w hr => wpIn_seq <| wpIn_mono (h C j a w hr) fun e a w ⟨x, σ', j', hx, hr', hq⟩ => by
    cases hx with
    | normal => exact hq C j' a w hr'
    | exit => exact ⟨_, σ', j', .exit, hr', hq⟩
    | goto => exact ⟨_, σ', j', .goto, hr', hq⟩
    | ret => exact ⟨_, σ', j', .ret, hr', hq⟩
    | panic h => exact ⟨_, σ', j', .panic h, hr', hq⟩

def blockQ (id : Nat) (Q : VX → St → Prop) : VX → St → Prop
  | .exit id', σ => if id' = id then Q .normal σ else Q (.exit id') σ
  | x, σ => Q x σ

theorem T_block {id : Nat} {c : Code} (h : T P WG c σ (blockQ id Q)) : T P WG (.block id c) σ Q :=
  fun C j a w hr => wpIn_block <| wpIn_mono (h C j a w hr) fun e a w ⟨x, σ', j', hx, hr', hq⟩ => by
    cases hx with
    | @exit i =>
      simp only [Exit.inBlock]
      by_cases hi : i = id
      · simp only [blockQ, hi, if_true] at hq ⊢; exact ⟨.normal, σ', j', .normal, hr', hq⟩
      · simp only [blockQ, hi, if_false] at hq ⊢; exact ⟨.exit i, σ', j', .exit, hr', hq⟩
    | normal => exact ⟨_, σ', j', .normal, hr', hq⟩
    | goto => exact ⟨_, σ', j', .goto, hr', hq⟩
    | ret => exact ⟨_, σ', j', .ret, hr', hq⟩
    | panic h => exact ⟨_, σ', j', .panic h, hr', hq⟩

def ev (σ : St) : Operand → Option V
  | .tmp t => aget σ.env t
  | .const c => if flatV c then some (.p (.v c)) else
      match c with
      | .agg cs => if cs.all flatV then some (.p (.agg (cs.toList.map .v))) else none
      | _ => none
  | .func f => some (.p (.clo (.func f) [] []))
  | .global _ => none

theorem PR.constAgg {w : World} {ok : Nat → Prop} {cs : Array Value} (h : cs.all flatV = true) : PR w ok (.agg (cs.toList.map .v)) (.agg cs) := by
  have hf := Array.all_eq_true_iff_forall_mem.1 h
  refine .agg (by simp) (fun i c hi => ?_) (fun i c hi => ?_)
  · simp only [List.getElem?_map] at hi
    cases hc : cs.toList[i]? with
    | none => simp [hc] at hi
    | some v => simp [hc] at hi; subst hi; rfl
  · simp only [List.getElem?_map] at hi
    cases hc : cs.toList[i]? with
    | none => simp [hc] at hi
    | some v =>
      simp [hc] at hi; subst hi
      have hv : cs[i]? = some v := by simpa using hc
      have : cs.getD i undef = v := by
        obtain ⟨hlt, he⟩ := Array.getElem?_eq_some_iff.1 hv
        simp [Array.getD, hlt, he]
      rw [this]
      exact .v (hf v (Array.mem_of_getElem? hv))

theorem ERel.ev {C : Ctx} {j : Nat → Option Loc} {a : Act} {w : World} (hr : ERel WG C j σ a w) {x : Operand} {v : V} (h : ev σ x = some v) :
    VR w (okc C (Own j σ.tab) w) j σ.nx v (a.eval x) := by
  cases x with
  | tmp t =>
    obtain ⟨m, hm, hv⟩ := hr.env t v h
    have : a.eval (.tmp t) = m := by
      obtain ⟨hlt, he⟩ := Array.getElem?_eq_some_iff.1 hm
      simp [Act.eval, Array.getD, hlt, he]
    rw [this]; exact hv
  | const c =>
    simp only [Gp.ev] at h
    by_cases hf : flatV c = true
    · rw [if_pos hf] at h; cases h; exact .p (.v hf)
    · rw [if_neg hf] at h
      cases c with
      | agg cs =>
        simp only at h
        by_cases ha : cs.all flatV = true
        · rw [if_pos ha] at h; cases h; exact .p (.constAgg ha)
        · rw [if_neg ha] at h; cases h
      | _ => simp at h
  | func f => simp only [Gp.ev] at h; cases h; exact .p (.clo rfl rfl (by simp) (by simp))
  | global g => simp [Gp.ev] at h

def evB (σ : St) (x : Operand) : Option Bool :=
  match ev σ x with
  | some (.p (.v (.bool b))) => some b
  | _ => none

theorem ERel.evB {C : Ctx} {j : Nat → Option Loc} {a : Act} {w : World} (hr : ERel WG C j σ a w) {x : Operand} {b : Bool} (h : evB σ x = some b) : a.eval x = .bool b := by
  unfold Gp.evB at h
  split at h
  · rename_i b' hx
    cases h
    have := hr.ev hx
    generalize a.eval x = m at this ⊢
    cases this with
    | p hp => cases hp; rfl
  · cases h

theorem T_cond {c : Operand} {x y : Code} {b : Bool} (hc : evB σ c = some b) (ht : b = true → T P WG x σ Q) (hf : b = false → T P WG y σ Q) : T P WG (.cond c x y) σ Q :=
  fun C j a w hr => wpIn_cond_split (hr.evB hc) (fun e => ht e C j a w hr) (fun e => hf e C j a w hr)

theorem T_loop {c : Code} (I : Nat → St → Prop) (n : Nat) (h0 : I n σ)
    (round : ∀ n σ, I n σ → T P WG c σ (thenQ (fun σ' => ∃ m, m < n ∧ I m σ') Q)) : T P WG (.loop c) σ Q := by
  intro C j a w hr b k cs hro hb hrm
  have key : ∀ n σ j a w, I n σ → ERel WG C j σ a w →
      ∃ e a' w', PostR WG C Q e a' w' ∧ ArrivesIn (Machine.fenced P (fw C.rnd)) P (lone (b.atR a (.code c :: .inLoop c :: k)) cs w) b k cs e a' w' := by
    intro n
    induction n using Nat.strongRecOn with
    | _ n ih =>
      intro σ j a w hI hr
      obtain ⟨e, a₁, w₁, ⟨x, σ₁, j₁, hx, hr₁, hq⟩, harr⟩ := round n σ hI C j a w hr b (.inLoop c :: k) cs hro hb hrm
      cases hx with
      | normal =>
        obtain ⟨m, hm, hI₁⟩ := hq
        obtain ⟨e₂, a₂, w₂, hq₂, harr₂⟩ := ih m hm σ₁ j₁ a₁ w₁ hI₁ hr₁
        exact ⟨e₂, a₂, w₂, hq₂, .of_steps (StepsIn.trans harr (.one (fenced_calm hb hrm rfl) stepR_inLoop)) harr₂⟩
      | exit => exact ⟨_, a₁, w₁, ⟨_, σ₁, j₁, .exit, hr₁, hq⟩, .pass (x := .inLoop c) rfl (fun _ _ => .inl (by simp)) harr⟩
      | goto => exact ⟨_, a₁, w₁, ⟨_, σ₁, j₁, .goto, hr₁, hq⟩, .pass (x := .inLoop c) rfl (fun _ _ => .inl (by simp)) harr⟩
      | ret => exact ⟨_, a₁, w₁, ⟨_, σ₁, j₁, .ret, hr₁, hq⟩, .pass (x := .inLoop c) rfl (fun _ _ => .inl (by simp)) harr⟩
      | panic h => exact ⟨_, a₁, w₁, ⟨_, σ₁, j₁, .panic h, hr₁, hq⟩, .pass (x := .inLoop c) rfl (fun _ _ => .inl (by simp)) harr⟩
  obtain ⟨e, a', w', hq, harr⟩ := key n σ j a w h0 hr
  exact ⟨e, a', w', hq, .of_steps (.one (fenced_calm hb hrm rfl) stepR_loop) harr⟩

def Weak (WG : World) (σ σ' : St) : Prop := ∀ C j a w, ERel WG C j σ a w → ∃ j', ERel WG C j' σ' a w
theorem T_weak {c : Code} {σ' : St} (hw : Weak WG σ σ') (h : T P WG c σ' Q) : T P WG c σ Q :=
  fun C j a w hr => let ⟨j', hr'⟩ := hw C j a w hr; h C j' a w hr'

theorem Weak.env {e : List (Nat × V)} (h : ∀ t v, aget e t = some v → aget σ.env t = some v) : Weak WG σ { σ with env := e } :=
  fun _ j _ _ hr => ⟨j, ⟨hr.mem, hr.lo, hr.lx, fun t v ht => hr.env t v (h t v ht), hr.n, hr.defers⟩⟩
theorem Weak.del (b : Nat) : Weak WG σ { σ with tab := adel σ.tab b } :=
  fun _ j _ _ hr => ⟨j, ⟨(hr.mem.del b).1, hr.lo, hr.lx, fun t v ht => let ⟨m, hm, hv⟩ := hr.env t v ht; ⟨m, hm, hv.mono (hr.mem.del b).2 (fun _ h => ⟨rfl, h⟩)⟩, hr.n, hr.defers.mono (hr.mem.del b).2⟩⟩
theorem Weak.refl : Weak WG σ σ := fun _ j _ _ hr => ⟨j, hr⟩
theorem Weak.trans {σ' σ'' : St} (h : Weak WG σ σ') (h' : Weak WG σ' σ'') : Weak WG σ σ'' := fun C j a w hr => let ⟨j', hr'⟩ := h C j a w hr; h' C j' a w hr'

end rules
end Go.Gp

namespace Go.Gp
open Go.RowKit
def updCells : Array Value → Nat → List Value → Array Value
  | ms, _, [] => ms
  | ms, o, v :: r => updCells (ms.setIfInBounds o v) (o + 1) r
theorem updCells_size (vs : List Value) : ∀ (ms : Array Value) (o : Nat), (updCells ms o vs).size = ms.size := by
  induction vs with
  | nil => intro ms o; rfl
  | cons v r ih => intro ms o; simp [updCells, ih]
theorem getD_set (ms : Array Value) (o k : Nat) (v : Value) (h : o < ms.size) : (ms.setIfInBounds o v).getD k undef = if k = o then v else ms.getD k undef := by
  by_cases e : k = o
  · subst e; simp [Array.getD, h]
  · rw [if_neg e]
    simp only [Array.getD_eq_getD_getElem?, Array.getElem?_setIfInBounds]
    rw [if_neg (fun h => e h.symm)]
theorem updCells_getD (vs : List Value) : ∀ (ms : Array Value) (o k : Nat), o + vs.length ≤ ms.size →
    (updCells ms o vs).getD k undef = if o ≤ k ∧ k < o + vs.length then vs.getD (k - o) undef else ms.getD k undef := by
  induction vs with
  | nil => intro ms o k h; rw [if_neg (by simp <;> omega)]; rfl
  | cons v r ih =>
    intro ms o k h
    simp only [List.length_cons] at h
    rw [updCells, ih _ _ _ (by simp; omega), getD_set _ _ _ _ (by omega)]
    by_cases h1 : o + 1 ≤ k ∧ k < o + 1 + r.length
    · rw [if_pos h1, if_pos (by simp; omega)]
      obtain ⟨q, hq⟩ : ∃ q, k - o = q + 1 := ⟨k - o - 1, by omega⟩
      rw [hq, List.getD_cons_succ]
      congr 1
      omega
    · rw [if_neg h1]
      by_cases h2 : k = o
      · subst h2; rw [if_pos rfl, if_pos (by simp)]; simp
      · rw [if_neg h2, if_neg (by simp; omega)]

theorem addr_add (B o n : Nat) : (⟨B, o, none⟩ : Addr).add n = ⟨B, o + n, none⟩ := by unfold Addr.add; split <;> simp_all

section
variable {P : Program}
structure Turned (w w' : World) (B : Nat) : Prop where
  size : w'.heap.size = w.heap.size
  other : ∀ k, k ≠ B → w'.heap[k]? = w.heap[k]?
  os : w'.os = w.os
  tape : w'.tape = w.tape
  output : w'.output = w.output
theorem Turned.refl (w : World) (B : Nat) : Turned w w B := ⟨rfl, fun _ _ => rfl, rfl, rfl, rfl⟩
theorem Turned.trans {a b c : World} {B : Nat} (h : Turned a b B) (k : Turned b c B) : Turned a c B :=
  ⟨k.size.trans h.size, fun i hi => (k.other i hi).trans (h.other i hi), k.os.trans h.os, k.tape.trans h.tape, k.output.trans h.output⟩

theorem cell_row {w : World} {B o : Nat} {ms : Array Value} {e : TypeId} {fr : Nat × Nat} (h : w.heap[B]? = some (.cells ms e fr)) : w.cell? ⟨B, o, none⟩ = ms[o]? := by
  simp [World.cell?, h]
theorem frozen_row {w : World} {B o : Nat} {ms : Array Value} {e : TypeId} {fr : Nat × Nat} (h : w.heap[B]? = some (.cells ms e fr)) (hf : Opn fr ms.size) (ho : o < ms.size) : w.frozen? ⟨B, o, none⟩ = false := by
  have := hf o ho
  obtain ⟨lo, hi⟩ := fr
  simp only at this
  simp only [World.frozen?, h]
  by_cases h1 : lo ≤ o <;> by_cases h2 : o < hi <;> simp_all

theorem run_store_row (w : World) (B o : Nat) (v : Value) (ms : Array Value) (e : TypeId) (fr : Nat × Nat) (h : w.heap[B]? = some (.cells ms e fr)) (hf : Opn fr ms.size) (ho : o < ms.size) (h1 : v.oneCell' = true) :
    ∃ w', (store ⟨B, o, none⟩ v).run P w = .ok () w' ∧ Turned w w' B ∧ w'.heap[B]? = some (.cells (ms.setIfInBounds o v) e fr) := by
  refine ⟨w.setCell ⟨B, o, none⟩ v, ?_, ⟨by simp, fun k hk => Below.heap_setCell w _ _ k hk, rfl, rfl, rfl⟩, ?_⟩
  · rw [run_store P w _ v _ h1, cell_row h, Array.getElem?_eq_getElem ho, frozen_row h hf ho]; rfl
  · obtain ⟨hlt, he⟩ := Array.getElem?_eq_some_iff.1 h
    simp only [World.setCell, Array.getElem?_modify, if_true, h, Option.map_some]
    rfl

theorem run_storeCells_row (B o : Nat) (e : TypeId) (fr : Nat × Nat) : ∀ (vs : List Value) (i : Nat) (ms : Array Value) (w : World), w.heap[B]? = some (.cells ms e fr) → Opn fr ms.size →
    o + i + vs.length ≤ ms.size → (∀ v ∈ vs, v.oneCell' = true) →
    ∃ w', (storeCells ⟨B, o, none⟩ vs i).run P w = .ok () w' ∧ Turned w w' B ∧ w'.heap[B]? = some (.cells (updCells ms (o + i) vs) e fr)
  | [], i, ms, w, h, _, _, _ => ⟨w, rfl, Turned.refl w B, h⟩
  | v :: r, i, ms, w, h, hf, hs, h1 => by
    simp only [List.length_cons] at hs
    obtain ⟨w1, hr1, ht1, hh1⟩ := run_store_row (P := P) w B (o + i) v ms e fr h hf (by omega) (h1 v (by simp))
    obtain ⟨w2, hr2, ht2, hh2⟩ := run_storeCells_row B o e fr r (i + 1) (ms.setIfInBounds (o + i) v) w1 hh1 (by simpa using hf) (by simp; omega) (fun x hx => h1 x (by simp [hx]))
    refine ⟨w2, ?_, ht1.trans ht2, ?_⟩
    · simp only [storeCells, Sem.run_bind, addr_add, hr1, Result.andThen_ok, hr2]
    · simpa [updCells, Nat.add_assoc] using hh2

theorem run_loadCells_row (w : World) (B o n : Nat) (f : Nat → Value) (h : ∀ k, k < n → w.cell? ⟨B, o + k, none⟩ = some (f k)) :
    (loadCells ⟨B, o, none⟩ n).run P w = .ok ((List.range n).map f).toArray w :=
  run_loadCells (P := P) w ⟨B, o, none⟩ n f (fun k hk => by rw [addr_add]; exact h k hk)

theorem getD_range (n : Nat) (f : Nat → Value) (k : Nat) (hk : k < n) : ((List.range n).map f).toArray.getD k undef = f k := by
  simp [Array.getD, hk]
inductive TD where
  | int (k : IntKind) | bool | str | slice (e : TypeId) | array (n : Nat) (e : TypeId) | struct (fs : List (Nat × TypeId × Nat)) | ptr (e : TypeId) | iface | map (k v : TypeId) | func | other
  deriving DecidableEq, Repr

def tdOf (P : Program) : TypeDesc → TD
  | .int k => .int k
  | .bool => .bool
  | .string => .str
  | .slice e => .slice e
  | .array n e => .array n e
  | .struct fs => .struct (fs.toList.map fun f => (f.offset, f.type, P.cellsOf f.type))
  | .pointer e => .ptr e
  | .interface _ => .iface
  | .map k v => .map k v
  | .func .. => .func
  | _ => .other

structure TI where
  size : Nat
  bytes : Nat
  d : TD
  zero : List Value

def TD.agg : TD → Bool
  | .struct _ | .array _ _ => true
  | _ => false
def TI.agg (i : TI) : Bool := i.d.agg

def zeroOk (d : TD) (z : Value) : Bool :=
  match z with
  | .agg cs => d.agg && cs.all flatV
  | z => !d.agg && flatV z

def fieldsOk (P : Program) : TypeDesc → Bool
  | .struct fs => fs.all fun f => (P.info? f.type).isSome
  | _ => true
def tiOf (P : Program) (t : TypeId) : Option TI :=
  match P.info? t, P.underlying t with
  | some i, some d =>
    match i.zero with
    | some z => if zeroOk (tdOf P d) z && z.cells.size == i.size && fieldsOk P d then some ⟨i.size, i.bytes, tdOf P d, z.cells.toList⟩ else none
    | none => none
  | _, _ => none

def TI.zeroP (i : TI) : PV := if i.agg then .agg (i.zero.map .v) else .v (i.zero.getD 0 undef)

structure TIR (P : Program) (t : TypeId) (i : TI) (info : TypeInfo) (d : TypeDesc) (z : Value) : Prop where
  inf : P.info? t = some info
  und : P.underlying t = some d
  size : info.size = i.size
  bytes : info.bytes = i.bytes
  td : tdOf P d = i.d
  hz : info.zero = some z
  zr : ∀ w ok, PR w ok i.zeroP z
  zc : z.cells = i.zero.toArray
  zs : i.zero.length = i.size
  zf : ∀ x ∈ i.zero, flatV x = true
  fo : fieldsOk P d = true

theorem tiOf_some {t : TypeId} {i : TI} (h : tiOf P t = some i) : ∃ info d z, TIR P t i info d z := by
  unfold tiOf at h
  split at h
  · rename_i info d hi hd
    split at h
    · rename_i z hz
      split at h
      · rename_i hc
        cases h
        simp only [Bool.and_eq_true, beq_iff_eq] at hc
        obtain ⟨⟨hz1, hz2⟩, hz3⟩ := hc
        have hfl : ∀ x ∈ z.cells.toList, flatV x = true := by
          unfold zeroOk at hz1
          split at hz1
          · simp only [Bool.and_eq_true] at hz1
            intro x hx
            exact (Array.all_eq_true_iff_forall_mem.1 hz1.2) x (by simpa [Value.cells] using hx)
          · simp only [Bool.and_eq_true] at hz1
            rename_i hna
            intro x hx
            have : z.cells = #[z] := by cases z <;> first | rfl | (exact absurd rfl (hna _))
            rw [this] at hx; simp at hx; subst hx; exact hz1.2
        refine ⟨info, d, z, ⟨hi, hd, rfl, rfl, rfl, hz, ?_, by simp, by simpa using hz2, hfl, hz3⟩⟩
        intro w ok
        unfold zeroOk at hz1
        split at hz1
        · simp only [Bool.and_eq_true] at hz1
          simp only [TI.zeroP, TI.agg, hz1.1, if_true]
          exact PR.constAgg hz1.2
        · simp only [Bool.and_eq_true, Bool.not_eq_true'] at hz1
          rename_i hna
          have : z.cells = #[z] := by cases z <;> first | rfl | (exact absurd rfl (hna _))
          simp only [TI.zeroP, TI.agg, hz1.1, this]
          exact .v hz1.2
      · cases h
    · cases h
  · cases h

theorem TIR.run_und {t : TypeId} {i : TI} {info : TypeInfo} {d : TypeDesc} {z : Value} (h : TIR P t i info d z) (w : World) : (underlying t).run P w = .ok d w := by
  simp [underlying, h.und]
theorem TIR.run_size {t : TypeId} {i : TI} {info : TypeInfo} {d : TypeDesc} {z : Value} (h : TIR P t i info d z) (w : World) : (sizeOf t).run P w = .ok i.size w := by
  simp [sizeOf, typeInfo, h.inf, h.size]
theorem TIR.run_zero {t : TypeId} {i : TI} {info : TypeInfo} {d : TypeDesc} {z : Value} (h : TIR P t i info d z) (w : World) : (zeroValue t).run P w = .ok z w := by
  simp [zeroValue, typeInfo, h.inf, h.hz]
theorem TIR.run_isAgg {t : TypeId} {i : TI} {info : TypeInfo} {d : TypeDesc} {z : Value} (h : TIR P t i info d z) (w : World) : (isAgg t).run P w = .ok i.agg w := by
  have hd := h.td
  simp only [isAgg, Sem.run_bind, h.run_und, Result.andThen_ok, TI.agg, ← hd]
  cases d <;> rfl

theorem run_loadVar_ti {t : TypeId} {i : TI} {info : TypeInfo} {d : TypeDesc} {z : Value} (h : TIR P t i info d z) (w : World) (B o : Nat) (f : Nat → Value)
    (hc : ∀ k, k < i.size → w.cell? ⟨B, o + k, none⟩ = some (f k)) (h1 : i.agg = false → i.size = 1) :
    (loadVar t ⟨B, o, none⟩).run P w = .ok (if i.agg then .agg ((List.range i.size).map f).toArray else f 0) w := by
  simp only [loadVar, Sem.run_bind, h.run_isAgg, Result.andThen_ok]
  by_cases hA : i.agg = true
  · simp only [hA, if_true, Sem.run_bind, h.run_size, Result.andThen_ok, run_loadCells_row w B o i.size f hc, Sem.run_pure]
  · simp only [hA]
    have := hc 0 (by rw [h1 (by simpa using hA)]; exact Nat.one_pos)
    simp only [Nat.add_zero] at this
    simp [this]

end
end Go.Gp

namespace Go.Gp
open Go.RowKit
section
variable (P : Program) (WG : World)
structure Moves (C : Ctx) (lo : Nat) (j : Nat → Option Loc) (tab : Tab) (nx : Nat) (w : World) (j' : Nat → Option Loc) (tab' : Tab) (nx' : Nat) (w' : World) : Prop where
  mem : MemR WG C j' tab' nx' w'
  lx : lo ≤ nx'
  keep : ∀ x m, VR w (okc C (Own j tab) w) j nx x m → VR w' (okc C (Own j' tab') w') j' nx' x m
  okk : ∀ k, okc C (Own j tab) w k → okc C (Own j' tab') w' k ∧ w'.heap[k]? = w.heap[k]?

def OpS (op : Oper) (σ : St) (K : V → Tab → Nat → Prop) : Prop :=
  ∀ C j a w, ERel WG C j σ a w → ∃ m w' v j' tab' nx', (execOp a.eval op).run P w = .ok (.value m) w' ∧ Moves WG C σ.lo j σ.tab σ.nx w j' tab' nx' w' ∧
    VR w' (okc C (Own j' tab') w') j' nx' v m ∧ K v tab' nx'
def OpK (op : Oper) (σ : St) (K : Tab → Nat → Prop) : Prop :=
  ∀ C j a w, ERel WG C j σ a w → ∃ w' j' tab' nx', (execOp a.eval op).run P w = .ok .skip w' ∧ Moves WG C σ.lo j σ.tab σ.nx w j' tab' nx' w' ∧ K tab' nx'

end
section
variable {P : Program} {WG : World} {σ : St} {op : Oper} {K : V → Tab → Nat → Prop}
theorem Moves.refl {C : Ctx} {j : Nat → Option Loc} {a : Act} {w : World} (hr : ERel WG C j σ a w) : Moves WG C σ.lo j σ.tab σ.nx w j σ.tab σ.nx w := ⟨hr.mem, hr.lx, fun _ _ h => h, fun _ h => ⟨h, rfl⟩⟩

theorem OpS.pure {v : V} (h : ∀ C j a w, ERel WG C j σ a w → ∃ m, (execOp a.eval op).run P w = .ok (.value m) w ∧ VR w (okc C (Own j σ.tab) w) j σ.nx v m) (hk : K v σ.tab σ.nx) : OpS P WG op σ K :=
  fun C j a w hr => let ⟨m, h1, h2⟩ := h C j a w hr; ⟨m, w, v, j, σ.tab, σ.nx, h1, .refl hr, h2, hk⟩

theorem op_move {x : Operand} {v : V} (ho : op.op = .move x ∨ op.op = .assign x) (hx : ev σ x = some v) (hk : K v σ.tab σ.nx) : OpS P WG op σ K :=
  .pure (fun C j a w hr => ⟨a.eval x, by rcases ho with h | h <;> (unfold execOp; rw [h]; rfl), hr.ev hx⟩) hk

theorem op_pick {c x y : Operand} {b : Bool} {v : V} (ho : op.op = .pick c x y) (hc : evB σ c = some b) (hx : b = true → ev σ x = some v) (hy : b = false → ev σ y = some v) (hk : K v σ.tab σ.nx) : OpS P WG op σ K :=
  .pure (fun C j a w hr => ⟨if b then a.eval x else a.eval y, by unfold execOp; rw [ho]; simp only [hr.evB hc]; rfl, by
    cases b
    · exact hr.ev (hy rfl)
    · exact hr.ev (hx rfl)⟩) hk

theorem alloc_new (w : World) (o : Obj) : (w.alloc o).heap[w.heap.size]? = some o := by
  show (w.heap.push o)[w.heap.size]? = some o
  simp

theorem newBox {C : Ctx} {j : Nat → Option Loc} {a : Act} {w : World} (hr : ERel WG C j σ a w) (cs : List V) (ms : Array Value) (e : TypeId) (hs : ms.size = cs.length)
    (h : ∀ (i : Nat) c, cs[i]? = some c → c.one = true ∧ VR w (okc C (Own j σ.tab) w) j σ.nx c (ms.getD i undef)) :
    ∃ j', Moves WG C σ.lo j σ.tab σ.nx w j' (aset σ.tab σ.nx (.box cs)) (σ.nx + 1) (w.alloc (.cells ms e (0, 0))) ∧ j' σ.nx = some ⟨w.heap.size, 0, 0⟩ := by
  let l : Loc := ⟨w.heap.size, 0, 0⟩
  have hx : BlkR (w.alloc (.cells ms e (0, 0))) (okc C (Own j σ.tab) w) (jset j σ.nx (some l)) (σ.nx + 1) σ.nx (.box cs) := by
    refine ⟨l, ms, e, (0, 0), jset_same _ _, alloc_new _ _, Opn.zero _, by simp [l, hs], fun i c hi => (h i c hi).1, fun i c hi => ?_⟩
    simp only [l, Nat.zero_add]
    exact (h i c hi).2.mono (fun k hk => ⟨hk, Below.heap_alloc w _ k hk.1⟩) (fun b hb => ⟨jset_lt _ hb, Nat.lt_succ_of_lt hb⟩)
  obtain ⟨h1, h2⟩ := hr.mem.alloc (.cells ms e (0, 0)) (.box cs) l rfl hx
  exact ⟨_, ⟨h1, Nat.le_succ_of_le hr.lx, fun x m hv => hv.mono h2 (fun b hb => ⟨jset_lt _ hb, Nat.lt_succ_of_lt hb⟩), h2⟩, jset_same _ _⟩

theorem newArr {C : Ctx} {j : Nat → Option Loc} {a : Act} {w w1 : World} (hr : ERel WG C j σ a w) (hw : w1.heap = w.heap ∧ w1.os = w.os ∧ w1.tape = w.tape ∧ w1.output = w.output)
    (s : Nat) (xs : List PV) (gr : Bool) (cap : Nat) (ms : Array Value) (e : TypeId) (fr : Nat × Nat) (hfr : Opn fr ms.size) (hs : cap * s ≤ ms.size) (hc : xs.length ≤ cap) (hg : gr = false → xs.length = cap)
    (hl : ∀ (i : Nat) x, xs[i]? = some x → x.cells.length = s)
    (h : ∀ (i k : Nat) x y, xs[i]? = some x → x.cells[k]? = some y → y.one = true ∧ PR w (okc C (Own j σ.tab) w) y (ms.getD (i * s + k) undef)) :
    ∃ j', Moves WG C σ.lo j σ.tab σ.nx w j' (aset σ.tab σ.nx (.arr s xs gr)) (σ.nx + 1) (w1.alloc (.cells ms e fr)) ∧ j' σ.nx = some ⟨w.heap.size, 0, cap⟩ := by
  obtain ⟨hw1, hw2, hw3, hw4⟩ := hw
  have hm := hr.mem.heap_eq hw1 hw2 hw3 hw4
  have hok : ∀ k, okc C (Own j σ.tab) w k → okc C (Own j σ.tab) w1 k ∧ w1.heap[k]? = w.heap[k]? := fun k hk => ⟨⟨by rw [hw1]; exact hk.1, hk.2⟩, by rw [hw1]⟩
  let l : Loc := ⟨w.heap.size, 0, cap⟩
  have hnew : (w1.alloc (.cells ms e fr)).heap[w.heap.size]? = some (.cells ms e fr) := by rw [← hw1]; exact alloc_new _ _
  have hx : BlkR (w1.alloc (.cells ms e fr)) (okc C (Own j σ.tab) w1) (jset j σ.nx (some l)) (σ.nx + 1) σ.nx (.arr s xs gr) := by
    refine .inr ⟨l, ms, e, fr, jset_same _ _, hnew, hfr, by simpa [l] using hs, hc, hg, hl, fun i k x y h1 h2 => (h i k x y h1 h2).1, fun i k x y h1 h2 => ?_⟩
    simp only [l, Nat.zero_add]
    exact (h i k x y h1 h2).2.mono (fun k hk => ⟨(hok k hk).1, by
      rw [Below.heap_alloc w1 _ k (by rw [hw1]; exact hk.1), hw1]⟩)
  obtain ⟨h1, h2⟩ := hm.alloc (.cells ms e fr) (.arr s xs gr) l (by rw [hw1]) hx
  exact ⟨_, ⟨h1, Nat.le_succ_of_le hr.lx, fun x m hv => (hv.mono hok (fun b hb => ⟨rfl, hb⟩)).mono h2 (fun b hb => ⟨jset_lt _ hb, Nat.lt_succ_of_lt hb⟩), fun k hk => ⟨(h2 k (hok k hk).1).1, (h2 k (hok k hk).1).2.trans (hok k hk).2⟩⟩, jset_same _ _⟩

theorem run_newRow' (w : World) (e : TypeId) (ms : Array Value) : (newRow e ms).run P w = .ok ⟨w.heap.size, 0, none⟩ (w.alloc (.cells ms e (0, 0))) := rfl

def V.isTup : V → Bool
  | .tup _ | .cnd _ _ => true
  | _ => false
theorem V.ne_tup {x : V} (h : x.isTup = false) : ∀ vs, x ≠ .tup vs := fun vs e => by subst e; simp [V.isTup] at h
theorem V.ne_cnd {x : V} (h : x.isTup = false) : ∀ b y, x ≠ .cnd b y := fun b y e => by subst e; simp [V.isTup] at h

theorem op_box {t : TypeId} {x : Operand} {v : V} (ho : op.op = .box t x) (hx : ev σ x = some v) (hv : v.isTup = false) (hk : K (.ref σ.nx 0) (aset σ.tab σ.nx (.box v.cells)) (σ.nx + 1)) : OpS P WG op σ K := by
  intro C j a w hr
  obtain ⟨h1, h2⟩ := (hr.ev hx).cells (V.ne_tup hv) (V.ne_cnd hv)
  obtain ⟨j', hm, hj⟩ := newBox hr v.cells (a.eval x).cells t h1 h2
  refine ⟨_, _, .ref σ.nx 0, j', _, _, ?_, hm, .ref (Nat.lt_succ_self _) hj rfl, hk⟩
  unfold execOp; rw [ho]
  simp only [Instr.box, newVar, Sem.run_bind, run_newRow', Result.andThen_ok, Sem.run_pure]

theorem op_alloc {t : TypeId} {i : TI} (ho : op.op = .alloc t) (hi : tiOf P t = some i) (hk : K (.ref σ.nx 0) (aset σ.tab σ.nx (.box (i.zero.map fun z => .p (.v z)))) (σ.nx + 1)) : OpS P WG op σ K := by
  intro C j a w hr
  obtain ⟨info, d, z, ht⟩ := tiOf_some hi
  obtain ⟨j', hm, hj⟩ := newBox hr (i.zero.map fun z => .p (.v z)) i.zero.toArray t (by simp) (fun k c hc => by
    simp only [List.getElem?_map] at hc
    cases hz : i.zero[k]? with
    | none => simp [hz] at hc
    | some y =>
      simp [hz] at hc; subst hc
      refine ⟨rfl, .p ?_⟩
      have : i.zero.toArray.getD k undef = y := by
        obtain ⟨hlt, he⟩ := List.getElem?_eq_some_iff.1 hz
        simp [Array.getD, hlt, he]
      rw [this]
      exact .v (ht.zf y (List.mem_of_getElem? hz)))
  refine ⟨_, _, .ref σ.nx 0, j', _, _, ?_, hm, .ref (Nat.lt_succ_self _) hj rfl, hk⟩
  unfold execOp; rw [ho]
  simp only [Instr.alloc, newVar, Sem.run_bind, ht.run_zero, ht.zc, run_newRow', Result.andThen_ok, Sem.run_pure]

def allP : List V → Option (List PV)
  | [] => some []
  | .p x :: r => match allP r with | some l => some (x :: l) | none => none
  | _ :: _ => none
def mkAgg (cs : List V) : V := match allP cs with | some l => .p (.agg l) | none => .agg cs
theorem allP_some : ∀ {cs : List V} {l : List PV}, allP cs = some l → cs = l.map .p
  | [], l, h => by simp [allP] at h; subst h; rfl
  | .p x :: r, l, h => by
    simp only [allP] at h
    cases hr : allP r with
    | none => simp [hr] at h
    | some q => simp [hr] at h; subst h; simp [allP_some hr]
  | .ref .. :: _, l, h | .eref .. :: _, l, h | .osl .. :: _, l, h | .bsl .. :: _, l, h | .agg .. :: _, l, h | .tup .. :: _, l, h | .clo .. :: _, l, h | .ifc .. :: _, l, h | .mp .. :: _, l, h | .zc :: _, l, h | .cnd .. :: _, l, h => by simp [allP] at h
theorem VR.mkAgg {w : World} {ok : Nat → Prop} {j : Nat → Option Loc} {nx : Nat} {cs : List V} {ms : Array Value} (hs : ms.size = cs.length)
    (h : ∀ (i : Nat) c, cs[i]? = some c → c.one = true ∧ VR w ok j nx c (ms.getD i undef)) : VR w ok j nx (mkAgg cs) (.agg ms) := by
  unfold Gp.mkAgg
  split
  · rename_i l hl
    have := allP_some hl; subst this
    refine .p (.agg (by simpa using hs) (fun i c hi => ?_) (fun i c hi => ?_))
    · exact (h i (.p c) (by simp [hi])).1
    · have := (h i (.p c) (by simp [hi])).2
      cases this with
      | p h => exact h
  · exact .agg hs (fun i c hi => (h i c hi).1) (fun i c hi => (h i c hi).2)

def readV (i : TI) (cs : List V) (o : Nat) : V := if i.agg then Gp.mkAgg ((cs.drop o).take i.size) else cs.getD o (.p (.v .nilFunc))

theorem ev_ref {C : Ctx} {j : Nat → Option Loc} {a : Act} {w : World} (hr : ERel WG C j σ a w) {x : Operand} {b o : Nat} (h : ev σ x = some (.ref b o)) :
    ∃ l, b < σ.nx ∧ j b = some l ∧ a.eval x = .pointer (some ⟨l.blk, l.off + o, none⟩) := by
  have := hr.ev h
  generalize a.eval x = m at this ⊢
  cases this with
  | ref hb hl hq => subst hq; exact ⟨_, hb, hl, rfl⟩

theorem op_load_box {t : TypeId} {x : Operand} {i : TI} {b o : Nat} {cs : List V} (ho : op.op = .load t x) (hi : tiOf P t = some i) (hx : ev σ x = some (.ref b o)) (hb : aget σ.tab b = some (.box cs))
    (h1 : i.agg = true ∨ i.size = 1) (hlen : o + i.size ≤ cs.length) (hk : K (readV i cs o) σ.tab σ.nx) : OpS P WG op σ K := by
  refine .pure (fun C j a w hr => ?_) hk
  obtain ⟨info, d, z, ht⟩ := tiOf_some hi
  obtain ⟨l, hbx, hl, hx'⟩ := ev_ref hr hx
  obtain ⟨l', ms, e, fr, hl', hh, hfr, hs, hone, hrel⟩ := hr.mem.blk b _ hb
  obtain rfl : l' = l := by rw [hl] at hl'; exact (Option.some.inj hl').symm
  have hcell : ∀ k, k < i.size → w.cell? ⟨l'.blk, l'.off + o + k, none⟩ = some (ms.getD (l'.off + o + k) undef) := fun k hk => by
    rw [cell_row hh, Array.getElem?_eq_getElem (by omega)]
    simp [Array.getD, show l'.off + o + k < ms.size by omega]
  refine ⟨if i.agg then .agg ((List.range i.size).map fun k => ms.getD (l'.off + o + k) undef).toArray else ms.getD (l'.off + o + 0) undef, ?_, ?_⟩
  · unfold execOp; rw [ho]
    simp only [Instr.loadAt, Instr.sureAddr, hx', Sem.run_bind, Result.andThen_ok, Sem.run_pure]
    rw [run_loadVar_ti ht w l'.blk (l'.off + o) (fun k => ms.getD (l'.off + o + k) undef) hcell (fun e => h1.resolve_left (by simp [e]))]
    rfl
  · unfold readV
    split
    · refine VR.mkAgg (by simp; omega) (fun k c hc => ?_)
      have hk : k < i.size := by
        have := (List.getElem?_eq_some_iff.1 hc).1
        simp at this; omega
      rw [getD_range _ _ _ hk]
      have hc' : cs[o + k]? = some c := by
        rw [List.getElem?_take] at hc
        simpa [hk, List.getElem?_drop] using hc
      exact ⟨hone _ _ hc', by rw [Nat.add_assoc]; exact hrel _ _ hc'⟩
    · have hlt : o < cs.length := by
        rcases h1 with h | h
        · simp_all
        · omega
      have hc : cs[o]? = some (cs.getD o (.p (.v .nilFunc))) := by
        rw [List.getElem?_eq_getElem hlt]; simp [List.getD, hlt]
      exact hrel o _ hc

def putL : List V → Nat → List V → List V
  | cs, _, [] => cs
  | cs, o, v :: r => putL (cs.set o v) (o + 1) r
theorem putL_length (vs : List V) : ∀ (cs : List V) (o : Nat), (putL cs o vs).length = cs.length := by
  induction vs with
  | nil => intro cs o; rfl
  | cons v r ih => intro cs o; simp [putL, ih]
theorem putL_get (vs : List V) : ∀ (cs : List V) (o k : Nat), o + vs.length ≤ cs.length →
    (putL cs o vs)[k]? = if o ≤ k ∧ k < o + vs.length then vs[k - o]? else cs[k]? := by
  induction vs with
  | nil => intro cs o k h; rw [if_neg (by simp <;> omega)]; rfl
  | cons v r ih =>
    intro cs o k h
    simp only [List.length_cons] at h
    rw [putL, ih _ _ _ (by simp; omega), List.getElem?_set]
    by_cases h1 : o + 1 ≤ k ∧ k < o + 1 + r.length
    · rw [if_pos h1, if_pos (by simp; omega)]
      obtain ⟨q, hq⟩ : ∃ q, k - o = q + 1 := ⟨k - o - 1, by omega⟩
      rw [hq, List.getElem?_cons_succ]
      congr 1
      omega
    · rw [if_neg h1]
      by_cases h2 : o = k
      · subst h2; rw [if_pos rfl, if_pos (by omega), if_pos (by simp)]; simp
      · rw [if_neg h2, if_neg (by simp; omega)]

theorem op_store_box {K : Tab → Nat → Prop} {t : TypeId} {x y : Operand} {i : TI} {b o : Nat} {cs : List V} {v : V} (ho : op.op = .store t x y) (hi : tiOf P t = some i) (hx : ev σ x = some (.ref b o))
    (hy : ev σ y = some v) (hv : v.isTup = false) (hb : aget σ.tab b = some (.box cs)) (hn : v.cells.length = i.size) (hlen : o + i.size ≤ cs.length)
    (hk : K (aset σ.tab b (.box (putL cs o v.cells))) σ.nx) : OpK P WG op σ K := by
  intro C j a w hr
  obtain ⟨info, d, z, ht⟩ := tiOf_some hi
  obtain ⟨l, hbx, hl, hx'⟩ := ev_ref hr hx
  obtain ⟨l', ms, e, fr, hl', hh, hfr, hs, hone, hrel⟩ := hr.mem.blk b _ hb
  obtain rfl : l' = l := by rw [hl] at hl'; exact (Option.some.inj hl').symm
  obtain ⟨hvs, hvr⟩ := (hr.ev hy).cells (V.ne_tup hv) (V.ne_cnd hv)
  have hvone : ∀ m ∈ (a.eval y).cells.toList, m.oneCell' = true := by
    intro m hm
    obtain ⟨k, hk⟩ := List.mem_iff_getElem?.1 hm
    have hk' : k < (a.eval y).cells.size := by simpa using (List.getElem?_eq_some_iff.1 hk).1
    obtain ⟨c, hc⟩ : ∃ c, v.cells[k]? = some c := ⟨_, List.getElem?_eq_getElem (by omega)⟩
    obtain ⟨h1, h2⟩ := hvr k c hc
    have : (a.eval y).cells.getD k undef = m := by
      simp only [Array.getElem?_toList] at hk
      simp [Array.getD_eq_getD_getElem?, hk]
    rw [this] at h2
    exact h2.one h1
  obtain ⟨w', hrun, htu, hh'⟩ := run_storeCells_row (P := P) l'.blk (l'.off + o) e fr (a.eval y).cells.toList 0 ms w hh hfr (by simp [hvs]; omega) hvone
  have hblk : (∀ k, okc C (Own j σ.tab) w k → w'.heap[k]? = w.heap[k]?) → BlkR w' (okc C (Own j σ.tab) w) j σ.nx b (.box (putL cs o v.cells)) := by
    intro hok
    refine ⟨l', _, e, fr, hl, hh', ?_, ?_, ?_, ?_⟩
    · rw [updCells_size]; exact hfr
    · rw [updCells_size, putL_length]; exact hs
    · intro k c hc
      rw [putL_get _ _ _ _ (by omega)] at hc
      split at hc
      · exact (hvr _ _ hc).1
      · exact hone _ _ hc
    · intro k c hc
      rw [putL_get _ _ _ _ (by omega)] at hc
      rw [updCells_getD _ _ _ _ (by simp [hvs]; omega)]
      split at hc
      · rename_i hin
        rw [if_pos (by simp [hvs]; omega)]
        have e1 : l'.off + k - (l'.off + o + 0) = k - o := by omega
        rw [e1]
        have := (hvr _ _ hc).2
        have e2 : (a.eval y).cells.toList.getD (k - o) undef = (a.eval y).cells.getD (k - o) undef := by simp [Array.getD_eq_getD_getElem?, List.getD]
        rw [e2]
        exact this.mono (fun k hk => ⟨hk, hok k hk⟩) (fun b hb => ⟨rfl, hb⟩)
      · rename_i hout
        rw [if_neg (by simp [hvs]; omega)]
        exact (hrel _ _ hc).mono (fun k hk => ⟨hk, hok k hk⟩) (fun b hb => ⟨rfl, hb⟩)
  obtain ⟨hm, hkeep⟩ := hr.mem.turn hb hl _ htu.size htu.other htu.os htu.tape htu.output hblk
  refine ⟨w', j, _, _, ?_, ⟨hm, hr.lx, fun x m hv => hv.mono hkeep (fun b hb => ⟨rfl, hb⟩), hkeep⟩, hk⟩
  unfold execOp; rw [ho]
  have hsz : ¬ (a.eval y).cells.size ≠ i.size := by simp [hvs, hn]
  simp only [Instr.storeAt, Instr.sureAddr, hx', Sem.run_bind, Result.andThen_ok, Sem.run_pure, storeVar, ht.run_size]
  simp only [hvs, hn, ne_eq, not_true_eq_false, if_false, hrun, Result.andThen_ok]

end
end Go.Gp

namespace Go.Gp
open Go.RowKit
section
variable {P : Program} {WG : World} {σ : St} {op : Oper} {K : V → Tab → Nat → Prop}
def addrAdd : V → Nat → Option V
  | .ref b o, n => some (.ref b (o + n))
  | .eref b s i c, n => some (.eref b s i (c + n))
  | .p (.ptr x o), n => some (.p (.ptr x (o + n)))
  | _, _ => none

theorem VR.addrAdd {w : World} {ok : Nat → Prop} {j : Nat → Option Loc} {nx : Nat} {v v' : V} {m : Value} {n : Nat} (h : VR w ok j nx v m) (e : addrAdd v n = some v') :
    ∃ B q, m = .pointer (some ⟨B, q, none⟩) ∧ VR w ok j nx v' (.pointer (some ⟨B, q + n, none⟩)) := by
  cases h with
  | ref hb hl hq => simp only [Gp.addrAdd] at e; cases e; exact ⟨_, _, rfl, .ref hb hl (by omega)⟩
  | eref hb hl hq => simp only [Gp.addrAdd] at e; cases e; exact ⟨_, _, rfl, .eref hb hl (by omega)⟩
  | p hp =>
    cases hp with
    | ptr f hok hq hcell hone hrel => simp only [Gp.addrAdd] at e; cases e; exact ⟨_, _, rfl, .p (.ptr f hok (by omega) hcell hone hrel)⟩
    | _ => simp [Gp.addrAdd] at e
  | _ => simp [Gp.addrAdd] at e

theorem TIR.field {t : TypeId} {i : TI} {info : TypeInfo} {d : TypeDesc} {z : Value} (h : TIR P t i info d z) {fs : List (Nat × TypeId × Nat)} (hd : i.d = .struct fs) {f off ft sz : Nat} (hf : fs[f]? = some (off, ft, sz)) :
    ∃ fields fd fi, d = .struct fields ∧ fields[f]? = some fd ∧ fd.offset = off ∧ fd.type = ft ∧ P.info? ft = some fi ∧ fi.size = sz := by
  have htd := h.td; have hfo := h.fo
  rw [hd] at htd
  cases d <;> simp only [tdOf] at htd <;> try cases htd
  rename_i fields
  simp only [List.getElem?_map] at hf
  cases hq : fields.toList[f]? with
  | none => simp [hq] at hf
  | some fd =>
    simp [hq] at hf
    obtain ⟨h1, h2, h3⟩ := hf
    have hfo' := (Array.all_eq_true_iff_forall_mem.1 hfo) fd (by simpa using List.mem_of_getElem? hq)
    obtain ⟨fi, hfi⟩ := Option.isSome_iff_exists.1 hfo'
    rw [h2] at hfi
    refine ⟨fields, fd, fi, rfl, by simpa using hq, h1, h2, hfi, ?_⟩
    rw [← h3, h2]; simp [Program.cellsOf, hfi]

theorem op_fieldAddr {s : TypeId} {x : Operand} {f off ft sz : Nat} {fs : List (Nat × TypeId × Nat)} {i : TI} {v v' : V} (ho : op.op = .fieldAddr s x f) (hi : tiOf P s = some i) (hd : i.d = .struct fs)
    (hf : fs[f]? = some (off, ft, sz)) (hsz : sz ≠ 0) (hx : ev σ x = some v) (ha : addrAdd v off = some v') (hk : K v' σ.tab σ.nx) : OpS P WG op σ K := by
  refine .pure (fun C j a w hr => ?_) hk
  obtain ⟨info, d, z, ht⟩ := tiOf_some hi
  obtain ⟨fields, fd, fi, rfl, hfd, rfl, rfl, hfi, hfs⟩ := ht.field hd hf
  obtain ⟨B, q, hm, hv⟩ := (hr.ev hx).addrAdd ha
  refine ⟨_, ?_, hv⟩
  unfold execOp; rw [ho]
  have hsize : ∀ w, (sizeOf fd.type).run P w = .ok sz w := fun w => by simp [sizeOf, typeInfo, hfi, hfs]
  simp only [Instr.fieldAt, hm, Instr.sureAddr, Sem.run_bind, ht.run_und, Result.andThen_ok, hfd, Sem.run_pure, fieldPlace, hsize, if_neg hsz, addr_add]

theorem run_part {ft : TypeId} {i : TI} {info : TypeInfo} {d : TypeDesc} {z : Value} (ht : TIR P ft i info d z) (w : World) {ok : Nat → Prop} {j : Nat → Option Loc} {nx : Nat} {v : V} {ms : Array Value} {o : Nat}
    (hv : VR w ok j nx v (.agg ms)) (hvt : v.isTup = false) (h1 : i.agg = true ∨ i.size = 1) (hlen : o + i.size ≤ v.cells.length) :
    ∃ m, (part ft ms o).run P w = .ok m w ∧ VR w ok j nx (readV i v.cells o) m := by
  obtain ⟨hs, hrel⟩ := hv.cells (V.ne_tup hvt) (V.ne_cnd hvt)
  simp only [Value.cells] at hs hrel
  simp only [part, Sem.run_bind, ht.run_isAgg, Result.andThen_ok]
  by_cases hA : i.agg = true
  · simp only [hA, if_true, Sem.run_bind, ht.run_size, Result.andThen_ok, Sem.run_pure]
    refine ⟨_, rfl, ?_⟩
    unfold readV; rw [if_pos hA]
    refine VR.mkAgg (by simp; omega) (fun k c hc => ?_)
    have hk : k < i.size := by have := (List.getElem?_eq_some_iff.1 hc).1; simp at this; omega
    have hc' : v.cells[o + k]? = some c := by
      rw [List.getElem?_take] at hc
      simpa [hk, List.getElem?_drop] using hc
    have := hrel _ _ hc'
    refine ⟨this.1, ?_⟩
    have e : (ms.extract o (o + i.size)).getD k undef = ms.getD (o + k) undef := by
      simp only [Array.getD_eq_getD_getElem?]
      rw [Array.getElem?_extract]
      simp [show k < min (o + i.size) ms.size - o by omega]
    rw [e]; exact this.2
  · have h1' := h1.resolve_left hA
    have hlt : o < ms.size := by omega
    rw [if_neg hA]
    simp only [Array.getElem?_eq_getElem hlt, Sem.run_pure]
    refine ⟨_, rfl, ?_⟩
    unfold readV; rw [if_neg hA]
    have hc : v.cells[o]? = some (v.cells.getD o (.p (.v .nilFunc))) := by
      rw [List.getElem?_eq_getElem (by omega)]; simp [List.getD, show o < v.cells.length by omega]
    have := (hrel _ _ hc).2
    simpa [Array.getD, hlt] using this

def V.isAgg : V → Bool
  | .agg _ | .p (.agg _) => true
  | _ => false
theorem V.isAgg_tup {v : V} (h : v.isAgg = true) : v.isTup = false := by cases v <;> first | rfl | simp [V.isAgg] at h
theorem VR.isAgg {w : World} {ok : Nat → Prop} {j : Nat → Option Loc} {nx : Nat} {v : V} {m : Value} (h : VR w ok j nx v m) (e : v.isAgg = true) : ∃ ms, m = .agg ms := by
  cases h with
  | agg => exact ⟨_, rfl⟩
  | p hp => cases hp <;> first | exact ⟨_, rfl⟩ | simp [V.isAgg] at e
  | _ => simp [V.isAgg] at e

theorem op_field {s : TypeId} {x : Operand} {f off ft sz : Nat} {fs : List (Nat × TypeId × Nat)} {i fi : TI} {v : V} (ho : op.op = .field s x f) (hi : tiOf P s = some i) (hd : i.d = .struct fs)
    (hf : fs[f]? = some (off, ft, sz)) (hfi : tiOf P ft = some fi) (h1 : fi.agg = true ∨ fi.size = 1) (hx : ev σ x = some v) (hv : v.isAgg = true) (hlen : off + fi.size ≤ v.cells.length)
    (hk : K (readV fi v.cells off) σ.tab σ.nx) : OpS P WG op σ K := by
  refine .pure (fun C j a w hr => ?_) hk
  obtain ⟨info, d, z, ht⟩ := tiOf_some hi
  obtain ⟨info', d', z', ht'⟩ := tiOf_some hfi
  obtain ⟨fields, fd, fi', rfl, hfd, rfl, rfl, hfi', hfs⟩ := ht.field hd hf
  have hvr := hr.ev hx
  obtain ⟨ms, hms⟩ := hvr.isAgg hv
  rw [hms] at hvr
  obtain ⟨m, hrun, hm⟩ := run_part ht' w hvr (V.isAgg_tup hv) h1 hlen
  refine ⟨m, ?_, hm⟩
  unfold execOp; rw [ho]
  simp only [Instr.field, hms, asAgg, Sem.run_bind, ht.run_und, Result.andThen_ok, hfd, Sem.run_pure, hrun]

theorem ev_int {C : Ctx} {j : Nat → Option Loc} {a : Act} {w : World} (hr : ERel WG C j σ a w) {x : Operand} {k : IntKind} {n : Int} (h : ev σ x = some (.p (.v (.int k n)))) : a.eval x = .int k n := by
  have := hr.ev h
  generalize a.eval x = m at this ⊢
  cases this with
  | p hp => cases hp; rfl
theorem ev_flat {C : Ctx} {j : Nat → Option Loc} {a : Act} {w : World} (hr : ERel WG C j σ a w) {x : Operand} {y : Value} (h : ev σ x = some (.p (.v y))) : a.eval x = y := by
  have := hr.ev h
  generalize a.eval x = m at this ⊢
  cases this with
  | p hp => cases hp; rfl

theorem op_index_arr {t : TypeId} {x ix : Operand} {i ei : TI} {n e : Nat} {v : V} {k : IntKind} {q : Int} (ho : op.op = .index t x ix) (hi : tiOf P t = some i) (hd : i.d = .array n e) (hei : tiOf P e = some ei)
    (h1 : ei.agg = true ∨ ei.size = 1) (hx : ev σ x = some v) (hv : v.isAgg = true) (hix : ev σ ix = some (.p (.v (.int k q)))) (h0 : 0 ≤ q) (hq : q < (n : Int)) (hlen : q.toNat * ei.size + ei.size ≤ v.cells.length)
    (hk : K (readV ei v.cells (q.toNat * ei.size)) σ.tab σ.nx) : OpS P WG op σ K := by
  refine .pure (fun C j a w hr => ?_) hk
  obtain ⟨info, d, z, ht⟩ := tiOf_some hi
  obtain ⟨info', d', z', ht'⟩ := tiOf_some hei
  have htd := ht.td; rw [hd] at htd
  cases d <;> simp only [tdOf] at htd <;> try cases htd
  have hvr := hr.ev hx
  obtain ⟨ms, hms⟩ := hvr.isAgg hv
  rw [hms] at hvr
  obtain ⟨m, hrun, hm⟩ := run_part ht' w hvr (V.isAgg_tup hv) h1 hlen
  refine ⟨m, ?_, hm⟩
  unfold execOp; rw [ho]
  simp only [Instr.index, hms, ev_int hr hix, asIntOf, Sem.run_bind, ht.run_und, ht'.run_size, Result.andThen_ok, Sem.run_pure, h0, hq, and_self, if_true, hrun]

def bAt (s : ByteArray) (k : Nat) : UInt8 := s.data.toList.getD k 0
theorem bAt_get {s : ByteArray} {k : Nat} (h : k < s.size) : s[k]? = some (bAt s k) := by
  unfold bAt
  have h' : k < s.data.size := h
  show s.data[k]? = _
  rw [Array.getElem?_eq_getElem h']
  simp [List.getD, Array.getElem?_eq_getElem h']

theorem op_index_str {t : TypeId} {x ix : Operand} {i : TI} {s : ByteArray} {k : IntKind} {q : Int} (ho : op.op = .index t x ix) (hi : tiOf P t = some i) (hd : i.d = .str)
    (hx : ev σ x = some (.p (.v (.string s)))) (hix : ev σ ix = some (.p (.v (.int k q)))) (h0 : 0 ≤ q) (hq : q < (s.size : Int))
    (hk : K (.p (.v (.int .u8 ((bAt s q.toNat).toNat)))) σ.tab σ.nx) : OpS P WG op σ K := by
  refine .pure (fun C j a w hr => ?_) hk
  obtain ⟨info, d, z, ht⟩ := tiOf_some hi
  have htd := ht.td; rw [hd] at htd
  cases d <;> simp only [tdOf] at htd <;> try cases htd
  refine ⟨_, ?_, .p (.v rfl)⟩
  unfold execOp; rw [ho]
  simp only [Instr.index, ev_flat hr hx, ev_int hr hix, asIntOf, Sem.run_bind, ht.run_und, Result.andThen_ok, Sem.run_pure, h0, if_true, bAt_get (show q.toNat < s.size by omega)]

theorem op_indexAddr_arr {t : TypeId} {x ix : Operand} {i ei : TI} {n e : Nat} {v v' : V} {k : IntKind} {q : Int} (ho : op.op = .indexAddr t x ix) (hi : tiOf P t = some i) (hd : i.d = .array n e) (hei : tiOf P e = some ei)
    (hx : ev σ x = some v) (hix : ev σ ix = some (.p (.v (.int k q)))) (h0 : 0 ≤ q) (hq : q < (n : Int)) (ha : addrAdd v (q.toNat * ei.size) = some v') (hk : K v' σ.tab σ.nx) : OpS P WG op σ K := by
  refine .pure (fun C j a w hr => ?_) hk
  obtain ⟨info, d, z, ht⟩ := tiOf_some hi
  obtain ⟨info', d', z', ht'⟩ := tiOf_some hei
  have htd := ht.td; rw [hd] at htd
  cases d <;> simp only [tdOf] at htd <;> try cases htd
  obtain ⟨B, r, hm, hv⟩ := (hr.ev hx).addrAdd ha
  refine ⟨_, ?_, hv⟩
  unfold execOp; rw [ho]
  simp only [Instr.indexAt, hm, ev_int hr hix, asIntOf, Instr.sureAddr, Sem.run_bind, ht.run_und, ht'.run_size, Result.andThen_ok, Sem.run_pure, h0, hq, and_self, if_true, addr_add]

theorem op_indexAddr_sl {t : TypeId} {x ix : Operand} {i ei : TI} {e s : Nat} {xs : List PV} {y : PV} {k : IntKind} {q : Int} (ho : op.op = .indexAddr t x ix) (hi : tiOf P t = some i) (hd : i.d = .slice e) (hei : tiOf P e = some ei)
    (hx : ev σ x = some (.p (.sl s xs))) (hix : ev σ ix = some (.p (.v (.int k q)))) (h0 : 0 ≤ q) (hy : xs[q.toNat]? = some y) (hs : ei.size = s) (hk : K (.p (.ptr y 0)) σ.tab σ.nx) : OpS P WG op σ K := by
  refine .pure (fun C j a w hr => ?_) hk
  obtain ⟨info, d, z, ht⟩ := tiOf_some hi
  obtain ⟨info', d', z', ht'⟩ := tiOf_some hei
  have htd := ht.td; rw [hd] at htd
  cases d <;> simp only [tdOf] at htd <;> try cases htd
  have hlt := (List.getElem?_eq_some_iff.1 hy).1
  have hv := hr.ev hx
  generalize hm : a.eval x = m at hv
  cases hv with
  | p hp =>
    cases hp with
    | nil => simp at hlt
    | @sl s xs B o c n f hn hok hc hcell hlen hone hrel =>
      have hql : q < (n : Int) := by omega
      refine ⟨.pointer (some ⟨B, o + q.toNat * s, none⟩), ?_, .p (.ptr (a := o + q.toNat * s) (fun k => f (q.toNat * s + k)) hok (by omega) (fun k hk => ?_) (fun k c hc => hone _ _ _ _ hy hc) (fun k c hc => hrel _ _ _ _ hy hc))⟩
      · unfold execOp; rw [ho]
        simp only [Instr.indexAt, hm, ev_int hr hix, asIntOf, Sem.run_bind, ht.run_und, ht'.run_size, Result.andThen_ok, Sem.run_pure, h0, hql, and_self, if_true, addr_add, hs]
      · rw [hlen _ _ hy] at hk
        have hb : q.toNat * s + k < n * s := by
          have : (q.toNat + 1) * s ≤ n * s := Nat.mul_le_mul_right s (by omega)
          rw [Nat.succ_mul] at this; omega
        have := hcell _ hb
        rwa [← Nat.add_assoc] at this

theorem op_indexAddr_osl {t : TypeId} {x ix : Operand} {i ei : TI} {e s b lo len : Nat} {cap : Option Nat} {k : IntKind} {q : Int} (ho : op.op = .indexAddr t x ix) (hi : tiOf P t = some i) (hd : i.d = .slice e) (hei : tiOf P e = some ei)
    (hx : ev σ x = some (.osl b s lo len cap)) (hix : ev σ ix = some (.p (.v (.int k q)))) (h0 : 0 ≤ q) (hq : q < (len : Int)) (hs : ei.size = s) (hk : K (.eref b s (lo + q.toNat) 0) σ.tab σ.nx) : OpS P WG op σ K := by
  refine .pure (fun C j a w hr => ?_) hk
  obtain ⟨info, d, z, ht⟩ := tiOf_some hi
  obtain ⟨info', d', z', ht'⟩ := tiOf_some hei
  have htd := ht.td; rw [hd] at htd
  cases d <;> simp only [tdOf] at htd <;> try cases htd
  have hv := hr.ev hx
  generalize hm : a.eval x = m at hv
  cases hv with
  | oslNil => omega
  | oslEnd => omega
  | @osl b s lo len cap l c p hb hl hp hlen hc hsm hn =>
    refine ⟨.pointer (some ⟨l.blk, p + q.toNat * s, none⟩), ?_, .eref hb hl (by rw [hp, Nat.add_mul]; omega)⟩
    unfold execOp; rw [ho]
    simp only [Instr.indexAt, hm, ev_int hr hix, asIntOf, Sem.run_bind, ht.run_und, ht'.run_size, Result.andThen_ok, Sem.run_pure, h0, hq, and_self, if_true, addr_add, hs]

theorem op_indexAddr_bsl {t : TypeId} {x ix : Operand} {i ei : TI} {e s b o len cap : Nat} {k : IntKind} {q : Int} (ho : op.op = .indexAddr t x ix) (hi : tiOf P t = some i) (hd : i.d = .slice e) (hei : tiOf P e = some ei)
    (hx : ev σ x = some (.bsl b o s len cap)) (hix : ev σ ix = some (.p (.v (.int k q)))) (h0 : 0 ≤ q) (hq : q < (len : Int)) (hs : ei.size = s) (hk : K (.ref b (o + q.toNat * s)) σ.tab σ.nx) : OpS P WG op σ K := by
  refine .pure (fun C j a w hr => ?_) hk
  obtain ⟨info, d, z, ht⟩ := tiOf_some hi
  obtain ⟨info', d', z', ht'⟩ := tiOf_some hei
  have htd := ht.td; rw [hd] at htd
  cases d <;> simp only [tdOf] at htd <;> try cases htd
  have hv := hr.ev hx
  generalize hm : a.eval x = m at hv
  cases hv with
  | bslEnd => omega
  | @bsl b o s len cap l p hb hl hp hlen =>
    refine ⟨.pointer (some ⟨l.blk, p + q.toNat * s, none⟩), ?_, .ref hb hl (by omega)⟩
    unfold execOp; rw [ho]
    simp only [Instr.indexAt, hm, ev_int hr hix, asIntOf, Sem.run_bind, ht.run_und, ht'.run_size, Result.andThen_ok, Sem.run_pure, h0, hq, and_self, if_true, addr_add, hs]

def readX (i : TI) (x : PV) (o : Nat) : V := if o = 0 ∧ x.cells.length = i.size ∧ x.one = !i.agg then .p x else readV i (x.cells.map .p) o

theorem PR.of_cells {w : World} {ok : Nat → Prop} {x : PV} {f : Nat → Value} (hone : ∀ (i : Nat) c, x.cells[i]? = some c → c.one = true) (hrel : ∀ (i : Nat) c, x.cells[i]? = some c → PR w ok c (f i)) :
    PR w ok x (if x.one then f 0 else .agg ((List.range x.cells.length).map f).toArray) := by
  cases x with
  | agg cs =>
    simp only [PV.one, Bool.false_eq_true, if_false]
    refine .agg (by simp [PV.cells]) hone (fun i c hi => ?_)
    rw [getD_range _ _ _ (by simpa [PV.cells] using (List.getElem?_eq_some_iff.1 hi).1)]
    exact hrel i c hi
  | _ => exact hrel 0 _ rfl

theorem op_load_ptr {t : TypeId} {x : Operand} {i : TI} {y : PV} {o : Nat} (ho : op.op = .load t x) (hi : tiOf P t = some i) (hx : ev σ x = some (.p (.ptr y o)))
    (h1 : i.agg = true ∨ i.size = 1) (hlen : o + i.size ≤ y.cells.length) (hk : K (readX i y o) σ.tab σ.nx) : OpS P WG op σ K := by
  refine .pure (fun C j a w hr => ?_) hk
  obtain ⟨info, d, z, ht⟩ := tiOf_some hi
  have hv := hr.ev hx
  generalize hm : a.eval x = m at hv
  cases hv with
  | p hp =>
    cases hp with
    | @ptr y B b o q f hok hq hcell hone hrel =>
      subst hq
      have hload := run_loadVar_ti ht w B (b + o) (fun k => f (o + k)) (fun k hk => by rw [Nat.add_assoc]; exact hcell _ (by omega)) (fun e => h1.resolve_left (by simp [e]))
      refine ⟨if i.agg then .agg ((List.range i.size).map fun k => f (o + k)).toArray else f (o + 0), ?_, ?_⟩
      · unfold execOp; rw [ho]
        simp only [Instr.loadAt, Instr.sureAddr, hm, Sem.run_bind, Result.andThen_ok, Sem.run_pure, hload]
      · unfold readX
        split
        · rename_i hc
          obtain ⟨rfl, hc1, hc2⟩ := hc
          have := PR.of_cells hone hrel
          rw [hc2] at this
          cases hA : i.agg
          · simp [hA] at this ⊢; exact .p this
          · simp [hA, hc1] at this ⊢; exact .p this
        · unfold readV
          split
          · refine VR.mkAgg (by simp; omega) (fun k c hc => ?_)
            have hk : k < i.size := by have := (List.getElem?_eq_some_iff.1 hc).1; simp at this; omega
            rw [getD_range _ _ _ hk]
            rw [List.getElem?_take] at hc
            simp only [hk, if_true, List.getElem?_drop, List.getElem?_map] at hc
            cases hq : y.cells[o + k]? with
            | none => simp [hq] at hc
            | some c' => simp [hq] at hc; subst hc; exact ⟨hone _ _ hq, .p (hrel _ _ hq)⟩
          · rename_i hA
            have h1' := h1.resolve_left hA
            have hlt : o < y.cells.length := by omega
            simp only [List.getD, List.getElem?_map, List.getElem?_eq_getElem hlt, Option.map_some, Option.getD_some]
            exact .p (hrel _ _ (List.getElem?_eq_getElem hlt))

theorem op_load_eref {t : TypeId} {x : Operand} {i : TI} {b s k c : Nat} {xs : List PV} {gr : Bool} {y : PV} (ho : op.op = .load t x) (hi : tiOf P t = some i) (hx : ev σ x = some (.eref b s k c))
    (hb : aget σ.tab b = some (.arr s xs gr)) (hy : xs[k]? = some y) (h1 : i.agg = true ∨ i.size = 1) (hlen : c + i.size ≤ s) (hk : K (readX i y c) σ.tab σ.nx) : OpS P WG op σ K := by
  refine .pure (fun C j a w hr => ?_) hk
  obtain ⟨info, d, z, ht⟩ := tiOf_some hi
  have hv := hr.ev hx
  generalize hm : a.eval x = m at hv
  cases hv with
  | @eref b s k c l q hbn hl hq =>
    subst hq
    rcases hr.mem.blk b _ hb with ⟨hl', _⟩ | ⟨l', ms, e, fr, hl', hh, hfr, hs, hlen', hg, h0, hone, hrel⟩
    · rw [hl] at hl'; cases hl'
    obtain rfl : l' = l := by rw [hl] at hl'; exact (Option.some.inj hl').symm
    have hklt := (List.getElem?_eq_some_iff.1 hy).1
    have hys := h0 k y hy
    have hbound : k * s + s ≤ l'.cap * s := by rw [← Nat.succ_mul]; exact Nat.mul_le_mul_right s (by omega)
    have hload := run_loadVar_ti ht w l'.blk (l'.off + (k * s + c)) (fun n => ms.getD (l'.off + (k * s + (c + n))) undef) (fun n hn => by
      rw [cell_row hh, Array.getElem?_eq_getElem (by omega)]
      have e : l'.off + (k * s + c) + n = l'.off + (k * s + (c + n)) := by omega
      simp [Array.getD, e, show l'.off + (k * s + (c + n)) < ms.size by omega]) (fun e => h1.resolve_left (by simp [e]))
    refine ⟨if i.agg then .agg ((List.range i.size).map fun n => ms.getD (l'.off + (k * s + (c + n))) undef).toArray else ms.getD (l'.off + (k * s + (c + 0))) undef, ?_, ?_⟩
    · unfold execOp; rw [ho]
      simp only [Instr.loadAt, Instr.sureAddr, hm, Sem.run_bind, Result.andThen_ok, Sem.run_pure, hload]
    · have hone' : ∀ (i : Nat) c, y.cells[i]? = some c → c.one = true := fun i c hc => hone k i y c hy hc
      have hrel' : ∀ (i : Nat) c, y.cells[i]? = some c → PR w (okc C (Own j σ.tab) w) c (ms.getD (l'.off + (k * s + i)) undef) := fun i c hc => hrel k i y c hy hc
      unfold readX
      split
      · rename_i hc
        obtain ⟨rfl, hc1, hc2⟩ := hc
        have := PR.of_cells hone' hrel'
        rw [hc2] at this
        cases hA : i.agg
        · simp [hA] at this ⊢; exact .p this
        · simp [hA, hc1] at this ⊢; exact .p this
      · unfold readV
        split
        · refine VR.mkAgg (by simp; omega) (fun n c' hc => ?_)
          have hn : n < i.size := by have := (List.getElem?_eq_some_iff.1 hc).1; simp at this; omega
          rw [getD_range _ _ _ hn]
          rw [List.getElem?_take] at hc
          simp only [hn, if_true, List.getElem?_drop, List.getElem?_map] at hc
          cases hq : y.cells[c + n]? with
          | none => simp [hq] at hc
          | some c'' => simp [hq] at hc; subst hc; exact ⟨hone' _ _ hq, .p (hrel' _ _ hq)⟩
        · rename_i hA
          have h1' := h1.resolve_left hA
          have hlt : c < y.cells.length := by omega
          simp only [List.getD, List.getElem?_map, List.getElem?_eq_getElem hlt, Option.map_some, Option.getD_some]
          exact .p (hrel' _ _ (List.getElem?_eq_getElem hlt))


def putP : List PV → Nat → List PV → List PV
  | cs, _, [] => cs
  | cs, o, v :: r => putP (cs.set o v) (o + 1) r
theorem putP_length (vs : List PV) : ∀ (cs : List PV) (o : Nat), (putP cs o vs).length = cs.length := by
  induction vs with
  | nil => intro cs o; rfl
  | cons v r ih => intro cs o; simp [putP, ih]
theorem putP_get (vs : List PV) : ∀ (cs : List PV) (o k : Nat), o + vs.length ≤ cs.length →
    (putP cs o vs)[k]? = if o ≤ k ∧ k < o + vs.length then vs[k - o]? else cs[k]? := by
  induction vs with
  | nil => intro cs o k h; rw [if_neg (by simp <;> omega)]; rfl
  | cons v r ih =>
    intro cs o k h
    simp only [List.length_cons] at h
    simp only [putP]
    rw [ih _ _ _ (by simp; omega), List.getElem?_set]
    by_cases h1 : o + 1 ≤ k ∧ k < o + 1 + r.length
    · rw [if_pos h1, if_pos (by simp; omega)]
      have : k - o = (k - (o + 1)) + 1 := by omega
      rw [this, List.getElem?_cons_succ]
    · rw [if_neg h1]
      by_cases h2 : o = k
      · subst h2; rw [if_pos rfl, if_pos (by omega), if_pos (by simp)]; simp
      · rw [if_neg h2, if_neg (by simp; omega)]
def setE (e : PV) (c : Nat) (ps : List PV) : PV :=
  match e with
  | .agg cs => .agg (putP cs c ps)
  | x => ps.headD x
theorem cells_one {y : PV} (h : y.one = true) : y.cells = [y] := by cases y <;> first | rfl | cases h
theorem setE_cells {e : PV} {c : Nat} {ps : List PV} (h : c + ps.length ≤ e.cells.length) (hp : ∀ y ∈ ps, y.one = true) : (setE e c ps).cells = putP e.cells c ps := by
  unfold setE
  split
  · rfl
  · rename_i hne
    have he : e.cells = [e] := by
      cases e <;> first | rfl | exact absurd rfl (hne _)
    rw [he] at h ⊢
    simp only [List.length_singleton] at h
    match ps, h, hp with
    | [], _, _ => simp [putP, he]
    | [y], h, hp =>
      have : c = 0 := by simp at h; exact h
      subst this
      simp [putP, cells_one (hp y (by simp))]
    | _ :: _ :: _, h, _ => simp at h; omega

theorem op_store_eref {K : Tab → Nat → Prop} {t : TypeId} {x y : Operand} {i : TI} {b s k c : Nat} {xs : List PV} {gr : Bool} {z : PV} {v : V} {ps : List PV} (ho : op.op = .store t x y) (hi : tiOf P t = some i) (hx : ev σ x = some (.eref b s k c))
    (hy : ev σ y = some v) (hv : v.isTup = false) (hps : v.cells = ps.map V.p) (hb : aget σ.tab b = some (.arr s xs gr)) (hz : xs[k]? = some z) (hn : ps.length = i.size) (hlen : c + i.size ≤ s)
    (hk : K (aset σ.tab b (.arr s (xs.set k (setE z c ps)) gr)) σ.nx) : OpK P WG op σ K := by
  intro C j a w hr
  obtain ⟨info, d, zz, ht⟩ := tiOf_some hi
  have hvx := hr.ev hx
  obtain ⟨l, hbx, hl, hx'⟩ : ∃ l, b < σ.nx ∧ j b = some l ∧ a.eval x = .pointer (some ⟨l.blk, l.off + (k * s + c), none⟩) := by
    generalize a.eval x = m at hvx ⊢
    cases hvx with
    | eref hb hl hq => subst hq; exact ⟨_, hb, hl, rfl⟩
  rcases hr.mem.blk b _ hb with ⟨hl', _⟩ | ⟨l', ms, e, fr, hl', hh, hfr, hs, hlen', hg, h0, hone, hrel⟩
  · rw [hl] at hl'; cases hl'
  obtain rfl : l' = l := by rw [hl] at hl'; exact (Option.some.inj hl').symm
  have hklt := (List.getElem?_eq_some_iff.1 hz).1
  have hzs := h0 k z hz
  have hbound : k * s + s ≤ l'.cap * s := by rw [← Nat.succ_mul]; exact Nat.mul_le_mul_right s (by omega)
  obtain ⟨hvs, hvr⟩ := (hr.ev hy).cells (V.ne_tup hv) (V.ne_cnd hv)
  have hvl : v.cells.length = ps.length := by rw [hps]; simp
  have hpone : ∀ q ∈ ps, q.one = true := by
    intro q hq
    obtain ⟨n, hn⟩ := List.mem_iff_getElem?.1 hq
    exact (hvr n (.p q) (by rw [hps]; simp [hn])).1
  have hvone : ∀ m ∈ (a.eval y).cells.toList, m.oneCell' = true := by
    intro m hm
    obtain ⟨n, hn⟩ := List.mem_iff_getElem?.1 hm
    have hn' : n < (a.eval y).cells.size := by simpa using (List.getElem?_eq_some_iff.1 hn).1
    obtain ⟨q, hq⟩ : ∃ q, v.cells[n]? = some q := ⟨_, List.getElem?_eq_getElem (by omega)⟩
    obtain ⟨h1, h2⟩ := hvr n q hq
    have : (a.eval y).cells.getD n undef = m := by
      simp only [Array.getElem?_toList] at hn
      simp [Array.getD_eq_getD_getElem?, hn]
    rw [this] at h2
    exact h2.one h1
  have hcells := setE_cells (e := z) (c := c) (ps := ps) (by omega) hpone
  obtain ⟨w', hrun, htu, hh'⟩ := run_storeCells_row (P := P) l'.blk (l'.off + (k * s + c)) e fr (a.eval y).cells.toList 0 ms w hh hfr (by simp [hvs]; omega) hvone
  have hblk : (∀ k, okc C (Own j σ.tab) w k → w'.heap[k]? = w.heap[k]?) → BlkR w' (okc C (Own j σ.tab) w) j σ.nx b (.arr s (xs.set k (setE z c ps)) gr) := by
    intro hok
    have elem : ∀ (n : Nat) q, (xs.set k (setE z c ps))[n]? = some q → (n = k ∧ q = setE z c ps) ∨ (n ≠ k ∧ xs[n]? = some q) := by
      intro n q hq
      rw [List.getElem?_set] at hq
      by_cases e : k = n
      · rw [if_pos e, if_pos hklt] at hq
        cases hq; exact .inl ⟨e.symm, rfl⟩
      · rw [if_neg e] at hq; exact .inr ⟨fun h => e h.symm, hq⟩
    refine .inr ⟨l', _, e, fr, hl, hh', ?_, ?_, by simpa using hlen', fun h => by simpa using hg h, ?_, ?_, ?_⟩
    · rw [updCells_size]; exact hfr
    · rw [updCells_size]; exact hs
    · intro n q hq
      rcases elem n q hq with ⟨rfl, rfl⟩ | ⟨_, hq⟩
      · rw [hcells, putP_length]; exact hzs
      · exact h0 n q hq
    · intro n m q r hq hr'
      rcases elem n q hq with ⟨rfl, rfl⟩ | ⟨_, hq⟩
      · rw [hcells, putP_get _ _ _ _ (by omega)] at hr'
        split at hr'
        · exact hpone _ (List.mem_of_getElem? hr')
        · exact hone _ _ _ _ hz hr'
      · exact hone n m q r hq hr'
    · intro n m q r hq hr'
      rw [updCells_getD _ _ _ _ (by simp [hvs]; omega)]
      rcases elem n q hq with ⟨rfl, rfl⟩ | ⟨hne, hq⟩
      · rw [hcells, putP_get _ _ _ _ (by omega)] at hr'
        split at hr'
        · rename_i hin
          rw [if_pos (by simp [hvs]; omega)]
          have e1 : l'.off + (n * s + m) - (l'.off + (n * s + c) + 0) = m - c := by omega
          rw [e1]
          have := (hvr (m - c) (.p r) (by rw [hps]; simp [hr'])).2
          have e2 : (a.eval y).cells.toList.getD (m - c) undef = (a.eval y).cells.getD (m - c) undef := by simp [Array.getD_eq_getD_getElem?, List.getD]
          rw [e2]
          cases this with
          | p h => exact h.mono (fun k hk => ⟨hk, hok k hk⟩)
        · rename_i hout
          rw [if_neg (by simp [hvs]; omega)]
          exact (hrel _ _ _ _ hz hr').mono (fun k hk => ⟨hk, hok k hk⟩)
      · have hms : m < s := by
          have := (List.getElem?_eq_some_iff.1 hr').1
          rw [h0 n q hq] at this; exact this
        have hfar : n * s + m < k * s + c ∨ k * s + c + ps.length ≤ n * s + m := by
          rcases Nat.lt_or_gt_of_ne hne with h | h
          · left
            have : n * s + s ≤ k * s := by rw [← Nat.succ_mul]; exact Nat.mul_le_mul_right s h
            omega
          · right
            have : k * s + s ≤ n * s := by rw [← Nat.succ_mul]; exact Nat.mul_le_mul_right s h
            omega
        rw [if_neg (by simp [hvs]; omega)]
        exact (hrel n m q r hq hr').mono (fun k hk => ⟨hk, hok k hk⟩)
  obtain ⟨hm, hkeep⟩ := hr.mem.turn hb hl _ htu.size htu.other htu.os htu.tape htu.output hblk
  refine ⟨w', j, _, _, ?_, ⟨hm, hr.lx, fun x m hv => hv.mono hkeep (fun b hb => ⟨rfl, hb⟩), hkeep⟩, hk⟩
  unfold execOp; rw [ho]
  have hsz : ¬ (a.eval y).cells.size ≠ i.size := by simp [hvs, hvl, hn]
  simp only [Instr.storeAt, Instr.sureAddr, hx', Sem.run_bind, Result.andThen_ok, Sem.run_pure, storeVar, ht.run_size]
  simp only [hvs, hvl, hn, ne_eq, not_true_eq_false, if_false, hrun, Result.andThen_ok]

end
end Go.Gp

namespace Go.Gp
open Go.RowKit
section
variable {P : Program} {WG : World} {σ : St} {op : Oper} {K : V → Tab → Nat → Prop}
theorem op_extract {x : Operand} {k : Nat} {vs : List V} {v : V} (ho : op.op = .extract x k) (hx : ev σ x = some (.tup vs)) (hv : vs[k]? = some v) (hk : K v σ.tab σ.nx) : OpS P WG op σ K := by
  refine .pure (fun C j a w hr => ?_) hk
  have hvr := hr.ev hx
  generalize hm : a.eval x = m at hvr
  cases hvr with
  | @tup vs ms hlen hrel =>
    have hlt : k < ms.size := by rw [hlen]; exact (List.getElem?_eq_some_iff.1 hv).1
    refine ⟨ms.getD k undef, ?_, hrel k v hv⟩
    unfold execOp; rw [ho]
    simp only [Instr.extract, hm, Array.getElem?_eq_getElem hlt, Sem.run_bind, Sem.run_pure, Result.andThen_ok]
    simp [Array.getD, hlt]

theorem op_makeInterface {t : TypeId} {x : Operand} {i : TI} {v : V} (ho : op.op = .makeInterface t x) (hi : tiOf P t = some i) (hd : i.d ≠ .iface) (hx : ev σ x = some v) (hk : K (.ifc t v) σ.tab σ.nx) : OpS P WG op σ K := by
  refine .pure (fun C j a w hr => ?_) hk
  obtain ⟨info, d, z, ht⟩ := tiOf_some hi
  refine ⟨.iface t (a.eval x), ?_, .ifc (hr.ev hx)⟩
  unfold execOp; rw [ho]
  have htd := ht.td
  simp only [Instr.makeInterface, Sem.run_bind, ht.run_und, Result.andThen_ok]
  cases d <;> first | rfl | (simp only [tdOf] at htd; exact absurd htd.symm hd)

def evs (σ : St) : List Operand → Option (List V)
  | [] => some []
  | x :: r => match ev σ x, evs σ r with
    | some v, some l => some (v :: l)
    | _, _ => none
theorem ERel.evs {C : Ctx} {j : Nat → Option Loc} {a : Act} {w : World} (hr : ERel WG C j σ a w) : ∀ {xs : List Operand} {vs : List V}, evs σ xs = some vs →
    vs.length = xs.length ∧ ∀ (i : Nat) v, vs[i]? = some v → ∃ x, xs[i]? = some x ∧ VR w (okc C (Own j σ.tab) w) j σ.nx v (a.eval x)
  | [], vs, h => by simp [Gp.evs] at h; subst h; simp
  | x :: r, vs, h => by
    simp only [Gp.evs] at h
    split at h
    · rename_i v l hv hl
      cases h
      obtain ⟨h1, h2⟩ := hr.evs hl
      refine ⟨by simp [h1], fun i u hu => ?_⟩
      rcases i with _ | i
      · simp at hu; subst hu; exact ⟨x, rfl, hr.ev hv⟩
      · simp at hu; simpa using h2 i u hu
    · cases h
theorem ERel.evsA {C : Ctx} {j : Nat → Option Loc} {a : Act} {w : World} (hr : ERel WG C j σ a w) {xs : Array Operand} {vs : List V} (h : Gp.evs σ xs.toList = some vs) :
    VRs w (okc C (Own j σ.tab) w) j σ.nx vs (xs.map a.eval) := by
  obtain ⟨h1, h2⟩ := hr.evs h
  refine ⟨by simp [h1], fun i v hv => ?_⟩
  obtain ⟨x, hx, hr'⟩ := h2 i v hv
  have : (xs.map a.eval).getD i undef = a.eval x := by
    simp only [Array.getD_eq_getD_getElem?, Array.getElem?_map]
    simp only [Array.getElem?_toList] at hx
    simp [hx]
  rw [this]; exact hr'

theorem op_makeFunc {fn : Fn} {fs cs : Array Operand} {vs us : List V} (ho : op.op = .makeFunc fn fs cs) (hf : evs σ fs.toList = some vs) (hc : evs σ cs.toList = some us) (hk : K (.clo fn vs us) σ.tab σ.nx) : OpS P WG op σ K := by
  refine .pure (fun C j a w hr => ?_) hk
  obtain ⟨h1, h2⟩ := hr.evsA hf
  obtain ⟨h3, h4⟩ := hr.evsA hc
  refine ⟨.func fn (fs.map a.eval) (cs.map a.eval), ?_, .clo h1 h3 h2 h4⟩
  unfold execOp; rw [ho]
  simp only [Instr.makeFunc, Sem.run_bind, Sem.run_pure, Result.andThen_ok]

def fillV (places : List (Nat × Nat)) : List V → List (Nat × V) → Option (List V)
  | cs, [] => some cs
  | cs, (k, v) :: r =>
    match places[k]? with
    | none => none
    | some (off, sz) => if v.isTup = false ∧ v.cells.length = sz ∧ off + sz ≤ cs.length then fillV places (putL cs off v.cells) r else none

theorem foldl_upd (cs : Array Value) (off : Nat) (vs : List Value) : ∀ (n : Nat) (cs : Array Value), ((vs.zipIdx n).foldl (fun cs (c, j) => cs.setIfInBounds (off + j) c) cs) = updCells cs (off + n) vs := by
  induction vs with
  | nil => intro n cs; rfl
  | cons v r ih => intro n cs; simp only [List.zipIdx_cons, List.foldl_cons, updCells, ih]; rfl
theorem zipIdx_fold (cs : Array Value) (off : Nat) (vs : Array Value) : (vs.zipIdx.foldl (fun cs (c, j) => cs.setIfInBounds (off + j) c) cs) = updCells cs off vs.toList := by
  rw [← Array.foldl_toList, Array.toList_zipIdx]
  exact foldl_upd cs off vs.toList 0 cs

theorem fill_rel {w : World} {ok : Nat → Prop} {j : Nat → Option Loc} {nx : Nat} (place : Nat → Option (Nat × Nat)) (places : List (Nat × Nat)) (hp : ∀ k, places[k]? ≠ none → place k = places[k]?) :
    ∀ (parts : List (Nat × V)) (ms : List (Nat × Value)) (cs : List V) (cells : Array Value) (out : List V), parts.length = ms.length →
      (∀ (i : Nat) k v, parts[i]? = some (k, v) → ∃ m, ms[i]? = some (k, m) ∧ VR w ok j nx v m) →
      cells.size = cs.length → (∀ (i : Nat) c, cs[i]? = some c → c.one = true ∧ VR w ok j nx c (cells.getD i undef)) →
      fillV places cs parts = some out → ∃ cells', Instr.fill place cells ms = some cells' ∧ cells'.size = out.length ∧ (∀ (i : Nat) c, out[i]? = some c → c.one = true ∧ VR w ok j nx c (cells'.getD i undef))
  | [], [], cs, cells, out, _, _, h1, h2, h => by simp [fillV] at h; subst h; exact ⟨cells, rfl, h1, h2⟩
  | [], _ :: _, _, _, _, h, _, _, _, _ => by simp at h
  | _ :: _, [], _, _, _, h, _, _, _, _ => by simp at h
  | (k, v) :: r, (k', m) :: s, cs, cells, out, hl, hr, h1, h2, h => by
    obtain ⟨m', hm', hv⟩ := hr 0 k v rfl
    simp only [List.getElem?_cons_zero, Option.some.injEq, Prod.mk.injEq] at hm'
    obtain ⟨rfl, rfl⟩ := hm'
    simp only [fillV] at h
    split at h
    · cases h
    rename_i off sz hpl
    split at h
    · rename_i hc
      obtain ⟨ht, hsz, hle⟩ := hc
      obtain ⟨hvs, hvr⟩ := hv.cells (V.ne_tup ht) (V.ne_cnd ht)
      have hn : place k' = some (off, sz) := by rw [hp k' (by simp [hpl])]; exact hpl
      simp only [Instr.fill, hn, hvs, hsz]
      rw [if_neg (by simp [h1]; omega), zipIdx_fold]
      refine fill_rel place places hp r s (putL cs off v.cells) (updCells cells off m.cells.toList) out (by simpa using hl) (fun i k u hu => ?_) (by rw [updCells_size, putL_length]; exact h1) (fun i c hc => ?_) h
      · have := hr (i + 1) k u (by simpa using hu)
        simpa using this
      · rw [putL_get _ _ _ _ (by omega)] at hc
        rw [updCells_getD _ _ _ _ (by simp [hvs]; omega)]
        split at hc
        · rename_i hin
          rw [if_pos (by simp [hvs]; omega)]
          have := hvr _ _ hc
          have e2 : m.cells.toList.getD (i - off) undef = m.cells.getD (i - off) undef := by simp [Array.getD_eq_getD_getElem?, List.getD]
          rw [e2]; exact this
        · rename_i hout
          rw [if_neg (by simp [hvs]; omega)]
          exact h2 _ _ hc
    · cases h

def evParts (σ : St) : List (Nat × Operand) → Option (List (Nat × V))
  | [] => some []
  | (k, x) :: r => match ev σ x, evParts σ r with
    | some v, some l => some ((k, v) :: l)
    | _, _ => none
theorem ERel.evParts {C : Ctx} {j : Nat → Option Loc} {a : Act} {w : World} (hr : ERel WG C j σ a w) : ∀ {xs : List (Nat × Operand)} {vs : List (Nat × V)}, evParts σ xs = some vs →
    vs.length = (xs.map fun (i, x) => (i, a.eval x)).length ∧ ∀ (i : Nat) k v, vs[i]? = some (k, v) → ∃ m, (xs.map fun (i, x) => (i, a.eval x))[i]? = some (k, m) ∧ VR w (okc C (Own j σ.tab) w) j σ.nx v m
  | [], vs, h => by simp [Gp.evParts] at h; subst h; simp
  | (k, x) :: r, vs, h => by
    simp only [Gp.evParts] at h
    split at h
    · rename_i v l hv hl
      cases h
      obtain ⟨h1, h2⟩ := hr.evParts hl
      refine ⟨by simpa using h1, fun i q u hu => ?_⟩
      rcases i with _ | i
      · simp at hu; obtain ⟨rfl, rfl⟩ := hu; exact ⟨_, rfl, hr.ev hv⟩
      · simp at hu; simpa using h2 i q u hu
    · cases h

theorem zero_cells {w : World} {ok : Nat → Prop} {j : Nat → Option Loc} {nx : Nat} {i : TI} {P : Program} {t : TypeId} {info : TypeInfo} {d : TypeDesc} {z : Value} (ht : TIR P t i info d z) :
    z.cells.size = (i.zero.map fun x => V.p (.v x)).length ∧ ∀ (k : Nat) c, (i.zero.map fun x => V.p (.v x))[k]? = some c → c.one = true ∧ VR w ok j nx c (z.cells.getD k undef) := by
  rw [ht.zc]
  refine ⟨by simp, fun k c hc => ?_⟩
  simp only [List.getElem?_map] at hc
  cases hz : i.zero[k]? with
  | none => simp [hz] at hc
  | some y =>
    simp [hz] at hc; subst hc
    refine ⟨rfl, .p ?_⟩
    have : i.zero.toArray.getD k undef = y := by
      obtain ⟨hlt, he⟩ := List.getElem?_eq_some_iff.1 hz
      simp [Array.getD, hlt, he]
    rw [this]
    exact .v (ht.zf y (List.mem_of_getElem? hz))

def placesOf (P : Program) : TD → Option (List (Nat × Nat))
  | .struct fs => some (fs.map fun f => (f.1, f.2.2))
  | .array n e => match tiOf P e with | some ei => some ((List.range n).map fun k => (k * ei.size, ei.size)) | none => none
  | _ => none

theorem run_fieldPlaces (w : World) : ∀ (fs : List Field), (fs.all fun f => (P.info? f.type).isSome) = true → (fs.mapM fun f => (do pure (f.offset, ← sizeOf f.type) : Sem (Nat × Nat))).run P w = .ok (fs.map fun f => (f.offset, P.cellsOf f.type)) w
  | [], _ => rfl
  | f :: r, h => by
    simp only [List.all_cons, Bool.and_eq_true] at h
    obtain ⟨i, hi⟩ := Option.isSome_iff_exists.1 h.1
    have hs : (sizeOf f.type).run P w = .ok (P.cellsOf f.type) w := by simp [sizeOf, typeInfo, hi, Program.cellsOf]
    simp only [List.mapM_cons, Sem.run_bind, hs, Result.andThen_ok, Sem.run_pure, run_fieldPlaces w r h.2, List.map_cons]

theorem op_build {t : TypeId} {parts : Array (Nat × Operand)} {i : TI} {pl : List (Nat × Nat)} {pv : List (Nat × V)} {out : List V} (ho : op.op = .build t parts) (hi : tiOf P t = some i) (hpl : placesOf P i.d = some pl)
    (hp : evParts σ parts.toList = some pv) (hout : fillV pl (i.zero.map fun x => V.p (.v x)) pv = some out) (hk : K (mkAgg out) σ.tab σ.nx) : OpS P WG op σ K := by
  refine .pure (fun C j a w hr => ?_) hk
  obtain ⟨info, d, z, ht⟩ := tiOf_some hi
  obtain ⟨hl, hrel⟩ := hr.evParts hp
  have hz := zero_cells (w := w) (ok := okc C (Own j σ.tab) w) (j := j) (nx := σ.nx) ht
  have hmap : (parts.map fun (i, x) => (i, a.eval x)).toList = parts.toList.map fun (i, x) => (i, a.eval x) := by simp
  have htd := ht.td; have hfo := ht.fo
  unfold execOp; rw [ho]
  simp only [Instr.build, Sem.run_bind, ht.run_zero, ht.run_und, Result.andThen_ok]
  cases d with
  | struct fields =>
    simp only [tdOf] at htd
    rw [← htd] at hpl
    simp only [placesOf, Option.some.injEq] at hpl
    have hrun : (fields.mapM fun f => (do pure (f.offset, ← sizeOf f.type) : Sem (Nat × Nat))).run P w = .ok (fields.toList.map fun f => (f.offset, P.cellsOf f.type)).toArray w := by
      rw [Array.mapM_eq_mapM_toList]
      simp only [Sem.run_map, run_fieldPlaces w fields.toList (by simpa [fieldsOk] using hfo), Result.andThen_ok]
    obtain ⟨cells, hfill, hs, hcr⟩ := fill_rel ((fields.toList.map fun f => (f.offset, P.cellsOf f.type)).toArray[·]?) pl (fun k _ => by rw [← hpl]; simp [List.map_map, Function.comp_def]) pv _ _ z.cells out hl hrel hz.1 hz.2 hout
    refine ⟨.agg cells, ?_, VR.mkAgg hs hcr⟩
    simp only [Sem.run_bind, hrun, Result.andThen_ok, hmap, hfill, Sem.run_pure]
  | array n e =>
    simp only [tdOf] at htd
    rw [← htd] at hpl
    simp only [placesOf] at hpl
    split at hpl
    · rename_i ei hei
      cases hpl
      obtain ⟨info', d', z', ht'⟩ := tiOf_some hei
      obtain ⟨cells, hfill, hs, hcr⟩ := fill_rel (fun k => some (k * ei.size, ei.size)) _ (fun k hk => by
        simp only [List.getElem?_map] at hk ⊢
        cases hq : (List.range n)[k]? with
        | none => simp [hq] at hk
        | some q => have := (List.getElem?_eq_some_iff.1 hq); obtain ⟨h1, h2⟩ := this; simp at h2; subst h2; rfl) pv _ _ z.cells out hl hrel hz.1 hz.2 hout
      refine ⟨.agg cells, ?_, VR.mkAgg hs hcr⟩
      simp only [Sem.run_bind, ht'.run_size, Result.andThen_ok, hmap, hfill, Sem.run_pure]
    · cases hpl
  | _ => simp only [tdOf] at htd; rw [← htd] at hpl; simp [placesOf] at hpl

def elemOf (agg : Bool) (cs : List PV) : PV := if agg then .agg cs else cs.getD 0 (.v .nilFunc)
def elemsOf (agg : Bool) (s : Nat) : Nat → List PV → List PV
  | 0, _ => []
  | n + 1, cs => elemOf agg (cs.take s) :: elemsOf agg s n (cs.drop s)
theorem elemsOf_get {agg : Bool} {s : Nat} : ∀ {n : Nat} {cs : List PV} {i : Nat} {x : PV}, (elemsOf agg s n cs)[i]? = some x → i < n ∧ x = elemOf agg ((cs.drop (i * s)).take s)
  | 0, _, _, _, h => by simp [elemsOf] at h
  | n + 1, cs, 0, x, h => by simp [elemsOf] at h; subst h; simp
  | n + 1, cs, i + 1, x, h => by
    simp only [elemsOf, List.getElem?_cons_succ] at h
    obtain ⟨h1, h2⟩ := elemsOf_get h
    refine ⟨by omega, h2.trans ?_⟩
    rw [List.drop_drop, Nat.succ_mul, Nat.add_comm s]
theorem elemsOf_length {agg : Bool} {s : Nat} : ∀ {n : Nat} {cs : List PV}, (elemsOf agg s n cs).length = n
  | 0, _ => rfl
  | n + 1, cs => by simp [elemsOf, elemsOf_length]
theorem elemOf_cells {agg : Bool} {s : Nat} {cs : List PV} (h : cs.length = s) (h1 : agg = true ∨ s = 1) (hone : ∀ c ∈ cs, c.one = true) : (elemOf agg cs).cells = cs := by
  unfold elemOf
  split
  · rfl
  · rename_i hA
    have : s = 1 := h1.resolve_left hA
    subst this
    match cs, h with
    | [c], _ =>
      have := hone c (by simp)
      cases c <;> first | rfl | simp [PV.one] at this

theorem op_buildSlice {t : TypeId} {len : Nat} {parts : Array (Nat × Operand)} {i ei : TI} {e : TypeId} {pv : List (Nat × V)} {out : List V} {ps : List PV} (ho : op.op = .buildSlice t len parts) (hi : tiOf P t = some i) (hd : i.d = .slice e) (hei : tiOf P e = some ei)
    (h1 : ei.agg = true ∨ ei.size = 1) (hsm : len * ei.size ≤ 16777216) (hpos : 0 < ei.size)
    (hp : evParts σ parts.toList = some pv) (hout : fillV ((List.range len).map fun k => (k * ei.size, ei.size)) (((List.range len).map fun _ => ei.zero.map fun x => V.p (.v x)).flatten) pv = some out) (hps : allP out = some ps)
    (hk : K (.osl σ.nx ei.size 0 len (some len)) (aset σ.tab σ.nx (.arr ei.size (elemsOf ei.agg ei.size len ps) false)) (σ.nx + 1)) : OpS P WG op σ K := by
  intro C j a w hr
  obtain ⟨info, d, z, ht⟩ := tiOf_some hi
  obtain ⟨info', d', z', ht'⟩ := tiOf_some hei
  have htd := ht.td; rw [hd] at htd
  cases d <;> simp only [tdOf] at htd <;> try cases htd
  obtain ⟨hl, hrel⟩ := hr.evParts hp
  have hz := zero_cells (w := w) (ok := okc C (Own j σ.tab) w) (j := j) (nx := σ.nx) ht'
  have hzs : z'.cells.size = ei.size := by rw [ht'.zc]; simpa using ht'.zs

  have hflat : ∀ (n : Nat), ((((List.range n).map fun _ => ei.zero.map fun x => V.p (.v x)).flatten).length = n * ei.size) ∧ ∀ (k : Nat) c, (((List.range n).map fun _ => ei.zero.map fun x => V.p (.v x)).flatten)[k]? = some c → (ei.zero.map fun x => V.p (.v x))[k % ei.size]? = some c := by
    intro n
    have hlen : (ei.zero.map fun x => V.p (.v x)).length = ei.size := by simpa using ht'.zs
    induction n with
    | zero => simp
    | succ n ih =>
      rw [List.range_succ, List.map_append, List.flatten_append]
      simp only [List.map_cons, List.map_nil, List.flatten_cons, List.flatten_nil, List.append_nil, List.length_append, ih.1, hlen, Nat.succ_mul, true_and]
      intro k c hc
      rw [List.getElem?_append] at hc
      split at hc
      · exact ih.2 k c hc
      · rename_i hge
        rw [ih.1] at hc hge
        have hlt : k - n * ei.size < ei.size := by
          have := (List.getElem?_eq_some_iff.1 hc).1
          rw [hlen] at this; exact this
        have hcm := Nat.mul_comm n ei.size
        have e : k = (k - n * ei.size) + ei.size * n := by omega
        rw [e, Nat.add_mul_mod_self_left, Nat.mod_eq_of_lt hlt]
        exact hc
  have hz2 : ∀ (k : Nat) c, (((List.range len).map fun _ => ei.zero.map fun x => V.p (.v x)).flatten)[k]? = some c → c.one = true ∧ VR w (okc C (Own j σ.tab) w) j σ.nx c (((Array.range (len * ei.size)).map (z'.cells[· % z'.cells.size]!)).getD k undef) := by
    intro k c hc
    have hk : k < len * ei.size := by have := (List.getElem?_eq_some_iff.1 hc).1; rw [(hflat len).1] at this; exact this
    have := hz.2 _ _ ((hflat len).2 k c hc)
    have e : ((Array.range (len * ei.size)).map (z'.cells[· % z'.cells.size]!)).getD k undef = z'.cells.getD (k % ei.size) undef := by
      have hm : k % ei.size < z'.cells.size := by rw [hzs]; exact Nat.mod_lt _ hpos
      simp [Array.getD, hk, hzs, getElem!_pos, hm, Nat.mod_lt _ hpos]
    rw [e]; exact this
  have hmap : (parts.map fun (i, x) => (i, a.eval x)).toList = parts.toList.map fun (i, x) => (i, a.eval x) := by simp
  obtain ⟨cells, hfill, hs, hcr⟩ := fill_rel (fun k => some (k * ei.size, ei.size)) _ (fun k hk => by
    simp only [List.getElem?_map] at hk ⊢
    cases hq : (List.range len)[k]? with
    | none => simp [hq] at hk
    | some q => have := (List.getElem?_eq_some_iff.1 hq); obtain ⟨h1, h2⟩ := this; simp at h2; subst h2; rfl) pv _ _ ((Array.range (len * ei.size)).map (z'.cells[· % z'.cells.size]!)) out hl hrel (by simp [(hflat len).1]) hz2 hout
  have hlenfill : ∀ (pv : List (Nat × V)) (cs out : List V) (pl : List (Nat × Nat)), fillV pl cs pv = some out → out.length = cs.length := by
    intro pv
    induction pv with
    | nil => intro cs out pl h; simp [fillV] at h; subst h; rfl
    | cons p r ih =>
      obtain ⟨k, v⟩ := p
      intro cs out pl h
      simp only [fillV] at h
      split at h
      · cases h
      · split at h
        · rw [ih _ _ _ h, putL_length]
        · cases h
  have hol : out.length = len * ei.size := by rw [hlenfill _ _ _ _ hout]; exact (hflat len).1
  have hps' := allP_some hps
  subst hps'
  have hpsl : ps.length = len * ei.size := by simpa using hol
  obtain ⟨j', hm, hj⟩ := newArr hr ⟨rfl, rfl, rfl, rfl⟩ ei.size (elemsOf ei.agg ei.size len ps) false len cells e (0, 0) (Opn.zero _) (by rw [hs]; simp [hpsl]) (by simp [elemsOf_length]) (fun _ => elemsOf_length)
    (fun k x hx => by
      obtain ⟨hk, rfl⟩ := elemsOf_get hx
      have hb : k * ei.size + ei.size ≤ len * ei.size := by rw [← Nat.succ_mul]; exact Nat.mul_le_mul_right _ hk
      rw [elemOf_cells (s := ei.size) (by simp; omega) h1 (fun c hc => by
        have hc' : c ∈ ps := List.mem_of_mem_drop (List.mem_of_mem_take hc)
        obtain ⟨q, hq⟩ := List.mem_iff_getElem?.1 hc'
        exact (hcr q (.p c) (by simp [hq])).1)]
      simp; omega)
    (fun k c x y hx hy => by
      obtain ⟨hk, rfl⟩ := elemsOf_get hx
      have hb : k * ei.size + ei.size ≤ len * ei.size := by rw [← Nat.succ_mul]; exact Nat.mul_le_mul_right _ hk
      rw [elemOf_cells (s := ei.size) (by simp; omega) h1 (fun c hc => by
        have hc' : c ∈ ps := List.mem_of_mem_drop (List.mem_of_mem_take hc)
        obtain ⟨q, hq⟩ := List.mem_iff_getElem?.1 hc'
        exact (hcr q (.p c) (by simp [hq])).1)] at hy
      have hcs : c < ei.size := by have := (List.getElem?_eq_some_iff.1 hy).1; simp at this; omega
      rw [List.getElem?_take, if_pos hcs, List.getElem?_drop] at hy
      have := hcr (k * ei.size + c) (.p y) (by simp [hy])
      refine ⟨this.1, ?_⟩
      have h2 := this.2
      cases h2 with
      | p h => exact h)
  refine ⟨.slice (some ⟨w.heap.size, 0, none⟩) len len, _, .osl σ.nx ei.size 0 len (some len), j', _, _, ?_, hm, .osl (Nat.lt_succ_self _) hj (by simp) (Nat.le_refl _) (by simp) (fun k h => by cases h; rfl) (fun h => by cases h), hk⟩
  unfold execOp; rw [ho]
  simp only [Instr.buildSlice, Sem.run_bind, ht.run_und, ht'.run_size, Result.andThen_ok]
  by_cases h0 : len * ei.size = 0
  · have hlen0 : len = 0 := by rcases Nat.mul_eq_zero.1 h0 with h | h <;> omega
    subst hlen0
    have hps0 : ps.length = 0 := by omega
    have hc0 : cells = #[] := by apply Array.eq_empty_of_size_eq_zero; rw [hs, List.length_map]; exact hps0
    have e0 : ∀ f : Nat → Value, (Array.range (0 * ei.size)).map f = #[] := fun f => by simp
    have hsm' : ¬ (0 * ei.size > 2 ^ 24) := by omega
    rw [e0] at hfill
    simp only [if_neg hsm', if_pos h0, Sem.run_bind, Result.andThen_ok, Sem.run_pure, e0, hmap, hfill]
    rfl
  · have hsm' : ¬ (len * ei.size > 2 ^ 24) := by omega
    simp only [if_neg hsm', if_neg h0, Sem.run_bind, ht'.run_zero, Result.andThen_ok, Sem.run_pure, hmap, hfill]
    rfl


theorem op_buildSliceB {t : TypeId} {len : Nat} {parts : Array (Nat × Operand)} {i ei : TI} {e : TypeId} {pv : List (Nat × V)} {out : List V} (ho : op.op = .buildSlice t len parts) (hi : tiOf P t = some i) (hd : i.d = .slice e) (hei : tiOf P e = some ei)
    (hsm : len * ei.size ≤ 16777216) (hpos : 0 < ei.size)
    (hp : evParts σ parts.toList = some pv) (hout : fillV ((List.range len).map fun k => (k * ei.size, ei.size)) (((List.range len).map fun _ => ei.zero.map fun x => V.p (.v x)).flatten) pv = some out)
    (hk : K (.bsl σ.nx 0 ei.size len len) (aset σ.tab σ.nx (.box out)) (σ.nx + 1)) : OpS P WG op σ K := by
  intro C j a w hr
  obtain ⟨info, d, z, ht⟩ := tiOf_some hi
  obtain ⟨info', d', z', ht'⟩ := tiOf_some hei
  have htd := ht.td; rw [hd] at htd
  cases d <;> simp only [tdOf] at htd <;> try cases htd
  obtain ⟨hl, hrel⟩ := hr.evParts hp
  have hz := zero_cells (w := w) (ok := okc C (Own j σ.tab) w) (j := j) (nx := σ.nx) ht'
  have hzs : z'.cells.size = ei.size := by rw [ht'.zc]; simpa using ht'.zs

  have hflat : ∀ (n : Nat), ((((List.range n).map fun _ => ei.zero.map fun x => V.p (.v x)).flatten).length = n * ei.size) ∧ ∀ (k : Nat) c, (((List.range n).map fun _ => ei.zero.map fun x => V.p (.v x)).flatten)[k]? = some c → (ei.zero.map fun x => V.p (.v x))[k % ei.size]? = some c := by
    intro n
    have hlen : (ei.zero.map fun x => V.p (.v x)).length = ei.size := by simpa using ht'.zs
    induction n with
    | zero => simp
    | succ n ih =>
      rw [List.range_succ, List.map_append, List.flatten_append]
      simp only [List.map_cons, List.map_nil, List.flatten_cons, List.flatten_nil, List.append_nil, List.length_append, ih.1, hlen, Nat.succ_mul, true_and]
      intro k c hc
      rw [List.getElem?_append] at hc
      split at hc
      · exact ih.2 k c hc
      · rename_i hge
        rw [ih.1] at hc hge
        have hlt : k - n * ei.size < ei.size := by
          have := (List.getElem?_eq_some_iff.1 hc).1
          rw [hlen] at this; exact this
        have hcm := Nat.mul_comm n ei.size
        have e : k = (k - n * ei.size) + ei.size * n := by omega
        rw [e, Nat.add_mul_mod_self_left, Nat.mod_eq_of_lt hlt]
        exact hc
  have hz2 : ∀ (k : Nat) c, (((List.range len).map fun _ => ei.zero.map fun x => V.p (.v x)).flatten)[k]? = some c → c.one = true ∧ VR w (okc C (Own j σ.tab) w) j σ.nx c (((Array.range (len * ei.size)).map (z'.cells[· % z'.cells.size]!)).getD k undef) := by
    intro k c hc
    have hk : k < len * ei.size := by have := (List.getElem?_eq_some_iff.1 hc).1; rw [(hflat len).1] at this; exact this
    have := hz.2 _ _ ((hflat len).2 k c hc)
    have e : ((Array.range (len * ei.size)).map (z'.cells[· % z'.cells.size]!)).getD k undef = z'.cells.getD (k % ei.size) undef := by
      have hm : k % ei.size < z'.cells.size := by rw [hzs]; exact Nat.mod_lt _ hpos
      simp [Array.getD, hk, hzs, getElem!_pos, hm, Nat.mod_lt _ hpos]
    rw [e]; exact this
  have hmap : (parts.map fun (i, x) => (i, a.eval x)).toList = parts.toList.map fun (i, x) => (i, a.eval x) := by simp
  obtain ⟨cells, hfill, hs, hcr⟩ := fill_rel (fun k => some (k * ei.size, ei.size)) _ (fun k hk => by
    simp only [List.getElem?_map] at hk ⊢
    cases hq : (List.range len)[k]? with
    | none => simp [hq] at hk
    | some q => have := (List.getElem?_eq_some_iff.1 hq); obtain ⟨h1, h2⟩ := this; simp at h2; subst h2; rfl) pv _ _ ((Array.range (len * ei.size)).map (z'.cells[· % z'.cells.size]!)) out hl hrel (by simp [(hflat len).1]) hz2 hout
  have hlenfill : ∀ (pv : List (Nat × V)) (cs out : List V) (pl : List (Nat × Nat)), fillV pl cs pv = some out → out.length = cs.length := by
    intro pv
    induction pv with
    | nil => intro cs out pl h; simp [fillV] at h; subst h; rfl
    | cons p r ih =>
      obtain ⟨k, v⟩ := p
      intro cs out pl h
      simp only [fillV] at h
      split at h
      · cases h
      · split at h
        · rw [ih _ _ _ h, putL_length]
        · cases h
  have hol : out.length = len * ei.size := by rw [hlenfill _ _ _ _ hout]; exact (hflat len).1
  obtain ⟨j', hm, hj⟩ := newBox hr out cells e (by rw [hs]) (fun k c hk => hcr k c hk)
  refine ⟨.slice (some ⟨w.heap.size, 0, none⟩) len len, _, .bsl σ.nx 0 ei.size len len, j', _, _, ?_, hm, .bsl (Nat.lt_succ_self _) hj (by simp) (Nat.le_refl _), hk⟩
  unfold execOp; rw [ho]
  simp only [Instr.buildSlice, Sem.run_bind, ht.run_und, ht'.run_size, Result.andThen_ok]
  by_cases h0 : len * ei.size = 0
  · have hlen0 : len = 0 := by rcases Nat.mul_eq_zero.1 h0 with h | h <;> omega
    subst hlen0
    have hps0 : out.length = 0 := by omega
    have hc0 : cells = #[] := by apply Array.eq_empty_of_size_eq_zero; rw [hs]; exact hps0
    have e0 : ∀ f : Nat → Value, (Array.range (0 * ei.size)).map f = #[] := fun f => by simp
    have hsm' : ¬ (0 * ei.size > 2 ^ 24) := by omega
    rw [e0] at hfill
    simp only [if_neg hsm', if_pos h0, Sem.run_bind, Result.andThen_ok, Sem.run_pure, e0, hmap, hfill]
    rfl
  · have hsm' : ¬ (len * ei.size > 2 ^ 24) := by omega
    simp only [if_neg hsm', if_neg h0, Sem.run_bind, ht'.run_zero, Result.andThen_ok, Sem.run_pure, hmap, hfill]
    rfl

end
end Go.Gp

namespace Go.Gp
open Go.RowKit
section
variable {P : Program} {WG : World} {σ : St} {op : Oper} {K : V → Tab → Nat → Prop}
def strEq (a b : ByteArray) : Bool := a.toList == b.toList
def strLt (a b : ByteArray) : Bool := Op.bytesLess a.toList b.toList

def shAmt (k : IntKind) (b : Int) : Nat := min b.toNat k.bits
def bits2 (k : IntKind) (f : BitVec k.bits → BitVec k.bits → BitVec k.bits) (x y : Int) : Int := k.wrap ((f (BitVec.ofInt k.bits x) (BitVec.ofInt k.bits y)).toNat : Int)

def binI (op : BinOp) (k : IntKind) (a b : Int) : Option Value :=
  match op with
  | .add => some (.int k (k.wrap (a + b)))
  | .sub => some (.int k (k.wrap (a - b)))
  | .mul => some (.int k (k.wrap (a * b)))
  | .quo => if b = 0 then none else some (.int k (k.wrap (a.tdiv b)))
  | .rem => if b = 0 then none else some (.int k (a.tmod b))
  | .and => some (.int k (bits2 k (· &&& ·) a b))
  | .or => some (.int k (bits2 k (· ||| ·) a b))
  | .xor => some (.int k (bits2 k (· ^^^ ·) a b))
  | .andNot => some (.int k (bits2 k (fun x y => x &&& ~~~y) a b))
  | .eql => some (.bool (a == b))
  | .neq => some (.bool (a != b))
  | .lss => some (.bool (decide (a < b)))
  | .leq => some (.bool (decide (a ≤ b)))
  | .gtr => some (.bool (decide (a > b)))
  | .geq => some (.bool (decide (a ≥ b)))
  | _ => none

def binS (op : BinOp) (a b : ByteArray) : Option Value :=
  match op with
  | .add => if ((a.size + b.size : Nat) : Int) ≤ 9223372036854775807 then some (.string (a ++ b)) else none
  | .eql => some (.bool (strEq a b))
  | .neq => some (.bool (!strEq a b))
  | .lss => some (.bool (strLt a b))
  | .leq => some (.bool (strLt a b || strEq a b))
  | .gtr => some (.bool (!(strLt a b || strEq a b)))
  | .geq => some (.bool (!strLt a b))
  | _ => none

def isShift : BinOp → Bool
  | .shl | .shr => true
  | _ => false

theorem eqGuard_flat (w : World) (op : BinOp) (t : TypeId) (x y : Operand) (a b : Value) (h : a ≠ .nilIface ∨ b ≠ .nilIface) (h2 : (∀ cs, a ≠ .agg cs) ∨ (∀ cs, b ≠ .agg cs)) : (eqGuard op t x y a b).run P w = .ok () w := by
  unfold eqGuard
  cases op <;> first
    | rfl
    | (simp only [Bool.not_true, Bool.false_eq_true, if_false]
       split
       · rcases h with h | h <;> exact absurd rfl h
       · rcases h2 with h | h <;> exact absurd rfl (h _)
       · rfl)

theorem op_bin_int {bo : BinOp} {xt yt : TypeId} {x y : Operand} {k : IntKind} {a b : Int} {v : Value} (ho : op.op = .binOp bo xt x y yt) (hs : isShift bo = false) (hx : ev σ x = some (.p (.v (.int k a)))) (hy : ev σ y = some (.p (.v (.int k b))))
    (hv : binI bo k a b = some v) (hk : K (.p (.v v)) σ.tab σ.nx) : OpS P WG op σ K := by
  refine .pure (fun C j ac w hr => ⟨v, ?_, .p (.v ?_)⟩) hk
  · unfold execOp; rw [ho]
    simp only [ev_int hr hx, ev_int hr hy, Sem.run_bind, eqGuard_flat w bo xt x y (.int k a) (.int k b) (.inl (by simp)) (.inl (by simp)), Result.andThen_ok]
    cases bo <;> simp only [isShift] at hs <;> (try cases hs) <;> simp only [binI] at hv <;> (try cases hv) <;>
      first
      | (simp only [binOp, ne_eq, not_true_eq_false, if_false, Op.intArith, Op.intBits, Op.intCmp, Sem.run_pure, Result.andThen_ok]; done)
      | (simp only [binOp, ne_eq, not_true_eq_false, if_false, Op.intArith, Op.intBits, Op.intCmp, Sem.run_pure, Result.andThen_ok, bits2]; done)
      | (simp only [binOp, ne_eq, not_true_eq_false, if_false, Op.intArith, Op.intBits, Op.intCmp, Sem.run_pure, Result.andThen_ok]; rfl)
      | (split at hv
         · cases hv
         · cases hv
           rename_i hb
           simp only [binOp, ne_eq, not_true_eq_false, if_false, Op.intDiv, if_neg hb, Sem.run_pure, Result.andThen_ok])
  · cases bo <;> simp only [isShift] at hs <;> (try cases hs) <;> simp only [binI] at hv <;> first | (cases hv; rfl) | (split at hv <;> cases hv; rfl)

theorem op_bin_shift {bo : BinOp} {xt yt : TypeId} {x y : Operand} {k k' : IntKind} {a b : Int} {v : Value} (ho : op.op = .binOp bo xt x y yt) (hx : ev σ x = some (.p (.v (.int k a)))) (hy : ev σ y = some (.p (.v (.int k' b))))
    (h0 : 0 ≤ b) (hv : (bo = .shl ∧ v = .int k (k.wrap (a * 2 ^ shAmt k b))) ∨ (bo = .shr ∧ v = .int k (a.fdiv (2 ^ shAmt k b)))) (hk : K (.p (.v v)) σ.tab σ.nx) : OpS P WG op σ K := by
  refine .pure (fun C j ac w hr => ⟨v, ?_, .p (.v ?_)⟩) hk
  · unfold execOp; rw [ho]
    simp only [ev_int hr hx, ev_int hr hy, Sem.run_bind, eqGuard_flat w bo xt x y (.int k a) (.int k' b) (.inl (by simp)) (.inl (by simp)), Result.andThen_ok]
    rcases hv with ⟨rfl, rfl⟩ | ⟨rfl, rfl⟩ <;> simp only [binOp, Op.shift, if_neg (show ¬ b < 0 by omega), Sem.run_pure, Result.andThen_ok, shAmt]
  · rcases hv with ⟨_, rfl⟩ | ⟨_, rfl⟩ <;> rfl

theorem op_bin_str {bo : BinOp} {xt yt : TypeId} {x y : Operand} {a b : ByteArray} {v : Value} (ho : op.op = .binOp bo xt x y yt) (hx : ev σ x = some (.p (.v (.string a)))) (hy : ev σ y = some (.p (.v (.string b))))
    (hv : binS bo a b = some v) (hk : K (.p (.v v)) σ.tab σ.nx) : OpS P WG op σ K := by
  refine .pure (fun C j ac w hr => ⟨v, ?_, .p (.v ?_)⟩) hk
  · unfold execOp; rw [ho]
    simp only [ev_flat hr hx, ev_flat hr hy, Sem.run_bind, eqGuard_flat w bo xt x y (.string a) (.string b) (.inl (by simp)) (.inl (by simp)), Result.andThen_ok]
    cases bo <;> simp only [binS] at hv <;> (try cases hv) <;>
      first
      | (simp only [binOp, Op.stringOp, Sem.run_pure, Result.andThen_ok]; done)
      | (simp only [binOp, Op.stringOp, Sem.run_pure, Result.andThen_ok]; rfl)
      | (split at hv
         · cases hv
           rename_i hb
           have hb' : ¬ (((a.size + b.size : Nat) : Int) > IntKind.i64.max) := by
             have : IntKind.i64.max = 9223372036854775807 := by decide
             omega
           simp only [binOp, Op.stringOp, if_neg hb', Sem.run_pure, Result.andThen_ok]
         · cases hv)
  · cases bo <;> simp only [binS] at hv <;> (try cases hv) <;> first | rfl | (split at hv <;> cases hv; rfl)

theorem op_bin_bool {bo : BinOp} {xt yt : TypeId} {x y : Operand} {a b c : Bool} {i : TI} (ho : op.op = .binOp bo xt x y yt) (hi : tiOf P xt = some i) (hd : i.d = .bool) (hx : ev σ x = some (.p (.v (.bool a)))) (hy : ev σ y = some (.p (.v (.bool b))))
    (hc : (bo = .eql ∧ c = (a == b)) ∨ (bo = .neq ∧ c = !(a == b))) (hk : K (.p (.v (.bool c))) σ.tab σ.nx) : OpS P WG op σ K := by
  refine .pure (fun C j ac w hr => ⟨.bool c, ?_, .p (.v rfl)⟩) hk
  obtain ⟨info, d, z, ht⟩ := tiOf_some hi
  have htd := ht.td; rw [hd] at htd
  cases d <;> simp only [tdOf] at htd <;> try cases htd
  unfold execOp; rw [ho]
  simp only [ev_flat hr hx, ev_flat hr hy, Sem.run_bind, eqGuard_flat w bo xt x y (.bool a) (.bool b) (.inl (by simp)) (.inl (by simp)), Result.andThen_ok]
  rcases hc with ⟨rfl, rfl⟩ | ⟨rfl, rfl⟩
  · simp only [run_eql_bool w xt a b ht.und, Result.andThen_ok, Sem.run_pure]
  · simp only [run_neq_bool w xt a b ht.und, Result.andThen_ok, Sem.run_pure]

theorem op_not {t : TypeId} {x : Operand} {b : Bool} (ho : op.op = .unOp .not t x) (hx : ev σ x = some (.p (.v (.bool b)))) (hk : K (.p (.v (.bool !b))) σ.tab σ.nx) : OpS P WG op σ K := by
  refine .pure (fun C j ac w hr => ⟨.bool !b, ?_, .p (.v rfl)⟩) hk
  unfold execOp; rw [ho]
  simp only [ev_flat hr hx, Op.unary, Sem.run_bind, Sem.run_pure, Result.andThen_ok]
theorem op_neg {t : TypeId} {x : Operand} {k : IntKind} {n : Int} (ho : op.op = .unOp .neg t x) (hx : ev σ x = some (.p (.v (.int k n)))) (hk : K (.p (.v (.int k (k.wrap (0 - n))))) σ.tab σ.nx) : OpS P WG op σ K := by
  refine .pure (fun C j ac w hr => ⟨.int k (k.wrap (0 - n)), ?_, .p (.v rfl)⟩) hk
  unfold execOp; rw [ho]
  simp only [ev_flat hr hx, Op.unary, Op.intArith, Sem.run_bind, Sem.run_pure, Result.andThen_ok]
theorem op_compl {t : TypeId} {x : Operand} {k : IntKind} {n : Int} (ho : op.op = .unOp .xor t x) (hx : ev σ x = some (.p (.v (.int k n)))) (hk : K (.p (.v (.int k (bits2 k (· ^^^ ·) (if k.signed then -1 else k.max) n)))) σ.tab σ.nx) : OpS P WG op σ K := by
  refine .pure (fun C j ac w hr => ⟨.int k (bits2 k (· ^^^ ·) (if k.signed then -1 else k.max) n), ?_, .p (.v rfl)⟩) hk
  unfold execOp; rw [ho]
  simp only [ev_flat hr hx, Op.unary, Op.intBits, bits2, Sem.run_bind, Sem.run_pure, Result.andThen_ok]

theorem op_conv_int {s t : TypeId} {x : Operand} {i i' : TI} {k k' : IntKind} {n : Int} (ho : op.op = .convert s t x) (hi : tiOf P t = some i) (hd : i.d = .int k') (hi' : tiOf P s = some i') (hx : ev σ x = some (.p (.v (.int k n))))
    (hk : K (.p (.v (.int k' (k'.wrap n)))) σ.tab σ.nx) : OpS P WG op σ K := by
  refine .pure (fun C j ac w hr => ⟨.int k' (k'.wrap n), ?_, .p (.v rfl)⟩) hk
  obtain ⟨info, d, z, ht⟩ := tiOf_some hi
  obtain ⟨info', d', z', ht'⟩ := tiOf_some hi'
  have htd := ht.td; rw [hd] at htd
  cases d <;> simp only [tdOf] at htd <;> try cases htd
  unfold execOp; rw [ho]
  simp only [ev_flat hr hx, convert, ht.run_und, ht'.run_und, Conv.intToInt, Sem.run_bind, Sem.run_pure, Result.andThen_ok]

theorem op_conv_str {s t : TypeId} {x : Operand} {i i' : TI} {b : ByteArray} (ho : op.op = .convert s t x) (hi : tiOf P t = some i) (hd : i.d = .str) (hi' : tiOf P s = some i') (hd' : i'.d = .str) (hx : ev σ x = some (.p (.v (.string b))))
    (hk : K (.p (.v (.string b))) σ.tab σ.nx) : OpS P WG op σ K := by
  refine .pure (fun C j ac w hr => ⟨.string b, ?_, .p (.v rfl)⟩) hk
  obtain ⟨info, d, z, ht⟩ := tiOf_some hi
  obtain ⟨info', d', z', ht'⟩ := tiOf_some hi'
  have htd := ht.td; rw [hd] at htd
  cases d <;> simp only [tdOf] at htd <;> try cases htd
  have htd' := ht'.td; rw [hd'] at htd'
  cases d' <;> simp only [tdOf] at htd' <;> try cases htd'
  unfold execOp; rw [ho]
  simp only [ev_flat hr hx, convert, ht.run_und, ht'.run_und, Sem.run_bind, Sem.run_pure, Result.andThen_ok]

def lenV : V → Option Nat
  | .p (.sl _ xs) => some xs.length
  | .p (.v (.slice none 0 0)) => some 0
  | .osl _ _ _ len _ => some len
  | .bsl _ _ _ len _ => some len
  | .zc => some 0
  | _ => none
theorem VR.len {w : World} {ok : Nat → Prop} {j : Nat → Option Loc} {nx : Nat} {v : V} {m : Value} {n : Nat} (h : VR w ok j nx v m) (e : lenV v = some n) : ∃ a c, m = .slice a n c ∧ n ≤ c := by
  cases h with
  | p hp =>
    cases hp with
    | nil => simp [lenV] at e; subst e; exact ⟨_, _, rfl, Nat.zero_le _⟩
    | sl f hn hok hc => simp [lenV] at e; subst e; subst hn; exact ⟨_, _, rfl, hc⟩
    | v hf =>
      cases m <;> simp [flatV] at hf <;> simp [lenV] at e
      rename_i a l c
      cases a <;> try simp [lenV] at e
      rcases l with _ | l <;> rcases c with _ | c <;> simp [lenV] at e
      subst e; exact ⟨_, _, rfl, Nat.le_refl _⟩
    | _ => simp [lenV] at e
  | oslNil => simp [lenV] at e; subst e; exact ⟨_, _, rfl, Nat.le_refl _⟩
  | oslEnd => simp [lenV] at e; subst e; exact ⟨_, _, rfl, Nat.le_refl _⟩
  | osl hb hl hq hlen => simp [lenV] at e; subst e; exact ⟨_, _, rfl, hlen⟩
  | bsl hb hl hq hlen => simp [lenV] at e; subst e; exact ⟨_, _, rfl, hlen⟩
  | bslEnd => simp [lenV] at e; subst e; exact ⟨_, _, rfl, Nat.le_refl _⟩
  | zc => simp [lenV] at e; subst e; exact ⟨_, _, rfl, Nat.le_refl _⟩
  | _ => simp [lenV] at e

theorem op_len_str {c : Call} {t : TypeId} {x : Operand} {i : TI} {s : ByteArray} (ho : op.op = .call c) (hc : c = { callee := .builtin .len, args := #[x], argTypes := #[t] }) (hi : tiOf P t = some i) (hd : i.d = .str)
    (hx : ev σ x = some (.p (.v (.string s)))) (hk : K (.p (.v (.int .i64 s.size))) σ.tab σ.nx) : OpS P WG op σ K := by
  refine .pure (fun C j ac w hr => ⟨.int .i64 s.size, ?_, .p (.v rfl)⟩) hk
  subst hc
  obtain ⟨info, d, z, ht⟩ := tiOf_some hi
  have htd := ht.td; rw [hd] at htd
  cases d <;> simp only [tdOf] at htd <;> try cases htd
  unfold execOp; rw [ho]
  simp [resolve, invoke, builtin, Builtin.len_, ev_flat hr hx, ht.run_und, goInt]

theorem op_len_sl {c : Call} {t : TypeId} {x : Operand} {i : TI} {e : TypeId} {v : V} {n : Nat} (ho : op.op = .call c) (hc : c = { callee := .builtin .len, args := #[x], argTypes := #[t] }) (hi : tiOf P t = some i) (hd : i.d = .slice e)
    (hx : ev σ x = some v) (hn : lenV v = some n) (hk : K (.p (.v (.int .i64 n))) σ.tab σ.nx) : OpS P WG op σ K := by
  refine .pure (fun C j ac w hr => ⟨.int .i64 n, ?_, .p (.v rfl)⟩) hk
  subst hc
  obtain ⟨info, d, z, ht⟩ := tiOf_some hi
  have htd := ht.td; rw [hd] at htd
  cases d <;> simp only [tdOf] at htd <;> try cases htd
  obtain ⟨a, cp, hm, _⟩ := (hr.ev hx).len hn
  unfold execOp; rw [ho]
  simp [resolve, invoke, builtin, Builtin.len_, hm, ht.run_und, goInt]

theorem op_len_arr {c : Call} {t : TypeId} {x : Operand} {i : TI} {e n : Nat} (ho : op.op = .call c) (hc : c = { callee := .builtin .len, args := #[x], argTypes := #[t] }) (hi : tiOf P t = some i) (hd : i.d = .array n e)
    (hk : K (.p (.v (.int .i64 n))) σ.tab σ.nx) : OpS P WG op σ K := by
  refine .pure (fun C j ac w hr => ⟨.int .i64 n, ?_, .p (.v rfl)⟩) hk
  subst hc
  obtain ⟨info, d, z, ht⟩ := tiOf_some hi
  have htd := ht.td; rw [hd] at htd
  cases d <;> simp only [tdOf] at htd <;> try cases htd
  unfold execOp; rw [ho]
  simp [resolve, invoke, builtin, Builtin.len_, ht.run_und, goInt]

theorem op_min_int {c : Call} {t : Array TypeId} {x y : Operand} {k : IntKind} {a b : Int} (ho : op.op = .call c) (hc : c = { callee := .builtin .min, args := #[x, y], argTypes := t }) (hx : ev σ x = some (.p (.v (.int k a)))) (hy : ev σ y = some (.p (.v (.int k b))))
    (hk : K (.p (.v (.int k (if b < a then b else a)))) σ.tab σ.nx) : OpS P WG op σ K := by
  refine .pure (fun C j ac w hr => ⟨.int k (if b < a then b else a), ?_, .p (.v rfl)⟩) hk
  subst hc
  unfold execOp; rw [ho]
  simp [resolve, invoke, builtin, Builtin.min_, Builtin.min2, ev_flat hr hx, ev_flat hr hy]
theorem op_max_int {c : Call} {t : Array TypeId} {x y : Operand} {k : IntKind} {a b : Int} (ho : op.op = .call c) (hc : c = { callee := .builtin .max, args := #[x, y], argTypes := t }) (hx : ev σ x = some (.p (.v (.int k a)))) (hy : ev σ y = some (.p (.v (.int k b))))
    (hk : K (.p (.v (.int k (if a < b then b else a)))) σ.tab σ.nx) : OpS P WG op σ K := by
  refine .pure (fun C j ac w hr => ⟨.int k (if a < b then b else a), ?_, .p (.v rfl)⟩) hk
  subst hc
  unfold execOp; rw [ho]
  simp [resolve, invoke, builtin, Builtin.max_, Builtin.max2, ev_flat hr hx, ev_flat hr hy]

theorem op_max_int3 {c : Call} {t : Array TypeId} {x y z : Operand} {k : IntKind} {a b d : Int} (ho : op.op = .call c) (hc : c = { callee := .builtin .max, args := #[x, y, z], argTypes := t }) (hx : ev σ x = some (.p (.v (.int k a)))) (hy : ev σ y = some (.p (.v (.int k b)))) (hz : ev σ z = some (.p (.v (.int k d))))
    (hk : K (.p (.v (.int k (if (if a < b then b else a) < d then d else (if a < b then b else a))))) σ.tab σ.nx) : OpS P WG op σ K := by
  refine .pure (fun C j ac w hr => ⟨.int k (if (if a < b then b else a) < d then d else (if a < b then b else a)), ?_, .p (.v rfl)⟩) hk
  subst hc
  unfold execOp; rw [ho]
  simp [resolve, invoke, builtin, Builtin.max_, Builtin.max2, ev_flat hr hx, ev_flat hr hy, ev_flat hr hz]

end
end Go.Gp

namespace Go.Gp
open Go.RowKit
section
variable {P : Program} {WG : World} {σ : St} {op : Oper} {K : V → Tab → Nat → Prop}
def bnd (σ : St) (x : Option Operand) (d : Option Int) : Prop :=
  match x, d with
  | none, none => True
  | some x, some n => ∃ k, ev σ x = some (.p (.v (.int k n)))
  | _, _ => False

theorem run_bound {k : IntKind} {n : Int} {y : Nat} {code : BoundsCode} (w : World) (h0 : 0 ≤ n) (h : n ≤ y) : (Instr.sliceBound (.int k n) y code).run P w = .ok n.toNat w := by
  simp [Instr.sliceBound, asIntOf, h0, h]

theorem run_bounds {C : Ctx} {j : Nat → Option Loc} {a : Act} {w : World} (hr : ERel WG C j σ a w) (isSlice : Bool) (len cap : Nat) {lo hi mx : Option Operand} {l h m : Option Int} (hl : bnd σ lo l) (hh : bnd σ hi h) (hm : bnd σ mx m)
    (hmh : m.isSome = true → h.isSome = true) (h0 : 0 ≤ l.getD 0) (h1 : l.getD 0 ≤ h.getD len) (h2 : h.getD len ≤ m.getD cap) (h3 : m.getD cap ≤ cap) :
    (Instr.sliceBounds isSlice len cap (lo.map a.eval) (hi.map a.eval) (mx.map a.eval)).run P w = .ok ((l.getD 0).toNat, (h.getD len).toNat, (m.getD cap).toNat) w := by
  have key : ∀ {x : Option Operand} {d : Option Int}, bnd σ x d → (x = none ∧ d = none) ∨ ∃ y k n, x = some y ∧ d = some n ∧ a.eval y = .int k n := by
    intro x d hb
    cases x <;> cases d <;> simp only [bnd] at hb
    · exact .inl ⟨rfl, rfl⟩
    · obtain ⟨k, hk⟩ := hb; exact .inr ⟨_, k, _, rfl, rfl, ev_int hr hk⟩
  rcases key hl with ⟨rfl, rfl⟩ | ⟨lx, lk, ln, rfl, rfl, hle⟩ <;> rcases key hh with ⟨rfl, rfl⟩ | ⟨hx, hk, hn, rfl, rfl, hhe⟩ <;> rcases key hm with ⟨rfl, rfl⟩ | ⟨mx', mk, mn, rfl, rfl, hme⟩ <;>
    simp only [Option.getD_none, Option.getD_some, Option.isSome_some, Option.isSome_none, Bool.false_eq_true, imp_false, not_true_eq_false] at h0 h1 h2 h3 hmh
  · simp only [Instr.sliceBounds, Option.map_none, Sem.run_bind, Sem.run_pure, Result.andThen_ok, Option.getD_none, Int.toNat_natCast, Int.toNat_zero]
  · simp only [Instr.sliceBounds, Option.map_none, Option.map_some, hhe, Sem.run_bind, Sem.run_pure, Result.andThen_ok, Option.getD_none, Option.getD_some, run_bound w (show 0 ≤ hn by omega) h2, Int.toNat_natCast, Int.toNat_zero]
  · have e : ((mn.toNat : Nat) : Int) = mn := Int.toNat_of_nonneg (by omega)
    simp only [Instr.sliceBounds, Option.map_none, Option.map_some, hhe, hme, Sem.run_bind, Sem.run_pure, Result.andThen_ok, Option.getD_none, Option.getD_some, run_bound w (show 0 ≤ mn by omega) h3, run_bound w (y := mn.toNat) (show 0 ≤ hn by omega) (by omega), Int.toNat_zero]
  · simp only [Instr.sliceBounds, Option.map_none, Option.map_some, hle, Sem.run_bind, Sem.run_pure, Result.andThen_ok, Option.getD_none, Option.getD_some, run_bound w h0 h1, Int.toNat_natCast]
  · have e : ((hn.toNat : Nat) : Int) = hn := Int.toNat_of_nonneg (by omega)
    simp only [Instr.sliceBounds, Option.map_none, Option.map_some, hle, hhe, Sem.run_bind, Sem.run_pure, Result.andThen_ok, Option.getD_none, Option.getD_some, run_bound w (show 0 ≤ hn by omega) h2, run_bound w (y := hn.toNat) h0 (by omega), Int.toNat_natCast]
  · have e : ((hn.toNat : Nat) : Int) = hn := Int.toNat_of_nonneg (by omega)
    have e2 : ((mn.toNat : Nat) : Int) = mn := Int.toNat_of_nonneg (by omega)
    simp only [Instr.sliceBounds, Option.map_some, hle, hhe, hme, Sem.run_bind, Sem.run_pure, Result.andThen_ok, Option.getD_some, run_bound w (show 0 ≤ mn by omega) h3, run_bound w (y := mn.toNat) (show 0 ≤ hn by omega) (by omega), run_bound w (y := hn.toNat) h0 (by omega)]

theorem op_slice_str {t : TypeId} {x : Operand} {lo hi : Option Operand} {l h : Option Int} {i : TI} {s : ByteArray} (ho : op.op = .slice t x lo hi none) (hi' : tiOf P t = some i) (hd : i.d = .str) (hx : ev σ x = some (.p (.v (.string s))))
    (hl : bnd σ lo l) (hh : bnd σ hi h) (h0 : 0 ≤ l.getD 0) (h1 : l.getD 0 ≤ h.getD s.size) (h2 : h.getD s.size ≤ s.size) (hk : K (.p (.v (.string (s.extract (l.getD 0).toNat (h.getD s.size).toNat)))) σ.tab σ.nx) : OpS P WG op σ K := by
  refine .pure (fun C j a w hr => ?_) hk
  obtain ⟨info, d, z, ht⟩ := tiOf_some hi'
  have htd := ht.td; rw [hd] at htd
  cases d <;> simp only [tdOf] at htd <;> try cases htd
  refine ⟨_, ?_, .p (.v rfl)⟩
  have hb := run_bounds (P := P) hr false s.size s.size hl hh (show bnd σ none none from trivial) (by simp) h0 h1 h2 (by simp)
  unfold execOp; rw [ho]
  simp only [Option.map_none] at hb
  simp only [Instr.sliceAt, Instr.slice, ev_flat hr hx, Sem.run_bind, ht.run_und, Result.andThen_ok, Option.map_none, Option.isSome_none, Bool.false_eq_true, if_false, Sem.run_pure, hb]

theorem run_slice_sl {C : Ctx} {j : Nat → Option Loc} {a : Act} {w : World} (hr : ERel WG C j σ a w) {t : TypeId} {x : Operand} {lo hi mx : Option Operand} {l h m : Option Int} {i ei : TI} {e : TypeId} (ho : op.op = .slice t x lo hi mx) (hi' : tiOf P t = some i) (hd : i.d = .slice e) (hei : tiOf P e = some ei)
    {b : Option Addr} {len cap : Nat} (hx : a.eval x = .slice b len cap)
    (hl : bnd σ lo l) (hh : bnd σ hi h) (hm : bnd σ mx m) (hmh : m.isSome = true → h.isSome = true) (h0 : 0 ≤ l.getD 0) (h1 : l.getD 0 ≤ h.getD len) (h2 : h.getD len ≤ m.getD cap) (h3 : m.getD cap ≤ cap) :
    (execOp a.eval op).run P w = .ok (.value (.slice (if (m.getD cap).toNat = (l.getD 0).toNat then b else b.map (·.add ((l.getD 0).toNat * ei.size))) ((h.getD len).toNat - (l.getD 0).toNat) ((m.getD cap).toNat - (l.getD 0).toNat))) w := by
  obtain ⟨info, d, z, ht⟩ := tiOf_some hi'
  obtain ⟨info', d', z', ht'⟩ := tiOf_some hei
  have htd := ht.td; rw [hd] at htd
  cases d <;> simp only [tdOf] at htd <;> try cases htd
  have hb := run_bounds (P := P) hr true len cap hl hh hm hmh h0 h1 h2 h3
  unfold execOp; rw [ho]
  simp only [Instr.sliceAt, Instr.slice, hx, Sem.run_bind, ht.run_und, ht'.run_size, Result.andThen_ok, hb, Sem.run_pure]

theorem op_slice_sl {t : TypeId} {x : Operand} {lo hi : Option Operand} {l h : Option Int} {i ei : TI} {e s : Nat} {xs : List PV} (ho : op.op = .slice t x lo hi none) (hi' : tiOf P t = some i) (hd : i.d = .slice e) (hei : tiOf P e = some ei) (hs : ei.size = s)
    (hx : ev σ x = some (.p (.sl s xs))) (hl : bnd σ lo l) (hh : bnd σ hi h) (h0 : 0 ≤ l.getD 0) (h1 : l.getD 0 ≤ h.getD xs.length) (h2 : h.getD xs.length ≤ xs.length)
    (hk : K (.p (.sl s ((xs.drop (l.getD 0).toNat).take ((h.getD xs.length).toNat - (l.getD 0).toNat)))) σ.tab σ.nx) : OpS P WG op σ K := by
  refine .pure (fun C j a w hr => ?_) hk
  have hv := hr.ev hx
  generalize hm : a.eval x = m at hv
  cases hv with
  | p hp =>
    cases hp with
    | nil =>
      rename_i b c
      simp only [List.length_nil] at h1 h2
      have hrun := run_slice_sl (P := P) hr ho hi' hd hei hm hl hh (show bnd σ none none from trivial) (by simp) h0 h1 (by simp only [Option.getD_none]; omega) (by simp)
      refine ⟨_, hrun, ?_⟩
      have e0 : (h.getD ((0 : Nat) : Int)).toNat - (l.getD 0).toNat = 0 := by omega
      rw [e0]
      simp only [List.drop_nil, List.take_nil]
      exact .p .nil
    | @sl s xs B o c n f hn hok hc hcell hlen hone hrel =>
      subst hn
      have hrun := run_slice_sl (P := P) hr ho hi' hd hei hm hl hh (show bnd σ none none from trivial) (by simp) h0 h1 (by simp only [Option.getD_none]; omega) (by simp)
      refine ⟨_, hrun, ?_⟩
      obtain ⟨L, hL⟩ : ∃ L : Nat, l.getD 0 = L := ⟨_, (Int.toNat_of_nonneg h0).symm⟩
      obtain ⟨H, hH⟩ : ∃ H : Nat, h.getD xs.length = H := ⟨_, (Int.toNat_of_nonneg (by omega)).symm⟩
      rw [hL] at h1
      rw [hH] at h1 h2
      simp only [hL, hH, Int.toNat_natCast, Option.getD_none]
      have hlen' : ((xs.drop L).take (H - L)).length = H - L := by simp; omega
      by_cases hz : H - L = 0
      · have : (xs.drop L).take (H - L) = [] := List.eq_nil_of_length_eq_zero (by rw [hlen', hz])
        rw [this, hz]; exact .p .nil
      · rw [if_neg (by omega)]
        simp only [Option.map_some, addr_add]
        have hget : ∀ i, i < H - L → ((xs.drop L).take (H - L))[i]? = xs[L + i]? := fun i hi => by
          rw [List.getElem?_take, if_pos hi, List.getElem?_drop]
        have hget' : ∀ (i : Nat) x, ((xs.drop L).take (H - L))[i]? = some x → i < H - L ∧ xs[L + i]? = some x := fun i x hx => by
          have hlt := (List.getElem?_eq_some_iff.1 hx).1
          rw [hlen'] at hlt
          exact ⟨hlt, (hget i hlt).symm.trans hx⟩
        refine .p (.sl (fun k => f (L * s + k)) hlen'.symm hok (by omega) (fun k hk => ?_) (fun i x hx => hlen _ _ (hget' i x hx).2) (fun i k x y hx hy => hone _ _ _ _ (hget' i x hx).2 hy) (fun i k x y hx hy => ?_))
        · have hb : L * s + k < xs.length * s := by
            have h4 : L * s + (H - L) * s = H * s := by rw [← Nat.add_mul]; congr 1; omega
            have h5 : H * s ≤ xs.length * s := Nat.mul_le_mul_right s (by omega)
            omega
          have := hcell _ hb
          rw [hs, Nat.add_assoc]; exact this
        · have := hrel _ _ _ _ (hget' i x hx).2 hy
          rw [Nat.add_mul] at this
          show PR w _ y (f (L * s + (i * s + k)))
          rwa [← Nat.add_assoc]

theorem op_slice_osl {t : TypeId} {x : Operand} {lo hi : Option Operand} {l h : Option Int} {i ei : TI} {e s b lo0 len : Nat} {cap : Option Nat} (ho : op.op = .slice t x lo hi none) (hi' : tiOf P t = some i) (hd : i.d = .slice e) (hei : tiOf P e = some ei) (hs : ei.size = s)
    (hx : ev σ x = some (.osl b s lo0 len cap)) (hl : bnd σ lo l) (hh : bnd σ hi h) (h0 : 0 ≤ l.getD 0) (h1 : l.getD 0 ≤ h.getD len) (h2 : h.getD len ≤ len)
    (hk : K (.osl b s (lo0 + (l.getD 0).toNat) ((h.getD len).toNat - (l.getD 0).toNat) (cap.map (· - (l.getD 0).toNat))) σ.tab σ.nx) : OpS P WG op σ K := by
  refine .pure (fun C j a w hr => ?_) hk
  have hv := hr.ev hx
  generalize hm : a.eval x = m at hv
  obtain ⟨L, hL⟩ : ∃ L : Nat, l.getD 0 = L := ⟨_, (Int.toNat_of_nonneg h0).symm⟩
  obtain ⟨H, hH⟩ : ∃ H : Nat, h.getD len = H := ⟨_, (Int.toNat_of_nonneg (by omega)).symm⟩
  have hLH : L ≤ H := by omega
  have hHl : H ≤ len := by omega
  simp only [hL, hH, Int.toNat_natCast]
  cases hv with
  | oslNil hb hj =>
    have hrun := run_slice_sl (P := P) hr ho hi' hd hei hm hl hh (show bnd σ none none from trivial) (by simp) h0 h1 (by simp only [Option.getD_none]; omega) (by simp)
    refine ⟨_, hrun, ?_⟩
    obtain rfl : L = 0 := by omega
    obtain rfl : H = 0 := by omega
    have e1 : (h.getD ((0 : Nat) : Int)).toNat - (l.getD 0).toNat = 0 := by omega
    have e2 : (l.getD 0).toNat = 0 := by omega
    rw [e1, e2]
    exact .oslNil hb hj
  | oslEnd hb hj hlo hcap =>
    have hrun := run_slice_sl (P := P) hr ho hi' hd hei hm hl hh (show bnd σ none none from trivial) (by simp) h0 h1 (by simp only [Option.getD_none]; omega) (by simp)
    refine ⟨_, hrun, ?_⟩
    obtain rfl : L = 0 := by omega
    obtain rfl : H = 0 := by omega
    have e1 : (h.getD ((0 : Nat) : Int)).toNat - (l.getD 0).toNat = 0 := by omega
    have e2 : (l.getD 0).toNat = 0 := by omega
    rw [e1, e2]
    refine VR.oslEnd hb hj (fun e => hlo ?_) (fun k hk => ?_)
    · cases cap with
      | none => rfl
      | some c => simp at e
    cases cap with
    | none => simp at hk
    | some c => simp at hk; subst hk; exact hcap _ rfl
  | @osl b s lo0 len cap l' c p hb hj hp hlen hc hsm hn =>
    have hrun := run_slice_sl (P := P) hr ho hi' hd hei hm hl hh (show bnd σ none none from trivial) (by simp) h0 h1 (by simp only [Option.getD_none]; omega) (by simp)
    refine ⟨_, hrun, ?_⟩
    simp only [hL, hH, Option.getD_none, Int.toNat_natCast]
    by_cases hz : c = L
    · subst hz
      have e1 : H - c = 0 := by omega
      simp only [if_true, Nat.sub_self, e1]
      refine .oslEnd hb hj (fun e => ?_) (fun k hk => ?_)
      · have : cap = none := by cases cap <;> simp_all
        have := hn this; omega
      · cases cap with
        | none => simp at hk
        | some c' => have := hsm c' rfl; simp at hk; omega
    · rw [if_neg (by omega)]
      simp only [Option.map_some, addr_add, hs]
      refine .osl hb hj (by rw [hp, Nat.add_mul]; omega) (by omega) (by omega) (fun k hk => ?_) (fun e => ?_)
      · cases cap with
        | none => simp at hk
        | some c' => have := hsm c' rfl; simp at hk; omega
      · have : cap = none := by cases cap <;> simp_all
        have := hn this; omega

theorem op_slice_bsl {t : TypeId} {x : Operand} {lo hi : Option Operand} {l h : Option Int} {i ei : TI} {e s b o len cap : Nat} (ho : op.op = .slice t x lo hi none) (hi' : tiOf P t = some i) (hd : i.d = .slice e) (hei : tiOf P e = some ei) (hs : ei.size = s)
    (hx : ev σ x = some (.bsl b o s len cap)) (hl : bnd σ lo l) (hh : bnd σ hi h) (h0 : 0 ≤ l.getD 0) (h1 : l.getD 0 ≤ h.getD len) (h2 : h.getD len ≤ len)
    (hk : K (.bsl b (o + (l.getD 0).toNat * s) s ((h.getD len).toNat - (l.getD 0).toNat) (cap - (l.getD 0).toNat)) σ.tab σ.nx) : OpS P WG op σ K := by
  refine .pure (fun C j a w hr => ?_) hk
  have hv := hr.ev hx
  generalize hm : a.eval x = m at hv
  obtain ⟨L, hL⟩ : ∃ L : Nat, l.getD 0 = L := ⟨_, (Int.toNat_of_nonneg h0).symm⟩
  obtain ⟨H, hH⟩ : ∃ H : Nat, h.getD len = H := ⟨_, (Int.toNat_of_nonneg (by omega)).symm⟩
  have hLH : L ≤ H := by omega
  have hHl : H ≤ len := by omega
  simp only [hL, hH, Int.toNat_natCast]
  cases hv with
  | bslEnd =>
    have hrun := run_slice_sl (P := P) hr ho hi' hd hei hm hl hh (show bnd σ none none from trivial) (by simp) h0 h1 (by simp only [Option.getD_none]; omega) (by simp)
    refine ⟨_, hrun, ?_⟩
    obtain rfl : L = 0 := by omega
    obtain rfl : H = 0 := by omega
    have e1 : (h.getD ((0 : Nat) : Int)).toNat - (l.getD 0).toNat = 0 := by omega
    have e2 : (l.getD 0).toNat = 0 := by omega
    rw [e1, e2]
    exact .bslEnd
  | @bsl b o s len cap l' p hb hj hp hlen =>
    have hrun := run_slice_sl (P := P) hr ho hi' hd hei hm hl hh (show bnd σ none none from trivial) (by simp) h0 h1 (by simp only [Option.getD_none]; omega) (by simp)
    refine ⟨_, hrun, ?_⟩
    simp only [hL, hH, Option.getD_none, Int.toNat_natCast]
    by_cases hz : cap = L
    · subst hz
      have e1 : H - cap = 0 := by omega
      simp only [if_true, Nat.sub_self, e1]
      exact .bslEnd
    · rw [if_neg (by omega)]
      simp only [Option.map_some, addr_add, hs]
      exact .bsl hb hj (by omega) (by omega)

theorem op_slice_arr {t : TypeId} {x : Operand} {lo hi : Option Operand} {l h : Option Int} {i ei : TI} {n e b o : Nat} (ho : op.op = .slice t x lo hi none) (hi' : tiOf P t = some i) (hd : i.d = .array n e) (hei : tiOf P e = some ei)
    (hx : ev σ x = some (.ref b o)) (hl : bnd σ lo l) (hh : bnd σ hi h) (h0 : 0 ≤ l.getD 0) (h1 : l.getD 0 ≤ h.getD n) (h2 : h.getD n ≤ n)
    (hk : K (.bsl b (o + (l.getD 0).toNat * ei.size) ei.size ((h.getD n).toNat - (l.getD 0).toNat) (n - (l.getD 0).toNat)) σ.tab σ.nx) : OpS P WG op σ K := by
  refine .pure (fun C j a w hr => ?_) hk
  obtain ⟨info, d, z, ht⟩ := tiOf_some hi'
  obtain ⟨info', d', z', ht'⟩ := tiOf_some hei
  have htd := ht.td; rw [hd] at htd
  cases d <;> simp only [tdOf] at htd <;> try cases htd
  obtain ⟨l', hb, hj, hm⟩ := ev_ref hr hx
  obtain ⟨L, hL⟩ : ∃ L : Nat, l.getD 0 = L := ⟨_, (Int.toNat_of_nonneg h0).symm⟩
  obtain ⟨H, hH⟩ : ∃ H : Nat, h.getD n = H := ⟨_, (Int.toNat_of_nonneg (by omega)).symm⟩
  have hLH : L ≤ H := by omega
  have hHl : H ≤ n := by omega
  have hbd := run_bounds (P := P) hr false n n hl hh (show bnd σ none none from trivial) (by simp) h0 h1 (by simpa using h2) (by simp)
  simp only [Option.map_none, Option.getD_none, hL, hH, Int.toNat_natCast] at hbd
  simp only [hL, hH, Int.toNat_natCast]
  have hrun : (execOp a.eval op).run P w = .ok (.value (.slice (some (if n = L then ⟨l'.blk, l'.off + o, none⟩ else ⟨l'.blk, l'.off + o + L * ei.size, none⟩)) (H - L) (n - L))) w := by
    unfold execOp; rw [ho]
    simp only [Instr.sliceAt, hm, Instr.sureAddr, Sem.run_bind, ht.run_und, ht'.run_size, Result.andThen_ok, Option.map_none, hbd, Sem.run_pure, addr_add]
  refine ⟨_, hrun, ?_⟩
  by_cases hz : n = L
  · subst hz
    have e1 : H - n = 0 := by omega
    simp only [if_true, Nat.sub_self, e1]
    exact .bslEnd
  · rw [if_neg hz]
    exact .bsl hb hj (by omega) (by omega)

theorem op_slice_ptr {t : TypeId} {x : Operand} {lo hi : Option Operand} {l h : Option Int} {i ei : TI} {n e o : Nat} {y : PV} (ho : op.op = .slice t x lo hi none) (hi' : tiOf P t = some i) (hd : i.d = .array n e) (hei : tiOf P e = some ei)
    (h1' : ei.agg = true ∨ ei.size = 1) (hx : ev σ x = some (.p (.ptr y o))) (hl : bnd σ lo l) (hh : bnd σ hi h) (h0 : 0 ≤ l.getD 0) (h1 : l.getD 0 ≤ h.getD n) (h2 : h.getD n ≤ n) (hlen : o + n * ei.size ≤ y.cells.length)
    (hk : K (.p (.sl ei.size (elemsOf ei.agg ei.size ((h.getD n).toNat - (l.getD 0).toNat) (y.cells.drop (o + (l.getD 0).toNat * ei.size))))) σ.tab σ.nx) : OpS P WG op σ K := by
  refine .pure (fun C j a w hr => ?_) hk
  obtain ⟨info, d, z, ht⟩ := tiOf_some hi'
  obtain ⟨info', d', z', ht'⟩ := tiOf_some hei
  have htd := ht.td; rw [hd] at htd
  cases d <;> simp only [tdOf] at htd <;> try cases htd
  obtain ⟨L, hL⟩ : ∃ L : Nat, l.getD 0 = L := ⟨_, (Int.toNat_of_nonneg h0).symm⟩
  obtain ⟨H, hH⟩ : ∃ H : Nat, h.getD n = H := ⟨_, (Int.toNat_of_nonneg (by omega)).symm⟩
  have hLH : L ≤ H := by omega
  have hHl : H ≤ n := by omega
  have hv := hr.ev hx
  generalize hm : a.eval x = m at hv
  cases hv with
  | p hp =>
    cases hp with
    | @ptr y B b o q f hok hq hcell hone hrel =>
      subst hq
      have hbd := run_bounds (P := P) hr false n n hl hh (show bnd σ none none from trivial) (by simp) h0 h1 (by simpa using h2) (by simp)
      simp only [Option.map_none, Option.getD_none, hL, hH, Int.toNat_natCast] at hbd
      simp only [hL, hH, Int.toNat_natCast]
      have hrun : (execOp a.eval op).run P w = .ok (.value (.slice (some (if n = L then ⟨B, b + o, none⟩ else ⟨B, b + o + L * ei.size, none⟩)) (H - L) (n - L))) w := by
        unfold execOp; rw [ho]
        simp only [Instr.sliceAt, hm, Instr.sureAddr, Sem.run_bind, ht.run_und, ht'.run_size, Result.andThen_ok, Option.map_none, hbd, Sem.run_pure, addr_add]
      refine ⟨_, hrun, ?_⟩
      by_cases hz : H - L = 0
      · rw [hz]; simp only [elemsOf]; exact .p .nil
      · rw [if_neg (by omega)]
        have hbnd : ∀ k, k < H - L → o + L * ei.size + (k * ei.size + ei.size) ≤ y.cells.length := fun k hk => by
          have h4 : L * ei.size + (k * ei.size + ei.size) = (L + (k + 1)) * ei.size := by rw [Nat.add_mul, Nat.succ_mul]
          have h5 : (L + (k + 1)) * ei.size ≤ n * ei.size := Nat.mul_le_mul_right _ (by omega)
          omega
        have hcs : ∀ (k : Nat) x, (elemsOf ei.agg ei.size (H - L) (y.cells.drop (o + L * ei.size)))[k]? = some x → k < H - L ∧ x.cells = ((y.cells.drop (o + L * ei.size)).drop (k * ei.size)).take ei.size := fun k x hx => by
          obtain ⟨hk, rfl⟩ := elemsOf_get hx
          have := hbnd k hk
          exact ⟨hk, elemOf_cells (s := ei.size) (by simp; omega) h1' (fun c hc => by
            obtain ⟨q, hq⟩ := List.mem_iff_getElem?.1 (List.mem_of_mem_drop (List.mem_of_mem_drop (List.mem_of_mem_take hc)))
            exact hone q c hq)⟩
        refine .p (.sl (fun k => f (o + L * ei.size + k)) (elemsOf_length).symm hok (by omega) (fun k hk => ?_) (fun k x hx => ?_) (fun k c x z hx hz' => ?_) (fun k c x z hx hz' => ?_))
        · have h4 : L * ei.size + (H - L) * ei.size = H * ei.size := by rw [← Nat.add_mul]; congr 1; omega
          have h5 : H * ei.size ≤ n * ei.size := Nat.mul_le_mul_right _ (by omega)
          have := hcell (o + L * ei.size + k) (by omega)
          rw [← this]; congr 2; omega
        · obtain ⟨hk, e⟩ := hcs k x hx
          have := hbnd k hk
          rw [e]; simp; omega
        · obtain ⟨hk, e⟩ := hcs k x hx
          rw [e] at hz'
          obtain ⟨q, hq⟩ := List.mem_iff_getElem?.1 (List.mem_of_mem_drop (List.mem_of_mem_drop (List.mem_of_mem_take (List.mem_of_getElem? hz'))))
          exact hone q z hq
        · obtain ⟨hk, e⟩ := hcs k x hx
          rw [e] at hz'
          have hlt : c < ei.size := by have := (List.getElem?_eq_some_iff.1 hz').1; simp at this; omega
          rw [List.getElem?_take, if_pos hlt, List.getElem?_drop, List.getElem?_drop] at hz'
          have := hrel _ _ hz'
          rwa [← Nat.add_assoc] at this ⊢

theorem op_slice_nil {t : TypeId} {x : Operand} {lo hi : Option Operand} {l h : Option Int} {i ei : TI} {e : Nat} (ho : op.op = .slice t x lo hi none) (hi' : tiOf P t = some i) (hd : i.d = .slice e) (hei : tiOf P e = some ei)
    (hx : ev σ x = some (.p (.v (.slice none 0 0)))) (hl : bnd σ lo l) (hh : bnd σ hi h) (h0 : l.getD 0 = 0) (h1 : h.getD 0 = 0)
    (hk : K (.p (.v (.slice none 0 0))) σ.tab σ.nx) : OpS P WG op σ K := by
  refine .pure (fun C j a w hr => ?_) hk
  have hrun := run_slice_sl (P := P) hr ho hi' hd hei (ev_flat hr hx) hl hh (show bnd σ none none from trivial) (by simp) (by omega) (by simp; omega) (by simp only [Option.getD_none]; simp; omega) (by simp)
  refine ⟨_, hrun, ?_⟩
  simp [h0, h1]
  exact .p (.v rfl)

theorem op_slice_zc {t : TypeId} {x : Operand} {lo hi mx : Option Operand} {i ei : TI} {e n : Nat} {v : V} (ho : op.op = .slice t x lo hi mx) (hi' : tiOf P t = some i) (hd : i.d = .slice e) (hei : tiOf P e = some ei)
    (hx : ev σ x = some v) (hn : lenV v = some n) (hl : bnd σ lo (some 0) ∨ bnd σ lo none) (hh : bnd σ hi (some 0)) (hm : bnd σ mx (some 0))
    (hk : K .zc σ.tab σ.nx) : OpS P WG op σ K := by
  refine .pure (fun C j a w hr => ?_) hk
  obtain ⟨b, c, hv, hc⟩ := (hr.ev hx).len hn
  rcases hl with hl | hl
  · have hrun := run_slice_sl (P := P) hr ho hi' hd hei hv hl hh hm (by simp) (by simp) (by simp) (by simp) (by simp)
    exact ⟨_, hrun, by simp; exact .zc⟩
  · have hrun := run_slice_sl (P := P) hr ho hi' hd hei hv hl hh hm (by simp) (by simp) (by simp) (by simp) (by simp)
    exact ⟨_, hrun, by simp; exact .zc⟩

theorem madeCells_get (z : Array Value) (n k : Nat) (hk : k < n) (hz : 0 < z.size) : ((Array.range n).map (z[· % z.size]!)).getD k undef = z.getD (k % z.size) undef := by
  have hm : k % z.size < z.size := Nat.mod_lt _ hz
  simp [Array.getD, hk, getElem!_pos, hm]

theorem op_makeSlice {t : TypeId} {xl xc : Operand} {i ei : TI} {e : Nat} {kl kc : IntKind} {l c : Int} (ho : op.op = .makeSlice t xl xc) (hi : tiOf P t = some i) (hd : i.d = .slice e) (hei : tiOf P e = some ei) (hpos : 0 < ei.size) (h1 : ei.agg = true ∨ ei.size = 1)
    (hl : ev σ xl = some (.p (.v (.int kl l)))) (hc : ev σ xc = some (.p (.v (.int kc c)))) (h0 : 0 ≤ l) (hlc : l ≤ c) (hc24 : c ≤ 16777216) (hb : (ei.bytes : Int) * c ≤ 281474976710656)
    (hk : K (.osl σ.nx ei.size 0 l.toNat (some c.toNat)) (aset σ.tab σ.nx (.arr ei.size (List.replicate c.toNat ei.zeroP) false)) (σ.nx + 1)) : OpS P WG op σ K := by
  intro C j a w hr
  obtain ⟨info, d, z, ht⟩ := tiOf_some hi
  obtain ⟨info', d', z', ht'⟩ := tiOf_some hei
  have htd := ht.td; rw [hd] at htd
  cases d <;> simp only [tdOf] at htd <;> try cases htd
  have hrun0 := run_make w t e info' z' ht.und ht'.inf ht'.hz kl kc l c h0 hlc (by rw [ht'.bytes]; exact hb) (by omega)
  have hzs : z'.cells.size = ei.size := by rw [ht'.zc]; simpa using ht'.zs
  have hzp := (ht'.zr w (okc C (Own j σ.tab) w)).cells
  have hzc : ei.zeroP.cells.length = ei.size := by rw [← hzp.1]; exact hzs
  obtain ⟨j', hm, hj⟩ := newArr hr ⟨rfl, rfl, rfl, rfl⟩ ei.size (List.replicate c.toNat ei.zeroP) false c.toNat (madeCells z'.cells (c.toNat * info'.size)) e (0, 0) (Opn.zero _) (by simp [madeCells, ht'.size]) (by simp) (by simp)
    (fun k x hx => by
      rw [List.getElem?_replicate] at hx
      split at hx
      · cases hx; exact hzc
      · cases hx)
    (fun k q x y hx hy => by
      rw [List.getElem?_replicate] at hx
      split at hx
      · rename_i hkc
        cases hx
        have hq : q < ei.size := by have := (List.getElem?_eq_some_iff.1 hy).1; omega
        have hb' : k * ei.size + ei.size ≤ c.toNat * ei.size := by rw [← Nat.succ_mul]; exact Nat.mul_le_mul_right _ hkc
        have := hzp.2 q y hy
        refine ⟨this.1, ?_⟩
        have e1 : (madeCells z'.cells (c.toNat * info'.size)).getD (k * ei.size + q) undef = z'.cells.getD q undef := by
          unfold madeCells
          rw [madeCells_get _ _ _ (by rw [ht'.size]; omega) (by rw [hzs]; exact hpos), hzs, Nat.mul_comm, Nat.mul_add_mod, Nat.mod_eq_of_lt hq]
        rw [e1]; exact this.2
      · cases hx)
  refine ⟨.slice (some ⟨w.heap.size, 0, none⟩) l.toNat c.toNat, _, .osl σ.nx ei.size 0 l.toNat (some c.toNat), j', _, _, ?_, hm, .osl (Nat.lt_succ_self _) hj (by simp) (by omega) (by simp) (fun k h => by cases h; rfl) (fun h => by cases h), hk⟩
  unfold execOp; rw [ho]
  simp only [ev_int hr hl, ev_int hr hc, Sem.run_bind, hrun0, Result.andThen_ok, Sem.run_pure]

end
end Go.Gp
