/-
  Pure data, the values of a frame, and how they stand to machine values and to a world. No program in sight.
-/
import Derived.Calls
import Derived.Below
import Derived.WalkKit
import Derived.Laws.CopyRow
import Derived.Laws.Cells
set_option linter.unusedSimpArgs false
set_option linter.unusedVariables false
namespace Go.Gp
open Go.RowKit

/-- Pure data: a flat machine value, a slice that can be read (stride, elements), a row of cells, a pointer to cell 'o' of a row that can be read, a closure over such data, an interface value. -/
inductive PV where
  | v (x : Value)
  | sl (s : Nat) (xs : List PV)
  | agg (cs : List PV)
  | ptr (x : PV) (o : Nat)
  | clo (fn : Fn) (fs cs : List PV)
  | ifc (t : TypeId) (x : PV)
  deriving Inhabited

def PV.cells : PV → List PV
  | .agg cs => cs
  | x => [x]
def PV.one : PV → Bool
  | .agg _ => false
  | _ => true

def flatV : Value → Bool
  | .bool _ | .int _ _ | .string _ | .nilFunc | .nilIface | .pointer none | .map none | .slice none 0 0 => true
  | _ => false

/-- What a machine value holds as data, where the blocks that 'ok' names are looked into. -/
inductive PR (w : World) (ok : Nat → Prop) : PV → Value → Prop
  | v {x} (h : flatV x = true) : PR w ok (.v x) x
  | nil {s a c} : PR w ok (.sl s []) (.slice a 0 c)
  | sl {s xs B o c n} (f : Nat → Value) (hn : n = xs.length) (hok : ok B) (hc : n ≤ c)
      (hcell : ∀ k, k < n * s → w.cell? ⟨B, o + k, none⟩ = some (f k))
      (hlen : ∀ (i : Nat) x, xs[i]? = some x → x.cells.length = s)
      (hone : ∀ (i k : Nat) x y, xs[i]? = some x → x.cells[k]? = some y → y.one = true)
      (hrel : ∀ (i k : Nat) x y, xs[i]? = some x → x.cells[k]? = some y → PR w ok y (f (i * s + k))) :
      PR w ok (.sl s xs) (.slice (some ⟨B, o, none⟩) n c)
  | agg {cs ms} (hlen : ms.size = cs.length) (hone : ∀ (i : Nat) c, cs[i]? = some c → c.one = true)
      (hrel : ∀ (i : Nat) c, cs[i]? = some c → PR w ok c (ms.getD i undef)) : PR w ok (.agg cs) (.agg ms)
  | ptr {x B a o q} (f : Nat → Value) (hok : ok B) (hq : q = a + o)
      (hcell : ∀ k, k < x.cells.length → w.cell? ⟨B, a + k, none⟩ = some (f k))
      (hone : ∀ (i : Nat) c, x.cells[i]? = some c → c.one = true)
      (hrel : ∀ (i : Nat) c, x.cells[i]? = some c → PR w ok c (f i)) : PR w ok (.ptr x o) (.pointer (some ⟨B, q, none⟩))
  | clo {fn fs cs ms ns} (h1 : ms.size = fs.length) (h2 : ns.size = cs.length) (hf : ∀ (i : Nat) c, fs[i]? = some c → PR w ok c (ms.getD i undef))
      (hc : ∀ (i : Nat) c, cs[i]? = some c → PR w ok c (ns.getD i undef)) : PR w ok (.clo fn fs cs) (.func fn ms ns)
  | ifc {t x m} (h : PR w ok x m) : PR w ok (.ifc t x) (.iface t m)

theorem PR.mono {w w' : World} {ok ok' : Nat → Prop} (h : ∀ k, ok k → ok' k ∧ w'.heap[k]? = w.heap[k]?) {x : PV} {m : Value} (r : PR w ok x m) : PR w' ok' x m := by
  have hc : ∀ (B o : Nat), ok B → w'.cell? ⟨B, o, none⟩ = w.cell? ⟨B, o, none⟩ := fun B o hb => World.cell?_of_block (h B hb).2
  induction r with
  | v hf => exact .v hf
  | nil => exact .nil
  | sl f hn hok hcap hcell hlen hone _ ih => exact .sl f hn (h _ hok).1 hcap (fun k hk => (hc _ _ hok).trans (hcell k hk)) hlen hone ih
  | agg hlen hone _ ih => exact .agg hlen hone ih
  | ptr f hok hq hcell hone _ ih => exact .ptr f (h _ hok).1 hq (fun k hk => (hc _ _ hok).trans (hcell k hk)) hone ih
  | clo h1 h2 _ _ ih1 ih2 => exact .clo h1 h2 ih1 ih2
  | ifc _ ih => exact .ifc ih

theorem flatV_one {x : Value} (h : flatV x = true) : x.oneCell' = true := by cases x <;> simp_all [flatV, Value.oneCell']
theorem PR.one {w : World} {ok : Nat → Prop} {x : PV} {m : Value} (r : PR w ok x m) (h : x.one = true) : m.oneCell' = true := by
  cases r with
  | v hf => exact flatV_one hf
  | agg => simp [PV.one] at h
  | _ => rfl
/-- Its cells. -/
theorem PR.cells {w : World} {ok : Nat → Prop} {x : PV} {m : Value} (r : PR w ok x m) :
    m.cells.size = x.cells.length ∧ (∀ (i : Nat) c, x.cells[i]? = some c → c.one = true ∧ PR w ok c (m.cells.getD i undef)) := by
  cases r with
  | agg hlen hone hrel => exact ⟨hlen, fun i c hi => ⟨hone i c hi, hrel i c hi⟩⟩
  | v hf =>
    have e : m.cells = #[m] := by cases m <;> simp_all [flatV, Value.cells]
    refine ⟨by simp [e, PV.cells], fun i c hi => ?_⟩
    have : i = 0 ∧ c = .v m := by
      rcases i with _ | i <;> simp_all [PV.cells]
    obtain ⟨rfl, rfl⟩ := this
    exact ⟨rfl, by simpa [e] using PR.v hf⟩
  | nil =>
    refine ⟨rfl, fun i c hi => ?_⟩
    rcases i with _ | i
    · simp [PV.cells] at hi; subst hi; exact ⟨rfl, .nil⟩
    · simp [PV.cells] at hi
  | sl f hn hok hcap hcell hlen hone hrel =>
    refine ⟨rfl, fun i c hi => ?_⟩
    rcases i with _ | i
    · simp [PV.cells] at hi; subst hi; exact ⟨rfl, .sl f hn hok hcap hcell hlen hone hrel⟩
    · simp [PV.cells] at hi
  | ptr f hok hq hcell hone hrel =>
    refine ⟨rfl, fun i c hi => ?_⟩
    rcases i with _ | i
    · simp [PV.cells] at hi; subst hi; exact ⟨rfl, .ptr f hok hq hcell hone hrel⟩
    · simp [PV.cells] at hi
  | clo h1 h2 h3 h4 =>
    refine ⟨rfl, fun i c hi => ?_⟩
    rcases i with _ | i
    · simp [PV.cells] at hi; subst hi; exact ⟨rfl, .clo h1 h2 h3 h4⟩
    · simp [PV.cells] at hi
  | ifc h =>
    refine ⟨rfl, fun i c hi => ?_⟩
    rcases i with _ | i
    · simp [PV.cells] at hi; subst hi; exact ⟨rfl, .ifc h⟩
    · simp [PV.cells] at hi

/-- The values of a frame: data; a pointer to a cell of a local box; one to cell 'c' of element 'i' of a local array; a slice of a local array (from element 'lo' on; its capacity where it is known); a slice of the cells of a local box; rows, tuples, closures, interface values of such; a local map. -/
inductive V where
  | p (x : PV)
  | ref (b o : Nat)
  | eref (b s i c : Nat)
  | osl (b s lo len : Nat) (cap : Option Nat)
  | bsl (b o s len cap : Nat)
  | agg (cs : List V)
  | tup (vs : List V)
  | clo (fn : Fn) (fs cs : List V)
  | ifc (t : TypeId) (x : V)
  | mp (b : Nat)
  | zc
  | cnd (b : Bool) (x : V)
  deriving Inhabited

def V.one : V → Bool
  | .agg _ | .tup _ | .cnd _ _ => false
  | .p x => x.one
  | _ => true
def V.cells : V → List V
  | .agg cs => cs
  | .p (.agg cs) => cs.map .p
  | x => [x]

structure Loc where
  blk : Nat
  off : Nat
  cap : Nat

inductive VR (w : World) (ok : Nat → Prop) (j : Nat → Option Loc) (nx : Nat) : V → Value → Prop
  | p {x m} (h : PR w ok x m) : VR w ok j nx (.p x) m
  | ref {b o l q} (hb : b < nx) (hl : j b = some l) (hq : q = l.off + o) : VR w ok j nx (.ref b o) (.pointer (some ⟨l.blk, q, none⟩))
  | eref {b s i c l q} (hb : b < nx) (hl : j b = some l) (hq : q = l.off + (i * s + c)) : VR w ok j nx (.eref b s i c) (.pointer (some ⟨l.blk, q, none⟩))
  | oslNil {b s a} (hb : b < nx) (hl : j b = none) : VR w ok j nx (.osl b s 0 0 none) (.slice a 0 0)
  | oslEnd {b s lo cap l a} (hb : b < nx) (hl : j b = some l) (hlo : cap = none → lo = l.cap) (hcap : ∀ k, cap = some k → k = 0) : VR w ok j nx (.osl b s lo 0 cap) (.slice a 0 0)
  | osl {b s lo len cap l c q} (hb : b < nx) (hl : j b = some l) (hq : q = l.off + lo * s) (hlen : len ≤ c) (hc : lo + c ≤ l.cap) (hsome : ∀ k, cap = some k → c = k)
      (hnone : cap = none → lo + c = l.cap) : VR w ok j nx (.osl b s lo len cap) (.slice (some ⟨l.blk, q, none⟩) len c)
  | bsl {b o s len cap l q} (hb : b < nx) (hl : j b = some l) (hq : q = l.off + o) (hlen : len ≤ cap) : VR w ok j nx (.bsl b o s len cap) (.slice (some ⟨l.blk, q, none⟩) len cap)
  | bslEnd {b o s a} : VR w ok j nx (.bsl b o s 0 0) (.slice a 0 0)
  | agg {cs ms} (hlen : ms.size = cs.length) (hone : ∀ (i : Nat) c, cs[i]? = some c → c.one = true)
      (hrel : ∀ (i : Nat) c, cs[i]? = some c → VR w ok j nx c (ms.getD i undef)) : VR w ok j nx (.agg cs) (.agg ms)
  | tup {vs ms} (hlen : ms.size = vs.length) (hrel : ∀ (i : Nat) c, vs[i]? = some c → VR w ok j nx c (ms.getD i undef)) : VR w ok j nx (.tup vs) (.tuple ms)
  | clo {fn fs cs ms ns} (h1 : ms.size = fs.length) (h2 : ns.size = cs.length) (hf : ∀ (i : Nat) c, fs[i]? = some c → VR w ok j nx c (ms.getD i undef))
      (hc : ∀ (i : Nat) c, cs[i]? = some c → VR w ok j nx c (ns.getD i undef)) : VR w ok j nx (.clo fn fs cs) (.func fn ms ns)
  | ifc {t x m} (h : VR w ok j nx x m) : VR w ok j nx (.ifc t x) (.iface t m)
  | mp {b l} (hb : b < nx) (hl : j b = some l) : VR w ok j nx (.mp b) (.map (some l.blk))
  | zc {a} : VR w ok j nx .zc (.slice a 0 0)
  | cnd {b x m} (h : b = true → VR w ok j nx x m) (h0 : b = false → m = undef) : VR w ok j nx (.cnd b x) m

theorem VR.mono {w w' : World} {ok ok' : Nat → Prop} {j j' : Nat → Option Loc} {nx nx' : Nat} (h : ∀ k, ok k → ok' k ∧ w'.heap[k]? = w.heap[k]?)
    (hj : ∀ b, b < nx → j' b = j b ∧ b < nx') {x : V} {m : Value} (r : VR w ok j nx x m) : VR w' ok' j' nx' x m := by
  induction r with
  | p hp => exact .p (hp.mono h)
  | ref hb hl hq => exact .ref (hj _ hb).2 ((hj _ hb).1.trans hl) hq
  | eref hb hl hq => exact .eref (hj _ hb).2 ((hj _ hb).1.trans hl) hq
  | oslNil hb hl => exact .oslNil (hj _ hb).2 ((hj _ hb).1.trans hl)
  | oslEnd hb hl hlo hcap => exact .oslEnd (hj _ hb).2 ((hj _ hb).1.trans hl) hlo hcap
  | osl hb hl hq hlen hc hs hn => exact .osl (hj _ hb).2 ((hj _ hb).1.trans hl) hq hlen hc hs hn
  | bsl hb hl hq hlen => exact .bsl (hj _ hb).2 ((hj _ hb).1.trans hl) hq hlen
  | bslEnd => exact .bslEnd
  | agg hlen hone _ ih => exact .agg hlen hone ih
  | tup hlen _ ih => exact .tup hlen ih
  | clo h1 h2 _ _ ih1 ih2 => exact .clo h1 h2 ih1 ih2
  | ifc _ ih => exact .ifc ih
  | mp hb hl => exact .mp (hj _ hb).2 ((hj _ hb).1.trans hl)
  | zc => exact .zc
  | cnd _ h0 ih => exact .cnd ih h0

theorem VR.one {w : World} {ok : Nat → Prop} {j : Nat → Option Loc} {nx : Nat} {x : V} {m : Value} (r : VR w ok j nx x m) (h : x.one = true) : m.oneCell' = true := by
  cases r with
  | p hp => exact hp.one h
  | agg => simp [V.one] at h
  | tup => simp [V.one] at h
  | cnd => simp [V.one] at h
  | _ => rfl

theorem getD_zero_singleton (m : Value) : (#[m] : Array Value).getD 0 undef = m := rfl

/-- Its cells (a tuple has none). -/
theorem VR.cells {w : World} {ok : Nat → Prop} {j : Nat → Option Loc} {nx : Nat} {x : V} {m : Value} (r : VR w ok j nx x m) (ht : ∀ vs, x ≠ .tup vs) (hcd : ∀ b y, x ≠ .cnd b y) :
    m.cells.size = x.cells.length ∧ (∀ (i : Nat) c, x.cells[i]? = some c → c.one = true ∧ VR w ok j nx c (m.cells.getD i undef)) := by
  have one : ∀ (x : V) (m : Value), x.cells = [x] → m.cells = #[m] → x.one = true → VR w ok j nx x m →
      m.cells.size = x.cells.length ∧ (∀ (i : Nat) c, x.cells[i]? = some c → c.one = true ∧ VR w ok j nx c (m.cells.getD i undef)) := by
    intro x m e1 e2 h1 hr
    refine ⟨by simp [e1, e2], fun i c hi => ?_⟩
    rw [e1] at hi
    rcases i with _ | i
    · simp at hi; subst hi; exact ⟨h1, by simpa [e2] using hr⟩
    · simp at hi
  cases r with
  | @p x m hp =>
    have hc := hp.cells
    cases x with
    | agg cs =>
      refine ⟨by simpa [V.cells, PV.cells] using hc.1, fun i c hi => ?_⟩
      simp only [V.cells, List.getElem?_map] at hi
      cases hcs : cs[i]? with
      | none => simp [hcs] at hi
      | some y =>
        simp [hcs] at hi; subst hi
        obtain ⟨h1, h2⟩ := hc.2 i y hcs
        exact ⟨h1, .p h2⟩
    | _ => exact one _ _ rfl (by cases hp <;> first | rfl | (rename_i hf; cases m <;> simp_all [flatV, Value.cells])) rfl (.p hp)
  | agg hlen hone hrel => exact ⟨hlen, fun i c hi => ⟨hone i c hi, hrel i c hi⟩⟩
  | tup => exact absurd rfl (ht _)
  | cnd => exact absurd rfl (hcd _ _)
  | ref hb hl hq => exact one _ _ rfl rfl rfl (.ref hb hl hq)
  | eref hb hl hq => exact one _ _ rfl rfl rfl (.eref hb hl hq)
  | oslNil hb hl => exact one _ _ rfl rfl rfl (.oslNil hb hl)
  | oslEnd hb hl hlo hcap => exact one _ _ rfl rfl rfl (.oslEnd hb hl hlo hcap)
  | osl hb hl hq hlen hc hs hn => exact one _ _ rfl rfl rfl (.osl hb hl hq hlen hc hs hn)
  | bsl hb hl hq hlen => exact one _ _ rfl rfl rfl (.bsl hb hl hq hlen)
  | bslEnd => exact one _ _ rfl rfl rfl .bslEnd
  | clo h1 h2 h3 h4 => exact one _ _ rfl rfl rfl (.clo h1 h2 h3 h4)
  | ifc h => exact one _ _ rfl rfl rfl (.ifc h)
  | mp hb hl => exact one _ _ rfl rfl rfl (.mp hb hl)
  | zc => exact one _ _ rfl rfl rfl .zc

end Go.Gp
