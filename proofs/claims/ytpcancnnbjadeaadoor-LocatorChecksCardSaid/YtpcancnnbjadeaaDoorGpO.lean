/-
  Loops over states that a measure orders; results that are data.
-/
import Derived.Test.YtpcancnnbjadeaaDoorGpN
set_option linter.unusedSimpArgs false
set_option linter.unusedVariables false
namespace Go.Gp
open Go.RowKit

/-- What is looked up in 'e' is what the row says. -/
def subE (e : List (Nat × V)) : List (Nat × V) → Prop
  | [] => True
  | (t, v) :: r => aget e t = some v ∧ subE e r
theorem subE_get {e : List (Nat × V)} : ∀ {r : List (Nat × V)}, subE e r → ∀ t v, aget r t = some v → aget e t = some v
  | [], _, t, v, h => by simp [aget] at h
  | (k, u) :: r, hs, t, v, h => by
    simp only [aget] at h
    split at h
    · rename_i e'; subst e'; cases h; exact hs.1
    · exact subE_get hs.2 t v h

/-- 'σ' says all that 'σ'' says. -/
def Le (σ σ' : St) : Prop := σ.tab = σ'.tab ∧ σ.nx = σ'.nx ∧ σ.lo = σ'.lo ∧ σ.n = σ'.n ∧ subE σ.env σ'.env

section
variable {P : Program} {WG : World} {σ : St} {Q : VX → St → Prop}
theorem Le.weak {σ' : St} (h : Le σ σ') : Weak WG σ σ' := by
  obtain ⟨h1, h2, h3, h4, h5⟩ := h
  have := Weak.env (WG := WG) (σ := σ) (e := σ'.env) (subE_get h5)
  have e : { σ with env := σ'.env } = σ' := by
    obtain ⟨e, t, x, l, n⟩ := σ'
    simp only at h1 h2 h3 h4
    subst h1 h2 h3 h4; rfl
  rw [e] at this; exact this

theorem T_loopW {c : Code} {ι : Type} (S : ι → St) (I : ι → Prop) (m : ι → Nat) (i0 : ι) (hI : I i0) (h0 : Weak WG σ (S i0))
    (round : ∀ i, I i → T P WG c (S i) (thenQ (fun σ' => ∃ i', I i' ∧ m i' < m i ∧ Weak WG σ' (S i')) Q)) : T P WG (.loop c) σ Q := by
  refine T_loop (fun n σ => ∃ i, I i ∧ m i = n ∧ Weak WG σ (S i)) (m i0) ⟨i0, hI, rfl, h0⟩ (fun n σ ⟨i, h1, h2, h3⟩ => ?_)
  subst h2
  exact T_weak h3 ((round i h1).mono fun x σ' hq => by
    cases x with
    | normal => obtain ⟨i', a, b, c⟩ := hq; exact ⟨m i', b, i', a, rfl, c⟩
    | _ => exact hq)

def loopK (WG : World) {ι : Type} (S : ι → St) (I : ι → Prop) (m : ι → Nat) (i : ι) : St → Prop := fun σ' => ∃ i', I i' ∧ m i' < m i ∧ Le σ' (S i')

/-- A loop: at the head of each round the state is 'S i', 'I i' holds, and 'm' falls. -/
theorem T_loopS {c : Code} {ι : Type} (S : ι → St) (I : ι → Prop) (m : ι → Nat) (i0 : ι) (hI : I i0) (h0 : Le σ (S i0))
    (round : ∀ i, I i → wpC P WG c (thenQ (loopK WG S I m i) Q) (S i)) : T P WG (.loop c) σ Q :=
  T_loopW S I m i0 hI h0.weak fun i hi => (wpC_sound _ _ _ (round i hi)).mono fun x σ' hq => by
    cases x with
    | normal => obtain ⟨i', a, b, c⟩ := hq; exact ⟨i', a, b, c.weak⟩
    | _ => exact hq

theorem loopK_eq {ι : Type} (S : ι → St) (I : ι → Prop) (m : ι → Nat) (i : ι) (σ' : St) : loopK WG S I m i σ' = ∃ i', I i' ∧ m i' < m i ∧ Le σ' (S i') := rfl

theorem FV.q {f : FuncId} {ps : List PV} {r : V} (h : FV P WG f ps r) {vs : List V} {tab : Tab} {nx : Nat} (hv : vs = ps.map .p) : CallQ P WG f vs tab nx r := by subst hv; exact h tab nx
theorem FV.v {f : FuncId} {ps : List PV} {r : V} (h : FV P WG f ps r) {vs : List V} (hv : vs = ps.map .p) : FVv P WG f vs r := by subst hv; exact h

/-- A call of a function on data, met while code is evaluated. -/
theorem FV.call {f : FuncId} {ps : List PV} {r : V} (h : FV P WG f ps r) {tab : Tab} {nx : Nat} {K KP : V → Tab → Nat → Prop} {vs : List V} (hv : vs = ps.map .p) (hk : K r tab nx) : CallT P WG f vs tab nx K KP := by
  subst hv
  exact (h tab nx).mono (fun r' t n ⟨h1, h2, h3⟩ => by subst h1 h2 h3; exact hk) (fun _ _ _ h => h.elim)

/-- The state in which a body begins, told with the number of slots. -/
def enter' (n : Nat) (vs : List V) (tab : Tab) (nx : Nat) : St := { env := enumFrom 0 vs, tab, nx, lo := nx, n }

def resK (P : Program) (rs : List ResultVar) (K : V → Tab → Nat → Prop) (σ : St) : Prop := 
  match resV P σ rs with
  | some r => K r σ.tab σ.nx
  | none => False

/-- What is asked of the body's end. -/
def bodyQ' (P : Program) (rs : List ResultVar) (K KP : V → Tab → Nat → Prop) : VX → St → Prop
  | .normal, σ | .ret, σ => resK P rs K σ
  | .panic v, σ => KP v σ.tab σ.nx
  | _, _ => False

theorem CallT_fn {f : FuncId} {fn : Func} {c : Code} {vs : List V} {tab : Tab} {nx n : Nat} {rs : List ResultVar} {K KP : V → Tab → Nat → Prop} (hf : P.funcs[f]? = some fn) (hres : fn.results.toList = rs) (hnt : fn.ntmps = n) (hn : vs.length ≤ n) (hb : fn.body = some c)
    (h : wpC P WG c (bodyQ' P rs K KP) (enter' n vs tab nx)) : CallT P WG f vs tab nx K KP := by
  subst hres hnt
  refine CallT_body hf hb hn ((wpC_sound _ _ _ h).mono fun x σ hq => ?_)
  have key : resK P fn.results.toList K σ → ∃ r, resV P σ fn.results.toList = some r ∧ K r σ.tab σ.nx := fun h => by
    unfold resK at h
    split at h
    · rename_i r hr; exact ⟨r, hr, h⟩
    · exact h.elim
  cases x with
  | normal => exact key hq
  | ret => exact key hq
  | panic v => exact hq
  | exit => exact hq
  | goto => exact hq

theorem bodyQ'_normal (rs : List ResultVar) (K KP : V → Tab → Nat → Prop) (σ : St) : bodyQ' P rs K KP .normal σ = resK P rs K σ := rfl
theorem bodyQ'_ret (rs : List ResultVar) (K KP : V → Tab → Nat → Prop) (σ : St) : bodyQ' P rs K KP .ret σ = resK P rs K σ := rfl
theorem bodyQ'_panic (rs : List ResultVar) (K KP : V → Tab → Nat → Prop) (σ : St) (v : V) : bodyQ' P rs K KP (.panic v) σ = KP v σ.tab σ.nx := rfl
end

abbrev pI (n : Int) : PV := .v (.int .i64 n)
abbrev pU8 (n : Int) : PV := .v (.int .u8 n)
abbrev pB (b : Bool) : PV := .v (.bool b)
abbrev pS (s : ByteArray) : PV := .v (.string s)
abbrev vI (n : Int) : V := .p (.v (.int .i64 n))
abbrev vU8 (n : Int) : V := .p (.v (.int .u8 n))
abbrev vB (b : Bool) : V := .p (.v (.bool b))
abbrev vS (s : ByteArray) : V := .p (.v (.string s))
theorem wrap_i64 (n : Int) (h1 : -9223372036854775808 ≤ n) (h2 : n < 9223372036854775808) : IntKind.i64.wrap n = n := by
  simp only [IntKind.wrap, IntKind.signed, IntKind.bits]
  simp
  omega
theorem wrap_u8 (n : Int) (h1 : 0 ≤ n) (h2 : n < 256) : IntKind.u8.wrap n = n := by
  simp only [IntKind.wrap, IntKind.signed, IntKind.bits]
  simp
  omega
theorem notImp (b : Bool) : (b = false → (!b) = true) = True := by cases b <;> simp
theorem notImp2 (b : Bool) (p : Prop) : (b = false → (!b) = true ∧ p) = (b = false → p) := by cases b <;> simp
theorem beq_true' (b : Bool) : (b == true) = b := by cases b <;> rfl
theorem beq_false' (b : Bool) : (b == false) = !b := by cases b <;> rfl
end Go.Gp
