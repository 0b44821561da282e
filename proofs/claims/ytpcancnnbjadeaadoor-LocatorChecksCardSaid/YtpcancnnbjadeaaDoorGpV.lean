/-
  Cuts: at a place in the code the states are gathered. Own memory lent to calls on data.
-/
import Derived.Test.YtpcancnnbjadeaaDoorGpU
set_option linter.unusedSimpArgs false
set_option linter.unusedVariables false
namespace Go.Gp
open Go.RowKit

section
variable {P : Program} {WG : World} {σ : St} {Q : VX → St → Prop}

theorem T_seqC {a b : Code} (h : wpC P WG a (thenQ (fun σ' => T P WG b σ' Q) Q) σ) : T P WG (.seq a b) σ Q := T_seq (wpC_sound _ _ _ h)
theorem T_fin {a : Code} (h : wpC P WG a Q σ) : T P WG a σ Q := wpC_sound _ _ _ h

def cutK {ι : Type} (S : ι → St) (I : ι → Prop) : St → Prop := fun σ' => ∃ i, I i ∧ Le σ' (S i)
theorem cutK_eq {ι : Type} (S : ι → St) (I : ι → Prop) (σ' : St) : cutK S I σ' = ∃ i, I i ∧ Le σ' (S i) := rfl
def cut1 (S : St) : St → Prop := fun σ' => Le σ' S
theorem cut1_eq (S : St) (σ' : St) : cut1 S σ' = Le σ' S := rfl

/-- Behind 'a' the state is one of 'S'. -/
theorem T_cut {ι : Type} (S : ι → St) (I : ι → Prop) {a b : Code} (h1 : wpC P WG a (thenQ (cutK S I) Q) σ) (h2 : ∀ i, I i → T P WG b (S i) Q) : T P WG (.seq a b) σ Q :=
  T_seq ((wpC_sound _ _ _ h1).mono fun x σ' hq => by
    cases x with
    | normal => obtain ⟨i, a, c⟩ := hq; exact T_weak c.weak (h2 i a)
    | _ => exact hq)
theorem T_cut1 (S : St) {a b : Code} (h1 : wpC P WG a (thenQ (cut1 S) Q) σ) (h2 : T P WG b S Q) : T P WG (.seq a b) σ Q :=
  T_seq ((wpC_sound _ _ _ h1).mono fun x σ' hq => by
    cases x with
    | normal => exact T_weak (Le.weak hq) h2
    | _ => exact hq)

/-- As 'CallT_fn', where the body's triple is to be shown. -/
theorem CallT_fnT {f : FuncId} {fn : Func} {c : Code} {vs : List V} {tab : Tab} {nx n : Nat} {rs : List ResultVar} {K KP : V → Tab → Nat → Prop} (hf : P.funcs[f]? = some fn) (hres : fn.results.toList = rs) (hnt : fn.ntmps = n) (hn : vs.length ≤ n) (hb : fn.body = some c)
    (h : T P WG c (enter' n vs tab nx) (bodyQ' P rs K KP)) : CallT P WG f vs tab nx K KP := by
  subst hres hnt
  refine CallT_body hf hb hn (h.mono fun x σ hq => ?_)
  have key : resK P fn.results.toList K σ → ∃ r, resV P σ fn.results.toList = some r ∧ K r σ.tab σ.nx := fun h => by
    unfold resK at h
    split at h
    · rename_i r hr; exact ⟨r, hr, h⟩
    · exact h.elim
  cases x with
  | normal => exact key hq
  | ret => exact key hq
  | panic v => exact hq
  | exit => exact hq
  | goto => exact hq
end
end Go.Gp
