/-
  States of a frame, triples for code and for calls, the rules of control.
-/
import Derived.Test.YtpcancnnbjadeaaDoorGpB
set_option linter.unusedSimpArgs false
set_option linter.unusedVariables false
namespace Go.Gp
open Go.RowKit

structure St where
  env : List (Nat × V)
  tab : Tab
  nx : Nat
  lo : Nat
  n : Nat

inductive VX where
  | normal
  | exit (id : Nat)
  | goto (l : Nat)
  | ret
  | panic (v : V)

inductive VXR (w : World) (ok : Nat → Prop) (j : Nat → Option Loc) (nx : Nat) : VX → Exit → Prop
  | normal : VXR w ok j nx .normal .normal
  | exit {i} : VXR w ok j nx (.exit i) (.exit i)
  | goto {l} : VXR w ok j nx (.goto l) (.goto l)
  | ret : VXR w ok j nx .ret .ret
  | panic {v m} (h : VR w ok j nx v m) : VXR w ok j nx (.panic v) (.panic [{ v := m, recovered := false }])

structure ERel (WG : World) (C : Ctx) (j : Nat → Option Loc) (σ : St) (a : Act) (w : World) : Prop where
  mem : MemR WG C j σ.tab σ.nx w
  lo : C.nb ≤ σ.lo
  lx : σ.lo ≤ σ.nx
  env : ∀ t v, aget σ.env t = some v → ∃ m, a.tmps[t]? = some m ∧ VR w (okc C (Own j σ.tab) w) j σ.nx v m
  n : a.tmps.size = σ.n
  defers : a.defers = []

section
variable (P : Program) (WG : World)

def PostR (C : Ctx) (Q : VX → St → Prop) : Exit → Act → World → Prop :=
  fun e a w => ∃ x σ j, VXR w (okc C (Own j σ.tab) w) j σ.nx x e ∧ ERel WG C j σ a w ∧ Q x σ

/-- From state 'σ' the code comes to an end of which 'Q' holds. -/
def T (c : Code) (σ : St) (Q : VX → St → Prop) : Prop :=
  ∀ C j a w, ERel WG C j σ a w → c.wp P (PostR WG C Q) a w

def VRs (w : World) (ok : Nat → Prop) (j : Nat → Option Loc) (nx : Nat) (vs : List V) (ms : Array Value) : Prop :=
  ms.size = vs.length ∧ ∀ (i : Nat) v, vs[i]? = some v → VR w ok j nx v (ms.getD i undef)

def EndR (C : Ctx) (K KP : V → Tab → Nat → Prop) : Ending → World → Prop
  | .returned m, w => ∃ j tab nx r, MemR WG C j tab nx w ∧ VR w (okc C (Own j tab) w) j nx r m ∧ K r tab nx
  | .panicked chain, w => ∃ j tab nx r m, MemR WG C j tab nx w ∧ chain = [{ v := m, recovered := false }] ∧ VR w (okc C (Own j tab) w) j nx r m ∧ KP r tab nx
  | .outgrown, _ => False

/-- The call of 'f' with 'vs', over local memory 'tab', returns: 'K' holds of the result and of the memory then ('KP': it panics). -/
def CallT (f : FuncId) (vs : List V) (tab : Tab) (nx : Nat) (K KP : V → Tab → Nat → Prop) : Prop :=
  ∀ C j w ms, C.nb = nx → C.j0 = j → C.own0 = Own j tab → C.w0 = w → MemR WG C j tab nx w → VRs w (okc C (Own j tab) w) j nx vs ms → Calls P f ms w (EndR WG C K KP)

end

def noP : V → Tab → Nat → Prop := fun _ _ _ => False

section rules
variable {P : Program} {WG : World} {σ : St} {Q : VX → St → Prop}

theorem T.mono {c : Code} {Q' : VX → St → Prop} (h : T P WG c σ Q) (hq : ∀ x σ, Q x σ → Q' x σ) : T P WG c σ Q' :=
  fun C j a w hr => wp_mono (h C j a w hr) fun _ _ _ ⟨x, σ, j, h1, h2, h3⟩ => ⟨x, σ, j, h1, h2, hq _ _ h3⟩

theorem CallT.mono {f : FuncId} {vs : List V} {tab : Tab} {nx : Nat} {K KP K' KP' : V → Tab → Nat → Prop} (h : CallT P WG f vs tab nx K KP)
    (hk : ∀ r t n, K r t n → K' r t n) (hp : ∀ r t n, KP r t n → KP' r t n) : CallT P WG f vs tab nx K' KP' :=
  fun C j w ms h1 h2 h3 h4 h5 h6 => (h C j w ms h1 h2 h3 h4 h5 h6).mono fun e w' he => by
    cases e with
    | returned m => obtain ⟨j, t, n, r, a, b, c⟩ := he; exact ⟨j, t, n, r, a, b, hk _ _ _ c⟩
    | panicked ch => obtain ⟨j, t, n, r, m, a, b, c, d⟩ := he; exact ⟨j, t, n, r, m, a, b, c, hp _ _ _ d⟩
    | outgrown => exact he

theorem T_skip (h : Q .normal σ) : T P WG .skip σ Q := fun _ j _ _ hr => wp_skip ⟨.normal, σ, j, .normal, hr, h⟩
theorem T_label {l : Nat} (h : Q .normal σ) : T P WG (.label l) σ Q := fun _ j _ _ hr => wp_label ⟨.normal, σ, j, .normal, hr, h⟩
theorem T_exit {i : Nat} (h : Q (.exit i) σ) : T P WG (.exit i) σ Q := fun _ j _ _ hr => wp_exit ⟨.exit i, σ, j, .exit, hr, h⟩
theorem T_goto {i : Nat} (h : Q (.goto i) σ) : T P WG (.goto i) σ Q := fun _ j _ _ hr => wp_goto ⟨.goto i, σ, j, .goto, hr, h⟩
theorem T_ret (h : Q .ret σ) : T P WG .ret σ Q := fun _ j _ _ hr => wp_ret ⟨.ret, σ, j, .ret, hr, h⟩

def thenQ (K : St → Prop) (Q : VX → St → Prop) : VX → St → Prop
  | .normal, σ => K σ
  | x, σ => Q x σ

theorem T_seq {x y : Code} (h : T P WG x σ (thenQ (fun σ' => T P WG y σ' Q) Q)) : T P WG (.seq x y) σ Q :=
  fun C j a w hr => wp_seq <| wp_mono (h C j a w hr) fun e a w ⟨x, σ', j', hx, hr', hq⟩ => by
    cases hx with
    | normal => exact hq C j' a w hr'
    | exit => exact ⟨_, σ', j', .exit, hr', hq⟩
    | goto => exact ⟨_, σ', j', .goto, hr', hq⟩
    | ret => exact ⟨_, σ', j', .ret, hr', hq⟩
    | panic h => exact ⟨_, σ', j', .panic h, hr', hq⟩

def blockQ (id : Nat) (Q : VX → St → Prop) : VX → St → Prop
  | .exit id', σ => if id' = id then Q .normal σ else Q (.exit id') σ
  | x, σ => Q x σ

theorem T_block {id : Nat} {c : Code} (h : T P WG c σ (blockQ id Q)) : T P WG (.block id c) σ Q :=
  fun C j a w hr => wp_block <| wp_mono (h C j a w hr) fun e a w ⟨x, σ', j', hx, hr', hq⟩ => by
    cases hx with
    | @exit i =>
      simp only [Exit.inBlock]
      by_cases hi : i = id
      · simp only [blockQ, hi, if_true] at hq ⊢; exact ⟨.normal, σ', j', .normal, hr', hq⟩
      · simp only [blockQ, hi, if_false] at hq ⊢; exact ⟨.exit i, σ', j', .exit, hr', hq⟩
    | normal => exact ⟨_, σ', j', .normal, hr', hq⟩
    | goto => exact ⟨_, σ', j', .goto, hr', hq⟩
    | ret => exact ⟨_, σ', j', .ret, hr', hq⟩
    | panic h => exact ⟨_, σ', j', .panic h, hr', hq⟩

def ev (σ : St) : Operand → Option V
  | .tmp t => aget σ.env t
  | .const c => if flatV c then some (.p (.v c)) else
      match c with
      | .agg cs => if cs.all flatV then some (.p (.agg (cs.toList.map .v))) else none
      | _ => none
  | .func f => some (.p (.clo (.func f) [] []))
  | .global _ => none

theorem PR.constAgg {w : World} {ok : Nat → Prop} {cs : Array Value} (h : cs.all flatV = true) : PR w ok (.agg (cs.toList.map .v)) (.agg cs) := by
  have hf := Array.all_eq_true_iff_forall_mem.1 h
  refine .agg (by simp) (fun i c hi => ?_) (fun i c hi => ?_)
  · simp only [List.getElem?_map] at hi
    cases hc : cs.toList[i]? with
    | none => simp [hc] at hi
    | some v => simp [hc] at hi; subst hi; rfl
  · simp only [List.getElem?_map] at hi
    cases hc : cs.toList[i]? with
    | none => simp [hc] at hi
    | some v =>
      simp [hc] at hi; subst hi
      have hv : cs[i]? = some v := by simpa using hc
      have : cs.getD i undef = v := by
        obtain ⟨hlt, he⟩ := Array.getElem?_eq_some_iff.1 hv
        simp [Array.getD, hlt, he]
      rw [this]
      exact .v (hf v (Array.mem_of_getElem? hv))

theorem ERel.ev {C : Ctx} {j : Nat → Option Loc} {a : Act} {w : World} (hr : ERel WG C j σ a w) {x : Operand} {v : V} (h : ev σ x = some v) :
    VR w (okc C (Own j σ.tab) w) j σ.nx v (a.eval x) := by
  cases x with
  | tmp t =>
    obtain ⟨m, hm, hv⟩ := hr.env t v h
    have : a.eval (.tmp t) = m := by
      obtain ⟨hlt, he⟩ := Array.getElem?_eq_some_iff.1 hm
      simp [Act.eval, Array.getD, hlt, he]
    rw [this]; exact hv
  | const c =>
    simp only [Gp.ev] at h
    by_cases hf : flatV c = true
    · rw [if_pos hf] at h; cases h; exact .p (.v hf)
    · rw [if_neg hf] at h
      cases c with
      | agg cs =>
        simp only at h
        by_cases ha : cs.all flatV = true
        · rw [if_pos ha] at h; cases h; exact .p (.constAgg ha)
        · rw [if_neg ha] at h; cases h
      | _ => simp at h
  | func f => simp only [Gp.ev] at h; cases h; exact .p (.clo rfl rfl (by simp) (by simp))
  | global g => simp [Gp.ev] at h

def evB (σ : St) (x : Operand) : Option Bool :=
  match ev σ x with
  | some (.p (.v (.bool b))) => some b
  | _ => none

theorem ERel.evB {C : Ctx} {j : Nat → Option Loc} {a : Act} {w : World} (hr : ERel WG C j σ a w) {x : Operand} {b : Bool} (h : evB σ x = some b) : a.eval x = .bool b := by
  unfold Gp.evB at h
  split at h
  · rename_i b' hx
    cases h
    have := hr.ev hx
    generalize a.eval x = m at this ⊢
    cases this with
    | p hp => cases hp; rfl
  · cases h

theorem T_cond {c : Operand} {x y : Code} {b : Bool} (hc : evB σ c = some b) (ht : b = true → T P WG x σ Q) (hf : b = false → T P WG y σ Q) : T P WG (.cond c x y) σ Q :=
  fun C j a w hr => wp_cond_split (hr.evB hc) (fun e => ht e C j a w hr) (fun e => hf e C j a w hr)

theorem T_loop {c : Code} (I : Nat → St → Prop) (n : Nat) (h0 : I n σ)
    (round : ∀ n σ, I n σ → T P WG c σ (thenQ (fun σ' => ∃ m, m < n ∧ I m σ') Q)) : T P WG (.loop c) σ Q := by
  intro C j a w hr b k cs
  have key : ∀ n σ j a w, I n σ → ERel WG C j σ a w →
      ∃ e a' w', PostR WG C Q e a' w' ∧ Arrives P (lone (b.at a (.code c :: .inLoop c :: k)) cs w) b k cs e a' w' := by
    intro n
    induction n using Nat.strongRecOn with
    | _ n ih =>
      intro σ j a w hI hr
      obtain ⟨e, a₁, w₁, ⟨x, σ₁, j₁, hx, hr₁, hq⟩, harr⟩ := round n σ hI C j a w hr b (.inLoop c :: k) cs
      cases hx with
      | normal =>
        obtain ⟨m, hm, hI₁⟩ := hq
        obtain ⟨e₂, a₂, w₂, hq₂, harr₂⟩ := ih m hm σ₁ j₁ a₁ w₁ hI₁ hr₁
        exact ⟨e₂, a₂, w₂, hq₂, .of_steps (Steps.trans harr (.one step_inLoop)) harr₂⟩
      | exit => exact ⟨_, a₁, w₁, ⟨_, σ₁, j₁, .exit, hr₁, hq⟩, .pass (x := .inLoop c) rfl (fun _ _ => .inl (by simp)) harr⟩
      | goto => exact ⟨_, a₁, w₁, ⟨_, σ₁, j₁, .goto, hr₁, hq⟩, .pass (x := .inLoop c) rfl (fun _ _ => .inl (by simp)) harr⟩
      | ret => exact ⟨_, a₁, w₁, ⟨_, σ₁, j₁, .ret, hr₁, hq⟩, .pass (x := .inLoop c) rfl (fun _ _ => .inl (by simp)) harr⟩
      | panic h => exact ⟨_, a₁, w₁, ⟨_, σ₁, j₁, .panic h, hr₁, hq⟩, .pass (x := .inLoop c) rfl (fun _ _ => .inl (by simp)) harr⟩
  obtain ⟨e, a', w', hq, harr⟩ := key n σ j a w h0 hr
  exact ⟨e, a', w', hq, .of_steps (.one step_loop) harr⟩

/-- A state may be replaced by one that says less. -/
def Weak (WG : World) (σ σ' : St) : Prop := ∀ C j a w, ERel WG C j σ a w → ∃ j', ERel WG C j' σ' a w
theorem T_weak {c : Code} {σ' : St} (hw : Weak WG σ σ') (h : T P WG c σ' Q) : T P WG c σ Q :=
  fun C j a w hr => let ⟨j', hr'⟩ := hw C j a w hr; h C j' a w hr'

/-- Slots are forgotten, blocks let go. -/
theorem Weak.env {e : List (Nat × V)} (h : ∀ t v, aget e t = some v → aget σ.env t = some v) : Weak WG σ { σ with env := e } :=
  fun _ j _ _ hr => ⟨j, ⟨hr.mem, hr.lo, hr.lx, fun t v ht => hr.env t v (h t v ht), hr.n, hr.defers⟩⟩
theorem Weak.del (b : Nat) : Weak WG σ { σ with tab := adel σ.tab b } :=
  fun _ j _ _ hr => ⟨j, ⟨(hr.mem.del b).1, hr.lo, hr.lx, fun t v ht => let ⟨m, hm, hv⟩ := hr.env t v ht; ⟨m, hm, hv.mono (hr.mem.del b).2 (fun _ h => ⟨rfl, h⟩)⟩, hr.n, hr.defers⟩⟩
theorem Weak.refl : Weak WG σ σ := fun _ j _ _ hr => ⟨j, hr⟩
theorem Weak.trans {σ' σ'' : St} (h : Weak WG σ σ') (h' : Weak WG σ' σ'') : Weak WG σ σ'' := fun C j a w hr => let ⟨j', hr'⟩ := h C j a w hr; h' C j' a w hr'

end rules
end Go.Gp
