/-
  Regions that draw their order, the walk.
-/
import Derived.Test.YtpcancnnbjadeaaDoorGpP
set_option linter.unusedSimpArgs false
set_option linter.unusedVariables false
namespace Go.Gp
open Go.RowKit

def pEnv (e : List (Nat × V)) : Option Nat → V → List (Nat × V)
  | some d, u => aset e d u
  | none, _ => e
theorem aget_pEnv (e : List (Nat × V)) (d : Option Nat) (u : V) (t : Nat) : aget (pEnv e d u) t = if d = some t then some u else aget e t := by
  cases d with
  | none => simp [pEnv]
  | some d =>
    simp only [pEnv, aget_aset]
    by_cases h : t = d
    · subst h; simp
    · rw [if_neg h, if_neg (by intro e; cases e; exact h rfl)]

def uV (o : Oper) (c : Bool) (v : V) : V :=
  match o.guard with
  | none => v
  | some _ => .cnd c v
def stP (σ : St) (o : Oper) (u : V) (tab : Tab) (nx : Nat) : St := { σ with env := pEnv σ.env o.dst u, tab, nx }

theorem putC_stP (σ : St) (o : Oper) (c : Bool) (v : V) : putC σ o c v = stP σ o (uV o c v) σ.tab σ.nx := by
  unfold putC stP uV putS pEnv
  cases o.guard <;> cases o.dst <;> rfl
theorem putS_stP (σ : St) (o : Oper) (v : V) (tab : Tab) (nx : Nat) : putS σ o.dst v tab nx = stP σ o v tab nx := by
  unfold stP putS pEnv
  cases o.dst <;> rfl

inductive SV where
  | pure (c : Bool) (v : V) (side : Prop)
  | call (c : Bool) (side : Prop) (g : FuncId) (vs : List V)
  | mem (v : Option V) (tab : Tab) (nx : Nat) (side : Prop)

def stepV (P : Program) (ds : Met) (o : Oper) (σ : St) : Option SV :=
  match guardC ds σ o.guard with
  | none => none
  | some c =>
    match o.op with
    | .pick a x y =>
      match pickF σ a x y with
      | some (v, side) => some (.pure c v (c = true → side))
      | none => none
    | .call ⟨.value f, args, _⟩ =>
      match ev σ f, evsS σ args.toList with
      | some vf, some (b, vs) =>
        match cloOf vf with
        | some (g, fs, cs) => if callable P g then some (.call c (c = true → b = true) g (fs ++ vs ++ cs)) else none
        | none => none
      | _, _ => none
    | op =>
      match evsS σ op.operands.toList with
      | some (b, vs) =>
        if isMem P op then
          match opM P σ op vs with
          | some (v, tab, nx, side) => some (.mem v tab nx (c = true ∧ b = true ∧ side))
          | none => none
        else
          match opF P σ.tab op vs with
          | some (v, side) => some (.pure c v (c = true → b = true ∧ side))
          | none => none
      | none => none

def isLoad : Op → Bool
  | .load .. | .convert .. => true
  | _ => false

section
variable {P : Program} {WG : World} {σ : St} {Q : VX → St → Prop} {ops : Array Oper}

def WPO (P : Program) (WG : World) (ops : Array Oper) (Q : VX → St → Prop) (i : Nat) (σ σ' : St) : Prop :=
  ∀ C j a w (K : Act → World → Prop), ERel WG C j σ a w → (∀ j' a' w', ERel WG C j' σ' a' w' → K a' w') → wpOp P ops (PostR WG C Q) i K a w

theorem WPO_just {i : Nat} {o : Oper} {c : Bool} {v : V} {ds : Met} (hds : MetOk ops ds) (hi : ops[i]? = some o) (hg : guardC ds σ o.guard = some c) (hd : dstOk σ o.dst) (h : c = true → OpS P WG o σ (Just σ v)) :
    WPO P WG ops Q i σ (stP σ o (uV o c v) σ.tab σ.nx) := by
  intro C j a w K hr hk
  rw [← putC_stP] at hk
  have hw := wanted_eq hr hds hg
  simp only [wpOp, hi]
  cases hc : c with
  | true =>
    rw [hc] at hw
    simp only [hw, if_true]
    obtain ⟨m, w', v', j', tab', nx', hrun, hm, hv, rfl, rfl, rfl⟩ := h hc C j a w hr
    left
    simp only [Oper.wp, hrun, Oper.upon]
    refine hk j' _ w' ?_
    unfold putC
    split
    · exact put_rel hr hm hv hd
    · exact put_rel hr hm (.cnd (fun _ => hv) (fun e => by simp [hc] at e)) hd
  | false =>
    rw [hc] at hw
    simp only [hw, Bool.false_eq_true, if_false]
    refine hk j _ w ?_
    unfold putC
    split
    · rename_i hn
      rw [hn] at hg; simp only [guardC] at hg; cases hg; cases hc
    · exact put_rel hr (Moves.refl hr) (.cnd (fun e => by simp [hc] at e) (fun _ => rfl)) hd

theorem WPO_pure {i : Nat} {o : Oper} {c : Bool} {v : V} {side : Prop} {ds : Met} (hds : MetOk ops ds) (hi : ops[i]? = some o) (hd : dstOk σ o.dst) (h : stepV P ds o σ = some (.pure c v side)) (hs : side) :
    WPO P WG ops Q i σ (stP σ o (uV o c v) σ.tab σ.nx) := by
  unfold stepV at h
  split at h
  · cases h
  rename_i c' hg
  split at h
  · rename_i a x y hop
    split at h
    · rename_i v' side' hp
      cases h
      exact WPO_just hds hi hg hd (fun hc => pickF_sound hop hp (hs hc))
    · cases h
  · split at h
    · split at h
      · split at h <;> cases h
      · cases h
    · cases h
  · split at h
    · rename_i b vs hvs
      split at h
      · split at h <;> cases h
      · split at h
        · rename_i v' side' hf
          cases h
          refine WPO_just hds hi hg hd (fun hc => ?_)
          have hs := hs hc
          exact Just.unforce (opF_sound (σ := force σ) (evsS_force hvs hs.1) (show opF P (force σ).tab o.op vs = some (v, side') from hf) hs.2)
        · cases h
    · cases h

theorem WPO_mem {i : Nat} {o : Oper} {v : Option V} {tab : Tab} {nx : Nat} {side : Prop} {ds : Met} (hds : MetOk ops ds) (hi : ops[i]? = some o) (hd : dstOk σ o.dst) (h : stepV P ds o σ = some (.mem v tab nx side)) (hs : side) (hn : v = none → o.dst = none) :
    WPO P WG ops Q i σ (stP σ o (v.getD .zc) tab nx) := by
  intro C j a w K hr hk
  unfold stepV at h
  split at h
  · cases h
  rename_i c' hg
  split at h
  · split at h <;> cases h
  · split at h
    · split at h
      · split at h <;> cases h
      · cases h
    · cases h
  · split at h
    · rename_i b vs hvs
      split at h
      · split at h
        · rename_i v' tab' nx' side' hf
          cases h
          obtain ⟨rfl, hb, hs⟩ := hs
          have hw := wanted_eq hr hds hg
          have h1 := opM_sound (σ := force σ) (WG := WG) (evsS_force hvs hb) (show opM P (force σ) o.op vs = some (v, tab, nx, side') from hf) hs
          simp only [wpOp, hi, hw, if_true]
          left
          cases v with
          | some v =>
            obtain ⟨m, w', v', j', tab', nx', hrun, hm, hv, rfl, rfl, rfl⟩ := OpS.unforce h1 C j a w hr
            simp only [Oper.wp, hrun, Oper.upon]
            rw [← putS_stP] at hk
            exact hk j' _ w' (put_rel hr hm hv hd)
          | none =>
            obtain ⟨w', j', tab', nx', hrun, hm, rfl, rfl⟩ := h1 C j a w hr.force
            simp only [Oper.wp, hrun, Oper.upon, hn rfl, Act.put]
            refine hk j' _ w' ?_
            unfold stP; rw [hn rfl]
            exact ⟨hm.mem, hr.lo, hm.lx, fun t u hu => let ⟨q, h1, h2⟩ := hr.env t u hu; ⟨q, h1, hm.keep _ _ h2⟩, hr.n, hr.defers⟩
        · cases h
      · split at h <;> cases h
    · cases h

theorem WPO_call {i : Nat} {o : Oper} {c : Bool} {side : Prop} {g : FuncId} {vs : List V} {v : V} {tab : Tab} {nx : Nat} {ds : Met} (hds : MetOk ops ds) (hi : ops[i]? = some o) (hd : dstOk σ o.dst) (h : stepV P ds o σ = some (.call c side g vs)) (hs : side)
    (hc : c = true → CallT P WG g vs σ.tab σ.nx (fun r t n => r = v ∧ t = tab ∧ n = nx) noP) (hcf : c = false → tab = σ.tab ∧ nx = σ.nx) :
    WPO P WG ops Q i σ (stP σ o (uV o c v) tab nx) := by
  intro C j a w K hr hk
  unfold stepV at h
  split at h
  · cases h
  rename_i c' hg
  split at h
  · split at h <;> cases h
  · rename_i f args ts hop
    split at h
    · rename_i vf b vs' hx hvs
      split at h
      · rename_i g' fs cs hcl
        split at h
        · rename_i hcb
          cases h
          have hw := wanted_eq hr hds hg
          simp only [wpOp, hi]
          have hput : ∀ (t : Tab) (n : Nat), (match o.guard with | none => putS σ o.dst v t n | some _ => putS σ o.dst (.cnd c v) t n) = stP σ o (uV o c v) t n := by
            intro t n
            unfold uV
            cases o.guard <;> simp only [putS_stP]
          rw [← hput] at hk
          cases hcc : c with
          | true =>
            rw [hcc] at hw
            simp only [hw, if_true]
            left
            have hx' : ev (force σ) f = some vf := by
              have h1 : condV vf = true := by cases vf <;> first | rfl | simp [cloOf] at hcl
              have h2 : stripV vf = vf := by cases vf <;> first | rfl | simp [cloOf] at hcl
              have := ev_force hx h1
              rwa [h2] at this
            refine wp_call (σ := force σ) hr.force hop hx' hcl (evsS_force hvs (hs hcc)) hcb (hc hcc) (fun j' tab' nx' w' r' m hm hv hk' => ?_) (fun _ _ _ _ _ _ _ _ hk' => hk'.elim)
            obtain ⟨rfl, rfl, rfl⟩ := hk'
            refine hk j' _ w' ?_
            split
            · exact put_rel hr hm hv hd
            · exact put_rel hr hm (.cnd (fun _ => hv) (fun e => by simp [hcc] at e)) hd
          | false =>
            rw [hcc] at hw
            simp only [hw, Bool.false_eq_true, if_false]
            refine hk j _ w ?_
            obtain ⟨rfl, rfl⟩ := hcf hcc
            split
            · rename_i hn
              rw [hn] at hg; simp only [guardC] at hg; cases hg; cases hcc
            · exact put_rel hr (Moves.refl hr) (.cnd (fun e => by simp [hcc] at e) (fun _ => rfl)) hd
        · cases h
      · cases h
    · cases h
  · split at h
    · split at h
      · split at h <;> cases h
      · split at h <;> cases h
    · cases h

/-! What a step looks at. -/
theorem ev_congr {σ' : St} {x : Operand} (h : ∀ t, x = .tmp t → aget σ'.env t = aget σ.env t) : ev σ' x = ev σ x := by
  cases x with
  | tmp t => exact h t rfl
  | _ => rfl
theorem evsS_congr {σ' : St} : ∀ {xs : List Operand}, (∀ t, Operand.tmp t ∈ xs → aget σ'.env t = aget σ.env t) → evsS σ' xs = evsS σ xs
  | [], _ => rfl
  | x :: r, h => by
    simp only [evsS]
    rw [ev_congr (σ := σ) (σ' := σ') (x := x) (fun t e => h t (by subst e; exact List.mem_cons_self)), evsS_congr (fun t ht => h t (List.mem_cons_of_mem _ ht))]
theorem guardC_congr {σ' : St} {ds : Met} (hds : MetOk ops ds) {g : Option (Nat × Bool)} (h : ∀ n b t, g = some (n, b) → (ops[n]?).bind (·.dst) = some t → aget σ'.env t = aget σ.env t) : guardC ds σ' g = guardC ds σ g := by
  cases g with
  | none => rfl
  | some gw =>
    obtain ⟨n, b⟩ := gw
    simp only [guardC]
    cases hd : aget ds n with
    | none => rfl
    | some d =>
      cases d with
      | none => rfl
      | some t =>
        have := hds n _ hd
        have h2 : (ops[n]?).bind (·.dst) = some t := by
          cases hq : ops[n]? with
          | none => simp [hq] at this
          | some o => simp [hq] at this; simpa using this
        simp only [h n b t rfl h2]

theorem opF_tab {tab tab' : Tab} {op : Op} {vs : List V} (h : isLoad op = false) : opF P tab op vs = opF P tab' op vs := by
  cases op <;> first | rfl | simp [isLoad] at h

theorem opM_congr {σ' : St} {op : Op} {vs : List V} (h1 : σ'.tab = σ.tab) (h2 : σ'.nx = σ.nx) : opM P σ' op vs = opM P σ op vs := by
  unfold opM appF makeF bytesF; rw [h1, h2]

theorem mem_looks {o : Oper} {t : Nat} (h : Operand.tmp t ∈ o.op.operands.toList) : t ∈ o.looksAt ops :=
  List.mem_append_left _ (List.mem_filterMap.2 ⟨.tmp t, h, rfl⟩)

theorem stepV_congr {σ' : St} {ds : Met} {o : Oper} (hds : MetOk ops ds) (henv : ∀ t ∈ o.looksAt ops, aget σ'.env t = aget σ.env t)
    (htab : isLoad o.op = true → σ'.tab = σ.tab) (hmem : isMem P o.op = true → σ'.tab = σ.tab ∧ σ'.nx = σ.nx) : stepV P ds o σ' = stepV P ds o σ := by
  have hl : ∀ t, Operand.tmp t ∈ o.op.operands.toList → aget σ'.env t = aget σ.env t := fun t h => henv t (mem_looks h)
  have hg : guardC ds σ' o.guard = guardC ds σ o.guard := guardC_congr hds (fun n b t h1 h2 => henv t (List.mem_append_right _ (by rw [h1]; simp [h2])))
  unfold stepV
  rw [hg]
  cases guardC ds σ o.guard with
  | none => rfl
  | some c =>
    simp only
    split
    · rename_i a x y hop
      have : pickF σ' a x y = pickF σ a x y := by
        unfold pickF
        rw [ev_congr (σ := σ) (x := a) (fun t e => hl t (by rw [hop, e]; simp [Op.operands])), ev_congr (σ := σ) (x := x) (fun t e => hl t (by rw [hop, e]; simp [Op.operands])), ev_congr (σ := σ) (x := y) (fun t e => hl t (by rw [hop, e]; simp [Op.operands]))]
      rw [this]
    · rename_i f args ts hop
      rw [ev_congr (σ := σ) (x := f) (fun t e => hl t (by rw [hop, e]; simp [Op.operands, Call.operands])), evsS_congr (σ := σ) (xs := args.toList) (fun t e => hl t (by rw [hop]; simp [Op.operands, Call.operands]; right; simpa using e))]
    · rw [evsS_congr (σ := σ) hl]
      cases hq : evsS σ o.op.operands.toList with
      | none => rfl
      | some bv =>
        obtain ⟨b, vs⟩ := bv
        simp only
        cases hm : isMem P o.op with
        | true => simp only [if_true]; rw [opM_congr (hmem hm).1 (hmem hm).2]
        | false =>
          simp only [Bool.false_eq_true, if_false]
          cases hlo : isLoad o.op with
          | true => rw [htab hlo]
          | false => rw [opF_tab (tab := σ'.tab) (tab' := σ.tab) hlo]

end
end Go.Gp
