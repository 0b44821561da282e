/-
  A law's row, out of its contract on data.
-/
import Derived.Test.YtpcancnnbjadeaaDoorGpW
set_option linter.unusedSimpArgs false
set_option linter.unusedVariables false
namespace Go.Gp
open Go.RowKit Go.ChangeShapes Go.WideShapes Go.ChangeAt

section
variable {P : Program}

structure OpensArg (P : Program) (t : TypeId) (S : PV → Prop) : Prop where
  op : Opens P t S
  ag : ∀ (w : World) (r : Reach) (base : Nat) (v : Value) (pv : PV), Value.okWide P w r base t v → S pv → ((∃ ms, v = .agg ms) ↔ ∃ cs, pv = .agg cs)

theorem arg_bool {t : TypeId} (ht : P.underlying t = some .bool) : OpensArg P t SBool := ⟨opens_bool ht, fun w r base v pv h ⟨b, hb⟩ => by
  obtain ⟨b', rfl⟩ := okWide_bool ht h
  subst hb; simp⟩
theorem arg_int {t : TypeId} {k : IntKind} (ht : P.underlying t = some (.int k)) : OpensArg P t (SInt k) := ⟨opens_int ht, fun w r base v pv h ⟨b, hb, _⟩ => by
  obtain ⟨b', rfl⟩ := okWide_int ht h
  subst hb; simp⟩
theorem arg_str {t : TypeId} (ht : P.underlying t = some .string) : OpensArg P t SStr := ⟨opens_str ht, fun w r base v pv h ⟨b, hb, _⟩ => by
  obtain ⟨b', rfl⟩ := okWide_string ht h
  subst hb; simp⟩
theorem arg_slice {t e : TypeId} {s : Nat} {S : PV → Prop} (ht : P.underlying t = some (.slice e)) (he : Opens P e S) (hs : P.cellsOf e = s) (h0 : 0 < s) : OpensArg P t (SSl s S) := ⟨opens_slice ht he hs h0, fun w r base v pv h ⟨b, hb, _⟩ => by
  obtain ⟨a, n, c, rfl⟩ := okWide_slice ht h
  subst hb; simp⟩
theorem arg_struct {t : TypeId} {fs : Array Field} {Ss : List (PV → Prop)} (ht : P.underlying t = some (.struct fs)) (h : Opens P t (SAgg Ss)) : OpensArg P t (SAgg Ss) := ⟨h, fun w r base v pv h ⟨ps, _, hb⟩ => by
  obtain ⟨ms, rfl, _⟩ := okWide_struct ht h
  subst hb; simp⟩

inductive OpensArgs (P : Program) : List TypeId → List (PV → Prop) → Prop
  | nil : OpensArgs P [] []
  | cons {t S ts Ss} (h : OpensArg P t S) (r : OpensArgs P ts Ss) : OpensArgs P (t :: ts) (S :: Ss)

theorem args_open {H : Type} {enc : TypeId × Value → H} {W : World} {base : Nat} : ∀ {ts : List TypeId} {Ss : List (PV → Prop)} {vs : List Value} {ds : List (DataW H)} {p : List MemPlace}, OpensArgs P ts Ss →
    DataW.TrodAll enc P W 0 (fun _ => true) true ts vs ds p → (∀ (j : Nat) t v, ts[j]? = some t → vs[j]? = some v → Value.okWide P W .any base t v) →
    ds.length = ts.length ∧ vs.length = ts.length ∧ ∃ ps, AllS Ss ps ∧ ps.length = vs.length ∧ ∀ (i : Nat) v pv, vs[i]? = some v → ps[i]? = some pv → PR W (allK W) pv v
  | [], _, vs, ds, p, .nil, hA, _ => by
    cases vs <;> cases ds <;> simp [DataW.TrodAll] at hA
    exact ⟨rfl, rfl, [], .nil, rfl, fun i v pv hv => by simp at hv⟩
  | t :: ts, _, vs, ds, p, .cons h r, hA, hv => by
    obtain ⟨v, vs', d, ds', p', q, rfl, rfl, rfl, ⟨fuel, hf⟩, hr⟩ := trodAll_cons hA
    obtain ⟨h1, h2, ps, h3, h4, h5⟩ := args_open r hr (fun j t v a b => hv (j + 1) t v (by simpa using a) (by simpa using b))
    obtain ⟨pv, hS, hC⟩ := h.op H enc W fuel _ _ hf
    have := hC.value (h.ag W .any base v pv (hv 0 t v rfl rfl) hS)
    refine ⟨by simp [h1], by simp [h2], pv :: ps, .cons hS h3, by simp [h4], fun i u y hu hy => ?_⟩
    cases i with
    | zero => simp at hu hy; subst hu hy; exact this
    | succ i => exact h5 i u y (by simpa using hu) (by simpa using hy)

theorem args_keep {H : Type} {enc : TypeId × Value → H} {W W' : World} (hl : laidOutB P = true) (hb : Below W.heap.size W W') : ∀ {ts : List TypeId} {vs : List Value} {ds : List (DataW H)} {p : List MemPlace},
    (ts.all fun t => P.readableRec t && decide (t < P.types.size)) = true → DataW.TrodAll enc P W 0 (fun _ => true) true ts vs ds p → DataW.TrodAll enc P W' 0 (fun b => decide (b < W.heap.size)) true ts vs ds p
  | [], vs, ds, p, _, hA => by
    cases vs <;> cases ds <;> simp [DataW.TrodAll] at hA
    subst hA; exact rfl
  | t :: ts, vs, ds, p, ht, hA => by
    obtain ⟨v, vs', d, ds', p', q, rfl, rfl, rfl, hd, hr⟩ := trodAll_cons hA
    simp only [List.all_cons, Bool.and_eq_true, decide_eq_true_eq] at ht
    refine trodAll_cons_mk (Below.trod hl ht.1.1 ht.1.2 hd hb ?_) (args_keep hl hb ht.2 hr)
    obtain ⟨m, hm⟩ := hd
    exact DataW.trod_lt m _ _ _ hm

/-- The call from a world, by its contract on data. -/
theorem FV.calls {f : FuncId} {ps : List PV} {r : PV} {W : World} {ms : Array Value} (h : FV P W f ps (.p r)) (hsz : ms.size = ps.length) (hms : ∀ (i : Nat) x, ps[i]? = some x → PR W (allK W) x (ms.getD i undef)) :
    Calls P f ms W fun e w' => ∃ m ok, e = .returned m ∧ PR w' ok r m ∧ Below W.heap.size W w' := by
  let C0 : Ctx := ⟨0, fun _ => none, Own (fun _ => none) ([] : Tab), allK W, W⟩
  have hno : ∀ k, ¬ Own (fun _ => none) ([] : Tab) k := fun k ⟨b, x, l, hb, _⟩ => by simp [aget] at hb
  have hm0 : MemR W C0 (fun _ => none) [] 0 W := {
    nb := Nat.le_refl _
    low := fun b x hb => by simp [aget] at hb
    blk := fun b x hb => by simp [aget] at hb
    apart := fun b b' x x' l l' hb => by simp [aget] at hb
    agree := fun b hb => absurd hb (Nat.not_lt_zero _)
    own := fun k hk => (hno k hk).elim
    ownG := fun k hk => (hno k hk).elim
    size := Nat.le_refl _
    keep := fun _ _ _ => rfl
    os := rfl
    tape := rfl
    output := rfl
    glob := Below.refl _ _
    rd := fun k hk => ⟨hk, hno k⟩ }
  have hvs : VRs W (okc C0 (Own (fun _ => none) ([] : Tab)) W) (fun _ => none) 0 (ps.map .p) ms := by
    refine ⟨by simp [hsz], fun i v hv => ?_⟩
    simp only [List.getElem?_map] at hv
    cases hq : ps[i]? with
    | none => simp [hq] at hv
    | some x =>
      simp [hq] at hv; subst hv
      exact .p ((hms i x hq).mono (fun k hk => ⟨⟨hk, hno k, .inl hk⟩, rfl⟩))
  refine (h [] 0 C0 (fun _ => none) W ms rfl rfl rfl rfl hm0 hvs).mono fun e w' he => ?_
  cases e with
  | panicked ch => obtain ⟨_, _, _, _, _, _, _, _, d⟩ := he; exact d.elim
  | outgrown => exact he.elim
  | returned m =>
    obtain ⟨j, tab, nx, r', a, b, rfl, rfl, rfl⟩ := he
    cases b with
    | p hp => exact ⟨m, _, rfl, hp, a.os, a.tape, a.output, a.size, fun k hk => a.keep k hk (hno k)⟩

theorem law_lifted {C : Checked} {f : FuncId} {fn : Func} {s : ChangeSpec} {conds : List PathCond} {laid : List (String × DataW Unit)} {ts : List TypeId} {Ss : List (PV → Prop)} {rt : TypeId} {os : Os} {H : Type} {enc : TypeId × Value → H}
    (own : ownKnob C.prog.godebug = none) (started : os.Started) (noInit : C.prog.inits.idxOf? f = none) (hfn : C.prog.funcs[f]? = some fn)
    (witness : ∃ (w : World) (tape : Tape) (i : Input), w.os = os ∧ (w.forCall tape i).Shaped C.prog ∧ i.vars = [] ∧ Input.okWide C.prog (w.forCall tape i) .any w.heap.size f i ∧
      ((s.pre enc C.prog fn conds false (w.forCall tape i).memory i.args ∧ laidMetH C.prog laid (w.forCall tape i).memory) ∧ sizedMet enc C.prog fn (OpenSpec.ofChange s) false (w.forCall tape i).memory i.args) ∧
        ({} : Assume).holds C.prog (lone (Frame.enter C.prog f i.args .normal) [] (w.forCall tape i)))
    (hl : laidOutB C.prog = true) (hpt : fn.params.toList = ts) (hp : (ts.all fun t => C.prog.readableRec t && decide (t < C.prog.types.size)) = true)
    (hrt : fn.resultTypes = #[rt]) (hrb : C.prog.underlying rt = some .bool)
    (hv : s.vars = []) (hs : ∀ ds : List (DataW H), ds.length = ts.length → s.fn H ds = { results := [.lit (.bool true)], args := ds })
    (hop : OpensArgs C.prog ts Ss)
    (contract : ∀ W : World, laidMetH C.prog laid W → W.ShapedOpen C.prog → ∀ ps, AllS Ss ps → FV C.prog W f ps (.p (.v (.bool true)))) :
    ReturnsInHanded {} C os f .any (fun w args => (s.pre enc C.prog fn conds false w args ∧ laidMetH C.prog laid w) ∧ sizedMet enc C.prog fn (OpenSpec.ofChange s) false w args) (s.post enc C.prog fn false true false false) := by
  refine returnsInHanded_of_calls own started noInit witness ?_
  intro w tape i _ hsh _ hok hpre hholds
  obtain ⟨_, _, _, fn', hfn', _, _, _, hasz, hval⟩ := hok
  have e : fn' = fn := Option.some.inj (hfn'.symm.trans hfn)
  subst e
  obtain ⟨⟨⟨ds, gs, before, hw, hc⟩, hx⟩, hz⟩ := hpre
  have hw' := DataW.Whole.of_heap (w' := w.forCall tape i) (by rfl) hw
  have hx' : laidMetH C.prog laid (w.forCall tape i) := hx.of_heap (by rfl)
  have hW := hw'
  obtain ⟨p, q, hA, hV, rfl, hfz, hnd⟩ := hW
  rw [hv] at hV
  obtain ⟨rfl, rfl⟩ := trodVars_none hV
  rw [hpt] at hA
  obtain ⟨hdl, hvl, ps, hS, hpl, hPR⟩ := args_open (base := w.heap.size) hop hA (fun j t v a b => hval j t v (by rw [← hpt] at a; simpa using a) (by simpa using b))
  refine ((contract _ hx' hsh ps hS).calls (ms := i.args) (by rw [hpl]; simp) (fun k x hk => ?_)).mono fun e W' he => ?_
  · have hlt := (List.getElem?_eq_some_iff.1 hk).1
    have hlt' : k < i.args.toList.length := by rw [← hpl]; exact hlt
    have h1 : i.args.toList[k]? = some i.args.toList[k] := List.getElem?_eq_getElem hlt'
    have := hPR k _ x h1 hk
    have e2 : i.args.getD k undef = i.args.toList[k] := by
      have : k < i.args.size := by simpa using hlt'
      simp [Array.getD, this]
    rw [e2]; exact this
  · obtain ⟨m, ok, rfl, hm, bel⟩ := he
    cases hm with
    | v _ =>
      refine ChangeSpec.post_blind ?_
      have hrl : fn'.resultTypes.toList = [rt] := by rw [hrt]
      have hrs : fn'.resultTypes.size = 1 := by rw [hrt]; rfl
      refine ⟨ds, [], p, [], p, [], by simpa using hw', ?_, ?_, ?_, bel.frame _, fun h => by cases h⟩
      · rw [List.append_nil, hs ds hdl, hrl, hrs]
        exact trodAll_mk1 (shut_bool hrb _)
      · rw [List.append_nil, hs ds hdl, hpt]
        exact args_keep hl bel hp hA
      · rw [List.append_nil, hs ds hdl, hv]; exact rfl
end
end Go.Gp
