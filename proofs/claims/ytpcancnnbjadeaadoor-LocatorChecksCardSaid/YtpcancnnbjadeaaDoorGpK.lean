/-
  Regions, calls, bodies; a call over data alone does not meet the caller's memory.
-/
import Derived.Test.YtpcancnnbjadeaaDoorGpJ
set_option linter.unusedSimpArgs false
set_option linter.unusedVariables false
namespace Go.Gp
open Go.RowKit

section
variable (P : Program) (WG : World)
def RT (ops : Array Oper) (todo : List Nat) (σ : St) (Q : VX → St → Prop) : Prop :=
  ∀ C j a w, ERel WG C j σ a w → wpOps P ops (PostR WG C Q) todo a w
end

def putS (σ : St) (d : Option Nat) (v : V) (tab : Tab) (nx : Nat) : St :=
  match d with
  | some d => { σ with env := aset σ.env d v, tab, nx }
  | none => { σ with tab, nx }
def dstOk (σ : St) : Option Nat → Prop
  | some d => d < σ.n
  | none => True

section
variable {P : Program} {WG : World} {σ : St} {Q : VX → St → Prop} {ops : Array Oper}

theorem RT_nil (h : Q .normal σ) : RT P WG ops [] σ Q := fun _ j _ _ hr => ⟨.normal, σ, j, .normal, hr, h⟩

theorem T_region {id : Nat} (h : RT P WG ops (List.range ops.size) σ Q) : T P WG (.region id ops false) σ Q := fun C j a w hr => wp_region (h C j a w hr)

theorem put_rel {C : Ctx} {j j' : Nat → Option Loc} {a : Act} {w w' : World} {tab' : Tab} {nx' : Nat} {v : V} {m : Value} {d : Option Nat} (hr : ERel WG C j σ a w) (hm : Moves WG C σ.lo j σ.tab σ.nx w j' tab' nx' w')
    (hv : VR w' (okc C (Own j' tab') w') j' nx' v m) (hd : dstOk σ d) : ERel WG C j' (putS σ d v tab' nx') (a.put d m) w' := by
  cases d with
  | none => exact ⟨hm.mem, hr.lo, hm.lx, fun t u hu => let ⟨q, h1, h2⟩ := hr.env t u hu; ⟨q, h1, hm.keep _ _ h2⟩, hr.n, hr.defers⟩
  | some d =>
    refine ⟨hm.mem, hr.lo, hm.lx, fun t u hu => ?_, ?_, hr.defers⟩
    · simp only [putS, aget_aset] at hu
      by_cases e : t = d
      · subst e
        rw [if_pos rfl] at hu; cases hu
        have hlt : t < a.tmps.size := by rw [hr.n]; exact hd
        exact ⟨m, by simp [Act.put, hlt], hv⟩
      · rw [if_neg e] at hu
        obtain ⟨q, h1, h2⟩ := hr.env t u hu
        refine ⟨q, ?_, hm.keep _ _ h2⟩
        simp only [Act.put, Array.getElem?_setIfInBounds]
        rw [if_neg (fun h => e h.symm)]; exact h1
    · simp only [Act.put, Array.size_setIfInBounds, putS]; exact hr.n

theorem wanted_none {o : Oper} (hg : o.guard = none) (y : Nat → Option Bool) : Region.wanted o y = true := by simp [Region.wanted, hg]

theorem RT_op {i : Nat} {rest : List Nat} {o : Oper} (hi : ops[i]? = some o) (hg : o.guard = none) (hd : dstOk σ o.dst)
    (h : OpS P WG o σ fun v tab nx => RT P WG ops rest (putS σ o.dst v tab nx) Q) : RT P WG ops (i :: rest) σ Q := by
  intro C j a w hr
  obtain ⟨m, w', v, j', tab', nx', hrun, hm, hv, hk⟩ := h C j a w hr
  simp only [wpOps, hi, wanted_none hg, if_true]
  left
  simp only [Oper.wp, hrun, Oper.upon]
  exact hk C j' _ w' (put_rel hr hm hv hd)

theorem RT_opK {i : Nat} {rest : List Nat} {o : Oper} (hi : ops[i]? = some o) (hg : o.guard = none) (hd : o.dst = none)
    (h : OpK P WG o σ fun tab nx => RT P WG ops rest { σ with tab, nx } Q) : RT P WG ops (i :: rest) σ Q := by
  intro C j a w hr
  obtain ⟨w', j', tab', nx', hrun, hm, hk⟩ := h C j a w hr
  simp only [wpOps, hi, wanted_none hg, if_true]
  left
  simp only [Oper.wp, hrun, Oper.upon, hd, Act.put]
  exact hk C j' _ w' ⟨hm.mem, hr.lo, hm.lx, fun t u hu => let ⟨q, h1, h2⟩ := hr.env t u hu; ⟨q, h1, hm.keep _ _ h2⟩, hr.n, hr.defers⟩

/-- A guarded operation: the guard's value is known. -/
theorem yielded_of {C : Ctx} {j : Nat → Option Loc} {a : Act} {w : World} (hr : ERel WG C j σ a w) {g t : Nat} {og : Oper} {b : Bool} (hg : ops[g]? = some og) (ht : og.dst = some t) (hb : evB σ (.tmp t) = some b) : yielded ops a.tmps g = some b := by
  have h := hr.evB hb
  unfold evB at hb
  split at hb
  · rename_i b' hx
    cases hb
    obtain ⟨m, hm, hv⟩ := hr.env t _ hx
    have : m = .bool b := by cases hv with | p hp => cases hp; rfl
    subst this
    unfold yielded
    rw [hg]
    simp only [Option.bind_some, ht, hm]
  · cases hb

def stripG (o : Oper) : Oper := { o with guard := none }

theorem RT_on {i g t : Nat} {rest : List Nat} {o og : Oper} {want b : Bool} (hi : ops[i]? = some o) (hgd : o.guard = some (g, want)) (hog : ops[g]? = some og) (ht : og.dst = some t) (hb : evB σ (.tmp t) = some b) (he : b = want) (hd : dstOk σ o.dst)
    (h : OpS P WG o σ fun v tab nx => RT P WG ops rest (putS σ o.dst v tab nx) Q) : RT P WG ops (i :: rest) σ Q := by
  intro C j a w hr
  obtain ⟨m, w', v, j', tab', nx', hrun, hm, hv, hk⟩ := h C j a w hr
  have hw : Region.wanted o (yielded ops a.tmps) = true := by
    unfold Region.wanted; rw [hgd]
    show (yielded ops a.tmps g == some want) = true
    rw [yielded_of hr hog ht hb, he]
    exact beq_self_eq_true _
  simp only [wpOps, hi, hw, if_true]
  left
  simp only [Oper.wp, hrun, Oper.upon]
  exact hk C j' _ w' (put_rel hr hm hv hd)

theorem RT_off {i g t : Nat} {rest : List Nat} {o og : Oper} {want b : Bool} (hi : ops[i]? = some o) (hgd : o.guard = some (g, want)) (hog : ops[g]? = some og) (ht : og.dst = some t) (hb : evB σ (.tmp t) = some b) (he : b = !want)
    (h : RT P WG ops rest (match o.dst with | some d => { σ with env := adel σ.env d } | none => σ) Q) : RT P WG ops (i :: rest) σ Q := by
  intro C j a w hr
  have hw : Region.wanted o (yielded ops a.tmps) = false := by
    unfold Region.wanted; rw [hgd]
    show (yielded ops a.tmps g == some want) = false
    rw [yielded_of hr hog ht hb, he]
    cases want <;> rfl
  simp only [wpOps, hi, hw, Bool.false_eq_true, if_false]
  cases hdst : o.dst with
  | none => rw [hdst] at h; exact h C j a w hr
  | some d =>
    rw [hdst] at h
    refine h C j _ w ⟨hr.mem, hr.lo, hr.lx, fun t' u hu => ?_, by simp only [Act.put, Array.size_setIfInBounds]; exact hr.n, hr.defers⟩
    simp only [aget_adel] at hu
    by_cases e : t' = d
    · simp [e] at hu
    · rw [if_neg e] at hu
      obtain ⟨q, h1, h2⟩ := hr.env t' u hu
      refine ⟨q, ?_, h2⟩
      simp only [Act.put, Array.getElem?_setIfInBounds]
      rw [if_neg (fun h => e h.symm)]; exact h1

/-- The function that a value calls: its number, what comes ahead of and behind the arguments. -/
def cloOf : V → Option (FuncId × List V × List V)
  | .p (.clo (.func f) fs cs) => some (f, fs.map .p, cs.map .p)
  | .clo (.func f) fs cs => some (f, fs, cs)
  | _ => none
theorem VR.cloOf {w : World} {ok : Nat → Prop} {j : Nat → Option Loc} {nx : Nat} {v : V} {m : Value} {f : FuncId} {fs cs : List V} (h : VR w ok j nx v m) (e : cloOf v = some (f, fs, cs)) :
    ∃ ms ns, m = .func (.func f) ms ns ∧ VRs w ok j nx fs ms ∧ VRs w ok j nx cs ns := by
  cases h with
  | p hp =>
    cases hp with
    | @clo fn fs' cs' ms ns h1 h2 h3 h4 =>
      cases fn <;> simp [Gp.cloOf] at e
      obtain ⟨rfl, rfl, rfl⟩ := e
      refine ⟨ms, ns, rfl, ⟨by simpa using h1, fun i v hv => ?_⟩, ⟨by simpa using h2, fun i v hv => ?_⟩⟩
      · simp only [List.getElem?_map] at hv
        cases hq : fs'[i]? with
        | none => simp [hq] at hv
        | some x => simp [hq] at hv; subst hv; exact .p (h3 i x hq)
      · simp only [List.getElem?_map] at hv
        cases hq : cs'[i]? with
        | none => simp [hq] at hv
        | some x => simp [hq] at hv; subst hv; exact .p (h4 i x hq)
    | _ => simp [Gp.cloOf] at e
  | @clo fn fs' cs' ms ns h1 h2 h3 h4 =>
    cases fn <;> simp [Gp.cloOf] at e
    obtain ⟨rfl, rfl, rfl⟩ := e
    exact ⟨ms, ns, rfl, ⟨h1, h3⟩, ⟨h2, h4⟩⟩
  | _ => simp [Gp.cloOf] at e

theorem VRs.append {w : World} {ok : Nat → Prop} {j : Nat → Option Loc} {nx : Nat} {a b : List V} {ms ns : Array Value} (h1 : VRs w ok j nx a ms) (h2 : VRs w ok j nx b ns) : VRs w ok j nx (a ++ b) (ms ++ ns) := by
  refine ⟨by simp [h1.1, h2.1], fun i v hv => ?_⟩
  rw [List.getElem?_append] at hv
  split at hv
  · rename_i hlt
    have : (ms ++ ns).getD i undef = ms.getD i undef := by
      simp only [Array.getD_eq_getD_getElem?]; rw [Array.getElem?_append_left (by rw [h1.1]; exact hlt)]
    rw [this]; exact h1.2 i v hv
  · rename_i hge
    have : (ms ++ ns).getD i undef = ns.getD (i - a.length) undef := by
      simp only [Array.getD_eq_getD_getElem?]; rw [Array.getElem?_append_right (by rw [h1.1]; omega), h1.1]
    rw [this]; exact h2.2 _ v hv

/-- The callee's context within the caller's. -/
def subC (C : Ctx) (j : Nat → Option Loc) (tab : Tab) (nx : Nat) (w : World) : Ctx := ⟨nx, j, Own j tab, okc C (Own j tab) w, w⟩

theorem MemR.sub {C : Ctx} {j : Nat → Option Loc} {tab : Tab} {nx : Nat} {w : World} (h : MemR WG C j tab nx w) : MemR WG (subC C j tab nx w) j tab nx w where
  nb := Nat.le_refl _
  low := h.low
  blk := fun b x hb => (h.blk b x hb).mono (fun k hk => ⟨⟨hk.1, hk.2.1, .inl hk⟩, rfl⟩) (fun b hb => ⟨rfl, hb⟩) (h.low b x hb) (fun _ _ => rfl)
  apart := h.apart
  agree := fun _ _ => rfl
  own := fun k hk => .inl hk
  ownG := h.ownG
  size := Nat.le_refl _
  keep := fun _ _ _ => rfl
  os := rfl
  tape := rfl
  output := rfl
  glob := h.glob
  rd := fun k hk => ⟨hk.1, hk.2.1⟩

theorem okc_sub {C : Ctx} {j j' : Nat → Option Loc} {tab tab' : Tab} {nx : Nat} {w w' : World} (h : MemR WG C j tab nx w) {k : Nat} (hk : okc (subC C j tab nx w) (Own j' tab') w' k) : okc C (Own j' tab') w' k := by
  obtain ⟨h1, h2, h3⟩ := hk
  refine ⟨h1, h2, ?_⟩
  rcases h3 with h3 | h3
  · exact h3.2.2
  · right; have := h.size; simp only [subC] at h3; omega

theorem MemR.unsub {C : Ctx} {j j' : Nat → Option Loc} {tab tab' : Tab} {nx nx' : Nat} {w w' : World} {lo : Nat} (h : MemR WG C j tab nx w) (hlo : C.nb ≤ lo) (hlx : lo ≤ nx) (h' : MemR WG (subC C j tab nx w) j' tab' nx' w') :
    Moves WG C lo j tab nx w j' tab' nx' w' := by
  have hnx : nx ≤ nx' := h'.nb
  have hok : ∀ k, okc C (Own j tab) w k → okc C (Own j' tab') w' k ∧ w'.heap[k]? = w.heap[k]? := by
    rintro k ⟨h1, h2, h3⟩
    refine ⟨⟨Nat.lt_of_lt_of_le h1 h'.size, fun hn => ?_, h3⟩, h'.keep k h1 h2⟩
    rcases h'.own k hn with h4 | h4
    · exact h2 h4
    · simp only [subC] at h4; omega
  refine ⟨?_, by omega, fun x m hv => hv.mono hok (fun b hb => ⟨h'.agree b hb, Nat.lt_of_lt_of_le hb hnx⟩)⟩
  exact {
    nb := by omega
    low := h'.low
    blk := fun b x hb => (h'.blk b x hb).mono (fun k hk => ⟨okc_sub h hk, rfl⟩) (fun b hb => ⟨rfl, hb⟩) (h'.low b x hb) (fun _ _ => rfl)
    apart := h'.apart
    agree := fun b hb => (h'.agree b (show b < nx by omega)).trans (h.agree b hb)
    own := fun k hk => by
      rcases h'.own k hk with h4 | h4
      · exact h.own k h4
      · right; have := h.size; simp only [subC] at h4; omega
    ownG := h'.ownG
    size := Nat.le_trans h.size h'.size
    keep := fun k hk h0 => by
      refine (h'.keep k (Nat.lt_of_lt_of_le hk h.size) (fun hn => ?_)).trans (h.keep k hk h0)
      rcases h.own k hn with h4 | h4
      · exact h0 h4
      · omega
    os := h'.os.trans h.os
    tape := h'.tape.trans h.tape
    output := h'.output.trans h.output
    glob := h'.glob
    rd := h.rd }

/-- A function that can be called. -/
def callable (P : Program) (f : FuncId) : Bool :=
  match P.funcs[f]? with
  | some fn => !(fn.name == "runtime.NumGoroutine") && fn.body.isSome
  | none => false

theorem run_call_enter {f : FuncId} (h : callable P f = true) (args : Array Value) (w : World) : (callFunc f args).run P w = .ok (.enter f args) w := by
  unfold callable at h
  split at h
  · rename_i fn hf
    simp only [Bool.and_eq_true, Bool.not_eq_true'] at h
    obtain ⟨c, hc⟩ := Option.isSome_iff_exists.1 h.2
    have h1 : fn.name ≠ "runtime.NumGoroutine" := by simpa using h.1
    simp [callFunc, hf, h1, hc]
  · cases h

/-- What a call does, told for the region's rules. -/
theorem wp_call {o : Oper} {x : Operand} {args : Array Operand} {ts : Array TypeId} {v : V} {f : FuncId} {fs cs vs : List V} {K KP : V → Tab → Nat → Prop} {C : Ctx} {j : Nat → Option Loc} {a : Act} {w : World} {next : Act → World → Prop} {Qx : Exit → Act → World → Prop}
    (hr : ERel WG C j σ a w) (ho : o.op = .call { callee := .value x, args := args, argTypes := ts }) (hx : ev σ x = some v) (hc : cloOf v = some (f, fs, cs)) (hvs : evs σ args.toList = some vs) (hf : callable P f = true)
    (h : CallT P WG f (fs ++ vs ++ cs) σ.tab σ.nx K KP)
    (hk : ∀ j' tab' nx' w' r m, Moves WG C σ.lo j σ.tab σ.nx w j' tab' nx' w' → VR w' (okc C (Own j' tab') w') j' nx' r m → K r tab' nx' → next (a.put o.dst m) w')
    (hp : ∀ j' tab' nx' w' r m, Moves WG C σ.lo j σ.tab σ.nx w j' tab' nx' w' → VR w' (okc C (Own j' tab') w') j' nx' r m → KP r tab' nx' → Qx (.panic [{ v := m, recovered := false }]) a w') : o.wp P a w next Qx := by
  obtain ⟨ms, ns, hm, hms, hns⟩ := (hr.ev hx).cloOf hc
  have hargs := (hms.append (hr.evsA hvs)).append hns
  have hrun : (execOp a.eval o).run P w = .ok (.enter f (ms ++ args.map a.eval ++ ns)) w := by
    unfold execOp; rw [ho]
    simp only [resolve, hm, Deferred.ofValue, Sem.run_bind, Sem.run_pure, Result.andThen_ok, invoke, run_call_enter hf]
  simp only [Oper.wp, hrun, Oper.upon]
  have hargs' : VRs w (okc (subC C j σ.tab σ.nx w) (Own j σ.tab) w) j σ.nx (fs ++ vs ++ cs) (ms ++ args.map a.eval ++ ns) :=
    ⟨hargs.1, fun i v hv => (hargs.2 i v hv).mono (fun k hk => ⟨⟨hk.1, hk.2.1, .inl hk⟩, rfl⟩) (fun b hb => ⟨rfl, hb⟩)⟩
  refine (h (subC C j σ.tab σ.nx w) j w _ rfl rfl rfl rfl hr.mem.sub hargs').mono fun e w' he => ?_
  cases e with
  | returned m =>
    obtain ⟨j', tab', nx', r, h1, h2, h3⟩ := he
    exact hk j' tab' nx' w' r m (hr.mem.unsub hr.lo hr.lx h1) (h2.mono (fun k hk => ⟨okc_sub hr.mem hk, rfl⟩) (fun b hb => ⟨rfl, hb⟩)) h3
  | panicked ch =>
    obtain ⟨j', tab', nx', r, m, h1, rfl, h2, h3⟩ := he
    exact hp j' tab' nx' w' r m (hr.mem.unsub hr.lo hr.lx h1) (h2.mono (fun k hk => ⟨okc_sub hr.mem hk, rfl⟩) (fun b hb => ⟨rfl, hb⟩)) h3
  | outgrown => exact he.elim

theorem RT_call {i : Nat} {rest : List Nat} {o : Oper} {x : Operand} {args : Array Operand} {ts : Array TypeId} {v : V} {f : FuncId} {fs cs vs : List V} (hi : ops[i]? = some o) (hg : o.guard = none) (hd : dstOk σ o.dst)
    (ho : o.op = .call { callee := .value x, args := args, argTypes := ts }) (hx : ev σ x = some v) (hc : cloOf v = some (f, fs, cs)) (hvs : evs σ args.toList = some vs) (hf : callable P f = true)
    (h : CallT P WG f (fs ++ vs ++ cs) σ.tab σ.nx (fun r tab nx => RT P WG ops rest (putS σ o.dst r tab nx) Q) (fun r tab nx => Q (.panic r) { σ with tab, nx })) : RT P WG ops (i :: rest) σ Q := by
  intro C j a w hr
  simp only [wpOps, hi, wanted_none hg, if_true]
  left
  refine wp_call hr ho hx hc hvs hf h (fun j' tab' nx' w' r m hm hv hk => hk C j' _ w' (put_rel hr hm hv hd)) (fun j' tab' nx' w' r m hm hv hk => ?_)
  exact ⟨.panic r, { σ with tab := tab', nx := nx' }, j', .panic hv, ⟨hm.mem, hr.lo, hm.lx, fun t u hu => let ⟨q, h1, h2⟩ := hr.env t u hu; ⟨q, h1, hm.keep _ _ h2⟩, hr.n, hr.defers⟩, hk⟩

theorem RT_call_on {i g t : Nat} {rest : List Nat} {o og : Oper} {want b : Bool} {x : Operand} {args : Array Operand} {ts : Array TypeId} {v : V} {f : FuncId} {fs cs vs : List V} (hi : ops[i]? = some o) (hgd : o.guard = some (g, want)) (hog : ops[g]? = some og) (ht : og.dst = some t) (hb : evB σ (.tmp t) = some b) (he : b = want) (hd : dstOk σ o.dst)
    (ho : o.op = .call { callee := .value x, args := args, argTypes := ts }) (hx : ev σ x = some v) (hc : cloOf v = some (f, fs, cs)) (hvs : evs σ args.toList = some vs) (hf : callable P f = true)
    (h : CallT P WG f (fs ++ vs ++ cs) σ.tab σ.nx (fun r tab nx => RT P WG ops rest (putS σ o.dst r tab nx) Q) (fun r tab nx => Q (.panic r) { σ with tab, nx })) : RT P WG ops (i :: rest) σ Q := by
  intro C j a w hr
  have hw : Region.wanted o (yielded ops a.tmps) = true := by
    unfold Region.wanted; rw [hgd]
    show (yielded ops a.tmps g == some want) = true
    rw [yielded_of hr hog ht hb, he]
    exact beq_self_eq_true _
  simp only [wpOps, hi, hw, if_true]
  left
  refine wp_call hr ho hx hc hvs hf h (fun j' tab' nx' w' r m hm hv hk => hk C j' _ w' (put_rel hr hm hv hd)) (fun j' tab' nx' w' r m hm hv hk => ?_)
  exact ⟨.panic r, { σ with tab := tab', nx := nx' }, j', .panic hv, ⟨hm.mem, hr.lo, hm.lx, fun t u hu => let ⟨q, h1, h2⟩ := hr.env t u hu; ⟨q, h1, hm.keep _ _ h2⟩, hr.n, hr.defers⟩, hk⟩

/-- The results of a function, where its frame stands at 'σ'. -/
def res1 (P : Program) (σ : St) : ResultVar → Option V
  | .tmp t => aget σ.env t
  | .cell a t =>
    match aget σ.env a, tiOf P t with
    | some (.ref b o), some i =>
      match aget σ.tab b with
      | some (.box cs) => if (i.agg = true ∨ i.size = 1) ∧ o + i.size ≤ cs.length then some (readV i cs o) else none
      | _ => none
    | _, _ => none
def resL (P : Program) (σ : St) : List ResultVar → Option (List V)
  | [] => some []
  | x :: r => match res1 P σ x, resL P σ r with
    | some v, some l => some (v :: l)
    | _, _ => none
def resV (P : Program) (σ : St) (rs : List ResultVar) : Option V :=
  match resL P σ rs with
  | some [v] => some v
  | some l => some (.tup l)
  | none => none

def resVar1 (tmps : Array Value) : ResultVar → Sem Value
  | .tmp t => pure (tmps.getD t undef)
  | .cell a t => do loadVar t (← asAddr (tmps.getD a undef))

theorem run_res1 {C : Ctx} {j : Nat → Option Loc} {a : Act} {w : World} (hr : ERel WG C j σ a w) {x : ResultVar} {v : V} (h : res1 P σ x = some v) :
    ∃ m, (resVar1 a.tmps x).run P w = .ok m w ∧ VR w (okc C (Own j σ.tab) w) j σ.nx v m := by
  cases x with
  | tmp t =>
    obtain ⟨m, hm, hv⟩ := hr.env t v h
    refine ⟨m, ?_, hv⟩
    obtain ⟨hlt, he⟩ := Array.getElem?_eq_some_iff.1 hm
    simp [resVar1, Array.getD, hlt, he]
  | cell q t =>
    simp only [res1] at h
    split at h
    · rename_i b o i hq hi
      split at h
      · rename_i cs hb
        split at h
        · rename_i hc
          cases h
          obtain ⟨info, d, z, ht⟩ := tiOf_some hi
          obtain ⟨m0, hm0, hv0⟩ := hr.env q _ hq
          have hq' : a.tmps.getD q undef = m0 := by
            obtain ⟨hlt, he⟩ := Array.getElem?_eq_some_iff.1 hm0
            simp [Array.getD, hlt, he]
          cases hv0 with
          | @ref b o l p hbn hl hp =>
            subst hp
            obtain ⟨l', ms, e, fr, hl', hh, hfr, hs, hone, hrel⟩ := hr.mem.blk b _ hb
            obtain rfl : l' = l := by rw [hl] at hl'; exact (Option.some.inj hl').symm
            have hload := run_loadVar_ti ht w l'.blk (l'.off + o) (fun k => ms.getD (l'.off + o + k) undef) (fun k hk => by
              rw [cell_row hh, Array.getElem?_eq_getElem (by omega)]
              simp [Array.getD, show l'.off + o + k < ms.size by omega]) (fun e => hc.1.resolve_left (by simp [e]))
            refine ⟨if i.agg then .agg ((List.range i.size).map fun k => ms.getD (l'.off + o + k) undef).toArray else ms.getD (l'.off + o + 0) undef, ?_, ?_⟩
            · simp only [resVar1, hq', asAddr, Sem.run_bind, Sem.run_pure, Result.andThen_ok]
              exact hload
            · unfold readV
              split
              · refine VR.mkAgg (by simp; omega) (fun k c hc' => ?_)
                have hk' : k < i.size := by
                  have := (List.getElem?_eq_some_iff.1 hc').1
                  simp at this; omega
                rw [getD_range _ _ _ hk']
                have hc'' : cs[o + k]? = some c := by
                  rw [List.getElem?_take] at hc'
                  simpa [hk', List.getElem?_drop] using hc'
                exact ⟨hone _ _ hc'', by rw [Nat.add_assoc]; exact hrel _ _ hc''⟩
              · have hlt : o < cs.length := by
                  rcases hc.1 with h | h
                  · simp_all
                  · omega
                have hcc : cs[o]? = some (cs.getD o (.p (.v .nilFunc))) := by
                  rw [List.getElem?_eq_getElem hlt]; simp [List.getD, hlt]
                exact hrel o _ hcc
        · cases h
      · cases h
    · cases h

theorem run_resL {C : Ctx} {j : Nat → Option Loc} {a : Act} {w : World} (hr : ERel WG C j σ a w) : ∀ {xs : List ResultVar} {vs : List V}, resL P σ xs = some vs →
    ∃ ms : List Value, (xs.mapM (resVar1 a.tmps)).run P w = .ok ms w ∧ ms.length = vs.length ∧ ∀ (i : Nat) v, vs[i]? = some v → ∃ m, ms[i]? = some m ∧ VR w (okc C (Own j σ.tab) w) j σ.nx v m
  | [], vs, h => by simp [resL] at h; subst h; exact ⟨[], rfl, rfl, by simp⟩
  | x :: r, vs, h => by
    simp only [resL] at h
    split at h
    · rename_i v l hv hl
      cases h
      obtain ⟨m, h1, h2⟩ := run_res1 hr hv
      obtain ⟨ms, h3, h4, h5⟩ := run_resL hr hl
      refine ⟨m :: ms, by simp only [List.mapM_cons, Sem.run_bind, h1, Result.andThen_ok, h3, Sem.run_pure], by simp [h4], fun i u hu => ?_⟩
      rcases i with _ | i
      · simp at hu; subst hu; exact ⟨m, rfl, h2⟩
      · simp at hu; simpa using h5 i u hu
    · cases h

theorem run_results {C : Ctx} {j : Nat → Option Loc} {a : Act} {w : World} (hr : ERel WG C j σ a w) {fn : Func} {v : V} (h : resV P σ fn.results.toList = some v) :
    ∃ m, (results fn a.tmps).run P w = .ok m w ∧ VR w (okc C (Own j σ.tab) w) j σ.nx v m := by
  unfold resV at h
  have key : ∀ {vs : List V}, resL P σ fn.results.toList = some vs → ∃ ms : List Value, (fn.results.mapM (resVar1 a.tmps)).run P w = .ok ms.toArray w ∧ ms.length = vs.length ∧ ∀ (i : Nat) v, vs[i]? = some v → ∃ m, ms[i]? = some m ∧ VR w (okc C (Own j σ.tab) w) j σ.nx v m := by
    intro vs hl
    obtain ⟨ms, h1, h2⟩ := run_resL hr hl
    exact ⟨ms, by rw [Array.mapM_eq_mapM_toList]; simp only [Sem.run_map, h1, Result.andThen_ok], h2⟩
  have hres : results fn a.tmps = (do let vs ← fn.results.mapM (resVar1 a.tmps); pure (if h : vs.size = 1 then vs[0] else .tuple vs)) := by
    unfold results
    congr 1
  rw [hres]
  split at h
  · rename_i v' hl
    cases h
    obtain ⟨ms, h1, h2, h3⟩ := key hl
    obtain ⟨m, hm, hv⟩ := h3 0 v rfl
    match ms, h2, hm with
    | [m'], _, hm =>
      simp at hm; subst hm
      exact ⟨m', by simp only [Sem.run_bind, h1, Result.andThen_ok, Sem.run_pure]; rfl, hv⟩
  · rename_i l hne hl
    cases h
    obtain ⟨ms, h1, h2, h3⟩ := key hl
    have hsz : ¬ ms.toArray.size = 1 := by
      intro e
      match l, ms, h2, e with
      | [x], _, _, _ => exact hne x rfl
      | [], [_], h, _ => simp at h
      | _ :: _ :: _, [_], h, _ => simp at h
    refine ⟨.tuple ms.toArray, by simp only [Sem.run_bind, h1, Result.andThen_ok, Sem.run_pure]; rw [dif_neg hsz], .tup (by simpa using h2) (fun i c hc => ?_)⟩
    obtain ⟨m, hm, hv⟩ := h3 i c hc
    have : ms.toArray.getD i undef = m := by simp [Array.getD_eq_getD_getElem?, hm]
    rw [this]; exact hv
  · cases h

def enumFrom : Nat → List V → List (Nat × V)
  | _, [] => []
  | n, v :: r => (n, v) :: enumFrom (n + 1) r
theorem aget_enum : ∀ (vs : List V) (n t : Nat), aget (enumFrom n vs) t = if n ≤ t then vs[t - n]? else none
  | [], n, t => by simp [enumFrom, aget]
  | v :: r, n, t => by
    simp only [enumFrom, aget]
    by_cases h : n = t
    · subst h; simp
    · rw [if_neg h, aget_enum r (n + 1) t]
      by_cases h2 : n ≤ t
      · rw [if_pos h2, if_pos (by omega)]
        obtain ⟨q, hq⟩ : ∃ q, t - n = q + 1 := ⟨t - n - 1, by omega⟩
        rw [hq, List.getElem?_cons_succ]
        congr 1; omega
      · rw [if_neg h2, if_neg (by omega)]

/-- The state in which a function's body begins. -/
def enter (fn : Func) (vs : List V) (tab : Tab) (nx : Nat) : St := { env := enumFrom 0 vs, tab, nx, lo := nx, n := fn.ntmps }

/-- What is asked of the body's end. -/
def bodyQ (P : Program) (fn : Func) (K KP : V → Tab → Nat → Prop) : VX → St → Prop
  | .normal, σ | .ret, σ => ∃ r, resV P σ fn.results.toList = some r ∧ K r σ.tab σ.nx
  | .panic v, σ => KP v σ.tab σ.nx
  | _, _ => False

theorem CallT_body {f : FuncId} {fn : Func} {c : Code} {vs : List V} {tab : Tab} {nx : Nat} {K KP : V → Tab → Nat → Prop} (hf : P.funcs[f]? = some fn) (hb : fn.body = some c) (hn : vs.length ≤ fn.ntmps)
    (h : T P WG c (enter fn vs tab nx) (bodyQ P fn K KP)) : CallT P WG f vs tab nx K KP := by
  intro C j w ms h1 h2 h3 h4 hm hvs
  refine calls_of_wp hf hb ?_
  have hr : ERel WG C j (enter fn vs tab nx) { tmps := ms ++ Array.replicate (fn.ntmps - ms.size) undef, defers := [] } w := by
    refine ⟨hm, by rw [h1]; exact Nat.le_refl _, Nat.le_refl _, fun t v hv => ?_, by simp [enter, hvs.1]; omega, rfl⟩
    simp only [enter, aget_enum, Nat.zero_le, if_true, Nat.sub_zero] at hv
    have hlt : t < ms.size := by rw [hvs.1]; exact (List.getElem?_eq_some_iff.1 hv).1
    refine ⟨ms.getD t undef, ?_, hvs.2 t v hv⟩
    rw [Array.getElem?_append_left hlt, Array.getElem?_eq_getElem hlt]
    simp [Array.getD, hlt]
  refine wp_mono (h C j _ w hr) fun e a w' ⟨x, σ', j', hx, hr', hq⟩ => ?_
  cases hx with
  | normal =>
    obtain ⟨r, hres, hK⟩ := hq
    obtain ⟨m, hrun, hv⟩ := run_results hr' hres
    exact ⟨hr'.defers, m, hrun, j', σ'.tab, σ'.nx, r, hr'.mem, hv, hK⟩
  | ret =>
    obtain ⟨r, hres, hK⟩ := hq
    obtain ⟨m, hrun, hv⟩ := run_results hr' hres
    exact ⟨hr'.defers, m, hrun, j', σ'.tab, σ'.nx, r, hr'.mem, hv, hK⟩
  | exit => exact hq.elim
  | goto => exact hq.elim
  | panic h => exact ⟨hr'.defers, j', σ'.tab, σ'.nx, _, _, hr'.mem, rfl, h, hq⟩

end
end Go.Gp
