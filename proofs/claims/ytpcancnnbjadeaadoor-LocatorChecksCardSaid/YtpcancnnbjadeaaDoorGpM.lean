/-
  Evaluation of code: regions with guards, control.
-/
import Derived.Test.YtpcancnnbjadeaaDoorGpL
set_option linter.unusedSimpArgs false
set_option linter.unusedVariables false
namespace Go.Gp
open Go.RowKit

def forceV : V → V
  | .cnd b x => if b then x else .cnd b x
  | x => x
def forceE : List (Nat × V) → List (Nat × V)
  | [] => []
  | (t, v) :: r => (t, forceV v) :: forceE r
theorem aget_force (e : List (Nat × V)) (t : Nat) : aget (forceE e) t = (aget e t).map forceV := by
  induction e with
  | nil => rfl
  | cons p r ih =>
    obtain ⟨k, v⟩ := p
    simp only [forceE, aget]
    split
    · rfl
    · exact ih

def force (σ : St) : St := { σ with env := forceE σ.env }

section
variable {P : Program} {WG : World} {σ : St} {Q : VX → St → Prop} {ops : Array Oper}

theorem VR.force {w : World} {ok : Nat → Prop} {j : Nat → Option Loc} {nx : Nat} {v : V} {m : Value} (h : VR w ok j nx v m) : VR w ok j nx (forceV v) m := by
  cases h with
  | @cnd b x m h h0 =>
    unfold forceV
    cases b
    · exact .cnd h h0
    · exact h rfl
  | p h => exact .p h
  | ref a b c => exact .ref a b c
  | eref a b c => exact .eref a b c
  | oslNil a b => exact .oslNil a b
  | oslEnd a b c d => exact .oslEnd a b c d
  | osl a b c d e f g => exact .osl a b c d e f g
  | bsl a b c d => exact .bsl a b c d
  | bslEnd => exact .bslEnd
  | agg a b c => exact .agg a b c
  | tup a b => exact .tup a b
  | clo a b c d => exact .clo a b c d
  | ifc a => exact .ifc a
  | mp a b => exact .mp a b
  | zc => exact .zc

theorem ERel.force {C : Ctx} {j : Nat → Option Loc} {a : Act} {w : World} (h : ERel WG C j σ a w) : ERel WG C j (force σ) a w :=
  ⟨h.mem, h.lo, h.lx, fun t v hv => by
    simp only [Gp.force, aget_force] at hv
    cases hq : aget σ.env t with
    | none => simp [hq] at hv
    | some u =>
      simp [hq] at hv; subst hv
      obtain ⟨m, hm, hr⟩ := h.env t u hq
      exact ⟨m, hm, hr.force⟩, h.n, h.defers⟩

theorem OpS.unforce {op : Oper} {K : V → Tab → Nat → Prop} (h : OpS P WG op (force σ) K) : OpS P WG op σ K := fun C j a w hr => h C j a w hr.force

/-- Operands' values, and whether all of them are there. -/
def evsS (σ : St) : List Operand → Option (Bool × List V)
  | [] => some (true, [])
  | x :: r =>
    match ev σ x, evsS σ r with
    | some v, some (b, l) => some (condV v && b, stripV v :: l)
    | _, _ => none

theorem ev_force {x : Operand} {v : V} (h : ev σ x = some v) (hc : condV v = true) : ev (force σ) x = some (stripV v) := by
  have hs : forceV v = stripV v := by cases v <;> simp_all [condV, forceV, stripV]
  cases x with
  | tmp t => simp only [ev] at h; simp only [ev, Gp.force, aget_force, h, Option.map_some, hs]
  | const c =>
    have : stripV v = v := by
      simp only [ev] at h
      split at h
      · cases h; rfl
      · split at h
        · split at h
          · cases h; rfl
          · cases h
        · cases h
    rw [this]; exact h
  | func f => simp only [ev] at h; cases h; rfl
  | global g => simp [ev] at h
theorem evsS_force : ∀ {xs : List Operand} {b : Bool} {vs : List V}, evsS σ xs = some (b, vs) → b = true → evs (force σ) xs = some vs
  | [], b, vs, h, _ => by simp [evsS] at h; simp [evs, h.2]
  | x :: r, b, vs, h, hb => by
    simp only [evsS] at h
    split at h
    · rename_i v b' l hv hl
      cases h
      simp only [Bool.and_eq_true] at hb
      simp only [evs, ev_force hv hb.1, evsS_force hl hb.2]
    · cases h

/-- The slots of a region's operations that were met: number, slot. -/
abbrev Met := List (Nat × Option Nat)
def MetOk (ops : Array Oper) (ds : Met) : Prop := ∀ g d, aget ds g = some d → (ops[g]?).map (·.dst) = some d

/-- When a guarded operation is carried out. -/
def guardC (ds : Met) (σ : St) : Option (Nat × Bool) → Option Bool
  | none => some true
  | some (g, want) =>
    match aget ds g with
    | some (some t) =>
      match aget σ.env t with
      | some v =>
        match stripV v with
        | .p (.v (.bool b)) => some (condV v && (b == want))
        | _ => none
      | none => none
    | _ => none

theorem wanted_eq {C : Ctx} {j : Nat → Option Loc} {a : Act} {w : World} (hr : ERel WG C j σ a w) {o : Oper} {c : Bool} {ds : Met} (hds : MetOk ops ds) (h : guardC ds σ o.guard = some c) : Region.wanted o (yielded ops a.tmps) = c := by
  unfold guardC at h
  unfold Region.wanted
  cases hg : o.guard with
  | none => rw [hg] at h; simp only at h ⊢; exact Option.some.inj h
  | some gw =>
    obtain ⟨g, want⟩ := gw
    rw [hg] at h
    simp only at h ⊢
    split at h
    · rename_i t ht
      split at h
      · rename_i v hv
        split at h
        · rename_i b hs
          cases h
          obtain ⟨m, hm, hvr⟩ := hr.env t v hv
          have hy : ∀ x, m = x → yielded ops a.tmps g = (match x with | .bool b => some b | _ => none) := by
            intro x hx; subst hx
            have hd := hds g _ ht
            unfold yielded
            cases hog : ops[g]? with
            | none => simp [hog] at hd
            | some og =>
              simp only [hog, Option.map_some, Option.some.injEq] at hd
              simp only [Option.bind_some, hd, hm]
              cases m <;> rfl
          cases v with
          | cnd b' x =>
            simp only [stripV] at hs; subst hs
            cases hvr with
            | cnd h1 h0 =>
              simp only [condV]
              cases b'
              · rw [hy _ (h0 rfl)]; rfl
              · have := h1 rfl
                cases this with
                | p hp => cases hp; rw [hy _ rfl]; cases b <;> cases want <;> rfl
          | p x =>
            simp only [stripV] at hs
            injection hs with hs; subst hs
            cases hvr with
            | p hp => cases hp; rw [hy _ rfl]; cases b <;> cases want <;> rfl
          | _ => simp [stripV] at hs
        · cases h
      · cases h
    · cases h

def putC (σ : St) (o : Oper) (c : Bool) (v : V) : St :=
  match o.guard with
  | none => putS σ o.dst v σ.tab σ.nx
  | some _ => putS σ o.dst (.cnd c v) σ.tab σ.nx

theorem RT_pure {i : Nat} {rest : List Nat} {o : Oper} {c : Bool} {v : V} {ds : Met} (hds : MetOk ops ds) (hi : ops[i]? = some o) (hg : guardC ds σ o.guard = some c) (hd : dstOk σ o.dst) (h : c = true → OpS P WG o σ (Just σ v))
    (hk : RT P WG ops rest (putC σ o c v) Q) : RT P WG ops (i :: rest) σ Q := by
  intro C j a w hr
  have hw := wanted_eq hr hds hg
  simp only [wpOps, hi]
  cases hc : c with
  | true =>
    rw [hc] at hw
    simp only [hw, if_true]
    obtain ⟨m, w', v', j', tab', nx', hrun, hm, hv, rfl, rfl, rfl⟩ := h hc C j a w hr
    left
    simp only [Oper.wp, hrun, Oper.upon]
    refine hk C j' _ w' ?_
    unfold putC
    split
    · exact put_rel hr hm hv hd
    · exact put_rel hr hm (.cnd (fun _ => hv) (fun e => by simp [hc] at e)) hd
  | false =>
    rw [hc] at hw
    simp only [hw, Bool.false_eq_true, if_false]
    refine hk C j _ w ?_
    unfold putC
    split
    · rename_i hn
      rw [hn] at hg; simp only [guardC] at hg; cases hg; cases hc
    · exact put_rel hr (Moves.refl hr) (.cnd (fun e => by simp [hc] at e) (fun _ => rfl)) hd

/-- The value that is picked: truth values alone. -/
def pickB (b x y : Bool) : Bool := if b then x else y
theorem pickB_or (b y : Bool) : pickB b true y = (b || y) := by cases b <;> rfl
theorem pickB_and (b x : Bool) : pickB b x false = (b && x) := by cases b <;> rfl

def pickF (σ : St) (c x y : Operand) : Option (V × Prop) :=
  match ev σ c, ev σ x, ev σ y with
  | some vc, some vx, some vy =>
    match stripV vc, stripV vx, stripV vy with
    | .p (.v (.bool b)), .p (.v (.bool bx)), .p (.v (.bool by')) => some (.p (.v (.bool (pickB b bx by'))), condV vc = true ∧ (b = true → condV vx = true) ∧ (b = false → condV vy = true))
    | _, _, _ => none
  | _, _, _ => none

theorem pickF_sound {op : Oper} {c x y : Operand} {v : V} {side : Prop} (ho : op.op = .pick c x y) (h : pickF σ c x y = some (v, side)) (hs : side) : OpS P WG op σ (Just σ v) := by
  unfold pickF at h
  split at h
  · rename_i vc vx vy hc hx hy
    split at h
    · rename_i b bx by' hsc hsx hsy
      cases h
      obtain ⟨h1, h2, h3⟩ := hs
      refine .unforce ?_
      have e1 := ev_force hc h1
      rw [hsc] at e1
      refine op_pick (b := b) ho (by unfold evB; rw [e1]) (fun e => ?_) (fun e => ?_) ⟨rfl, rfl, rfl⟩
      · subst e; rw [ev_force hx (h2 rfl), hsx]; rfl
      · subst e; rw [ev_force hy (h3 rfl), hsy]; rfl
    · cases h
  · cases h

def okSrc (ti : TI) (y : V) : Bool :=
  match y with
  | .p (.v (.string _)) => (match ti.d with | .str => true | _ => false)
  | _ => (match ti.d with | .slice _ => true | _ => false)

def appF (P : Program) (σ : St) (c : Call) (vs : List V) : Option (Option V × Tab × Nat × Prop) :=
  match c.args.toList, c.argTypes.toList, vs with
  | [_, _], [t, tx], [x, y] =>
    match tiOf P t, tiOf P tx with
    | some i, some ti =>
      match i.d with
      | .slice e =>
        match tiOf P e with
        | some ei =>
          if decide (ei.bytes ≤ 16384) && okSrc ti y then
            match srcV σ.tab ei.agg ei.size y with
            | some (ys, side) =>
              match x with
              | .zc | .p (.v (.slice none 0 0)) => some (some (.osl σ.nx ei.size 0 ys.length none), aset σ.tab σ.nx (.arr ei.size ys true), σ.nx + 1, side ∧ ys.length ≤ 4294967296)
              | .osl b s lo len _ =>
                match aget σ.tab b with
                | some (.arr s' xs _) =>
                  if s = ei.size ∧ s' = ei.size then some (some (.osl σ.nx ei.size 0 (len + ys.length) none), aset (adel σ.tab b) σ.nx (.arr ei.size ((xs.drop lo).take len ++ ys) true), σ.nx + 1, side ∧ lo + len ≤ xs.length ∧ len + ys.length ≤ 4294967296)
                  else none
                | _ => none
              | _ => none
            | none => none
          else none
        | none => none
      | _ => none
    | _, _ => none
  | _, _, _ => none

def makeF (P : Program) (σ : St) (t : TypeId) (xl xc : V) : Option (Option V × Tab × Nat × Prop) :=
  match tiOf P t, xl, xc with
  | some i, .p (.v (.int _ l)), .p (.v (.int _ c)) =>
    match i.d with
    | .slice e =>
      match tiOf P e with
      | some ei =>
        if (ei.agg || ei.size == 1) && decide (0 < ei.size) then
          some (some (.osl σ.nx ei.size 0 l.toNat (some c.toNat)), aset σ.tab σ.nx (.arr ei.size (List.replicate c.toNat ei.zeroP) false), σ.nx + 1, 0 ≤ l ∧ l ≤ c ∧ c ≤ 16777216 ∧ (ei.bytes : Int) * c ≤ 281474976710656)
        else none
      | none => none
    | _ => none
  | _, _, _ => none

def bytesF (P : Program) (σ : St) (s t : TypeId) (x : V) : Option (Option V × Tab × Nat × Prop) :=
  match tiOf P s, tiOf P t, x with
  | some i', some i, .p (.v (.string b)) =>
    match i'.d, i.d with
    | .str, .slice e =>
      match tiOf P e with
      | some ei => if ei.d = .int .u8 then some (some (.osl σ.nx 1 0 b.size none), aset σ.tab σ.nx (.arr 1 (bytesP b.data.toList) true), σ.nx + 1, True) else none
      | none => none
    | _, _ => none
  | _, _, _ => none

/-- Operations that make or turn memory: the value (if any), the memory then, what must hold. -/
def opM (P : Program) (σ : St) (op : Op) (vs : List V) : Option (Option V × Tab × Nat × Prop) :=
  match op with
  | .box _ _ => (match vs with | [x] => if x.isTup then none else some (some (.ref σ.nx 0), aset σ.tab σ.nx (.box x.cells), σ.nx + 1, True) | _ => none)
  | .alloc t => (match tiOf P t with | some i => some (some (.ref σ.nx 0), aset σ.tab σ.nx (.box (i.zero.map fun z => .p (.v z))), σ.nx + 1, True) | none => none)
  | .store t _ _ =>
    match tiOf P t, vs with
    | some i, [.ref b o, v] =>
      match aget σ.tab b with
      | some (.box cs) => if v.isTup then none else some (none, aset σ.tab b (.box (putL cs o v.cells)), σ.nx, v.cells.length = i.size ∧ o + i.size ≤ cs.length)
      | _ => none
    | _, _ => none
  | .buildSlice t len parts =>
    match tiOf P t with
    | some i =>
      match i.d with
      | .slice e =>
        match tiOf P e, zipParts parts.toList vs with
        | some ei, some l =>
          match fillV ((List.range len).map fun k => (k * ei.size, ei.size)) (((List.range len).map fun _ => ei.zero.map fun x => V.p (.v x)).flatten) l with
          | some out =>
            match allP out with
            | some ps => if (ei.agg || ei.size == 1) && decide (0 < ei.size) && decide (len * ei.size ≤ 16777216) then some (some (.osl σ.nx ei.size 0 len (some len)), aset σ.tab σ.nx (.arr ei.size (elemsOf ei.agg ei.size len ps) false), σ.nx + 1, True) else none
            | none => none
          | none => none
        | _, _ => none
      | _ => none
    | none => none
  | .call c => (match c.callee with | .builtin .append => appF P σ c vs | _ => none)
  | .makeSlice t _ _ => (match vs with | [xl, xc] => makeF P σ t xl xc | _ => none)
  | .convert s t _ => (match vs with | [x] => bytesF P σ s t x | _ => none)
  | _ => none

def opMS (P : Program) (WG : World) (o : Oper) (σ : St) (v : Option V) (tab : Tab) (nx : Nat) : Prop :=
  match v with
  | some v => OpS P WG o σ fun v' t n => v' = v ∧ t = tab ∧ n = nx
  | none => OpK P WG o σ fun t n => t = tab ∧ n = nx

theorem appF_sound {op : Oper} {c : Call} {vs : List V} {v : Option V} {tab : Tab} {nx : Nat} {side : Prop} (ho : op.op = .call c) (hb : c.callee = .builtin .append) (hvs : evs σ c.args.toList = some vs) (h : appF P σ c vs = some (v, tab, nx, side)) (hs : side) : opMS P WG op σ v tab nx := by
  unfold appF at h
  split at h
  · rename_i xa ya t tx x y hargs hts
    rw [hargs] at hvs
    obtain ⟨vx, vy, he, hx, hy⟩ := evs_two hvs
    cases he
    have hc : c = { callee := .builtin .append, args := #[xa, ya], argTypes := #[t, tx] } := by
      obtain ⟨a, b, d⟩ := c
      simp only at hb hargs hts
      subst hb
      congr 1
      · exact Array.ext' (by simpa using hargs)
      · exact Array.ext' (by simpa using hts)
    split at h
    · rename_i i ti hi hti
      split at h
      · rename_i e hd
        split at h
        · rename_i ei hei
          split at h
          · rename_i hok
            simp only [Bool.and_eq_true, decide_eq_true_eq] at hok
            split at h
            · rename_i ys side' hsrc
              have hkk : ((∃ e, ti.d = .slice e) ∨ ti.d = .str) ∧ (ti.d = .str ↔ ∃ b, y = .p (.v (.string b))) := by
                have h2 := hok.2
                unfold okSrc at h2
                split at h2
                · rename_i b
                  split at h2
                  · rename_i hd2; exact ⟨.inr hd2, ⟨fun _ => ⟨b, rfl⟩, fun _ => hd2⟩⟩
                  · cases h2
                · rename_i hns
                  split at h2
                  · rename_i e' hd2
                    exact ⟨.inl ⟨e', hd2⟩, ⟨fun h => (by rw [hd2] at h; cases h), fun ⟨b, hb⟩ => (hns b hb).elim⟩⟩
                  · cases h2
              have new : (x = .zc ∨ x = .p (.v (.slice none 0 0))) → some (some (V.osl σ.nx ei.size 0 ys.length none), aset σ.tab σ.nx (.arr ei.size ys true), σ.nx + 1, side' ∧ ys.length ≤ 4294967296) = some (v, tab, nx, side) → opMS P WG op σ v tab nx := by
                intro hx0 h
                cases h
                refine op_append_new (olds := []) ho hc hi hd hei hti hkk.1 hkk.2 hok.1 hx hy hsrc hs.1 (.inl ⟨hx0, rfl⟩) (by simpa using hs.2) ⟨by simp, by simp, rfl⟩
              split at h
              · exact new (.inl rfl) h
              · exact new (.inr rfl) h
              · rename_i b s lo len cap
                split at h
                · rename_i s' xs gr hbk
                  split at h
                  · rename_i hss
                    obtain ⟨rfl, rfl⟩ := hss
                    cases h
                    exact op_append_own ho hc hi hd hei hti hkk.1 hkk.2 hok.1 hx hbk hs.2.1 hy hsrc hs.1 hs.2.2 ⟨rfl, rfl, rfl⟩
                  · cases h
                · cases h
              · cases h
            · cases h
          · cases h
        · cases h
      · cases h
    · cases h
  · cases h

theorem opM_sound {op : Oper} {vs : List V} {v : Option V} {tab : Tab} {nx : Nat} {side : Prop} (hvs : evs σ op.op.operands.toList = some vs) (h : opM P σ op.op vs = some (v, tab, nx, side)) (hs : side) : opMS P WG op σ v tab nx := by
  cases hop : op.op <;> rw [hop] at h hvs <;> simp only [opM] at h <;> (try cases h)
  case box t x =>
    obtain ⟨vx, rfl, hx⟩ := evs_one hvs
    simp only at h
    split at h
    · cases h
    · rename_i ht; cases h; exact op_box hop hx (by simpa using ht) ⟨rfl, rfl, rfl⟩
  case alloc t =>
    split at h
    · rename_i i hi; cases h; exact op_alloc hop hi ⟨rfl, rfl, rfl⟩
    · cases h
  case store t x y =>
    obtain ⟨vx, vy, rfl, hx, hy⟩ := evs_two hvs
    split at h
    · rename_i i b o u hi hl
      cases hl
      split at h
      · rename_i cs hb
        split at h
        · cases h
        · rename_i ht; cases h; exact op_store_box hop hi hx hy (by simpa using ht) hb hs.1 hs.2 ⟨rfl, rfl⟩
      · cases h
    · cases h
  case call c =>
    split at h
    · rename_i hb
      exact appF_sound hop hb (by simpa [Op.operands, Call.operands, hb] using hvs) h hs
    · cases h
  case makeSlice t xl xc =>
    obtain ⟨vx, vy, rfl, hx, hy⟩ := evs_two hvs
    simp only [makeF] at h
    split at h
    · rename_i i kl l kc cc hi
      split at h
      · rename_i e hd
        split at h
        · rename_i ei hei
          split at h
          · rename_i hc
            simp only [Bool.and_eq_true, decide_eq_true_eq] at hc
            cases h
            exact op_makeSlice hop hi hd hei hc.2 (aggOr hc.1) hx hy hs.1 hs.2.1 hs.2.2.1 hs.2.2.2 ⟨rfl, rfl, rfl⟩
          · cases h
        · cases h
      · cases h
    · cases h
  case convert s t x =>
    obtain ⟨vx, rfl, hx⟩ := evs_one hvs
    simp only [bytesF] at h
    split at h
    · rename_i i' i b hi' hi
      split at h
      · rename_i e hd' hd
        split at h
        · rename_i ei hei
          split at h
          · rename_i hed; cases h; exact op_conv_bytes hop hi hd hei hed hi' hd' hx ⟨rfl, rfl, rfl⟩
          · cases h
        · cases h
      · cases h
    · cases h
  case buildSlice t len parts =>
    split at h
    · rename_i i hi
      split at h
      · rename_i e hd
        split at h
        · rename_i ei l hei hl
          split at h
          · rename_i out hout
            split at h
            · rename_i ps hps
              split at h
              · rename_i hc
                simp only [Bool.and_eq_true, decide_eq_true_eq] at hc
                cases h
                exact op_buildSlice hop hi hd hei (aggOr hc.1.1) hc.2 hc.1.2 (zipParts_sound (by simpa [Op.operands] using hvs) hl) hout hps ⟨rfl, rfl, rfl⟩
              · cases h
            · cases h
          · cases h
        · cases h
      · cases h
    · cases h

def putM (σ : St) (o : Oper) (v : Option V) (tab : Tab) (nx : Nat) : St :=
  match v with
  | some v => putS σ o.dst v tab nx
  | none => { σ with tab, nx }
def dropD (σ : St) : Option Nat → St
  | some d => { σ with env := adel σ.env d }
  | none => σ

theorem RT_mem {i : Nat} {rest : List Nat} {o : Oper} {c : Bool} {v : Option V} {tab : Tab} {nx : Nat} {ds : Met} (hds : MetOk ops ds) (hi : ops[i]? = some o) (hg : guardC ds σ o.guard = some c) (hd : dstOk σ o.dst) (hn : v = none → o.dst = none)
    (h1 : c = true → opMS P WG o σ v tab nx) (hk : c = true → RT P WG ops rest (putM σ o v tab nx) Q) (hk' : c = false → RT P WG ops rest (dropD σ o.dst) Q) : RT P WG ops (i :: rest) σ Q := by
  intro C j a w hr
  have hw := wanted_eq hr hds hg
  simp only [wpOps, hi]
  cases hc : c with
  | true =>
    rw [hc] at hw
    simp only [hw, if_true]
    left
    have h1' := h1 hc
    have hk1 := hk hc
    cases v with
    | some v =>
      obtain ⟨m, w', v', j', tab', nx', hrun, hm, hv, rfl, rfl, rfl⟩ := h1' C j a w hr
      simp only [Oper.wp, hrun, Oper.upon]
      exact hk1 C j' _ w' (put_rel hr hm hv hd)
    | none =>
      obtain ⟨w', j', tab', nx', hrun, hm, rfl, rfl⟩ := h1' C j a w hr
      simp only [Oper.wp, hrun, Oper.upon, hn rfl, Act.put]
      exact hk1 C j' _ w' ⟨hm.mem, hr.lo, hm.lx, fun t u hu => let ⟨q, h1, h2⟩ := hr.env t u hu; ⟨q, h1, hm.keep _ _ h2⟩, hr.n, hr.defers⟩
  | false =>
    rw [hc] at hw
    simp only [hw, Bool.false_eq_true, if_false]
    have hk1 := hk' hc
    cases hdst : o.dst with
    | none => rw [hdst] at hk1; exact hk1 C j a w hr
    | some d =>
      rw [hdst] at hk1
      refine hk1 C j _ w ⟨hr.mem, hr.lo, hr.lx, fun t' u hu => ?_, by simp only [Act.put, Array.size_setIfInBounds]; exact hr.n, hr.defers⟩
      simp only [dropD, aget_adel] at hu
      by_cases e : t' = d
      · simp [e] at hu
      · rw [if_neg e] at hu
        obtain ⟨q, h1, h2⟩ := hr.env t' u hu
        refine ⟨q, ?_, h2⟩
        simp only [Act.put, Array.getElem?_setIfInBounds]
        rw [if_neg (fun h => e h.symm)]; exact h1

def idx : Nat → List Oper → List Nat
  | _, [] => []
  | i, _ :: l => i :: idx (i + 1) l

def isMem (P : Program) : Op → Bool
  | .box .. | .alloc _ | .store .. | .buildSlice .. | .makeSlice .. => true
  | .call c => (match c.callee with | .builtin .append => true | _ => false)
  | .convert _ t _ => (match tiOf P t with | some i => (match i.d with | .slice _ => true | _ => false) | none => false)
  | _ => false

def callK (K : St → Prop) (σ : St) (d : Option Nat) : V → Tab → Nat → Prop := fun r tab nx => K (putS σ d r tab nx)
def callP (Q : VX → St → Prop) (σ : St) : V → Tab → Nat → Prop := fun r tab nx => Q (.panic r) { σ with tab, nx }

/-- What an operation comes to. -/
inductive SR where
  | pure (σ : St) (side : Prop)
  | mem (c : Bool) (σ σ' : St) (side : Prop)
  | call (g : FuncId) (vs : List V) (d : Option Nat)
  | callc (c : Bool) (side : Prop) (g : FuncId) (vs : List V) (o : Oper)

/-- Over this local memory, which stays, the call gives 'r'. -/
def CallQ (P : Program) (WG : World) (g : FuncId) (vs : List V) (tab : Tab) (nx : Nat) (r : V) : Prop :=
  CallT P WG g vs tab nx (fun r' t n => r' = r ∧ t = tab ∧ n = nx) noP
/-- The function gives this for these values, over any local memory, which stays. -/
def FVv (P : Program) (WG : World) (g : FuncId) (vs : List V) (r : V) : Prop := ∀ tab nx, CallQ P WG g vs tab nx r

def stepE (P : Program) (ds : Met) (o : Oper) (σ : St) : Option SR :=
  match guardC ds σ o.guard with
  | none => none
  | some c =>
    match o.op with
    | .pick a x y =>
      match pickF σ a x y with
      | some (v, side) => some (.pure (putC σ o c v) ((c = true → side) ∧ dstOk σ o.dst))
      | none => none
    | .call ⟨.value f, args, _⟩ =>
      match o.guard, ev σ f, evs σ args.toList with
      | none, some vf, some vs =>
        match cloOf vf with
        | some (g, fs, cs) => if callable P g then some (.call g (fs ++ vs ++ cs) o.dst) else none
        | none => none
      | some _, some vf, _ =>
        match evsS σ args.toList, cloOf vf with
        | some (b, vs), some (g, fs, cs) => if callable P g then some (.callc c (c = true → b = true) g (fs ++ vs ++ cs) o) else none
        | _, _ => none
      | _, _, _ => none
    | op =>
      match evsS σ op.operands.toList with
      | some (b, vs) =>
        if isMem P op then
          match opM P σ op vs with
          | some (v, tab, nx, side) => some (.mem c (putM σ o v tab nx) (dropD σ o.dst) ((c = true → b = true ∧ side) ∧ dstOk σ o.dst ∧ (v = none → o.dst = none)))
          | none => none
        else
          match opF P σ.tab op vs with
          | some (v, side) => some (.pure (putC σ o c v) ((c = true → b = true ∧ side) ∧ dstOk σ o.dst))
          | none => none
      | none => none

/-- 'R' is what stands if nothing is known of it. -/
def fin (P : Program) (WG : World) (r : Option SR) (σ : St) (K : St → Prop) (Q : VX → St → Prop) (R : Prop) : Prop :=
  match r with
  | none => R
  | some (.pure σ' side) => side ∧ K σ'
  | some (.mem c σ1 σ2 side) => side ∧ (c = true → K σ1) ∧ (c = false → K σ2)
  | some (.call g vs d) => dstOk σ d ∧ CallT P WG g vs σ.tab σ.nx (callK K σ d) (callP Q σ)
  | some (.callc c side g vs o) => side ∧ dstOk σ o.dst ∧ ∃ r, (c = true → CallQ P WG g vs σ.tab σ.nx r) ∧ K (putC σ o c r)

theorem fin_none {σ : St} {K : St → Prop} {Q : VX → St → Prop} {R : Prop} : fin P WG none σ K Q R = R := rfl
theorem fin_pure {σ σ' : St} {s : Prop} {K : St → Prop} {Q : VX → St → Prop} {R : Prop} : fin P WG (some (.pure σ' s)) σ K Q R = (s ∧ K σ') := rfl
theorem fin_mem {σ σ1 σ2 : St} {c : Bool} {s : Prop} {K : St → Prop} {Q : VX → St → Prop} {R : Prop} : fin P WG (some (.mem c σ1 σ2 s)) σ K Q R = (s ∧ (c = true → K σ1) ∧ (c = false → K σ2)) := rfl
theorem fin_call {σ : St} {g : FuncId} {vs : List V} {d : Option Nat} {K : St → Prop} {Q : VX → St → Prop} {R : Prop} : fin P WG (some (.call g vs d)) σ K Q R = (dstOk σ d ∧ CallT P WG g vs σ.tab σ.nx (callK K σ d) (callP Q σ)) := rfl

theorem fin_callc {σ : St} {c : Bool} {s : Prop} {g : FuncId} {vs : List V} {o : Oper} {K : St → Prop} {Q : VX → St → Prop} {R : Prop} : fin P WG (some (.callc c s g vs o)) σ K Q R = (s ∧ dstOk σ o.dst ∧ ∃ r, (c = true → CallQ P WG g vs σ.tab σ.nx r) ∧ K (putC σ o c r)) := rfl

theorem RT_callc {i : Nat} {rest : List Nat} {o : Oper} {c b : Bool} {ds : Met} {x : Operand} {args : Array Operand} {ts : Array TypeId} {vf : V} {g : FuncId} {fs cs vs : List V} {r : V} (hds : MetOk ops ds) (hi : ops[i]? = some o) (hg : guardC ds σ o.guard = some c) (hd : dstOk σ o.dst)
    (ho : o.op = .call { callee := .value x, args := args, argTypes := ts }) (hx : ev σ x = some vf) (hc : cloOf vf = some (g, fs, cs)) (hvs : evsS σ args.toList = some (b, vs)) (hb : c = true → b = true) (hf : callable P g = true)
    (h : c = true → CallQ P WG g (fs ++ vs ++ cs) σ.tab σ.nx r) (hk : RT P WG ops rest (putC σ o c r) Q) : RT P WG ops (i :: rest) σ Q := by
  intro C j a w hr
  have hw := wanted_eq hr hds hg
  simp only [wpOps, hi]
  cases hcc : c with
  | true =>
    rw [hcc] at hw
    simp only [hw, if_true]
    left
    have hx' : ev (force σ) x = some vf := by
      have h1 : condV vf = true := by cases vf <;> first | rfl | simp [cloOf] at hc
      have h2 : stripV vf = vf := by cases vf <;> first | rfl | simp [cloOf] at hc
      have := ev_force hx h1
      rwa [h2] at this
    refine wp_call (σ := force σ) hr.force ho hx' hc (evsS_force hvs (hb hcc)) hf (h hcc) (fun j' tab' nx' w' r' m hm hv hk' => ?_) (fun _ _ _ _ _ _ _ _ hk' => hk'.elim)
    obtain ⟨rfl, rfl, rfl⟩ := hk'
    refine hk C j' _ w' ?_
    unfold putC
    split
    · exact put_rel hr hm hv hd
    · exact put_rel hr hm (.cnd (fun _ => hv) (fun e => by simp [hcc] at e)) hd
  | false =>
    rw [hcc] at hw
    simp only [hw, Bool.false_eq_true, if_false]
    refine hk C j _ w ?_
    unfold putC
    split
    · rename_i hn
      rw [hn] at hg; simp only [guardC] at hg; cases hg; cases hcc
    · exact put_rel hr (Moves.refl hr) (.cnd (fun e => by simp [hcc] at e) (fun _ => rfl)) hd

def stepR (P : Program) (WG : World) (ds : Met) (o : Oper) (σ : St) (K : St → Prop) (Q : VX → St → Prop) (R : Prop) : Prop := fin P WG (stepE P ds o σ) σ K Q R

theorem Just.unforce {op : Oper} {v : V} (h : OpS P WG op (force σ) (Just (force σ) v)) : OpS P WG op σ (Just σ v) := h.unforce

theorem stepR_sound {i : Nat} {rest : List Nat} {o : Oper} {ds : Met} (hds : MetOk ops ds) (hi : ops[i]? = some o) (h : stepR P WG ds o σ (fun σ' => RT P WG ops rest σ' Q) Q (RT P WG ops (i :: rest) σ Q)) : RT P WG ops (i :: rest) σ Q := by
  unfold stepR at h
  cases hE : stepE P ds o σ with
  | none => rw [hE] at h; exact h
  | some sr =>
    rw [hE] at h
    unfold stepE at hE
    split at hE
    · cases hE
    rename_i c hg
    split at hE
    · rename_i a x y hop
      split at hE
      · rename_i v side hp
        cases hE
        obtain ⟨⟨h1, h2⟩, h3⟩ := h
        exact RT_pure hds hi hg h2 (fun hc => pickF_sound hop hp (h1 hc)) h3
      · cases hE
    · rename_i f args ts hop
      split at hE
      · rename_i vf vs hgd hf hvs
        split at hE
        · rename_i g fs cs hcl
          split at hE
          · rename_i hcb
            cases hE
            exact RT_call hi hgd h.1 hop hf hcl hvs hcb h.2
          · cases hE
        · cases hE
      · rename_i gw vf hgd hf
        split at hE
        · rename_i b vs g fs cs hvs hcl
          split at hE
          · rename_i hcb
            cases hE
            obtain ⟨h1, h2, r, h3, h4⟩ := h
            exact RT_callc hds hi hg h2 hop hf hcl hvs h1 hcb h3 h4
          · cases hE
        · cases hE
      · cases hE
    · split at hE
      · rename_i b vs hvs
        split at hE
        · split at hE
          · rename_i v tab nx side hm
            cases hE
            obtain ⟨⟨h1, h2, h3⟩, h4, h5⟩ := h
            refine RT_mem hds hi hg h2 h3 (fun hc => ?_) h4 h5
            have hs := h1 hc
            have h1 := opM_sound (σ := force σ) (WG := WG) (evsS_force hvs hs.1) (show opM P (force σ) o.op vs = some (v, tab, nx, side) from hm) hs.2
            cases v with
            | some v => exact OpS.unforce h1
            | none => exact fun C j a w hr => h1 C j a w hr.force
          · cases hE
        · split at hE
          · rename_i v side hf
            cases hE
            obtain ⟨⟨h1, h2⟩, h3⟩ := h
            refine RT_pure hds hi hg h2 (fun hc => ?_) h3
            have hs := h1 hc
            exact Just.unforce (opF_sound (σ := force σ) (evsS_force hvs hs.1) (show opF P (force σ).tab o.op vs = some (v, side) from hf) hs.2)
          · cases hE
      · cases hE

/-- A region that draws no order. -/
def wpR (P : Program) (WG : World) (ops : Array Oper) (Q : VX → St → Prop) : Nat → Met → List Oper → St → Prop
  | _, _, [], σ => Q .normal σ
  | i, ds, o :: l, σ => stepR P WG ds o σ (wpR P WG ops Q (i + 1) ((i, o.dst) :: ds) l) Q (RT P WG ops (i :: idx (i + 1) l) σ Q)

theorem stepR_mono {o : Oper} {ds : Met} {K K' : St → Prop} {R R' : Prop} (hk : ∀ σ, K σ → K' σ) (hr : R → R') (h : stepR P WG ds o σ K Q R) : stepR P WG ds o σ K' Q R' := by
  unfold stepR at h ⊢
  cases hE : stepE P ds o σ with
  | none => rw [hE] at h; exact hr h
  | some sr =>
    rw [hE] at h
    cases sr with
    | pure σ' side => exact ⟨h.1, hk _ h.2⟩
    | mem c σ1 σ2 side => exact ⟨h.1, fun e => hk _ (h.2.1 e), fun e => hk _ (h.2.2 e)⟩
    | call g vs d => exact ⟨h.1, h.2.mono (fun r t n hq => hk _ hq) (fun _ _ _ hq => hq)⟩
    | callc c side g vs o => obtain ⟨h1, h2, r, h3, h4⟩ := h; exact ⟨h1, h2, r, h3, hk _ h4⟩

theorem wpR_sound : ∀ (l : List Oper) (i : Nat) (ds : Met) (σ : St), MetOk ops ds → (∀ k, ops[i + k]? = l[k]?) → wpR P WG ops Q i ds l σ → RT P WG ops (idx i l) σ Q
  | [], _, _, _, _, _, h => RT_nil h
  | o :: l, i, ds, σ, hds, hi, h => by
    have h0 : ops[i]? = some o := by simpa using hi 0
    refine stepR_sound hds h0 (stepR_mono (fun σ' hq => wpR_sound l (i + 1) _ σ' (fun g d hg => ?_) (fun k => ?_) hq) (fun hq => hq) h)
    · simp only [aget] at hg
      split at hg
      · rename_i e; subst e; cases hg; simp [h0]
      · exact hds g d hg
    · have := hi (k + 1)
      rw [List.getElem?_cons_succ] at this
      rw [← this]; congr 1; omega

theorem idx_range : ∀ (l : List Oper) (i : Nat), idx i l = List.range' i l.length
  | [], _ => rfl
  | _ :: l, i => by simp [idx, idx_range l (i + 1), List.range'_succ]

/-- Code. What is not evaluated (a loop, a region that draws its order) stands as its triple. -/
def wpC (P : Program) (WG : World) : Code → (VX → St → Prop) → St → Prop
  | .skip, Q, σ => Q .normal σ
  | .seq a b, Q, σ => wpC P WG a (thenQ (wpC P WG b Q) Q) σ
  | .cond c x y, Q, σ =>
    match evB σ c with
    | some b => (b = true → wpC P WG x Q σ) ∧ (b = false → wpC P WG y Q σ)
    | none => T P WG (.cond c x y) σ Q
  | .block i c, Q, σ => wpC P WG c (blockQ i Q) σ
  | .exit i, Q, σ => Q (.exit i) σ
  | .goto l, Q, σ => Q (.goto l) σ
  | .label _, Q, σ => Q .normal σ
  | .ret, Q, σ => Q .ret σ
  | .region i ops d, Q, σ => if d then T P WG (.region i ops d) σ Q else wpR P WG ops Q 0 [] ops.toList σ
  | .loop c, Q, σ => T P WG (.loop c) σ Q
  | .rangeFunc a b c d, Q, σ => T P WG (.rangeFunc a b c d) σ Q
  | .scope c, Q, σ => T P WG (.scope c) σ Q
  | .refuse c, Q, σ => T P WG (.refuse c) σ Q

theorem wpC_sound : ∀ (c : Code) (Q : VX → St → Prop) (σ : St), wpC P WG c Q σ → T P WG c σ Q
  | .skip, Q, σ, h => T_skip h
  | .seq a b, Q, σ, h => T_seq ((wpC_sound a _ σ h).mono fun x σ' hq => by
      cases x with
      | normal => exact wpC_sound b Q σ' hq
      | _ => exact hq)
  | .cond c x y, Q, σ, h => by
    simp only [wpC] at h
    split at h
    · rename_i b hb; exact T_cond hb (fun e => wpC_sound x Q σ (h.1 e)) (fun e => wpC_sound y Q σ (h.2 e))
    · exact h
  | .block i c, Q, σ, h => T_block (wpC_sound c _ σ h)
  | .exit i, Q, σ, h => T_exit h
  | .goto l, Q, σ, h => T_goto h
  | .label _, Q, σ, h => T_label h
  | .ret, Q, σ, h => T_ret h
  | .region i ops d, Q, σ, h => by
    simp only [wpC] at h
    split at h
    · exact h
    · rename_i hd
      have : d = false := by simpa using hd
      subst this
      refine T_region ?_
      have := wpR_sound ops.toList 0 [] σ (fun g d hg => by simp [aget] at hg) (fun k => by simp) h
      rwa [idx_range, Array.length_toList, ← List.range_eq_range'] at this
  | .loop _, _, _, h => h
  | .rangeFunc .., _, _, h => h
  | .scope _, _, _, h => h
  | .refuse _, _, _, h => h

/-! The same, as rules that fire only where all stands. -/
theorem wpR_nil (ops : Array Oper) (i : Nat) (ds : Met) (σ : St) : wpR P WG ops Q i ds [] σ = Q .normal σ := rfl
theorem wpR_cons (ops : Array Oper) (i : Nat) (ds : Met) (o : Oper) (l : List Oper) (σ : St) :
    wpR P WG ops Q i ds (o :: l) σ = fin P WG (stepE P ds o σ) σ (wpR P WG ops Q (i + 1) ((i, o.dst) :: ds) l) Q (RT P WG ops (i :: idx (i + 1) l) σ Q) := rfl
theorem wpC_skip (σ : St) : wpC P WG .skip Q σ = Q .normal σ := rfl
theorem wpC_seq (a b : Code) (σ : St) : wpC P WG (.seq a b) Q σ = wpC P WG a (thenQ (wpC P WG b Q) Q) σ := rfl
theorem wpC_block (i : Nat) (c : Code) (σ : St) : wpC P WG (.block i c) Q σ = wpC P WG c (blockQ i Q) σ := rfl
theorem wpC_exit (i : Nat) (σ : St) : wpC P WG (.exit i) Q σ = Q (.exit i) σ := rfl
theorem wpC_goto (i : Nat) (σ : St) : wpC P WG (.goto i) Q σ = Q (.goto i) σ := rfl
theorem wpC_label (i : Nat) (σ : St) : wpC P WG (.label i) Q σ = Q .normal σ := rfl
theorem wpC_ret (σ : St) : wpC P WG .ret Q σ = Q .ret σ := rfl
theorem wpC_region (i : Nat) (ops : Array Oper) (σ : St) : wpC P WG (.region i ops false) Q σ = wpR P WG ops Q 0 [] ops.toList σ := rfl
theorem wpC_draw (i : Nat) (ops : Array Oper) (σ : St) : wpC P WG (.region i ops true) Q σ = T P WG (.region i ops true) σ Q := rfl
theorem wpC_loop (c : Code) (σ : St) : wpC P WG (.loop c) Q σ = T P WG (.loop c) σ Q := rfl
def condW (P : Program) (WG : World) (b : Bool) (x y : Code) (Q : VX → St → Prop) (σ : St) : Prop := (b = true → wpC P WG x Q σ) ∧ (b = false → wpC P WG y Q σ)
def condK (P : Program) (WG : World) (b : Option Bool) (c : Operand) (x y : Code) (Q : VX → St → Prop) (σ : St) : Prop :=
  match b with
  | some b => condW P WG b x y Q σ
  | none => T P WG (.cond c x y) σ Q
theorem condK_some (b : Bool) (c : Operand) (x y : Code) (σ : St) : condK P WG (some b) c x y Q σ = condW P WG b x y Q σ := rfl
theorem wpC_cond (c : Operand) (x y : Code) (σ : St) : wpC P WG (.cond c x y) Q σ = condK P WG (evB σ c) c x y Q σ := by
  simp only [wpC, condK, condW]
theorem thenQ_normal (K : St → Prop) (σ : St) : thenQ K Q .normal σ = K σ := rfl
theorem thenQ_ret (K : St → Prop) (σ : St) : thenQ K Q .ret σ = Q .ret σ := rfl
theorem thenQ_exit (K : St → Prop) (σ : St) (i : Nat) : thenQ K Q (.exit i) σ = Q (.exit i) σ := rfl
theorem thenQ_goto (K : St → Prop) (σ : St) (i : Nat) : thenQ K Q (.goto i) σ = Q (.goto i) σ := rfl
theorem thenQ_panic (K : St → Prop) (σ : St) (v : V) : thenQ K Q (.panic v) σ = Q (.panic v) σ := rfl
theorem blockQ_normal (i : Nat) (σ : St) : blockQ i Q .normal σ = Q .normal σ := rfl
theorem blockQ_ret (i : Nat) (σ : St) : blockQ i Q .ret σ = Q .ret σ := rfl
theorem blockQ_exit (i k : Nat) (σ : St) : blockQ i Q (.exit k) σ = if k = i then Q .normal σ else Q (.exit k) σ := rfl
theorem blockQ_goto (i k : Nat) (σ : St) : blockQ i Q (.goto k) σ = Q (.goto k) σ := rfl
theorem blockQ_panic (i : Nat) (v : V) (σ : St) : blockQ i Q (.panic v) σ = Q (.panic v) σ := rfl
theorem callK_eq (K : St → Prop) (σ : St) (d : Option Nat) (r : V) (t : Tab) (n : Nat) : callK K σ d r t n = K (putS σ d r t n) := rfl
theorem callP_eq (σ : St) (r : V) (t : Tab) (n : Nat) : callP Q σ r t n = Q (.panic r) { σ with tab := t, nx := n } := rfl

end
end Go.Gp
