/-
  The operations, third part: what makes values: rows, slices, closures, interface values; lengths; slicing.
-/
import Derived.Test.YtpcancnnbjadeaaDoorGpF
import Derived.Great.BuildSlice
set_option linter.unusedSimpArgs false
set_option linter.unusedVariables false
namespace Go.Gp
open Go.RowKit

section
variable {P : Program} {WG : World} {σ : St} {op : Oper} {K : V → Tab → Nat → Prop}

theorem op_extract {x : Operand} {k : Nat} {vs : List V} {v : V} (ho : op.op = .extract x k) (hx : ev σ x = some (.tup vs)) (hv : vs[k]? = some v) (hk : K v σ.tab σ.nx) : OpS P WG op σ K := by
  refine .pure (fun C j a w hr => ?_) hk
  have hvr := hr.ev hx
  generalize hm : a.eval x = m at hvr
  cases hvr with
  | @tup vs ms hlen hrel =>
    have hlt : k < ms.size := by rw [hlen]; exact (List.getElem?_eq_some_iff.1 hv).1
    refine ⟨ms.getD k undef, ?_, hrel k v hv⟩
    unfold execOp; rw [ho]
    simp only [Instr.extract, hm, Array.getElem?_eq_getElem hlt, Sem.run_bind, Sem.run_pure, Result.andThen_ok]
    simp [Array.getD, hlt]

theorem op_makeInterface {t : TypeId} {x : Operand} {i : TI} {v : V} (ho : op.op = .makeInterface t x) (hi : tiOf P t = some i) (hd : i.d ≠ .iface) (hx : ev σ x = some v) (hk : K (.ifc t v) σ.tab σ.nx) : OpS P WG op σ K := by
  refine .pure (fun C j a w hr => ?_) hk
  obtain ⟨info, d, z, ht⟩ := tiOf_some hi
  refine ⟨.iface t (a.eval x), ?_, .ifc (hr.ev hx)⟩
  unfold execOp; rw [ho]
  have htd := ht.td
  simp only [Instr.makeInterface, Sem.run_bind, ht.run_und, Result.andThen_ok]
  cases d <;> first | rfl | (simp only [tdOf] at htd; exact absurd htd.symm hd)

def evs (σ : St) : List Operand → Option (List V)
  | [] => some []
  | x :: r => match ev σ x, evs σ r with
    | some v, some l => some (v :: l)
    | _, _ => none
theorem ERel.evs {C : Ctx} {j : Nat → Option Loc} {a : Act} {w : World} (hr : ERel WG C j σ a w) : ∀ {xs : List Operand} {vs : List V}, evs σ xs = some vs →
    vs.length = xs.length ∧ ∀ (i : Nat) v, vs[i]? = some v → ∃ x, xs[i]? = some x ∧ VR w (okc C (Own j σ.tab) w) j σ.nx v (a.eval x)
  | [], vs, h => by simp [Gp.evs] at h; subst h; simp
  | x :: r, vs, h => by
    simp only [Gp.evs] at h
    split at h
    · rename_i v l hv hl
      cases h
      obtain ⟨h1, h2⟩ := hr.evs hl
      refine ⟨by simp [h1], fun i u hu => ?_⟩
      rcases i with _ | i
      · simp at hu; subst hu; exact ⟨x, rfl, hr.ev hv⟩
      · simp at hu; simpa using h2 i u hu
    · cases h
/-- The operands' values, as an array. -/
theorem ERel.evsA {C : Ctx} {j : Nat → Option Loc} {a : Act} {w : World} (hr : ERel WG C j σ a w) {xs : Array Operand} {vs : List V} (h : Gp.evs σ xs.toList = some vs) :
    VRs w (okc C (Own j σ.tab) w) j σ.nx vs (xs.map a.eval) := by
  obtain ⟨h1, h2⟩ := hr.evs h
  refine ⟨by simp [h1], fun i v hv => ?_⟩
  obtain ⟨x, hx, hr'⟩ := h2 i v hv
  have : (xs.map a.eval).getD i undef = a.eval x := by
    simp only [Array.getD_eq_getD_getElem?, Array.getElem?_map]
    simp only [Array.getElem?_toList] at hx
    simp [hx]
  rw [this]; exact hr'

theorem op_makeFunc {fn : Fn} {fs cs : Array Operand} {vs us : List V} (ho : op.op = .makeFunc fn fs cs) (hf : evs σ fs.toList = some vs) (hc : evs σ cs.toList = some us) (hk : K (.clo fn vs us) σ.tab σ.nx) : OpS P WG op σ K := by
  refine .pure (fun C j a w hr => ?_) hk
  obtain ⟨h1, h2⟩ := hr.evsA hf
  obtain ⟨h3, h4⟩ := hr.evsA hc
  refine ⟨.func fn (fs.map a.eval) (cs.map a.eval), ?_, .clo h1 h3 h2 h4⟩
  unfold execOp; rw [ho]
  simp only [Instr.makeFunc, Sem.run_bind, Sem.run_pure, Result.andThen_ok]

/-- Parts laid over a row. -/
def fillV (places : List (Nat × Nat)) : List V → List (Nat × V) → Option (List V)
  | cs, [] => some cs
  | cs, (k, v) :: r =>
    match places[k]? with
    | none => none
    | some (off, sz) => if v.isTup = false ∧ v.cells.length = sz ∧ off + sz ≤ cs.length then fillV places (putL cs off v.cells) r else none

theorem foldl_upd (cs : Array Value) (off : Nat) (vs : List Value) : ∀ (n : Nat) (cs : Array Value), ((vs.zipIdx n).foldl (fun cs (c, j) => cs.setIfInBounds (off + j) c) cs) = updCells cs (off + n) vs := by
  induction vs with
  | nil => intro n cs; rfl
  | cons v r ih => intro n cs; simp only [List.zipIdx_cons, List.foldl_cons, updCells, ih]; rfl
theorem zipIdx_fold (cs : Array Value) (off : Nat) (vs : Array Value) : (vs.zipIdx.foldl (fun cs (c, j) => cs.setIfInBounds (off + j) c) cs) = updCells cs off vs.toList := by
  rw [← Array.foldl_toList, Array.toList_zipIdx]
  exact foldl_upd cs off vs.toList 0 cs

theorem fill_rel {w : World} {ok : Nat → Prop} {j : Nat → Option Loc} {nx : Nat} (place : Nat → Option (Nat × Nat)) (places : List (Nat × Nat)) (hp : ∀ k, places[k]? ≠ none → place k = places[k]?) :
    ∀ (parts : List (Nat × V)) (ms : List (Nat × Value)) (cs : List V) (cells : Array Value) (out : List V), parts.length = ms.length →
      (∀ (i : Nat) k v, parts[i]? = some (k, v) → ∃ m, ms[i]? = some (k, m) ∧ VR w ok j nx v m) →
      cells.size = cs.length → (∀ (i : Nat) c, cs[i]? = some c → c.one = true ∧ VR w ok j nx c (cells.getD i undef)) →
      fillV places cs parts = some out → ∃ cells', Instr.fill place cells ms = some cells' ∧ cells'.size = out.length ∧ (∀ (i : Nat) c, out[i]? = some c → c.one = true ∧ VR w ok j nx c (cells'.getD i undef))
  | [], [], cs, cells, out, _, _, h1, h2, h => by simp [fillV] at h; subst h; exact ⟨cells, rfl, h1, h2⟩
  | [], _ :: _, _, _, _, h, _, _, _, _ => by simp at h
  | _ :: _, [], _, _, _, h, _, _, _, _ => by simp at h
  | (k, v) :: r, (k', m) :: s, cs, cells, out, hl, hr, h1, h2, h => by
    obtain ⟨m', hm', hv⟩ := hr 0 k v rfl
    simp only [List.getElem?_cons_zero, Option.some.injEq, Prod.mk.injEq] at hm'
    obtain ⟨rfl, rfl⟩ := hm'
    simp only [fillV] at h
    split at h
    · cases h
    rename_i off sz hpl
    split at h
    · rename_i hc
      obtain ⟨ht, hsz, hle⟩ := hc
      obtain ⟨hvs, hvr⟩ := hv.cells (V.ne_tup ht) (V.ne_cnd ht)
      have hn : place k' = some (off, sz) := by rw [hp k' (by simp [hpl])]; exact hpl
      simp only [Instr.fill, hn, hvs, hsz]
      rw [if_neg (by simp [h1]; omega), zipIdx_fold]
      refine fill_rel place places hp r s (putL cs off v.cells) (updCells cells off m.cells.toList) out (by simpa using hl) (fun i k u hu => ?_) (by rw [updCells_size, putL_length]; exact h1) (fun i c hc => ?_) h
      · have := hr (i + 1) k u (by simpa using hu)
        simpa using this
      · rw [putL_get _ _ _ _ (by omega)] at hc
        rw [updCells_getD _ _ _ _ (by simp [hvs]; omega)]
        split at hc
        · rename_i hin
          rw [if_pos (by simp [hvs]; omega)]
          have := hvr _ _ hc
          have e2 : m.cells.toList.getD (i - off) undef = m.cells.getD (i - off) undef := by simp [Array.getD_eq_getD_getElem?, List.getD]
          rw [e2]; exact this
        · rename_i hout
          rw [if_neg (by simp [hvs]; omega)]
          exact h2 _ _ hc
    · cases h

def evParts (σ : St) : List (Nat × Operand) → Option (List (Nat × V))
  | [] => some []
  | (k, x) :: r => match ev σ x, evParts σ r with
    | some v, some l => some ((k, v) :: l)
    | _, _ => none
theorem ERel.evParts {C : Ctx} {j : Nat → Option Loc} {a : Act} {w : World} (hr : ERel WG C j σ a w) : ∀ {xs : List (Nat × Operand)} {vs : List (Nat × V)}, evParts σ xs = some vs →
    vs.length = (xs.map fun (i, x) => (i, a.eval x)).length ∧ ∀ (i : Nat) k v, vs[i]? = some (k, v) → ∃ m, (xs.map fun (i, x) => (i, a.eval x))[i]? = some (k, m) ∧ VR w (okc C (Own j σ.tab) w) j σ.nx v m
  | [], vs, h => by simp [Gp.evParts] at h; subst h; simp
  | (k, x) :: r, vs, h => by
    simp only [Gp.evParts] at h
    split at h
    · rename_i v l hv hl
      cases h
      obtain ⟨h1, h2⟩ := hr.evParts hl
      refine ⟨by simpa using h1, fun i q u hu => ?_⟩
      rcases i with _ | i
      · simp at hu; obtain ⟨rfl, rfl⟩ := hu; exact ⟨_, rfl, hr.ev hv⟩
      · simp at hu; simpa using h2 i q u hu
    · cases h

theorem zero_cells {w : World} {ok : Nat → Prop} {j : Nat → Option Loc} {nx : Nat} {i : TI} {P : Program} {t : TypeId} {info : TypeInfo} {d : TypeDesc} {z : Value} (ht : TIR P t i info d z) :
    z.cells.size = (i.zero.map fun x => V.p (.v x)).length ∧ ∀ (k : Nat) c, (i.zero.map fun x => V.p (.v x))[k]? = some c → c.one = true ∧ VR w ok j nx c (z.cells.getD k undef) := by
  rw [ht.zc]
  refine ⟨by simp, fun k c hc => ?_⟩
  simp only [List.getElem?_map] at hc
  cases hz : i.zero[k]? with
  | none => simp [hz] at hc
  | some y =>
    simp [hz] at hc; subst hc
    refine ⟨rfl, .p ?_⟩
    have : i.zero.toArray.getD k undef = y := by
      obtain ⟨hlt, he⟩ := List.getElem?_eq_some_iff.1 hz
      simp [Array.getD, hlt, he]
    rw [this]
    exact .v (ht.zf y (List.mem_of_getElem? hz))

/-- The places of a type's parts. -/
def placesOf (P : Program) : TD → Option (List (Nat × Nat))
  | .struct fs => some (fs.map fun f => (f.1, f.2.2))
  | .array n e => match tiOf P e with | some ei => some ((List.range n).map fun k => (k * ei.size, ei.size)) | none => none
  | _ => none

theorem run_fieldPlaces (w : World) : ∀ (fs : List Field), (fs.all fun f => (P.info? f.type).isSome) = true → (fs.mapM fun f => (do pure (f.offset, ← sizeOf f.type) : Sem (Nat × Nat))).run P w = .ok (fs.map fun f => (f.offset, P.cellsOf f.type)) w
  | [], _ => rfl
  | f :: r, h => by
    simp only [List.all_cons, Bool.and_eq_true] at h
    obtain ⟨i, hi⟩ := Option.isSome_iff_exists.1 h.1
    have hs : (sizeOf f.type).run P w = .ok (P.cellsOf f.type) w := by simp [sizeOf, typeInfo, hi, Program.cellsOf]
    simp only [List.mapM_cons, Sem.run_bind, hs, Result.andThen_ok, Sem.run_pure, run_fieldPlaces w r h.2, List.map_cons]

theorem op_build {t : TypeId} {parts : Array (Nat × Operand)} {i : TI} {pl : List (Nat × Nat)} {pv : List (Nat × V)} {out : List V} (ho : op.op = .build t parts) (hi : tiOf P t = some i) (hpl : placesOf P i.d = some pl)
    (hp : evParts σ parts.toList = some pv) (hout : fillV pl (i.zero.map fun x => V.p (.v x)) pv = some out) (hk : K (mkAgg out) σ.tab σ.nx) : OpS P WG op σ K := by
  refine .pure (fun C j a w hr => ?_) hk
  obtain ⟨info, d, z, ht⟩ := tiOf_some hi
  obtain ⟨hl, hrel⟩ := hr.evParts hp
  have hz := zero_cells (w := w) (ok := okc C (Own j σ.tab) w) (j := j) (nx := σ.nx) ht
  have hmap : (parts.map fun (i, x) => (i, a.eval x)).toList = parts.toList.map fun (i, x) => (i, a.eval x) := by simp
  have htd := ht.td; have hfo := ht.fo
  unfold execOp; rw [ho]
  simp only [Instr.build, Sem.run_bind, ht.run_zero, ht.run_und, Result.andThen_ok]
  cases d with
  | struct fields =>
    simp only [tdOf] at htd
    rw [← htd] at hpl
    simp only [placesOf, Option.some.injEq] at hpl
    have hrun : (fields.mapM fun f => (do pure (f.offset, ← sizeOf f.type) : Sem (Nat × Nat))).run P w = .ok (fields.toList.map fun f => (f.offset, P.cellsOf f.type)).toArray w := by
      rw [Array.mapM_eq_mapM_toList]
      simp only [Sem.run_map, run_fieldPlaces w fields.toList (by simpa [fieldsOk] using hfo), Result.andThen_ok]
    obtain ⟨cells, hfill, hs, hcr⟩ := fill_rel ((fields.toList.map fun f => (f.offset, P.cellsOf f.type)).toArray[·]?) pl (fun k _ => by rw [← hpl]; simp [List.map_map, Function.comp_def]) pv _ _ z.cells out hl hrel hz.1 hz.2 hout
    refine ⟨.agg cells, ?_, VR.mkAgg hs hcr⟩
    simp only [Sem.run_bind, hrun, Result.andThen_ok, hmap, hfill, Sem.run_pure]
  | array n e =>
    simp only [tdOf] at htd
    rw [← htd] at hpl
    simp only [placesOf] at hpl
    split at hpl
    · rename_i ei hei
      cases hpl
      obtain ⟨info', d', z', ht'⟩ := tiOf_some hei
      obtain ⟨cells, hfill, hs, hcr⟩ := fill_rel (fun k => some (k * ei.size, ei.size)) _ (fun k hk => by
        simp only [List.getElem?_map] at hk ⊢
        cases hq : (List.range n)[k]? with
        | none => simp [hq] at hk
        | some q => have := (List.getElem?_eq_some_iff.1 hq); obtain ⟨h1, h2⟩ := this; simp at h2; subst h2; rfl) pv _ _ z.cells out hl hrel hz.1 hz.2 hout
      refine ⟨.agg cells, ?_, VR.mkAgg hs hcr⟩
      simp only [Sem.run_bind, ht'.run_size, Result.andThen_ok, hmap, hfill, Sem.run_pure]
    · cases hpl
  | _ => simp only [tdOf] at htd; rw [← htd] at hpl; simp [placesOf] at hpl

/-- Rows cut into elements of 's' cells. -/
def elemOf (agg : Bool) (cs : List PV) : PV := if agg then .agg cs else cs.getD 0 (.v .nilFunc)
def elemsOf (agg : Bool) (s : Nat) : Nat → List PV → List PV
  | 0, _ => []
  | n + 1, cs => elemOf agg (cs.take s) :: elemsOf agg s n (cs.drop s)
theorem elemsOf_get {agg : Bool} {s : Nat} : ∀ {n : Nat} {cs : List PV} {i : Nat} {x : PV}, (elemsOf agg s n cs)[i]? = some x → i < n ∧ x = elemOf agg ((cs.drop (i * s)).take s)
  | 0, _, _, _, h => by simp [elemsOf] at h
  | n + 1, cs, 0, x, h => by simp [elemsOf] at h; subst h; simp
  | n + 1, cs, i + 1, x, h => by
    simp only [elemsOf, List.getElem?_cons_succ] at h
    obtain ⟨h1, h2⟩ := elemsOf_get h
    refine ⟨by omega, h2.trans ?_⟩
    rw [List.drop_drop, Nat.succ_mul, Nat.add_comm s]
theorem elemsOf_length {agg : Bool} {s : Nat} : ∀ {n : Nat} {cs : List PV}, (elemsOf agg s n cs).length = n
  | 0, _ => rfl
  | n + 1, cs => by simp [elemsOf, elemsOf_length]
theorem elemOf_cells {agg : Bool} {s : Nat} {cs : List PV} (h : cs.length = s) (h1 : agg = true ∨ s = 1) (hone : ∀ c ∈ cs, c.one = true) : (elemOf agg cs).cells = cs := by
  unfold elemOf
  split
  · rfl
  · rename_i hA
    have : s = 1 := h1.resolve_left hA
    subst this
    match cs, h with
    | [c], _ =>
      have := hone c (by simp)
      cases c <;> first | rfl | simp [PV.one] at this

/-- A literal slice of data. -/
theorem op_buildSlice {t : TypeId} {len : Nat} {parts : Array (Nat × Operand)} {i ei : TI} {e : TypeId} {pv : List (Nat × V)} {out : List V} {ps : List PV} (ho : op.op = .buildSlice t len parts) (hi : tiOf P t = some i) (hd : i.d = .slice e) (hei : tiOf P e = some ei)
    (h1 : ei.agg = true ∨ ei.size = 1) (hsm : len * ei.size ≤ 16777216) (hpos : 0 < ei.size)
    (hp : evParts σ parts.toList = some pv) (hout : fillV ((List.range len).map fun k => (k * ei.size, ei.size)) (((List.range len).map fun _ => ei.zero.map fun x => V.p (.v x)).flatten) pv = some out) (hps : allP out = some ps)
    (hk : K (.osl σ.nx ei.size 0 len (some len)) (aset σ.tab σ.nx (.arr ei.size (elemsOf ei.agg ei.size len ps) false)) (σ.nx + 1)) : OpS P WG op σ K := by
  intro C j a w hr
  obtain ⟨info, d, z, ht⟩ := tiOf_some hi
  obtain ⟨info', d', z', ht'⟩ := tiOf_some hei
  have htd := ht.td; rw [hd] at htd
  cases d <;> simp only [tdOf] at htd <;> try cases htd
  obtain ⟨hl, hrel⟩ := hr.evParts hp
  have hz := zero_cells (w := w) (ok := okc C (Own j σ.tab) w) (j := j) (nx := σ.nx) ht'
  have hzs : z'.cells.size = ei.size := by rw [ht'.zc]; simpa using ht'.zs
  -- the zero cells of the whole row
  have hflat : ∀ (n : Nat), ((((List.range n).map fun _ => ei.zero.map fun x => V.p (.v x)).flatten).length = n * ei.size) ∧ ∀ (k : Nat) c, (((List.range n).map fun _ => ei.zero.map fun x => V.p (.v x)).flatten)[k]? = some c → (ei.zero.map fun x => V.p (.v x))[k % ei.size]? = some c := by
    intro n
    have hlen : (ei.zero.map fun x => V.p (.v x)).length = ei.size := by simpa using ht'.zs
    induction n with
    | zero => simp
    | succ n ih =>
      rw [List.range_succ, List.map_append, List.flatten_append]
      simp only [List.map_cons, List.map_nil, List.flatten_cons, List.flatten_nil, List.append_nil, List.length_append, ih.1, hlen, Nat.succ_mul, true_and]
      intro k c hc
      rw [List.getElem?_append] at hc
      split at hc
      · exact ih.2 k c hc
      · rename_i hge
        rw [ih.1] at hc hge
        have hlt : k - n * ei.size < ei.size := by
          have := (List.getElem?_eq_some_iff.1 hc).1
          rw [hlen] at this; exact this
        have hcm := Nat.mul_comm n ei.size
        have e : k = (k - n * ei.size) + ei.size * n := by omega
        rw [e, Nat.add_mul_mod_self_left, Nat.mod_eq_of_lt hlt]
        exact hc
  have hz2 : ∀ (k : Nat) c, (((List.range len).map fun _ => ei.zero.map fun x => V.p (.v x)).flatten)[k]? = some c → c.one = true ∧ VR w (okc C (Own j σ.tab) w) j σ.nx c (((Array.range (len * ei.size)).map (z'.cells[· % z'.cells.size]!)).getD k undef) := by
    intro k c hc
    have hk : k < len * ei.size := by have := (List.getElem?_eq_some_iff.1 hc).1; rw [(hflat len).1] at this; exact this
    have := hz.2 _ _ ((hflat len).2 k c hc)
    have e : ((Array.range (len * ei.size)).map (z'.cells[· % z'.cells.size]!)).getD k undef = z'.cells.getD (k % ei.size) undef := by
      have hm : k % ei.size < z'.cells.size := by rw [hzs]; exact Nat.mod_lt _ hpos
      simp [Array.getD, hk, hzs, getElem!_pos, hm, Nat.mod_lt _ hpos]
    rw [e]; exact this
  have hmap : (parts.map fun (i, x) => (i, a.eval x)).toList = parts.toList.map fun (i, x) => (i, a.eval x) := by simp
  obtain ⟨cells, hfill, hs, hcr⟩ := fill_rel (fun k => some (k * ei.size, ei.size)) _ (fun k hk => by
    simp only [List.getElem?_map] at hk ⊢
    cases hq : (List.range len)[k]? with
    | none => simp [hq] at hk
    | some q => have := (List.getElem?_eq_some_iff.1 hq); obtain ⟨h1, h2⟩ := this; simp at h2; subst h2; rfl) pv _ _ ((Array.range (len * ei.size)).map (z'.cells[· % z'.cells.size]!)) out hl hrel (by simp [(hflat len).1]) hz2 hout
  have hlenfill : ∀ (pv : List (Nat × V)) (cs out : List V) (pl : List (Nat × Nat)), fillV pl cs pv = some out → out.length = cs.length := by
    intro pv
    induction pv with
    | nil => intro cs out pl h; simp [fillV] at h; subst h; rfl
    | cons p r ih =>
      obtain ⟨k, v⟩ := p
      intro cs out pl h
      simp only [fillV] at h
      split at h
      · cases h
      · split at h
        · rw [ih _ _ _ h, putL_length]
        · cases h
  have hol : out.length = len * ei.size := by rw [hlenfill _ _ _ _ hout]; exact (hflat len).1
  have hps' := allP_some hps
  subst hps'
  have hpsl : ps.length = len * ei.size := by simpa using hol
  obtain ⟨j', hm, hj⟩ := newArr hr ⟨rfl, rfl, rfl, rfl⟩ ei.size (elemsOf ei.agg ei.size len ps) false len cells e (0, 0) (Opn.zero _) (by rw [hs]; simp [hpsl]) (by simp [elemsOf_length]) (fun _ => elemsOf_length)
    (fun k x hx => by
      obtain ⟨hk, rfl⟩ := elemsOf_get hx
      have hb : k * ei.size + ei.size ≤ len * ei.size := by rw [← Nat.succ_mul]; exact Nat.mul_le_mul_right _ hk
      rw [elemOf_cells (s := ei.size) (by simp; omega) h1 (fun c hc => by
        have hc' : c ∈ ps := List.mem_of_mem_drop (List.mem_of_mem_take hc)
        obtain ⟨q, hq⟩ := List.mem_iff_getElem?.1 hc'
        exact (hcr q (.p c) (by simp [hq])).1)]
      simp; omega)
    (fun k c x y hx hy => by
      obtain ⟨hk, rfl⟩ := elemsOf_get hx
      have hb : k * ei.size + ei.size ≤ len * ei.size := by rw [← Nat.succ_mul]; exact Nat.mul_le_mul_right _ hk
      rw [elemOf_cells (s := ei.size) (by simp; omega) h1 (fun c hc => by
        have hc' : c ∈ ps := List.mem_of_mem_drop (List.mem_of_mem_take hc)
        obtain ⟨q, hq⟩ := List.mem_iff_getElem?.1 hc'
        exact (hcr q (.p c) (by simp [hq])).1)] at hy
      have hcs : c < ei.size := by have := (List.getElem?_eq_some_iff.1 hy).1; simp at this; omega
      rw [List.getElem?_take, if_pos hcs, List.getElem?_drop] at hy
      have := hcr (k * ei.size + c) (.p y) (by simp [hy])
      refine ⟨this.1, ?_⟩
      have h2 := this.2
      cases h2 with
      | p h => exact h)
  refine ⟨.slice (some ⟨w.heap.size, 0, none⟩) len len, _, .osl σ.nx ei.size 0 len (some len), j', _, _, ?_, hm, .osl (Nat.lt_succ_self _) hj (by simp) (Nat.le_refl _) (by simp) (fun k h => by cases h; rfl) (fun h => by cases h), hk⟩
  unfold execOp; rw [ho]
  simp only [Instr.buildSlice, Sem.run_bind, ht.run_und, ht'.run_size, Result.andThen_ok]
  by_cases h0 : len * ei.size = 0
  · have hlen0 : len = 0 := by rcases Nat.mul_eq_zero.1 h0 with h | h <;> omega
    subst hlen0
    have hps0 : ps.length = 0 := by omega
    have hc0 : cells = #[] := by apply Array.eq_empty_of_size_eq_zero; rw [hs, List.length_map]; exact hps0
    have e0 : ∀ f : Nat → Value, (Array.range (0 * ei.size)).map f = #[] := fun f => by simp
    have hsm' : ¬ (0 * ei.size > 2 ^ 24) := by omega
    rw [e0] at hfill
    simp only [if_neg hsm', if_pos h0, Sem.run_bind, Result.andThen_ok, Sem.run_pure, e0, hmap, hfill]
    rfl
  · have hsm' : ¬ (len * ei.size > 2 ^ 24) := by omega
    simp only [if_neg hsm', if_neg h0, Sem.run_bind, ht'.run_zero, Result.andThen_ok, Sem.run_pure, hmap, hfill]
    rfl

end
end Go.Gp
