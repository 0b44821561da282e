/-
  The operations: what each comes to from a state. First part: values, memory of local boxes and arrays.
-/
import Derived.Test.YtpcancnnbjadeaaDoorGpD
set_option linter.unusedSimpArgs false
set_option linter.unusedVariables false
namespace Go.Gp
open Go.RowKit

section
variable (P : Program) (WG : World)

structure Moves (C : Ctx) (lo : Nat) (j : Nat → Option Loc) (tab : Tab) (nx : Nat) (w : World) (j' : Nat → Option Loc) (tab' : Tab) (nx' : Nat) (w' : World) : Prop where
  mem : MemR WG C j' tab' nx' w'
  lx : lo ≤ nx'
  keep : ∀ x m, VR w (okc C (Own j tab) w) j nx x m → VR w' (okc C (Own j' tab') w') j' nx' x m

/-- The operation gives a value: 'K' holds of it and of the memory then. -/
def OpS (op : Oper) (σ : St) (K : V → Tab → Nat → Prop) : Prop :=
  ∀ C j a w, ERel WG C j σ a w → ∃ m w' v j' tab' nx', (execOp a.eval op).run P w = .ok (.value m) w' ∧ Moves WG C σ.lo j σ.tab σ.nx w j' tab' nx' w' ∧
    VR w' (okc C (Own j' tab') w') j' nx' v m ∧ K v tab' nx'
/-- It gives none. -/
def OpK (op : Oper) (σ : St) (K : Tab → Nat → Prop) : Prop :=
  ∀ C j a w, ERel WG C j σ a w → ∃ w' j' tab' nx', (execOp a.eval op).run P w = .ok .skip w' ∧ Moves WG C σ.lo j σ.tab σ.nx w j' tab' nx' w' ∧ K tab' nx'

end

section
variable {P : Program} {WG : World} {σ : St} {op : Oper} {K : V → Tab → Nat → Prop}

theorem Moves.refl {C : Ctx} {j : Nat → Option Loc} {a : Act} {w : World} (hr : ERel WG C j σ a w) : Moves WG C σ.lo j σ.tab σ.nx w j σ.tab σ.nx w := ⟨hr.mem, hr.lx, fun _ _ h => h⟩

/-- The operation only computes. -/
theorem OpS.pure {v : V} (h : ∀ C j a w, ERel WG C j σ a w → ∃ m, (execOp a.eval op).run P w = .ok (.value m) w ∧ VR w (okc C (Own j σ.tab) w) j σ.nx v m) (hk : K v σ.tab σ.nx) : OpS P WG op σ K :=
  fun C j a w hr => let ⟨m, h1, h2⟩ := h C j a w hr; ⟨m, w, v, j, σ.tab, σ.nx, h1, .refl hr, h2, hk⟩

theorem op_move {x : Operand} {v : V} (ho : op.op = .move x ∨ op.op = .assign x) (hx : ev σ x = some v) (hk : K v σ.tab σ.nx) : OpS P WG op σ K :=
  .pure (fun C j a w hr => ⟨a.eval x, by rcases ho with h | h <;> (unfold execOp; rw [h]; rfl), hr.ev hx⟩) hk

theorem op_pick {c x y : Operand} {b : Bool} {v : V} (ho : op.op = .pick c x y) (hc : evB σ c = some b) (hx : b = true → ev σ x = some v) (hy : b = false → ev σ y = some v) (hk : K v σ.tab σ.nx) : OpS P WG op σ K :=
  .pure (fun C j a w hr => ⟨if b then a.eval x else a.eval y, by unfold execOp; rw [ho]; simp only [hr.evB hc]; rfl, by
    cases b
    · exact hr.ev (hy rfl)
    · exact hr.ev (hx rfl)⟩) hk

theorem alloc_new (w : World) (o : Obj) : (w.alloc o).heap[w.heap.size]? = some o := by
  show (w.heap.push o)[w.heap.size]? = some o
  simp

def newBlk (σ : St) (x : Blk) : Tab := aset σ.tab σ.nx x

/-- A new box. -/
theorem newBox {C : Ctx} {j : Nat → Option Loc} {a : Act} {w : World} (hr : ERel WG C j σ a w) (cs : List V) (ms : Array Value) (e : TypeId) (hs : ms.size = cs.length)
    (h : ∀ (i : Nat) c, cs[i]? = some c → c.one = true ∧ VR w (okc C (Own j σ.tab) w) j σ.nx c (ms.getD i undef)) :
    ∃ j', Moves WG C σ.lo j σ.tab σ.nx w j' (aset σ.tab σ.nx (.box cs)) (σ.nx + 1) (w.alloc (.cells ms e (0, 0))) ∧ j' σ.nx = some ⟨w.heap.size, 0, 0⟩ := by
  let l : Loc := ⟨w.heap.size, 0, 0⟩
  have hx : BlkR (w.alloc (.cells ms e (0, 0))) (okc C (Own j σ.tab) w) (jset j σ.nx (some l)) (σ.nx + 1) σ.nx (.box cs) := by
    refine ⟨l, ms, e, (0, 0), jset_same _ _, alloc_new _ _, Opn.zero _, by simp [l, hs], fun i c hi => (h i c hi).1, fun i c hi => ?_⟩
    simp only [l, Nat.zero_add]
    exact (h i c hi).2.mono (fun k hk => ⟨hk, Below.heap_alloc w _ k hk.1⟩) (fun b hb => ⟨jset_lt _ hb, Nat.lt_succ_of_lt hb⟩)
  obtain ⟨h1, h2⟩ := hr.mem.alloc (.cells ms e (0, 0)) (.box cs) l rfl hx
  exact ⟨_, ⟨h1, Nat.le_succ_of_le hr.lx, fun x m hv => hv.mono h2 (fun b hb => ⟨jset_lt _ hb, Nat.lt_succ_of_lt hb⟩)⟩, jset_same _ _⟩

/-- A new array of elements; whatever stands behind them. -/
theorem newArr {C : Ctx} {j : Nat → Option Loc} {a : Act} {w w1 : World} (hr : ERel WG C j σ a w) (hw : w1.heap = w.heap ∧ w1.os = w.os ∧ w1.tape = w.tape ∧ w1.output = w.output)
    (s : Nat) (xs : List PV) (gr : Bool) (cap : Nat) (ms : Array Value) (e : TypeId) (fr : Nat × Nat) (hfr : Opn fr ms.size) (hs : cap * s ≤ ms.size) (hc : xs.length ≤ cap) (hg : gr = false → xs.length = cap)
    (hl : ∀ (i : Nat) x, xs[i]? = some x → x.cells.length = s)
    (h : ∀ (i k : Nat) x y, xs[i]? = some x → x.cells[k]? = some y → y.one = true ∧ PR w (okc C (Own j σ.tab) w) y (ms.getD (i * s + k) undef)) :
    ∃ j', Moves WG C σ.lo j σ.tab σ.nx w j' (aset σ.tab σ.nx (.arr s xs gr)) (σ.nx + 1) (w1.alloc (.cells ms e fr)) ∧ j' σ.nx = some ⟨w.heap.size, 0, cap⟩ := by
  obtain ⟨hw1, hw2, hw3, hw4⟩ := hw
  have hm := hr.mem.heap_eq hw1 hw2 hw3 hw4
  have hok : ∀ k, okc C (Own j σ.tab) w k → okc C (Own j σ.tab) w1 k ∧ w1.heap[k]? = w.heap[k]? := fun k hk => ⟨⟨by rw [hw1]; exact hk.1, hk.2⟩, by rw [hw1]⟩
  let l : Loc := ⟨w.heap.size, 0, cap⟩
  have hnew : (w1.alloc (.cells ms e fr)).heap[w.heap.size]? = some (.cells ms e fr) := by rw [← hw1]; exact alloc_new _ _
  have hx : BlkR (w1.alloc (.cells ms e fr)) (okc C (Own j σ.tab) w1) (jset j σ.nx (some l)) (σ.nx + 1) σ.nx (.arr s xs gr) := by
    refine .inr ⟨l, ms, e, fr, jset_same _ _, hnew, hfr, by simpa [l] using hs, hc, hg, hl, fun i k x y h1 h2 => (h i k x y h1 h2).1, fun i k x y h1 h2 => ?_⟩
    simp only [l, Nat.zero_add]
    exact (h i k x y h1 h2).2.mono (fun k hk => ⟨(hok k hk).1, by
      rw [Below.heap_alloc w1 _ k (by rw [hw1]; exact hk.1), hw1]⟩)
  obtain ⟨h1, h2⟩ := hm.alloc (.cells ms e fr) (.arr s xs gr) l (by rw [hw1]) hx
  exact ⟨_, ⟨h1, Nat.le_succ_of_le hr.lx, fun x m hv => (hv.mono hok (fun b hb => ⟨rfl, hb⟩)).mono h2 (fun b hb => ⟨jset_lt _ hb, Nat.lt_succ_of_lt hb⟩)⟩, jset_same _ _⟩

theorem run_newRow' (w : World) (e : TypeId) (ms : Array Value) : (newRow e ms).run P w = .ok ⟨w.heap.size, 0, none⟩ (w.alloc (.cells ms e (0, 0))) := rfl

def V.isTup : V → Bool
  | .tup _ | .cnd _ _ => true
  | _ => false
theorem V.ne_tup {x : V} (h : x.isTup = false) : ∀ vs, x ≠ .tup vs := fun vs e => by subst e; simp [V.isTup] at h
theorem V.ne_cnd {x : V} (h : x.isTup = false) : ∀ b y, x ≠ .cnd b y := fun b y e => by subst e; simp [V.isTup] at h

theorem op_box {t : TypeId} {x : Operand} {v : V} (ho : op.op = .box t x) (hx : ev σ x = some v) (hv : v.isTup = false) (hk : K (.ref σ.nx 0) (aset σ.tab σ.nx (.box v.cells)) (σ.nx + 1)) : OpS P WG op σ K := by
  intro C j a w hr
  obtain ⟨h1, h2⟩ := (hr.ev hx).cells (V.ne_tup hv) (V.ne_cnd hv)
  obtain ⟨j', hm, hj⟩ := newBox hr v.cells (a.eval x).cells t h1 h2
  refine ⟨_, _, .ref σ.nx 0, j', _, _, ?_, hm, .ref (Nat.lt_succ_self _) hj rfl, hk⟩
  unfold execOp; rw [ho]
  simp only [Instr.box, newVar, Sem.run_bind, run_newRow', Result.andThen_ok, Sem.run_pure]

theorem op_alloc {t : TypeId} {i : TI} (ho : op.op = .alloc t) (hi : tiOf P t = some i) (hk : K (.ref σ.nx 0) (aset σ.tab σ.nx (.box (i.zero.map fun z => .p (.v z)))) (σ.nx + 1)) : OpS P WG op σ K := by
  intro C j a w hr
  obtain ⟨info, d, z, ht⟩ := tiOf_some hi
  obtain ⟨j', hm, hj⟩ := newBox hr (i.zero.map fun z => .p (.v z)) i.zero.toArray t (by simp) (fun k c hc => by
    simp only [List.getElem?_map] at hc
    cases hz : i.zero[k]? with
    | none => simp [hz] at hc
    | some y =>
      simp [hz] at hc; subst hc
      refine ⟨rfl, .p ?_⟩
      have : i.zero.toArray.getD k undef = y := by
        obtain ⟨hlt, he⟩ := List.getElem?_eq_some_iff.1 hz
        simp [Array.getD, hlt, he]
      rw [this]
      exact .v (ht.zf y (List.mem_of_getElem? hz)))
  refine ⟨_, _, .ref σ.nx 0, j', _, _, ?_, hm, .ref (Nat.lt_succ_self _) hj rfl, hk⟩
  unfold execOp; rw [ho]
  simp only [Instr.alloc, newVar, Sem.run_bind, ht.run_zero, ht.zc, run_newRow', Result.andThen_ok, Sem.run_pure]

/-- A row out of values, in the form in which it is pure if they are. -/
def allP : List V → Option (List PV)
  | [] => some []
  | .p x :: r => match allP r with | some l => some (x :: l) | none => none
  | _ :: _ => none
def mkAgg (cs : List V) : V := match allP cs with | some l => .p (.agg l) | none => .agg cs
theorem allP_some : ∀ {cs : List V} {l : List PV}, allP cs = some l → cs = l.map .p
  | [], l, h => by simp [allP] at h; subst h; rfl
  | .p x :: r, l, h => by
    simp only [allP] at h
    cases hr : allP r with
    | none => simp [hr] at h
    | some q => simp [hr] at h; subst h; simp [allP_some hr]
  | .ref .. :: _, l, h | .eref .. :: _, l, h | .osl .. :: _, l, h | .bsl .. :: _, l, h | .agg .. :: _, l, h | .tup .. :: _, l, h | .clo .. :: _, l, h | .ifc .. :: _, l, h | .mp .. :: _, l, h | .zc :: _, l, h | .cnd .. :: _, l, h => by simp [allP] at h
theorem allP_map (l : List PV) : allP (l.map .p) = some l := by
  induction l with
  | nil => rfl
  | cons x r ih => simp [allP, ih]
theorem allP_append {a b : List V} {l m : List PV} (h1 : allP a = some l) (h2 : allP b = some m) : allP (a ++ b) = some (l ++ m) := by
  rw [allP_some h1, allP_some h2, ← List.map_append, allP_map]
theorem VR.mkAgg {w : World} {ok : Nat → Prop} {j : Nat → Option Loc} {nx : Nat} {cs : List V} {ms : Array Value} (hs : ms.size = cs.length)
    (h : ∀ (i : Nat) c, cs[i]? = some c → c.one = true ∧ VR w ok j nx c (ms.getD i undef)) : VR w ok j nx (mkAgg cs) (.agg ms) := by
  unfold Gp.mkAgg
  split
  · rename_i l hl
    have := allP_some hl; subst this
    refine .p (.agg (by simpa using hs) (fun i c hi => ?_) (fun i c hi => ?_))
    · exact (h i (.p c) (by simp [hi])).1
    · have := (h i (.p c) (by simp [hi])).2
      cases this with
      | p h => exact h
  · exact .agg hs (fun i c hi => (h i c hi).1) (fun i c hi => (h i c hi).2)

/-- What is read at a cell of a row of values as a variable of a type. -/
def readV (i : TI) (cs : List V) (o : Nat) : V := if i.agg then Gp.mkAgg ((cs.drop o).take i.size) else cs.getD o (.p (.v .nilFunc))

theorem ev_ref {C : Ctx} {j : Nat → Option Loc} {a : Act} {w : World} (hr : ERel WG C j σ a w) {x : Operand} {b o : Nat} (h : ev σ x = some (.ref b o)) :
    ∃ l, b < σ.nx ∧ j b = some l ∧ a.eval x = .pointer (some ⟨l.blk, l.off + o, none⟩) := by
  have := hr.ev h
  generalize a.eval x = m at this ⊢
  cases this with
  | ref hb hl hq => subst hq; exact ⟨_, hb, hl, rfl⟩

theorem op_load_box {t : TypeId} {x : Operand} {i : TI} {b o : Nat} {cs : List V} (ho : op.op = .load t x) (hi : tiOf P t = some i) (hx : ev σ x = some (.ref b o)) (hb : aget σ.tab b = some (.box cs))
    (h1 : i.agg = true ∨ i.size = 1) (hlen : o + i.size ≤ cs.length) (hk : K (readV i cs o) σ.tab σ.nx) : OpS P WG op σ K := by
  refine .pure (fun C j a w hr => ?_) hk
  obtain ⟨info, d, z, ht⟩ := tiOf_some hi
  obtain ⟨l, hbx, hl, hx'⟩ := ev_ref hr hx
  obtain ⟨l', ms, e, fr, hl', hh, hfr, hs, hone, hrel⟩ := hr.mem.blk b _ hb
  obtain rfl : l' = l := by rw [hl] at hl'; exact (Option.some.inj hl').symm
  have hcell : ∀ k, k < i.size → w.cell? ⟨l'.blk, l'.off + o + k, none⟩ = some (ms.getD (l'.off + o + k) undef) := fun k hk => by
    rw [cell_row hh, Array.getElem?_eq_getElem (by omega)]
    simp [Array.getD, show l'.off + o + k < ms.size by omega]
  refine ⟨if i.agg then .agg ((List.range i.size).map fun k => ms.getD (l'.off + o + k) undef).toArray else ms.getD (l'.off + o + 0) undef, ?_, ?_⟩
  · unfold execOp; rw [ho]
    simp only [Instr.loadAt, Instr.sureAddr, hx', Sem.run_bind, Result.andThen_ok, Sem.run_pure]
    rw [run_loadVar_ti ht w l'.blk (l'.off + o) (fun k => ms.getD (l'.off + o + k) undef) hcell (fun e => h1.resolve_left (by simp [e]))]
    rfl
  · unfold readV
    split
    · refine VR.mkAgg (by simp; omega) (fun k c hc => ?_)
      have hk : k < i.size := by
        have := (List.getElem?_eq_some_iff.1 hc).1
        simp at this; omega
      rw [getD_range _ _ _ hk]
      have hc' : cs[o + k]? = some c := by
        rw [List.getElem?_take] at hc
        simpa [hk, List.getElem?_drop] using hc
      exact ⟨hone _ _ hc', by rw [Nat.add_assoc]; exact hrel _ _ hc'⟩
    · have hlt : o < cs.length := by
        rcases h1 with h | h
        · simp_all
        · omega
      have hc : cs[o]? = some (cs.getD o (.p (.v .nilFunc))) := by
        rw [List.getElem?_eq_getElem hlt]; simp [List.getD, hlt]
      exact hrel o _ hc

/-- Values are written over a row from cell 'o' on. -/
def putL : List V → Nat → List V → List V
  | cs, _, [] => cs
  | cs, o, v :: r => putL (cs.set o v) (o + 1) r
theorem putL_length (vs : List V) : ∀ (cs : List V) (o : Nat), (putL cs o vs).length = cs.length := by
  induction vs with
  | nil => intro cs o; rfl
  | cons v r ih => intro cs o; simp [putL, ih]
theorem putL_get (vs : List V) : ∀ (cs : List V) (o k : Nat), o + vs.length ≤ cs.length →
    (putL cs o vs)[k]? = if o ≤ k ∧ k < o + vs.length then vs[k - o]? else cs[k]? := by
  induction vs with
  | nil => intro cs o k h; rw [if_neg (by simp <;> omega)]; rfl
  | cons v r ih =>
    intro cs o k h
    simp only [List.length_cons] at h
    rw [putL, ih _ _ _ (by simp; omega), List.getElem?_set]
    by_cases h1 : o + 1 ≤ k ∧ k < o + 1 + r.length
    · rw [if_pos h1, if_pos (by simp; omega)]
      obtain ⟨q, hq⟩ : ∃ q, k - o = q + 1 := ⟨k - o - 1, by omega⟩
      rw [hq, List.getElem?_cons_succ]
      congr 1
      omega
    · rw [if_neg h1]
      by_cases h2 : o = k
      · subst h2; rw [if_pos rfl, if_pos (by omega), if_pos (by simp)]; simp
      · rw [if_neg h2, if_neg (by simp; omega)]

theorem op_store_box {K : Tab → Nat → Prop} {t : TypeId} {x y : Operand} {i : TI} {b o : Nat} {cs : List V} {v : V} (ho : op.op = .store t x y) (hi : tiOf P t = some i) (hx : ev σ x = some (.ref b o))
    (hy : ev σ y = some v) (hv : v.isTup = false) (hb : aget σ.tab b = some (.box cs)) (hn : v.cells.length = i.size) (hlen : o + i.size ≤ cs.length)
    (hk : K (aset σ.tab b (.box (putL cs o v.cells))) σ.nx) : OpK P WG op σ K := by
  intro C j a w hr
  obtain ⟨info, d, z, ht⟩ := tiOf_some hi
  obtain ⟨l, hbx, hl, hx'⟩ := ev_ref hr hx
  obtain ⟨l', ms, e, fr, hl', hh, hfr, hs, hone, hrel⟩ := hr.mem.blk b _ hb
  obtain rfl : l' = l := by rw [hl] at hl'; exact (Option.some.inj hl').symm
  obtain ⟨hvs, hvr⟩ := (hr.ev hy).cells (V.ne_tup hv) (V.ne_cnd hv)
  have hvone : ∀ m ∈ (a.eval y).cells.toList, m.oneCell' = true := by
    intro m hm
    obtain ⟨k, hk⟩ := List.mem_iff_getElem?.1 hm
    have hk' : k < (a.eval y).cells.size := by simpa using (List.getElem?_eq_some_iff.1 hk).1
    obtain ⟨c, hc⟩ : ∃ c, v.cells[k]? = some c := ⟨_, List.getElem?_eq_getElem (by omega)⟩
    obtain ⟨h1, h2⟩ := hvr k c hc
    have : (a.eval y).cells.getD k undef = m := by
      simp only [Array.getElem?_toList] at hk
      simp [Array.getD_eq_getD_getElem?, hk]
    rw [this] at h2
    exact h2.one h1
  obtain ⟨w', hrun, htu, hh'⟩ := run_storeCells_row (P := P) l'.blk (l'.off + o) e fr (a.eval y).cells.toList 0 ms w hh hfr (by simp [hvs]; omega) hvone
  have hblk : (∀ k, okc C (Own j σ.tab) w k → w'.heap[k]? = w.heap[k]?) → BlkR w' (okc C (Own j σ.tab) w) j σ.nx b (.box (putL cs o v.cells)) := by
    intro hok
    refine ⟨l', _, e, fr, hl, hh', ?_, ?_, ?_, ?_⟩
    · rw [updCells_size]; exact hfr
    · rw [updCells_size, putL_length]; exact hs
    · intro k c hc
      rw [putL_get _ _ _ _ (by omega)] at hc
      split at hc
      · exact (hvr _ _ hc).1
      · exact hone _ _ hc
    · intro k c hc
      rw [putL_get _ _ _ _ (by omega)] at hc
      rw [updCells_getD _ _ _ _ (by simp [hvs]; omega)]
      split at hc
      · rename_i hin
        rw [if_pos (by simp [hvs]; omega)]
        have e1 : l'.off + k - (l'.off + o + 0) = k - o := by omega
        rw [e1]
        have := (hvr _ _ hc).2
        have e2 : (a.eval y).cells.toList.getD (k - o) undef = (a.eval y).cells.getD (k - o) undef := by simp [Array.getD_eq_getD_getElem?, List.getD]
        rw [e2]
        exact this.mono (fun k hk => ⟨hk, hok k hk⟩) (fun b hb => ⟨rfl, hb⟩)
      · rename_i hout
        rw [if_neg (by simp [hvs]; omega)]
        exact (hrel _ _ hc).mono (fun k hk => ⟨hk, hok k hk⟩) (fun b hb => ⟨rfl, hb⟩)
  obtain ⟨hm, hkeep⟩ := hr.mem.turn hb hl _ htu.size htu.other htu.os htu.tape htu.output hblk
  refine ⟨w', j, _, _, ?_, ⟨hm, hr.lx, fun x m hv => hv.mono hkeep (fun b hb => ⟨rfl, hb⟩)⟩, hk⟩
  unfold execOp; rw [ho]
  have hsz : ¬ (a.eval y).cells.size ≠ i.size := by simp [hvs, hn]
  simp only [Instr.storeAt, Instr.sureAddr, hx', Sem.run_bind, Result.andThen_ok, Sem.run_pure, storeVar, ht.run_size]
  simp only [hvs, hn, ne_eq, not_true_eq_false, if_false, hrun, Result.andThen_ok]

end
end Go.Gp
