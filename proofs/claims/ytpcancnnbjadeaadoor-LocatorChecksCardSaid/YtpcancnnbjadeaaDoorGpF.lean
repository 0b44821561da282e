/-
  The operations, second part: addresses, parts, rows, numbers, strings.
-/
import Derived.Test.YtpcancnnbjadeaaDoorGpE
import Derived.Laws.Tables
set_option linter.unusedSimpArgs false
set_option linter.unusedVariables false
namespace Go.Gp
open Go.RowKit

section
variable {P : Program} {WG : World} {σ : St} {op : Oper} {K : V → Tab → Nat → Prop}

def addrAdd : V → Nat → Option V
  | .ref b o, n => some (.ref b (o + n))
  | .eref b s i c, n => some (.eref b s i (c + n))
  | .p (.ptr x o), n => some (.p (.ptr x (o + n)))
  | _, _ => none

theorem VR.addrAdd {w : World} {ok : Nat → Prop} {j : Nat → Option Loc} {nx : Nat} {v v' : V} {m : Value} {n : Nat} (h : VR w ok j nx v m) (e : addrAdd v n = some v') :
    ∃ B q, m = .pointer (some ⟨B, q, none⟩) ∧ VR w ok j nx v' (.pointer (some ⟨B, q + n, none⟩)) := by
  cases h with
  | ref hb hl hq => simp only [Gp.addrAdd] at e; cases e; exact ⟨_, _, rfl, .ref hb hl (by omega)⟩
  | eref hb hl hq => simp only [Gp.addrAdd] at e; cases e; exact ⟨_, _, rfl, .eref hb hl (by omega)⟩
  | p hp =>
    cases hp with
    | ptr f hok hq hcell hone hrel => simp only [Gp.addrAdd] at e; cases e; exact ⟨_, _, rfl, .p (.ptr f hok (by omega) hcell hone hrel)⟩
    | _ => simp [Gp.addrAdd] at e
  | _ => simp [Gp.addrAdd] at e

/-- Facts of a struct type's field. -/
theorem TIR.field {t : TypeId} {i : TI} {info : TypeInfo} {d : TypeDesc} {z : Value} (h : TIR P t i info d z) {fs : List (Nat × TypeId × Nat)} (hd : i.d = .struct fs) {f off ft sz : Nat} (hf : fs[f]? = some (off, ft, sz)) :
    ∃ fields fd fi, d = .struct fields ∧ fields[f]? = some fd ∧ fd.offset = off ∧ fd.type = ft ∧ P.info? ft = some fi ∧ fi.size = sz := by
  have htd := h.td; have hfo := h.fo
  rw [hd] at htd
  cases d <;> simp only [tdOf] at htd <;> try cases htd
  rename_i fields
  simp only [List.getElem?_map] at hf
  cases hq : fields.toList[f]? with
  | none => simp [hq] at hf
  | some fd =>
    simp [hq] at hf
    obtain ⟨h1, h2, h3⟩ := hf
    have hfo' := (Array.all_eq_true_iff_forall_mem.1 hfo) fd (by simpa using List.mem_of_getElem? hq)
    obtain ⟨fi, hfi⟩ := Option.isSome_iff_exists.1 hfo'
    rw [h2] at hfi
    refine ⟨fields, fd, fi, rfl, by simpa using hq, h1, h2, hfi, ?_⟩
    rw [← h3, h2]; simp [Program.cellsOf, hfi]

theorem op_fieldAddr {s : TypeId} {x : Operand} {f off ft sz : Nat} {fs : List (Nat × TypeId × Nat)} {i : TI} {v v' : V} (ho : op.op = .fieldAddr s x f) (hi : tiOf P s = some i) (hd : i.d = .struct fs)
    (hf : fs[f]? = some (off, ft, sz)) (hsz : sz ≠ 0) (hx : ev σ x = some v) (ha : addrAdd v off = some v') (hk : K v' σ.tab σ.nx) : OpS P WG op σ K := by
  refine .pure (fun C j a w hr => ?_) hk
  obtain ⟨info, d, z, ht⟩ := tiOf_some hi
  obtain ⟨fields, fd, fi, rfl, hfd, rfl, rfl, hfi, hfs⟩ := ht.field hd hf
  obtain ⟨B, q, hm, hv⟩ := (hr.ev hx).addrAdd ha
  refine ⟨_, ?_, hv⟩
  unfold execOp; rw [ho]
  have hsize : ∀ w, (sizeOf fd.type).run P w = .ok sz w := fun w => by simp [sizeOf, typeInfo, hfi, hfs]
  simp only [Instr.fieldAt, hm, Instr.sureAddr, Sem.run_bind, ht.run_und, Result.andThen_ok, hfd, Sem.run_pure, fieldPlace, hsize, if_neg hsz, addr_add]

/-- A part of a row of values. -/
theorem run_part {ft : TypeId} {i : TI} {info : TypeInfo} {d : TypeDesc} {z : Value} (ht : TIR P ft i info d z) (w : World) {ok : Nat → Prop} {j : Nat → Option Loc} {nx : Nat} {v : V} {ms : Array Value} {o : Nat}
    (hv : VR w ok j nx v (.agg ms)) (hvt : v.isTup = false) (h1 : i.agg = true ∨ i.size = 1) (hlen : o + i.size ≤ v.cells.length) :
    ∃ m, (part ft ms o).run P w = .ok m w ∧ VR w ok j nx (readV i v.cells o) m := by
  obtain ⟨hs, hrel⟩ := hv.cells (V.ne_tup hvt) (V.ne_cnd hvt)
  simp only [Value.cells] at hs hrel
  simp only [part, Sem.run_bind, ht.run_isAgg, Result.andThen_ok]
  by_cases hA : i.agg = true
  · simp only [hA, if_true, Sem.run_bind, ht.run_size, Result.andThen_ok, Sem.run_pure]
    refine ⟨_, rfl, ?_⟩
    unfold readV; rw [if_pos hA]
    refine VR.mkAgg (by simp; omega) (fun k c hc => ?_)
    have hk : k < i.size := by have := (List.getElem?_eq_some_iff.1 hc).1; simp at this; omega
    have hc' : v.cells[o + k]? = some c := by
      rw [List.getElem?_take] at hc
      simpa [hk, List.getElem?_drop] using hc
    have := hrel _ _ hc'
    refine ⟨this.1, ?_⟩
    have e : (ms.extract o (o + i.size)).getD k undef = ms.getD (o + k) undef := by
      simp only [Array.getD_eq_getD_getElem?]
      rw [Array.getElem?_extract]
      simp [show k < min (o + i.size) ms.size - o by omega]
    rw [e]; exact this.2
  · have h1' := h1.resolve_left hA
    have hlt : o < ms.size := by omega
    rw [if_neg hA]
    simp only [Array.getElem?_eq_getElem hlt, Sem.run_pure]
    refine ⟨_, rfl, ?_⟩
    unfold readV; rw [if_neg hA]
    have hc : v.cells[o]? = some (v.cells.getD o (.p (.v .nilFunc))) := by
      rw [List.getElem?_eq_getElem (by omega)]; simp [List.getD, show o < v.cells.length by omega]
    have := (hrel _ _ hc).2
    simpa [Array.getD, hlt] using this

def V.isAgg : V → Bool
  | .agg _ | .p (.agg _) => true
  | _ => false
theorem V.isAgg_tup {v : V} (h : v.isAgg = true) : v.isTup = false := by cases v <;> first | rfl | simp [V.isAgg] at h
theorem VR.isAgg {w : World} {ok : Nat → Prop} {j : Nat → Option Loc} {nx : Nat} {v : V} {m : Value} (h : VR w ok j nx v m) (e : v.isAgg = true) : ∃ ms, m = .agg ms := by
  cases h with
  | agg => exact ⟨_, rfl⟩
  | p hp => cases hp <;> first | exact ⟨_, rfl⟩ | simp [V.isAgg] at e
  | _ => simp [V.isAgg] at e

theorem op_field {s : TypeId} {x : Operand} {f off ft sz : Nat} {fs : List (Nat × TypeId × Nat)} {i fi : TI} {v : V} (ho : op.op = .field s x f) (hi : tiOf P s = some i) (hd : i.d = .struct fs)
    (hf : fs[f]? = some (off, ft, sz)) (hfi : tiOf P ft = some fi) (h1 : fi.agg = true ∨ fi.size = 1) (hx : ev σ x = some v) (hv : v.isAgg = true) (hlen : off + fi.size ≤ v.cells.length)
    (hk : K (readV fi v.cells off) σ.tab σ.nx) : OpS P WG op σ K := by
  refine .pure (fun C j a w hr => ?_) hk
  obtain ⟨info, d, z, ht⟩ := tiOf_some hi
  obtain ⟨info', d', z', ht'⟩ := tiOf_some hfi
  obtain ⟨fields, fd, fi', rfl, hfd, rfl, rfl, hfi', hfs⟩ := ht.field hd hf
  have hvr := hr.ev hx
  obtain ⟨ms, hms⟩ := hvr.isAgg hv
  rw [hms] at hvr
  obtain ⟨m, hrun, hm⟩ := run_part ht' w hvr (V.isAgg_tup hv) h1 hlen
  refine ⟨m, ?_, hm⟩
  unfold execOp; rw [ho]
  simp only [Instr.field, hms, asAgg, Sem.run_bind, ht.run_und, Result.andThen_ok, hfd, Sem.run_pure, hrun]

theorem ev_int {C : Ctx} {j : Nat → Option Loc} {a : Act} {w : World} (hr : ERel WG C j σ a w) {x : Operand} {k : IntKind} {n : Int} (h : ev σ x = some (.p (.v (.int k n)))) : a.eval x = .int k n := by
  have := hr.ev h
  generalize a.eval x = m at this ⊢
  cases this with
  | p hp => cases hp; rfl
theorem ev_flat {C : Ctx} {j : Nat → Option Loc} {a : Act} {w : World} (hr : ERel WG C j σ a w) {x : Operand} {y : Value} (h : ev σ x = some (.p (.v y))) : a.eval x = y := by
  have := hr.ev h
  generalize a.eval x = m at this ⊢
  cases this with
  | p hp => cases hp; rfl

theorem op_index_arr {t : TypeId} {x ix : Operand} {i ei : TI} {n e : Nat} {v : V} {k : IntKind} {q : Int} (ho : op.op = .index t x ix) (hi : tiOf P t = some i) (hd : i.d = .array n e) (hei : tiOf P e = some ei)
    (h1 : ei.agg = true ∨ ei.size = 1) (hx : ev σ x = some v) (hv : v.isAgg = true) (hix : ev σ ix = some (.p (.v (.int k q)))) (h0 : 0 ≤ q) (hq : q < (n : Int)) (hlen : q.toNat * ei.size + ei.size ≤ v.cells.length)
    (hk : K (readV ei v.cells (q.toNat * ei.size)) σ.tab σ.nx) : OpS P WG op σ K := by
  refine .pure (fun C j a w hr => ?_) hk
  obtain ⟨info, d, z, ht⟩ := tiOf_some hi
  obtain ⟨info', d', z', ht'⟩ := tiOf_some hei
  have htd := ht.td; rw [hd] at htd
  cases d <;> simp only [tdOf] at htd <;> try cases htd
  have hvr := hr.ev hx
  obtain ⟨ms, hms⟩ := hvr.isAgg hv
  rw [hms] at hvr
  obtain ⟨m, hrun, hm⟩ := run_part ht' w hvr (V.isAgg_tup hv) h1 hlen
  refine ⟨m, ?_, hm⟩
  unfold execOp; rw [ho]
  simp only [Instr.index, hms, ev_int hr hix, asIntOf, Sem.run_bind, ht.run_und, ht'.run_size, Result.andThen_ok, Sem.run_pure, h0, hq, and_self, if_true, hrun]

/-- A byte of a string. -/
def bAt (s : ByteArray) (k : Nat) : UInt8 := s.data.toList.getD k 0
theorem bAt_get {s : ByteArray} {k : Nat} (h : k < s.size) : s[k]? = some (bAt s k) := by
  unfold bAt
  have h' : k < s.data.size := h
  show s.data[k]? = _
  rw [Array.getElem?_eq_getElem h']
  simp [List.getD, Array.getElem?_eq_getElem h']

theorem op_index_str {t : TypeId} {x ix : Operand} {i : TI} {s : ByteArray} {k : IntKind} {q : Int} (ho : op.op = .index t x ix) (hi : tiOf P t = some i) (hd : i.d = .str)
    (hx : ev σ x = some (.p (.v (.string s)))) (hix : ev σ ix = some (.p (.v (.int k q)))) (h0 : 0 ≤ q) (hq : q < (s.size : Int))
    (hk : K (.p (.v (.int .u8 ((bAt s q.toNat).toNat)))) σ.tab σ.nx) : OpS P WG op σ K := by
  refine .pure (fun C j a w hr => ?_) hk
  obtain ⟨info, d, z, ht⟩ := tiOf_some hi
  have htd := ht.td; rw [hd] at htd
  cases d <;> simp only [tdOf] at htd <;> try cases htd
  refine ⟨_, ?_, .p (.v rfl)⟩
  unfold execOp; rw [ho]
  simp only [Instr.index, ev_flat hr hx, ev_int hr hix, asIntOf, Sem.run_bind, ht.run_und, Result.andThen_ok, Sem.run_pure, h0, if_true, bAt_get (show q.toNat < s.size by omega)]

theorem op_indexAddr_arr {t : TypeId} {x ix : Operand} {i ei : TI} {n e : Nat} {v v' : V} {k : IntKind} {q : Int} (ho : op.op = .indexAddr t x ix) (hi : tiOf P t = some i) (hd : i.d = .array n e) (hei : tiOf P e = some ei)
    (hx : ev σ x = some v) (hix : ev σ ix = some (.p (.v (.int k q)))) (h0 : 0 ≤ q) (hq : q < (n : Int)) (ha : addrAdd v (q.toNat * ei.size) = some v') (hk : K v' σ.tab σ.nx) : OpS P WG op σ K := by
  refine .pure (fun C j a w hr => ?_) hk
  obtain ⟨info, d, z, ht⟩ := tiOf_some hi
  obtain ⟨info', d', z', ht'⟩ := tiOf_some hei
  have htd := ht.td; rw [hd] at htd
  cases d <;> simp only [tdOf] at htd <;> try cases htd
  obtain ⟨B, r, hm, hv⟩ := (hr.ev hx).addrAdd ha
  refine ⟨_, ?_, hv⟩
  unfold execOp; rw [ho]
  simp only [Instr.indexAt, hm, ev_int hr hix, asIntOf, Instr.sureAddr, Sem.run_bind, ht.run_und, ht'.run_size, Result.andThen_ok, Sem.run_pure, h0, hq, and_self, if_true, addr_add]

theorem op_indexAddr_sl {t : TypeId} {x ix : Operand} {i ei : TI} {e s : Nat} {xs : List PV} {y : PV} {k : IntKind} {q : Int} (ho : op.op = .indexAddr t x ix) (hi : tiOf P t = some i) (hd : i.d = .slice e) (hei : tiOf P e = some ei)
    (hx : ev σ x = some (.p (.sl s xs))) (hix : ev σ ix = some (.p (.v (.int k q)))) (h0 : 0 ≤ q) (hy : xs[q.toNat]? = some y) (hs : ei.size = s) (hk : K (.p (.ptr y 0)) σ.tab σ.nx) : OpS P WG op σ K := by
  refine .pure (fun C j a w hr => ?_) hk
  obtain ⟨info, d, z, ht⟩ := tiOf_some hi
  obtain ⟨info', d', z', ht'⟩ := tiOf_some hei
  have htd := ht.td; rw [hd] at htd
  cases d <;> simp only [tdOf] at htd <;> try cases htd
  have hlt := (List.getElem?_eq_some_iff.1 hy).1
  have hv := hr.ev hx
  generalize hm : a.eval x = m at hv
  cases hv with
  | p hp =>
    cases hp with
    | nil => simp at hlt
    | @sl s xs B o c n f hn hok hc hcell hlen hone hrel =>
      have hql : q < (n : Int) := by omega
      refine ⟨.pointer (some ⟨B, o + q.toNat * s, none⟩), ?_, .p (.ptr (a := o + q.toNat * s) (fun k => f (q.toNat * s + k)) hok (by omega) (fun k hk => ?_) (fun k c hc => hone _ _ _ _ hy hc) (fun k c hc => hrel _ _ _ _ hy hc))⟩
      · unfold execOp; rw [ho]
        simp only [Instr.indexAt, hm, ev_int hr hix, asIntOf, Sem.run_bind, ht.run_und, ht'.run_size, Result.andThen_ok, Sem.run_pure, h0, hql, and_self, if_true, addr_add, hs]
      · rw [hlen _ _ hy] at hk
        have hb : q.toNat * s + k < n * s := by
          have : (q.toNat + 1) * s ≤ n * s := Nat.mul_le_mul_right s (by omega)
          rw [Nat.succ_mul] at this; omega
        have := hcell _ hb
        rwa [← Nat.add_assoc] at this

theorem op_indexAddr_osl {t : TypeId} {x ix : Operand} {i ei : TI} {e s b lo len : Nat} {cap : Option Nat} {k : IntKind} {q : Int} (ho : op.op = .indexAddr t x ix) (hi : tiOf P t = some i) (hd : i.d = .slice e) (hei : tiOf P e = some ei)
    (hx : ev σ x = some (.osl b s lo len cap)) (hix : ev σ ix = some (.p (.v (.int k q)))) (h0 : 0 ≤ q) (hq : q < (len : Int)) (hs : ei.size = s) (hk : K (.eref b s (lo + q.toNat) 0) σ.tab σ.nx) : OpS P WG op σ K := by
  refine .pure (fun C j a w hr => ?_) hk
  obtain ⟨info, d, z, ht⟩ := tiOf_some hi
  obtain ⟨info', d', z', ht'⟩ := tiOf_some hei
  have htd := ht.td; rw [hd] at htd
  cases d <;> simp only [tdOf] at htd <;> try cases htd
  have hv := hr.ev hx
  generalize hm : a.eval x = m at hv
  cases hv with
  | oslNil => omega
  | oslEnd => omega
  | @osl b s lo len cap l c p hb hl hp hlen hc hsm hn =>
    refine ⟨.pointer (some ⟨l.blk, p + q.toNat * s, none⟩), ?_, .eref hb hl (by rw [hp, Nat.add_mul]; omega)⟩
    unfold execOp; rw [ho]
    simp only [Instr.indexAt, hm, ev_int hr hix, asIntOf, Sem.run_bind, ht.run_und, ht'.run_size, Result.andThen_ok, Sem.run_pure, h0, hq, and_self, if_true, addr_add, hs]

theorem op_indexAddr_bsl {t : TypeId} {x ix : Operand} {i ei : TI} {e s b o len cap : Nat} {k : IntKind} {q : Int} (ho : op.op = .indexAddr t x ix) (hi : tiOf P t = some i) (hd : i.d = .slice e) (hei : tiOf P e = some ei)
    (hx : ev σ x = some (.bsl b o s len cap)) (hix : ev σ ix = some (.p (.v (.int k q)))) (h0 : 0 ≤ q) (hq : q < (len : Int)) (hs : ei.size = s) (hk : K (.ref b (o + q.toNat * s)) σ.tab σ.nx) : OpS P WG op σ K := by
  refine .pure (fun C j a w hr => ?_) hk
  obtain ⟨info, d, z, ht⟩ := tiOf_some hi
  obtain ⟨info', d', z', ht'⟩ := tiOf_some hei
  have htd := ht.td; rw [hd] at htd
  cases d <;> simp only [tdOf] at htd <;> try cases htd
  have hv := hr.ev hx
  generalize hm : a.eval x = m at hv
  cases hv with
  | bslEnd => omega
  | @bsl b o s len cap l p hb hl hp hlen =>
    refine ⟨.pointer (some ⟨l.blk, p + q.toNat * s, none⟩), ?_, .ref hb hl (by omega)⟩
    unfold execOp; rw [ho]
    simp only [Instr.indexAt, hm, ev_int hr hix, asIntOf, Sem.run_bind, ht.run_und, ht'.run_size, Result.andThen_ok, Sem.run_pure, h0, hq, and_self, if_true, addr_add, hs]

/-- A read through a pointer to a row that can be read. -/
def readX (i : TI) (x : PV) (o : Nat) : V := if o = 0 ∧ x.cells.length = i.size ∧ x.one = !i.agg then .p x else readV i (x.cells.map .p) o

theorem PR.of_cells {w : World} {ok : Nat → Prop} {x : PV} {f : Nat → Value} (hone : ∀ (i : Nat) c, x.cells[i]? = some c → c.one = true) (hrel : ∀ (i : Nat) c, x.cells[i]? = some c → PR w ok c (f i)) :
    PR w ok x (if x.one then f 0 else .agg ((List.range x.cells.length).map f).toArray) := by
  cases x with
  | agg cs =>
    simp only [PV.one, Bool.false_eq_true, if_false]
    refine .agg (by simp [PV.cells]) hone (fun i c hi => ?_)
    rw [getD_range _ _ _ (by simpa [PV.cells] using (List.getElem?_eq_some_iff.1 hi).1)]
    exact hrel i c hi
  | _ => exact hrel 0 _ rfl

theorem op_load_ptr {t : TypeId} {x : Operand} {i : TI} {y : PV} {o : Nat} (ho : op.op = .load t x) (hi : tiOf P t = some i) (hx : ev σ x = some (.p (.ptr y o)))
    (h1 : i.agg = true ∨ i.size = 1) (hlen : o + i.size ≤ y.cells.length) (hk : K (readX i y o) σ.tab σ.nx) : OpS P WG op σ K := by
  refine .pure (fun C j a w hr => ?_) hk
  obtain ⟨info, d, z, ht⟩ := tiOf_some hi
  have hv := hr.ev hx
  generalize hm : a.eval x = m at hv
  cases hv with
  | p hp =>
    cases hp with
    | @ptr y B b o q f hok hq hcell hone hrel =>
      subst hq
      have hload := run_loadVar_ti ht w B (b + o) (fun k => f (o + k)) (fun k hk => by rw [Nat.add_assoc]; exact hcell _ (by omega)) (fun e => h1.resolve_left (by simp [e]))
      refine ⟨if i.agg then .agg ((List.range i.size).map fun k => f (o + k)).toArray else f (o + 0), ?_, ?_⟩
      · unfold execOp; rw [ho]
        simp only [Instr.loadAt, Instr.sureAddr, hm, Sem.run_bind, Result.andThen_ok, Sem.run_pure, hload]
      · unfold readX
        split
        · rename_i hc
          obtain ⟨rfl, hc1, hc2⟩ := hc
          have := PR.of_cells hone hrel
          rw [hc2] at this
          cases hA : i.agg
          · simp [hA] at this ⊢; exact .p this
          · simp [hA, hc1] at this ⊢; exact .p this
        · unfold readV
          split
          · refine VR.mkAgg (by simp; omega) (fun k c hc => ?_)
            have hk : k < i.size := by have := (List.getElem?_eq_some_iff.1 hc).1; simp at this; omega
            rw [getD_range _ _ _ hk]
            rw [List.getElem?_take] at hc
            simp only [hk, if_true, List.getElem?_drop, List.getElem?_map] at hc
            cases hq : y.cells[o + k]? with
            | none => simp [hq] at hc
            | some c' => simp [hq] at hc; subst hc; exact ⟨hone _ _ hq, .p (hrel _ _ hq)⟩
          · rename_i hA
            have h1' := h1.resolve_left hA
            have hlt : o < y.cells.length := by omega
            simp only [List.getD, List.getElem?_map, List.getElem?_eq_getElem hlt, Option.map_some, Option.getD_some]
            exact .p (hrel _ _ (List.getElem?_eq_getElem hlt))

theorem op_load_eref {t : TypeId} {x : Operand} {i : TI} {b s k c : Nat} {xs : List PV} {gr : Bool} {y : PV} (ho : op.op = .load t x) (hi : tiOf P t = some i) (hx : ev σ x = some (.eref b s k c))
    (hb : aget σ.tab b = some (.arr s xs gr)) (hy : xs[k]? = some y) (h1 : i.agg = true ∨ i.size = 1) (hlen : c + i.size ≤ s) (hk : K (readX i y c) σ.tab σ.nx) : OpS P WG op σ K := by
  refine .pure (fun C j a w hr => ?_) hk
  obtain ⟨info, d, z, ht⟩ := tiOf_some hi
  have hv := hr.ev hx
  generalize hm : a.eval x = m at hv
  cases hv with
  | @eref b s k c l q hbn hl hq =>
    subst hq
    rcases hr.mem.blk b _ hb with ⟨hl', _⟩ | ⟨l', ms, e, fr, hl', hh, hfr, hs, hlen', hg, h0, hone, hrel⟩
    · rw [hl] at hl'; cases hl'
    obtain rfl : l' = l := by rw [hl] at hl'; exact (Option.some.inj hl').symm
    have hklt := (List.getElem?_eq_some_iff.1 hy).1
    have hys := h0 k y hy
    have hbound : k * s + s ≤ l'.cap * s := by rw [← Nat.succ_mul]; exact Nat.mul_le_mul_right s (by omega)
    have hload := run_loadVar_ti ht w l'.blk (l'.off + (k * s + c)) (fun n => ms.getD (l'.off + (k * s + (c + n))) undef) (fun n hn => by
      rw [cell_row hh, Array.getElem?_eq_getElem (by omega)]
      have e : l'.off + (k * s + c) + n = l'.off + (k * s + (c + n)) := by omega
      simp [Array.getD, e, show l'.off + (k * s + (c + n)) < ms.size by omega]) (fun e => h1.resolve_left (by simp [e]))
    refine ⟨if i.agg then .agg ((List.range i.size).map fun n => ms.getD (l'.off + (k * s + (c + n))) undef).toArray else ms.getD (l'.off + (k * s + (c + 0))) undef, ?_, ?_⟩
    · unfold execOp; rw [ho]
      simp only [Instr.loadAt, Instr.sureAddr, hm, Sem.run_bind, Result.andThen_ok, Sem.run_pure, hload]
    · have hone' : ∀ (i : Nat) c, y.cells[i]? = some c → c.one = true := fun i c hc => hone k i y c hy hc
      have hrel' : ∀ (i : Nat) c, y.cells[i]? = some c → PR w (okc C (Own j σ.tab) w) c (ms.getD (l'.off + (k * s + i)) undef) := fun i c hc => hrel k i y c hy hc
      unfold readX
      split
      · rename_i hc
        obtain ⟨rfl, hc1, hc2⟩ := hc
        have := PR.of_cells hone' hrel'
        rw [hc2] at this
        cases hA : i.agg
        · simp [hA] at this ⊢; exact .p this
        · simp [hA, hc1] at this ⊢; exact .p this
      · unfold readV
        split
        · refine VR.mkAgg (by simp; omega) (fun n c' hc => ?_)
          have hn : n < i.size := by have := (List.getElem?_eq_some_iff.1 hc).1; simp at this; omega
          rw [getD_range _ _ _ hn]
          rw [List.getElem?_take] at hc
          simp only [hn, if_true, List.getElem?_drop, List.getElem?_map] at hc
          cases hq : y.cells[c + n]? with
          | none => simp [hq] at hc
          | some c'' => simp [hq] at hc; subst hc; exact ⟨hone' _ _ hq, .p (hrel' _ _ hq)⟩
        · rename_i hA
          have h1' := h1.resolve_left hA
          have hlt : c < y.cells.length := by omega
          simp only [List.getD, List.getElem?_map, List.getElem?_eq_getElem hlt, Option.map_some, Option.getD_some]
          exact .p (hrel' _ _ (List.getElem?_eq_getElem hlt))

end
end Go.Gp
