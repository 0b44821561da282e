/-
  The operations, sixth part: append, []byte(s), string(b), copy, a store into an element.
-/
import Derived.Test.YtpcancnnbjadeaaDoorGpI
import Derived.Deep.AppendSrc
import Derived.Laws.IdiomStrings
set_option linter.unusedSimpArgs false
set_option linter.unusedVariables false
namespace Go.Gp
open Go.RowKit

/-- Elements, as they lie in cells. -/
structure ElR (w : World) (ok : Nat → Prop) (s : Nat) (xs : List PV) (f : Nat → Value) : Prop where
  len : ∀ (i : Nat) x, xs[i]? = some x → x.cells.length = s
  rel : ∀ (i k : Nat) x y, xs[i]? = some x → x.cells[k]? = some y → y.one = true ∧ PR w ok y (f (i * s + k))

theorem ElR.nil {w : World} {ok : Nat → Prop} {s : Nat} {f : Nat → Value} : ElR w ok s [] f := ⟨fun i x h => by simp at h, fun i k x y h => by simp at h⟩
theorem ElR.append {w : World} {ok : Nat → Prop} {s : Nat} {xs ys : List PV} {f g h : Nat → Value} (a : ElR w ok s xs f) (b : ElR w ok s ys g) (hf : ∀ k, k < xs.length * s → h k = f k) (hg : ∀ k, k < ys.length * s → h (xs.length * s + k) = g k) : ElR w ok s (xs ++ ys) h := by
  refine ⟨fun i x hx => ?_, fun i k x y hx hy => ?_⟩
  · rw [List.getElem?_append] at hx
    split at hx
    · exact a.len i x hx
    · exact b.len _ x hx
  · rw [List.getElem?_append] at hx
    split at hx
    · rename_i hlt
      have hk : k < s := by rw [← a.len i x hx]; exact (List.getElem?_eq_some_iff.1 hy).1
      obtain ⟨h1, h2⟩ := a.rel i k x y hx hy
      have hb : i * s + s ≤ xs.length * s := by rw [← Nat.succ_mul]; exact Nat.mul_le_mul_right _ hlt
      rw [hf _ (by omega)]; exact ⟨h1, h2⟩
    · rename_i hge
      have hk : k < s := by rw [← b.len _ x hx]; exact (List.getElem?_eq_some_iff.1 hy).1
      have hlt := (List.getElem?_eq_some_iff.1 hx).1
      obtain ⟨h1, h2⟩ := b.rel _ k x y hx hy
      have hb : (i - xs.length) * s + s ≤ ys.length * s := by rw [← Nat.succ_mul]; exact Nat.mul_le_mul_right _ (by omega)
      have e : i * s + k = xs.length * s + ((i - xs.length) * s + k) := by
        have : i * s = xs.length * s + (i - xs.length) * s := by rw [← Nat.add_mul]; congr 1; omega
        omega
      rw [e, hg _ (by omega)]; exact ⟨h1, h2⟩
theorem ElR.sub {w : World} {ok : Nat → Prop} {s : Nat} {xs : List PV} {f : Nat → Value} (a : ElR w ok s xs f) (lo len : Nat) : ElR w ok s ((xs.drop lo).take len) (fun k => f (lo * s + k)) := by
  have hget : ∀ (i : Nat) x, ((xs.drop lo).take len)[i]? = some x → xs[lo + i]? = some x := fun i x hx => by
    rw [List.getElem?_take] at hx
    split at hx
    · rwa [List.getElem?_drop] at hx
    · cases hx
  refine ⟨fun i x hx => a.len _ x (hget i x hx), fun i k x y hx hy => ?_⟩
  have := a.rel _ k x y (hget i x hx) hy
  rwa [Nat.add_mul, Nat.add_assoc] at this
theorem ElR.mono {w w' : World} {ok ok' : Nat → Prop} {s : Nat} {xs : List PV} {f : Nat → Value} (h : ∀ k, ok k → ok' k ∧ w'.heap[k]? = w.heap[k]?) (a : ElR w ok s xs f) : ElR w' ok' s xs f :=
  ⟨a.len, fun i k x y hx hy => ⟨(a.rel i k x y hx hy).1, (a.rel i k x y hx hy).2.mono h⟩⟩
theorem ElR.congr {w : World} {ok : Nat → Prop} {s : Nat} {xs : List PV} {f g : Nat → Value} (a : ElR w ok s xs f) (h : ∀ k, k < xs.length * s → g k = f k) : ElR w ok s xs g := by
  refine ⟨a.len, fun i k x y hx hy => ?_⟩
  have hk : k < s := by rw [← a.len i x hx]; exact (List.getElem?_eq_some_iff.1 hy).1
  have hlt := (List.getElem?_eq_some_iff.1 hx).1
  have hb : i * s + s ≤ xs.length * s := by rw [← Nat.succ_mul]; exact Nat.mul_le_mul_right _ hlt
  rw [h _ (by omega)]; exact a.rel i k x y hx hy

def byteP (b : UInt8) : PV := .v (.int .u8 b.toNat)
def bytesP (b : List UInt8) : List PV := b.map byteP

/-- The elements of what is appended or copied, and what must hold. -/
def srcV (tab : Tab) (agg : Bool) (s : Nat) : V → Option (List PV × Prop)
  | .p (.sl s' ys) => if s' = s then some (ys, True) else none
  | .p (.v (.slice none 0 0)) => some ([], True)
  | .zc => some ([], True)
  | .p (.v (.string b)) => if s = 1 then some (bytesP b.data.toList, True) else none
  | .osl b s' lo len _ =>
    match aget tab b with
    | some (.arr s'' xs _) => if s' = s ∧ s'' = s then some ((xs.drop lo).take len, lo + len ≤ xs.length) else none
    | _ => none
  | .bsl b o s' len _ =>
    match aget tab b with
    | some (.box cs) =>
      match allP ((cs.drop o).take (len * s)) with
      | some ps => if s' = s then some (elemsOf agg s len ps, o + len * s ≤ cs.length ∧ (agg = true ∨ s = 1)) else none
      | none => none
    | _ => none
  | _ => none

section
variable {P : Program} {WG : World} {σ : St} {op : Oper} {K : V → Tab → Nat → Prop}

theorem loadL {w : World} {B o n : Nat} (f : Nat → Value) (h : ∀ k, k < n → w.cell? ⟨B, o + k, none⟩ = some (f k)) : ∀ j u, ((List.range n).map f)[j]? = some u → w.cell? ((⟨B, o, none⟩ : Addr).add j) = some u := by
  intro j u hj
  simp only [List.getElem?_map] at hj
  cases hq : (List.range n)[j]? with
  | none => simp [hq] at hj
  | some q =>
    obtain ⟨h1, h2⟩ := List.getElem?_eq_some_iff.1 hq
    simp at h2 h1; subst h2
    simp [hq] at hj; subst hj
    rw [addr_add]; exact h j h1
theorem getD_rangeL (n : Nat) (f : Nat → Value) (k : Nat) (hk : k < n) : ((List.range n).map f).getD k undef = f k := by
  simp [List.getD, hk]

theorem ElR.one {w : World} {ok : Nat → Prop} {s : Nat} {xs : List PV} {news : List Value} (a : ElR w ok s xs (news.getD · undef)) (hl : news.length = xs.length * s) : ∀ u ∈ news, u.oneCell' = true := by
  intro u hu
  obtain ⟨k, hk⟩ := List.mem_iff_getElem?.1 hu
  have hlt := (List.getElem?_eq_some_iff.1 hk).1
  have hs : 0 < s := by
    rcases Nat.eq_zero_or_pos s with h | h
    · exfalso
      have : news.length = 0 := by rw [hl, h, Nat.mul_zero]
      omega
    · exact h
  have hi : k / s < xs.length := Nat.div_lt_of_lt_mul (by rw [Nat.mul_comm, ← hl]; exact hlt)
  have hx := List.getElem?_eq_getElem hi
  have hc := a.len _ _ hx
  have hq : k % s < xs[k / s].cells.length := by rw [hc]; exact Nat.mod_lt _ hs
  have := a.rel _ (k % s) _ _ hx (List.getElem?_eq_getElem hq)
  have e : k / s * s + k % s = k := by rw [Nat.mul_comm]; exact Nat.div_add_mod k s
  rw [e] at this
  have e2 : news.getD k undef = u := by simp [List.getD, hk]
  have h2 := this.2
  simp only [e2] at h2
  exact h2.one this.1

/-- What is appended or copied: its cells. -/
theorem src_rel {C : Ctx} {j : Nat → Option Loc} {a : Act} {w : World} (hr : ERel WG C j σ a w) {x : Operand} {v : V} {s : Nat} {agg : Bool} {ys : List PV} {side : Prop} (hx : ev σ x = some v) (hsrc : srcV σ.tab agg s v = some (ys, side)) (hs : side) :
    (∃ b c n, a.eval x = .slice b n c ∧ n = ys.length ∧ ∃ news : List Value, news.length = n * s ∧ ElR w (okc C (Own j σ.tab) w) s ys (news.getD · undef) ∧ (n = 0 ∨ ∃ B, b = some B ∧ ∀ j u, news[j]? = some u → w.cell? (B.add j) = some u)) ∨
    (∃ t : ByteArray, a.eval x = .string t ∧ s = 1 ∧ ys = bytesP t.data.toList) := by
  have hv := hr.ev hx
  generalize hm : a.eval x = m at hv
  unfold srcV at hsrc
  split at hsrc
  · rename_i s' ys'
    split at hsrc
    · rename_i he; subst he; cases hsrc
      left
      cases hv with
      | p hp =>
        cases hp with
        | nil => exact ⟨_, _, 0, rfl, rfl, [], by simp, .nil, .inl rfl⟩
        | @sl s xs B o c n f hn hok hc hcell hlen hone hrel =>
          subst hn
          refine ⟨_, _, _, rfl, rfl, (List.range (ys.length * s')).map f, by simp, ⟨hlen, fun i k x y hx hy => ⟨hone _ _ _ _ hx hy, ?_⟩⟩, .inr ⟨_, rfl, loadL f hcell⟩⟩
          have hk : k < s' := by rw [← hlen i x hx]; exact (List.getElem?_eq_some_iff.1 hy).1
          have hlt := (List.getElem?_eq_some_iff.1 hx).1
          have hb : i * s' + s' ≤ ys.length * s' := by rw [← Nat.succ_mul]; exact Nat.mul_le_mul_right _ hlt
          rw [getD_rangeL _ _ _ (by omega)]; exact hrel _ _ _ _ hx hy
    · cases hsrc
  · cases hsrc
    left
    cases hv with
    | p hp => cases hp; exact ⟨_, _, 0, rfl, rfl, [], by simp, .nil, .inl rfl⟩
  · cases hsrc
    left
    cases hv with
    | zc => exact ⟨_, _, 0, rfl, rfl, [], by simp, .nil, .inl rfl⟩
  · rename_i b
    split at hsrc
    · rename_i he; cases hsrc
      right
      cases hv with
      | p hp => cases hp; exact ⟨_, rfl, he, rfl⟩
    · cases hsrc
  · rename_i b s' lo len cap
    split at hsrc
    · rename_i s'' xs gr hb
      split at hsrc
      · rename_i he
        obtain ⟨rfl, rfl⟩ := he
        cases hsrc
        left
        have hlenl : ((xs.drop lo).take len).length = len := by simp; omega
        cases hv with
        | oslNil => exact ⟨_, _, 0, rfl, hlenl.symm, [], by simp, by rw [List.take_zero]; exact .nil, .inl rfl⟩
        | oslEnd => exact ⟨_, _, 0, rfl, hlenl.symm, [], by simp, by rw [List.take_zero]; exact .nil, .inl rfl⟩
        | @osl b s lo len cap l c q hbn hl hq hle hc hsm hn =>
          rcases hr.mem.blk b _ hb with ⟨hl', _⟩ | ⟨l', ms, e, fr, hl', hh, hfr, hsz, hlen', hg, h0, hone, hrel⟩
          · rw [hl] at hl'; cases hl'
          obtain rfl : l' = l := by rw [hl] at hl'; exact (Option.some.inj hl').symm
          have hel : ElR w (okc C (Own j σ.tab) w) s'' xs (fun k => ms.getD (l'.off + k) undef) := ⟨h0, fun i k x y hx hy => ⟨hone i k x y hx hy, hrel i k x y hx hy⟩⟩
          have hsub := hel.sub lo len
          refine ⟨_, _, _, rfl, hlenl.symm, (List.range (len * s'')).map fun k => ms.getD (q + k) undef, by simp, hsub.congr (fun k hk => ?_), .inr ⟨_, rfl, loadL _ (fun k hk => ?_)⟩⟩
          · rw [hlenl] at hk
            rw [getD_rangeL _ _ _ hk, hq, Nat.add_assoc]
          · have hb1 : lo * s'' + len * s'' ≤ l'.cap * s'' := by rw [← Nat.add_mul]; exact Nat.mul_le_mul_right _ (by omega)
            rw [cell_row hh, Array.getElem?_eq_getElem (by omega)]
            simp [Array.getD, show q + k < ms.size by omega]
      · cases hsrc
    · cases hsrc
  · rename_i b o s' len cap
    split at hsrc
    · rename_i cs hb
      split at hsrc
      · rename_i ps hps
        split at hsrc
        · rename_i he; subst he; cases hsrc
          obtain ⟨hs1, hs2⟩ := hs
          left
          cases hv with
          | bslEnd => exact ⟨_, _, 0, rfl, rfl, [], by simp, by simp only [elemsOf]; exact .nil, .inl rfl⟩
          | @bsl b o s len cap l q hbn hl hq hle =>
            obtain ⟨l', ms, e, fr, hl', hh, hfr, hsz, hone, hrel⟩ := hr.mem.blk b _ hb
            obtain rfl : l' = l := by rw [hl] at hl'; exact (Option.some.inj hl').symm
            have hpl := allP_some hps
            have hpsl : ps.length = len * s' := by
              have := congrArg List.length hpl
              simp at this; omega
            have hpget : ∀ (k : Nat) y, ps[k]? = some y → cs[o + k]? = some (.p y) := fun k y hy => by
              have : ((cs.drop o).take (len * s'))[k]? = some (.p y) := by rw [hpl]; simp [hy]
              rw [List.getElem?_take] at this
              split at this
              · rwa [List.getElem?_drop] at this
              · cases this
            have hps1 : ∀ (k : Nat) y, ps[k]? = some y → y.one = true ∧ PR w (okc C (Own j σ.tab) w) y (ms.getD (q + k) undef) := fun k y hy => by
              have h1 := hone _ _ (hpget k y hy)
              have h2 := hrel _ _ (hpget k y hy)
              rw [hq, Nat.add_assoc]
              cases h2 with
              | p h => exact ⟨h1, h⟩
            have hcs : ∀ (k : Nat) x, (elemsOf agg s' len ps)[k]? = some x → k < len ∧ x.cells = (ps.drop (k * s')).take s' := fun k x hx => by
              obtain ⟨hk, rfl⟩ := elemsOf_get hx
              have hb : k * s' + s' ≤ len * s' := by rw [← Nat.succ_mul]; exact Nat.mul_le_mul_right _ hk
              exact ⟨hk, elemOf_cells (s := s') (by simp; omega) hs2 (fun c hc => by
                obtain ⟨r, hr'⟩ := List.mem_iff_getElem?.1 (List.mem_of_mem_drop (List.mem_of_mem_take hc))
                exact (hps1 r c hr').1)⟩
            refine ⟨_, _, _, rfl, elemsOf_length.symm, (List.range (len * s')).map fun k => ms.getD (q + k) undef, by simp, ⟨fun k x hx => ?_, fun k r x y hx hy => ?_⟩, .inr ⟨_, rfl, loadL _ (fun k hk => ?_)⟩⟩
            · obtain ⟨hk, e⟩ := hcs k x hx
              have hb : k * s' + s' ≤ len * s' := by rw [← Nat.succ_mul]; exact Nat.mul_le_mul_right _ hk
              rw [e]; simp; omega
            · obtain ⟨hk, e⟩ := hcs k x hx
              have hb : k * s' + s' ≤ len * s' := by rw [← Nat.succ_mul]; exact Nat.mul_le_mul_right _ hk
              rw [e] at hy
              have hr1 : r < s' := by have := (List.getElem?_eq_some_iff.1 hy).1; simp at this; omega
              rw [List.getElem?_take, if_pos hr1, List.getElem?_drop] at hy
              rw [getD_rangeL _ _ _ (by omega)]
              exact hps1 _ y hy
            · rw [cell_row hh, Array.getElem?_eq_getElem (by omega)]
              simp [Array.getD, show q + k < ms.size by omega]
        · cases hsrc
      · cases hsrc
    · cases hsrc
  · cases hsrc

/-- The second argument of an append. -/
theorem src_Src {C : Ctx} {j : Nat → Option Loc} {a : Act} {w : World} (hr : ERel WG C j σ a w) {x : Operand} {v : V} {s : Nat} {agg : Bool} {ys : List PV} {side : Prop} (hx : ev σ x = some v) (hsrc : srcV σ.tab agg s v = some (ys, side)) (hs : side)
    {tx : TypeId} {ti : TI} (hti : tiOf P tx = some ti) (hk : (∃ e, ti.d = .slice e) ∨ ti.d = .str) (hstr : ti.d = .str ↔ ∃ b, v = .p (.v (.string b))) :
    ∃ news, Src P s tx (a.eval x) ys.length news w ∧ ElR w (okc C (Own j σ.tab) w) s ys (news.getD · undef) := by
  obtain ⟨info, d, z, ht⟩ := tiOf_some hti
  have htd := ht.td
  rcases src_rel hr hx hsrc hs with ⟨b, c, n, hm, rfl, news, hl, hel, hcell⟩ | ⟨t, hm, rfl, rfl⟩
  · have hnstr : ¬ ti.d = .str := fun h => by
      obtain ⟨b', hb'⟩ := hstr.1 h
      subst hb'
      have := ev_flat hr hx
      rw [hm] at this; cases this
    obtain ⟨e, he⟩ := hk.resolve_right hnstr
    rw [he] at htd
    cases d <;> simp only [tdOf] at htd <;> try cases htd
    have h1 := hel.one hl
    rcases hcell with h0 | ⟨B, rfl, hcell⟩
    · have hn0 : news = [] := List.eq_nil_of_length_eq_zero (by rw [hl, h0]; simp)
      subst hn0
      refine ⟨[], ?_, hel⟩
      rw [hm, h0]
      exact ⟨.inl ⟨_, ht.und⟩, fun _ => rfl, by cases b <;> simp [Builtin.firstCells, loadCells, loadCellsFrom], by cases b <;> simp [Builtin.firstCells, loadCells, loadCellsFrom], by simp, fun u hu => by cases hu⟩
    · refine ⟨news, ?_, hel⟩
      rw [hm]
      exact Src.ofSlice w ht.und B _ c news hl hcell h1
  · have hd : ti.d = .str := by
      rcases hk with ⟨e, he⟩ | h
      · exfalso
        have hv := hr.ev hx
        rw [hm] at hv
        have : ∃ b, v = .p (.v (.string b)) := by
          cases hv with
          | p hp => cases hp; exact ⟨_, rfl⟩
          | cnd h1 h0 => 
            unfold srcV at hsrc; simp at hsrc
        rw [hstr.2 this] at he; cases he
      · exact h
    rw [hd] at htd
    cases d <;> simp only [tdOf] at htd <;> try cases htd
    refine ⟨byteCells t, ?_, ?_⟩
    · rw [hm]
      have : (bytesP t.data.toList).length = t.size := by rw [bytesP, List.length_map, Array.length_toList]; rfl
      rw [this]
      exact Src.ofString w ht.und t
    · refine ⟨fun i x hx => ?_, fun i k x y hx hy => ?_⟩
      · simp only [bytesP, List.getElem?_map] at hx
        cases hq : t.data.toList[i]? with
        | none => simp [hq] at hx
        | some b => simp [hq] at hx; subst hx; rfl
      · simp only [bytesP, List.getElem?_map] at hx
        cases hq : t.data.toList[i]? with
        | none => simp [hq] at hx
        | some b =>
          simp [hq] at hx; subst hx
          have hk0 : k = 0 ∧ y = byteP b := by
            rcases k with _ | k
            · simp [PV.cells, byteP] at hy; exact ⟨rfl, hy.symm⟩
            · simp [PV.cells, byteP] at hy
          obtain ⟨rfl, rfl⟩ := hk0
          refine ⟨rfl, ?_⟩
          have : (byteCells t).getD (i * 1 + 0) undef = .int .u8 b.toNat := by
            simp only [byteCells, Nat.mul_one, Nat.add_zero, List.getD, List.getElem?_map, hq, Option.map_some, Option.getD_some]
          rw [this]; exact .v rfl

theorem zeroCells_size (z : Array Value) (n : Nat) : (Builtin.zeroCells z n).size = n * z.size := by simp [Builtin.zeroCells]

theorem grownCap_ge (w : World) (need old : Nat) (e : TypeId) : need ≤ grownCap w need old e := by unfold grownCap Question.cut; exact Nat.le_add_right _ _

theorem drew_props (w : World) : w.drew.heap = w.heap ∧ w.drew.os = w.os ∧ w.drew.tape = w.tape ∧ w.drew.output = w.output := ⟨rfl, rfl, rfl, rfl⟩

/-- The new array of an append that found no room. -/
theorem grown {C : Ctx} {j : Nat → Option Loc} {a : Act} {w : World} (hr : ERel WG C j σ a w) {s : Nat} {xs : List PV} {cells : List Value} (hel : ElR w (okc C (Own j σ.tab) w) s xs (cells.getD · undef)) (hcl : cells.length = xs.length * s) (z : Array Value) (hz : z.size = s) (cap : Nat) (hcap : xs.length ≤ cap) (e : TypeId) :
    ∃ j', Moves WG C σ.lo j σ.tab σ.nx w j' (aset σ.tab σ.nx (.arr s xs true)) (σ.nx + 1) (w.drew.alloc (.cells (cells.toArray ++ Builtin.zeroCells z (cap - xs.length)) e (0, 0))) ∧ j' σ.nx = some ⟨w.heap.size, 0, cap⟩ := by
  refine newArr hr (drew_props w) s xs true cap _ e (0, 0) (Opn.zero _) ?_ hcap (fun h => by cases h) hel.len (fun i k x y hx hy => ?_)
  · rw [Array.size_append, zeroCells_size, hz]
    simp only [List.size_toArray, hcl]
    rw [← Nat.add_mul]
    exact Nat.mul_le_mul_right _ (by omega)
  · obtain ⟨h1, h2⟩ := hel.rel i k x y hx hy
    refine ⟨h1, ?_⟩
    have hk : k < s := by rw [← hel.len i x hx]; exact (List.getElem?_eq_some_iff.1 hy).1
    have hlt := (List.getElem?_eq_some_iff.1 hx).1
    have hb : i * s + s ≤ xs.length * s := by rw [← Nat.succ_mul]; exact Nat.mul_le_mul_right _ hlt
    have : (cells.toArray ++ Builtin.zeroCells z (cap - xs.length)).getD (i * s + k) undef = cells.getD (i * s + k) undef := by
      simp only [Array.getD_eq_getD_getElem?, List.getD]
      rw [Array.getElem?_append_left (by simp; omega)]
      simp
    rw [this]; exact h2

theorem nextcap_ok {need old bytes : Nat} (h : old < need) (hn : need ≤ 4294967296) (hb : bytes ≤ 16384) : Builtin.nextslicecap need old * bytes ≤ 281474976710656 := by
  have h1 := nextslicecap_le h
  have h2 : Builtin.nextslicecap need old * bytes ≤ (2 * 4294967296) * 16384 := Nat.mul_le_mul (by omega) hb
  omega

/-- Onto nothing, or onto what surely has no room. -/
theorem op_append_new {c : Call} {t tx : TypeId} {x y : Operand} {i ei ti : TI} {e : TypeId} {v u : V} {olds ys : List PV} {side : Prop} (ho : op.op = .call c) (hc : c = { callee := .builtin .append, args := #[x, y], argTypes := #[t, tx] })
    (hi : tiOf P t = some i) (hd : i.d = .slice e) (hei : tiOf P e = some ei) (hti : tiOf P tx = some ti) (hk' : (∃ e, ti.d = .slice e) ∨ ti.d = .str) (hstr : ti.d = .str ↔ ∃ b, u = .p (.v (.string b))) (hby : ei.bytes ≤ 16384)
    (hx : ev σ x = some v) (hy : ev σ y = some u) (hsrc : srcV σ.tab ei.agg ei.size u = some (ys, side)) (hs : side)
    (hv : (v = .zc ∨ v = .p (.v (.slice none 0 0))) ∧ olds = [] ∨ ∃ b o len cap, v = .bsl b o ei.size len cap ∧ ∃ side', srcV σ.tab ei.agg ei.size v = some (olds, side') ∧ side' ∧ cap < len + ys.length)
    (hsz : olds.length + ys.length ≤ 4294967296)
    (hk : K (.osl σ.nx ei.size 0 (olds.length + ys.length) none) (aset σ.tab σ.nx (.arr ei.size (olds ++ ys) true)) (σ.nx + 1)) : OpS P WG op σ K := by
  intro C j a w hr
  subst hc
  obtain ⟨info, d, z, ht⟩ := tiOf_some hi
  obtain ⟨info', d', z', ht'⟩ := tiOf_some hei
  have htd := ht.td; rw [hd] at htd
  cases d <;> simp only [tdOf] at htd <;> try cases htd
  obtain ⟨news, hS, hel⟩ := src_Src hr hy hsrc hs hti hk' hstr
  have hzs : z'.cells.size = ei.size := by rw [ht'.zc]; simpa using ht'.zs
  have hrunop : ∀ r, (Builtin.append_ #[t, tx] op.type #[a.eval x, a.eval y]).run P w = r → (execOp a.eval op).run P w = r.andThen fun v w' => .ok (.value v) w' := fun r h => by
    unfold execOp; rw [ho]
    simp [resolve, invoke, builtin, h]
  rw [← ht'.size] at hS
  -- the grown array
  have key : ∀ (base : Option Addr) (len cap : Nat) (ocells : List Value), a.eval x = .slice base len cap → len = olds.length → ocells.length = olds.length * ei.size → ElR w (okc C (Own j σ.tab) w) ei.size olds (ocells.getD · undef) →
      (Builtin.firstCells info'.size len (.slice base len cap)).run P w.drew = .ok ocells.toArray w.drew → cap < len + ys.length →
      ∃ m w' v j' tab' nx', (execOp a.eval op).run P w = .ok (.value m) w' ∧ Moves WG C σ.lo j σ.tab σ.nx w j' tab' nx' w' ∧ VR w' (okc C (Own j' tab') w') j' nx' v m ∧ K v tab' nx' := by
    intro base len cap ocells hm hlen hocl hoel hfc hcap
    subst hlen
    have hrun := run_append_grow_src (P := P) w t tx op.type e info' z' ht.und ht'.inf ht'.hz base olds.length cap ocells hfc (a.eval y) ys.length news hS hcap (by omega) (nextcap_ok hcap (by omega) (by rw [ht'.bytes]; exact hby))
    rw [← hm] at hrun
    have hnl : news.length = ys.length * ei.size := by rw [hS.newsLen, ht'.size]
    have hel2 : ElR w (okc C (Own j σ.tab) w) ei.size (olds ++ ys) ((ocells ++ news).getD · undef) := hoel.append hel (fun k hk => by
        simp only [List.getD]; rw [List.getElem?_append_left (by omega)]) (fun k hk => by
        simp only [List.getD]; rw [List.getElem?_append_right (by omega)]; congr 2; omega)
    have hcapn := grownCap_ge w (olds.length + ys.length) cap e
    obtain ⟨j', hmv, hj⟩ := grown hr hel2 (by simp [hocl, hnl, Nat.add_mul]) z'.cells hzs (grownCap w (olds.length + ys.length) cap e) (by simp; omega) e
    refine ⟨_, _, .osl σ.nx ei.size 0 (olds.length + ys.length) none, j', _, _, hrunop _ hrun, ?_, ?_, hk⟩
    · rw [List.length_append] at hmv; exact hmv
    · exact .osl (Nat.lt_succ_self _) hj (by simp) (by omega) (by simp) (fun k h => by cases h) (fun _ => by simp)
  rcases hv with ⟨hv, rfl⟩ | ⟨b, o, len, cap, rfl, side', hsrc', hside', hcap⟩
  · obtain ⟨base, hm⟩ : ∃ base, a.eval x = .slice base 0 0 := by
      have := hr.ev hx
      generalize a.eval x = m at this ⊢
      rcases hv with rfl | rfl
      · cases this with | zc => exact ⟨_, rfl⟩
      · cases this with | p hp => cases hp; exact ⟨_, rfl⟩
    by_cases h0 : ys.length = 0
    · have hy0 : ys = [] := List.eq_nil_of_length_eq_zero h0
      subst hy0
      obtain ⟨hm1, hkeep⟩ := hr.mem.noMem ei.size
      have hn0 : news = [] := List.eq_nil_of_length_eq_zero (by rw [hS.newsLen]; simp)
      subst hn0
      have hrun : (Builtin.append_ #[t, tx] op.type #[a.eval x, a.eval y]).run P w = .ok (.slice base 0 0) w := by
        rw [hm]
        have hlen := hS.len w
        have hcells := hS.cells
        simp only [List.length_nil] at hlen hcells
        rcases hS.kind with ⟨e', hk⟩ | hk <;> cases base <;> simp [Builtin.append_, run_underlying ht.und, run_underlying hk, sizeOf, typeInfo, ht'.inf, hlen, hcells, storeCells]
      refine ⟨_, _, .osl σ.nx ei.size 0 0 none, _, _, _, hrunop _ hrun, ⟨hm1, Nat.le_succ_of_le hr.lx, fun x m hv => hv.mono hkeep (fun b hb => ⟨jset_lt _ hb, by omega⟩)⟩, .oslNil (Nat.lt_succ_self _) (jset_same _ _), by simpa using hk⟩
    · exact key base 0 0 [] hm rfl (by simp) .nil (by cases base <;> simp [Builtin.firstCells, loadCells, loadCellsFrom]) (by omega)
  · rcases src_rel hr hx hsrc' hside' with ⟨base, c, n, hm, hn, ocells, hocl, hoel, hocell⟩ | ⟨_, hm, _⟩
    · have hcn : c = cap ∧ n = len := by
        have := hr.ev hx
        rw [hm] at this
        cases this with
        | bslEnd => exact ⟨rfl, rfl⟩
        | bsl => exact ⟨rfl, rfl⟩
      obtain ⟨rfl, rfl⟩ := hcn
      refine key base n c ocells hm hn (by rw [hocl, hn]) hoel ?_ (by omega)
      rw [ht'.size]
      rcases hocell with h0 | ⟨B, rfl, hcell⟩
      · have : ocells = [] := List.eq_nil_of_length_eq_zero (by rw [hocl, h0]; simp)
        subst this; rw [h0]
        cases base <;> simp [Builtin.firstCells, loadCells, loadCellsFrom]
      · exact run_firstCells_some w.drew ei.size n B n c ocells hocl (by simpa using hcell)
    · exfalso
      have := hr.ev hx
      rw [hm] at this
      cases this

theorem run_append_room_own (w w' : World) (t tx ty e : TypeId) (i : TypeInfo) (ht : P.underlying t = some (.slice e)) (hi : P.info? e = some i) (base : Option Addr) (sLen sCap : Nat) (x : Value) (n : Nat) (news : List Value) (hs : Src P i.size tx x n news w)
    (hroom : sLen + n ≤ sCap) (hst : (match base with | some a => storeCells (a.add (sLen * i.size)) news | none => (pure () : Sem Unit)).run P w = .ok () w') :
    (Builtin.append_ #[t, tx] ty #[.slice base sLen sCap, x]).run P w = .ok (.slice base (sLen + n) sCap) w' := by
  cases base <;> rcases hs.kind with ⟨e', hk⟩ | hk <;> simp only at hst <;> simp [Builtin.append_, run_underlying ht, run_underlying hk, sizeOf, typeInfo, hi, hs.len, hroom, hs.cells, hst] <;> simp at hst <;> exact hst

/-- Onto an array of the frame's own: its number goes, what comes is a new one. -/
theorem op_append_own {c : Call} {t tx : TypeId} {x y : Operand} {i ei ti : TI} {e : TypeId} {u : V} {b lo len : Nat} {cap : Option Nat} {xs ys : List PV} {gr : Bool} {side : Prop} (ho : op.op = .call c) (hc : c = { callee := .builtin .append, args := #[x, y], argTypes := #[t, tx] })
    (hi : tiOf P t = some i) (hd : i.d = .slice e) (hei : tiOf P e = some ei) (hti : tiOf P tx = some ti) (hk' : (∃ e, ti.d = .slice e) ∨ ti.d = .str) (hstr : ti.d = .str ↔ ∃ b, u = .p (.v (.string b))) (hby : ei.bytes ≤ 16384)
    (hx : ev σ x = some (.osl b ei.size lo len cap)) (hb : aget σ.tab b = some (.arr ei.size xs gr)) (hlen : lo + len ≤ xs.length) (hy : ev σ y = some u) (hsrc : srcV σ.tab ei.agg ei.size u = some (ys, side)) (hs : side)
    (hsz : len + ys.length ≤ 4294967296)
    (hk : K (.osl σ.nx ei.size 0 (len + ys.length) none) (aset (adel σ.tab b) σ.nx (.arr ei.size ((xs.drop lo).take len ++ ys) true)) (σ.nx + 1)) : OpS P WG op σ K := by
  intro C j a w hr
  subst hc
  obtain ⟨info, d, z, ht⟩ := tiOf_some hi
  obtain ⟨info', d', z', ht'⟩ := tiOf_some hei
  have htd := ht.td; rw [hd] at htd
  cases d <;> simp only [tdOf] at htd <;> try cases htd
  obtain ⟨news, hS, hel⟩ := src_Src hr hy hsrc hs hti hk' hstr
  have hzs : z'.cells.size = ei.size := by rw [ht'.zc]; simpa using ht'.zs
  have hrunop : ∀ r, (Builtin.append_ #[t, tx] op.type #[a.eval x, a.eval y]).run P w = r → (execOp a.eval op).run P w = r.andThen fun v w' => .ok (.value v) w' := fun r h => by
    unfold execOp; rw [ho]
    simp [resolve, invoke, builtin, h]
  have hnl : news.length = ys.length * ei.size := hS.newsLen
  rw [← ht'.size] at hS
  have hol : ((xs.drop lo).take len).length = len := by simp; omega
  -- block b is let go behind a new one
  have after : ∀ {j' : Nat → Option Loc} {w' : World} {ys' : List PV}, Moves WG C σ.lo j σ.tab σ.nx w j' (aset σ.tab σ.nx (.arr ei.size ys' true)) (σ.nx + 1) w' → Moves WG C σ.lo j σ.tab σ.nx w j' (aset (adel σ.tab b) σ.nx (.arr ei.size ys' true)) (σ.nx + 1) w' := by
    intro j' w' ys' hmv
    have hlt := hr.mem.low b _ hb
    have hcom : aset (adel σ.tab b) σ.nx (.arr ei.size ys' true) = adel (aset σ.tab σ.nx (.arr ei.size ys' true)) b := by
      have : ∀ (t : Tab), aset (adel t b) σ.nx (.arr ei.size ys' true) = adel (aset t σ.nx (.arr ei.size ys' true)) b := by
        intro t
        induction t with
        | nil => simp only [adel, aset]; rw [if_neg (by omega)]
        | cons p r ih =>
          obtain ⟨k, q⟩ := p
          by_cases h1 : k = b
          · subst h1; simp only [adel, aset, if_true]; rw [if_neg (by omega)]; simp only [adel, if_true]; exact ih
          · simp only [adel, aset, if_neg h1]
            by_cases h2 : k = σ.nx
            · simp only [aset, if_pos h2, adel, if_neg h1]
            · simp only [aset, if_neg h2, adel, if_neg h1, ih]
      exact this _
    rw [hcom]
    obtain ⟨h1, h2⟩ := hmv.mem.del b
    exact ⟨h1, hmv.lx, fun x m hv => (hmv.keep x m hv).mono h2 (fun b hb => ⟨rfl, hb⟩)⟩
  have grow : ∀ (base : Option Addr) (cp : Nat) (ocells : List Value), a.eval x = .slice base len cp → ocells.length = len * ei.size → ElR w (okc C (Own j σ.tab) w) ei.size ((xs.drop lo).take len) (ocells.getD · undef) →
      (Builtin.firstCells info'.size len (.slice base len cp)).run P w.drew = .ok ocells.toArray w.drew → cp < len + ys.length →
      ∃ m w' v j' tab' nx', (execOp a.eval op).run P w = .ok (.value m) w' ∧ Moves WG C σ.lo j σ.tab σ.nx w j' tab' nx' w' ∧ VR w' (okc C (Own j' tab') w') j' nx' v m ∧ K v tab' nx' := by
    intro base cp ocells hm hocl hoel hfc hcap
    have hrun := run_append_grow_src (P := P) w t tx op.type e info' z' ht.und ht'.inf ht'.hz base len cp ocells hfc (a.eval y) ys.length news hS hcap (by omega) (nextcap_ok hcap (by omega) (by rw [ht'.bytes]; exact hby))
    rw [← hm] at hrun
    have hel2 : ElR w (okc C (Own j σ.tab) w) ei.size ((xs.drop lo).take len ++ ys) ((ocells ++ news).getD · undef) := hoel.append hel (fun k hk => by
        rw [hol] at hk
        simp only [List.getD]; rw [List.getElem?_append_left (by omega)]) (fun k hk => by
        rw [hol]
        simp only [List.getD]; rw [List.getElem?_append_right (by omega)]; congr 2; omega)
    have hcapn := grownCap_ge w (len + ys.length) cp e
    obtain ⟨j', hmv, hj⟩ := grown hr hel2 (by rw [List.length_append, List.length_append, hol, hocl, hnl, Nat.add_mul]) z'.cells hzs (grownCap w (len + ys.length) cp e) (by rw [List.length_append, hol]; exact hcapn) e
    rw [List.length_append, hol] at hmv
    exact ⟨_, _, .osl σ.nx ei.size 0 (len + ys.length) none, j', _, _, hrunop _ hrun, after hmv, .osl (Nat.lt_succ_self _) hj (by simp) hcapn (by simp) (fun k h => by cases h) (fun _ => by simp), hk⟩
  have hv := hr.ev hx
  generalize hm : a.eval x = m at hv
  have nothing : ∀ (base : Option Addr), m = .slice base len 0 → len = 0 →
      ∃ m w' v j' tab' nx', (execOp a.eval op).run P w = .ok (.value m) w' ∧ Moves WG C σ.lo j σ.tab σ.nx w j' tab' nx' w' ∧ VR w' (okc C (Own j' tab') w') j' nx' v m ∧ K v tab' nx' := by
    intro base hme hl0
    subst hl0
    by_cases h0 : ys.length = 0
    · have hy0 : ys = [] := List.eq_nil_of_length_eq_zero h0
      subst hy0
      have hn0 : news = [] := List.eq_nil_of_length_eq_zero (by rw [hnl]; simp)
      subst hn0
      obtain ⟨hm1, hkeep⟩ := hr.mem.noMem ei.size
      have hrun := run_append_room_own (P := P) w w t tx op.type e info' ht.und ht'.inf base 0 0 (a.eval y) 0 [] hS (by omega) (by cases base <;> rfl)
      have hax : a.eval x = .slice base 0 0 := hm.trans hme
      have hmv : Moves WG C σ.lo j σ.tab σ.nx w (jset j σ.nx none) (aset σ.tab σ.nx (.arr ei.size [] true)) (σ.nx + 1) w := ⟨hm1, Nat.le_succ_of_le hr.lx, fun x m hv => hv.mono hkeep (fun b hb => ⟨jset_lt _ hb, by omega⟩)⟩
      have hnil : (xs.drop lo).take 0 ++ ([] : List PV) = [] := by simp
      rw [hnil] at hk
      exact ⟨.slice base 0 0, _, .osl σ.nx ei.size 0 0 none, _, _, _, hrunop (.ok (.slice base 0 0) w) (by rw [hax]; exact hrun), after hmv, .oslNil (Nat.lt_succ_self _) (jset_same _ _), hk⟩
    · refine grow base 0 [] (by rw [hm, hme]) (by simp) ?_ ?_ (by omega)
      · rw [List.take_zero]; exact .nil
      · cases base <;> simp [Builtin.firstCells, loadCells, loadCellsFrom]
  cases hv with
  | oslNil => exact nothing _ rfl rfl
  | oslEnd => exact nothing _ rfl rfl
  | @osl b s lo len cap l cp q hbn hl hq hle hcp hsm hn =>
    rcases hr.mem.blk b _ hb with ⟨hl', _⟩ | ⟨l', ms, e', fr, hl', hh, hfr, hsz', hlen', hg, h0, hone, hrel⟩
    · rw [hl] at hl'; cases hl'
    obtain rfl : l' = l := by rw [hl] at hl'; exact (Option.some.inj hl').symm
    have hxel : ElR w (okc C (Own j σ.tab) w) ei.size xs (fun k => ms.getD (l'.off + k) undef) := ⟨h0, fun i k x y hx hy => ⟨hone i k x y hx hy, hrel i k x y hx hy⟩⟩
    have hsub := hxel.sub lo len
    have hlc : lo * ei.size + cp * ei.size ≤ l'.cap * ei.size := by rw [← Nat.add_mul]; exact Nat.mul_le_mul_right _ hcp
    have hlen2 : len * ei.size ≤ cp * ei.size := Nat.mul_le_mul_right _ hle
    by_cases hroom : len + ys.length ≤ cp
    · -- in place
      have hnew : len * ei.size + ys.length * ei.size ≤ cp * ei.size := by rw [← Nat.add_mul]; exact Nat.mul_le_mul_right _ hroom
      obtain ⟨w', hst, htu, hh'⟩ := run_storeCells_row (P := P) l'.blk (q + len * ei.size) e' fr news 0 ms w hh hfr (by rw [hnl]; omega) (hel.one hnl)
      have hrun := run_append_room_own (P := P) w w' t tx op.type e info' ht.und ht'.inf (some ⟨l'.blk, q, none⟩) len cp (a.eval y) ys.length news hS hroom (by simp only [ht'.size, addr_add]; exact hst)
      rw [← hm] at hrun
      have hblk : (∀ k, okc C (Own j σ.tab) w k → w'.heap[k]? = w.heap[k]?) → BlkR w' (okc C (Own j σ.tab) w) (jset j σ.nx (some ⟨l'.blk, q, cp⟩)) (σ.nx + 1) σ.nx (.arr ei.size ((xs.drop lo).take len ++ ys) true) := by
        intro hok
        have hel2 : ElR w (okc C (Own j σ.tab) w) ei.size ((xs.drop lo).take len ++ ys) (fun k => (updCells ms (q + len * ei.size + 0) news).getD (q + k) undef) := by
          refine (hsub.congr (g := fun k => ms.getD (q + k) undef) (fun k hk => by rw [hq, Nat.add_assoc])).append hel (fun k hk => ?_) (fun k hk => ?_)
          · rw [hol] at hk
            rw [updCells_getD _ _ _ _ (by rw [hnl]; omega), if_neg (by omega)]
          · rw [hol]
            rw [updCells_getD _ _ _ _ (by rw [hnl]; omega), if_pos (by rw [hnl]; omega)]
            congr 1; omega
        have hel3 := hel2.mono (w' := w') (fun k hk => ⟨hk, hok k hk⟩)
        refine .inr ⟨⟨l'.blk, q, cp⟩, _, e', fr, jset_same _ _, hh', ?_, ?_, ?_, (fun h => by cases h), hel3.len, fun i k x y hx hy => (hel3.rel i k x y hx hy).1, fun i k x y hx hy => (hel3.rel i k x y hx hy).2⟩
        · rw [updCells_size]; exact hfr
        · rw [updCells_size]; show q + cp * ei.size ≤ ms.size; omega
        · rw [List.length_append, hol]; exact hroom
      obtain ⟨hm1, hkeep⟩ := hr.mem.move hb hl (l' := ⟨l'.blk, q, cp⟩) rfl _ htu.size htu.other htu.os htu.tape htu.output hblk
      exact ⟨.slice (some ⟨l'.blk, q, none⟩) (len + ys.length) cp, _, .osl σ.nx ei.size 0 (len + ys.length) none, _, _, _, hrunop _ hrun, ⟨hm1, Nat.le_succ_of_le hr.lx, fun x m hv => hv.mono hkeep (fun b hb => ⟨jset_lt _ hb, by omega⟩)⟩,
        .osl (l := ⟨l'.blk, q, cp⟩) (Nat.lt_succ_self _) (jset_same _ _) (by simp) hroom (by simp) (fun k h => by cases h) (fun _ => by simp), hk⟩
    · refine grow (some ⟨l'.blk, q, none⟩) cp ((List.range (len * ei.size)).map fun k => ms.getD (q + k) undef) hm (by simp) (hsub.congr (fun k hk => ?_)) ?_ (by omega)
      · rw [hol] at hk
        rw [getD_rangeL _ _ _ hk, hq, Nat.add_assoc]
      · rw [ht'.size]
        refine run_firstCells_some w.drew ei.size len _ len cp _ (by simp) (loadL (w := w.drew) (fun k => ms.getD (q + k) undef) (fun k hk => ?_))
        show w.cell? _ = _
        rw [cell_row hh, Array.getElem?_eq_getElem (by omega)]
        simp [Array.getD, show q + k < ms.size by omega]

theorem bytesP_length (l : List UInt8) : (bytesP l).length = l.length := by simp [bytesP]
theorem bytesP_get {l : List UInt8} {i : Nat} {x : PV} (h : (bytesP l)[i]? = some x) : ∃ b, l[i]? = some b ∧ x = byteP b := by
  simp only [bytesP, List.getElem?_map] at h
  cases hq : l[i]? with
  | none => simp [hq] at h
  | some b => simp [hq] at h; exact ⟨b, rfl, h.symm⟩

/-- '[]byte(s)'. -/
theorem op_conv_bytes {s t : TypeId} {x : Operand} {i i' ei : TI} {e : TypeId} {b : ByteArray} (ho : op.op = .convert s t x) (hi : tiOf P t = some i) (hd : i.d = .slice e) (hei : tiOf P e = some ei) (hed : ei.d = .int .u8) (hi' : tiOf P s = some i') (hd' : i'.d = .str) (hx : ev σ x = some (.p (.v (.string b))))
    (hk : K (.osl σ.nx 1 0 b.size none) (aset σ.tab σ.nx (.arr 1 (bytesP b.data.toList) true)) (σ.nx + 1)) : OpS P WG op σ K := by
  intro C j a w hr
  obtain ⟨info, d, z, ht⟩ := tiOf_some hi
  obtain ⟨info', d', z', ht'⟩ := tiOf_some hi'
  obtain ⟨info2, d2, z2, ht2⟩ := tiOf_some hei
  have htd := ht.td; rw [hd] at htd
  cases d <;> simp only [tdOf] at htd <;> try cases htd
  have htd' := ht'.td; rw [hd'] at htd'
  cases d' <;> simp only [tdOf] at htd' <;> try cases htd'
  have htd2 := ht2.td; rw [hed] at htd2
  cases d2 <;> simp only [tdOf] at htd2 <;> try cases htd2
  have hrun := run_bytes_of_string (P := P) w s t e b ht'.und ht.und ht2.und
  have hge := grownCap_ge w b.size 0 e
  have hbl : b.data.toList.length = b.size := by rw [Array.length_toList]; rfl
  have hsz : (bytesRow b (grownCap w b.size 0 e)).size = grownCap w b.size 0 e := by
    have : b.data.size = b.size := rfl
    simp [bytesRow, this]; omega
  obtain ⟨j', hmv, hj⟩ := newArr hr (drew_props w) 1 (bytesP b.data.toList) true (grownCap w b.size 0 e) (bytesRow b (grownCap w b.size 0 e)) e ((bytesRow b (grownCap w b.size 0 e)).size, (bytesRow b (grownCap w b.size 0 e)).size + 1)
    (fun i hi h => by simp only at h; omega) (by rw [hsz]; omega) (by rw [bytesP_length, hbl]; exact hge) (fun h => by cases h)
    (fun i x hx => by obtain ⟨b', _, rfl⟩ := bytesP_get hx; rfl)
    (fun i k x y hx hy => by
      obtain ⟨b', hb', rfl⟩ := bytesP_get hx
      have hk0 : k = 0 ∧ y = byteP b' := by
        rcases k with _ | k
        · simp [PV.cells, byteP] at hy; exact ⟨rfl, hy.symm⟩
        · simp [PV.cells, byteP] at hy
      obtain ⟨rfl, rfl⟩ := hk0
      refine ⟨rfl, ?_⟩
      have hlt := (List.getElem?_eq_some_iff.1 hb').1
      have : (bytesRow b (grownCap w b.size 0 e)).getD (i * 1 + 0) undef = .int .u8 b'.toNat := by
        simp only [Nat.mul_one, Nat.add_zero, bytesRow, Array.getD_eq_getD_getElem?]
        rw [Array.getElem?_append_left (by simpa using hlt)]
        simp only [Array.getElem?_map]
        have hb2 : b.data[i]? = some b' := by simpa using hb'
        simp [hb2]
      rw [this]; exact .v rfl)
  refine ⟨_, _, .osl σ.nx 1 0 b.size none, j', _, _, ?_, hmv, .osl (q := 0) (Nat.lt_succ_self _) hj (by simp) hge (by simp) (fun k h => by cases h) (fun _ => by simp), hk⟩
  unfold execOp; rw [ho]
  simp only [ev_flat hr hx, Sem.run_bind, hrun, Result.andThen_ok, Sem.run_pure]

/-- 'string(b)'. -/
theorem op_conv_string {s t : TypeId} {x : Operand} {i i' ei : TI} {e : TypeId} {v : V} {l : List UInt8} {side : Prop} (ho : op.op = .convert s t x) (hi : tiOf P t = some i) (hd : i.d = .str) (hi' : tiOf P s = some i') (hd' : i'.d = .slice e) (hei : tiOf P e = some ei) (hed : ei.d = .int .u8)
    (hx : ev σ x = some v) (hsrc : srcV σ.tab false 1 v = some (bytesP l, side)) (hs : side) (hnv : ∀ b, v ≠ .p (.v (.string b)))
    (hk : K (.p (.v (.string ⟨l.toArray⟩))) σ.tab σ.nx) : OpS P WG op σ K := by
  refine .pure (fun C j a w hr => ⟨.string ⟨l.toArray⟩, ?_, .p (.v rfl)⟩) hk
  obtain ⟨info, d, z, ht⟩ := tiOf_some hi
  obtain ⟨info', d', z', ht'⟩ := tiOf_some hi'
  obtain ⟨info2, d2, z2, ht2⟩ := tiOf_some hei
  have htd := ht.td; rw [hd] at htd
  cases d <;> simp only [tdOf] at htd <;> try cases htd
  have htd' := ht'.td; rw [hd'] at htd'
  cases d' <;> simp only [tdOf] at htd' <;> try cases htd'
  have htd2 := ht2.td; rw [hed] at htd2
  cases d2 <;> simp only [tdOf] at htd2 <;> try cases htd2
  rcases src_rel hr hx hsrc hs with ⟨b, c, n, hm, hn, news, hnl, hel, hcell⟩ | ⟨q, hm, _, _⟩
  · rw [bytesP_length] at hn
    subst hn
    unfold execOp; rw [ho]
    simp only [hm, Sem.run_bind]
    have hnone : ∀ {b : Option Addr}, l.length = 0 → (convert s t (.slice b l.length c)).run P w = .ok (.string ⟨l.toArray⟩) w := by
      intro b h0
      have hl0 : l = [] := List.eq_nil_of_length_eq_zero h0
      subst hl0
      cases b <;> simp [convert, ht.run_und, ht'.run_und, ht2.run_und, Conv.bytesToString, loadCells, loadCellsFrom] <;> rfl
    rcases hcell with h0 | ⟨B, rfl, hcell⟩
    · rw [hnone h0]; rfl
    · have hback := run_convert_bytes_back (P := P) w s t e B c l ht'.und ht2.und ht.und (fun k hk => by
        have hx' : (bytesP l)[k]? = some (byteP l[k]) := by simp [bytesP, hk]
        have := hel.rel k 0 _ _ hx' rfl
        have h2 := this.2
        have hnk : k < news.length := by rw [hnl]; omega
        have hc2 := hcell k _ (List.getElem?_eq_getElem hnk)
        rw [hc2]
        simp only [Nat.mul_one, Nat.add_zero, List.getD, List.getElem?_eq_getElem hnk, Option.getD_some] at h2
        generalize news[k] = m at h2 ⊢
        cases h2; rfl)
      rw [hback]; rfl
  · exfalso
    have hv := hr.ev hx
    rw [hm] at hv
    cases hv with
    | p hp => cases hp; exact hnv _ rfl
    | cnd => unfold srcV at hsrc; simp at hsrc

end
end Go.Gp
