/-
  The operations, sixth part: append, []byte(s), string(b), copy, a store into an element.
  Local maps; stores into local arrays.
  Rows compared; bytes and elements copied.
  Regions, calls, bodies; a call over data alone does not meet the caller's memory.
  Loops over functions: the loop's record as a block of local memory; a round of it.
  Functions without a body that the model computes.
  Straight-line code is evaluated: a function tells what each operation gives and what must hold for it.
  Evaluation of code: regions with guards, control.
-/
import Derived.Test.YtgekglfmianoeaaGreatDoorKA
import Derived.Deep.AppendSrc
import Derived.Laws.IdiomStrings
import Derived.MapKept
import Derived.WideLaws
import Derived.Laws.Pointers
import Derived.Laws.Externs
import Derived.Laws.Cover3
set_option linter.unusedSimpArgs false
set_option linter.unusedVariables false
set_option maxRecDepth 20000
namespace Go.Gp
open Go.RowKit
structure ElR (w : World) (ok : Nat → Prop) (s : Nat) (xs : List PV) (f : Nat → Value) : Prop where
  len : ∀ (i : Nat) x, xs[i]? = some x → x.cells.length = s
  rel : ∀ (i k : Nat) x y, xs[i]? = some x → x.cells[k]? = some y → y.one = true ∧ PR w ok y (f (i * s + k))

theorem ElR.nil {w : World} {ok : Nat → Prop} {s : Nat} {f : Nat → Value} : ElR w ok s [] f := ⟨fun i x h => by simp at h, fun i k x y h => by simp at h⟩
theorem ElR.append {w : World} {ok : Nat → Prop} {s : Nat} {xs ys : List PV} {f g h : Nat → Value} (a : ElR w ok s xs f) (b : ElR w ok s ys g) (hf : ∀ k, k < xs.length * s → h k = f k) (hg : ∀ k, k < ys.length * s → h (xs.length * s + k) = g k) : ElR w ok s (xs ++ ys) h := by
  refine ⟨fun i x hx => ?_, fun i k x y hx hy => ?_⟩
  · rw [List.getElem?_append] at hx
    split at hx
    · exact a.len i x hx
    · exact b.len _ x hx
  · rw [List.getElem?_append] at hx
    split at hx
    · rename_i hlt
      have hk : k < s := by rw [← a.len i x hx]; exact (List.getElem?_eq_some_iff.1 hy).1
      obtain ⟨h1, h2⟩ := a.rel i k x y hx hy
      have hb : i * s + s ≤ xs.length * s := by rw [← Nat.succ_mul]; exact Nat.mul_le_mul_right _ hlt
      rw [hf _ (by omega)]; exact ⟨h1, h2⟩
    · rename_i hge
      have hk : k < s := by rw [← b.len _ x hx]; exact (List.getElem?_eq_some_iff.1 hy).1
      have hlt := (List.getElem?_eq_some_iff.1 hx).1
      obtain ⟨h1, h2⟩ := b.rel _ k x y hx hy
      have hb : (i - xs.length) * s + s ≤ ys.length * s := by rw [← Nat.succ_mul]; exact Nat.mul_le_mul_right _ (by omega)
      have e : i * s + k = xs.length * s + ((i - xs.length) * s + k) := by
        have : i * s = xs.length * s + (i - xs.length) * s := by rw [← Nat.add_mul]; congr 1; omega
        omega
      rw [e, hg _ (by omega)]; exact ⟨h1, h2⟩
theorem ElR.sub {w : World} {ok : Nat → Prop} {s : Nat} {xs : List PV} {f : Nat → Value} (a : ElR w ok s xs f) (lo len : Nat) : ElR w ok s ((xs.drop lo).take len) (fun k => f (lo * s + k)) := by
  have hget : ∀ (i : Nat) x, ((xs.drop lo).take len)[i]? = some x → xs[lo + i]? = some x := fun i x hx => by
    rw [List.getElem?_take] at hx
    split at hx
    · rwa [List.getElem?_drop] at hx
    · cases hx
  refine ⟨fun i x hx => a.len _ x (hget i x hx), fun i k x y hx hy => ?_⟩
  have := a.rel _ k x y (hget i x hx) hy
  rwa [Nat.add_mul, Nat.add_assoc] at this
theorem ElR.mono {w w' : World} {ok ok' : Nat → Prop} {s : Nat} {xs : List PV} {f : Nat → Value} (h : ∀ k, ok k → ok' k ∧ w'.heap[k]? = w.heap[k]?) (a : ElR w ok s xs f) : ElR w' ok' s xs f :=
  ⟨a.len, fun i k x y hx hy => ⟨(a.rel i k x y hx hy).1, (a.rel i k x y hx hy).2.mono h⟩⟩
theorem ElR.congr {w : World} {ok : Nat → Prop} {s : Nat} {xs : List PV} {f g : Nat → Value} (a : ElR w ok s xs f) (h : ∀ k, k < xs.length * s → g k = f k) : ElR w ok s xs g := by
  refine ⟨a.len, fun i k x y hx hy => ?_⟩
  have hk : k < s := by rw [← a.len i x hx]; exact (List.getElem?_eq_some_iff.1 hy).1
  have hlt := (List.getElem?_eq_some_iff.1 hx).1
  have hb : i * s + s ≤ xs.length * s := by rw [← Nat.succ_mul]; exact Nat.mul_le_mul_right _ hlt
  rw [h _ (by omega)]; exact a.rel i k x y hx hy

def byteP (b : UInt8) : PV := .v (.int .u8 b.toNat)
def bytesP (b : List UInt8) : List PV := b.map byteP

def srcV (tab : Tab) (agg : Bool) (s : Nat) : V → Option (List PV × Prop)
  | .p (.sl s' ys) => if s' = s then some (ys, True) else none
  | .p (.v (.slice none 0 0)) => some ([], True)
  | .zc => some ([], True)
  | .p (.v (.string b)) => if s = 1 then some (bytesP b.data.toList, True) else none
  | .osl b s' lo len _ =>
    match aget tab b with
    | some (.arr s'' xs _) => if s' = s ∧ s'' = s then some ((xs.drop lo).take len, lo + len ≤ xs.length) else none
    | _ => none
  | .bsl b o s' len _ =>
    match aget tab b with
    | some (.box cs) =>
      match allP ((cs.drop o).take (len * s)) with
      | some ps => if s' = s then some (elemsOf agg s len ps, o + len * s ≤ cs.length ∧ (agg = true ∨ s = 1)) else none
      | none => none
    | _ => none
  | _ => none

section
variable {P : Program} {WG : World} {σ : St} {op : Oper} {K : V → Tab → Nat → Prop}
theorem loadL {w : World} {B o n : Nat} (f : Nat → Value) (h : ∀ k, k < n → w.cell? ⟨B, o + k, none⟩ = some (f k)) : ∀ j u, ((List.range n).map f)[j]? = some u → w.cell? ((⟨B, o, none⟩ : Addr).add j) = some u := by
  intro j u hj
  simp only [List.getElem?_map] at hj
  cases hq : (List.range n)[j]? with
  | none => simp [hq] at hj
  | some q =>
    obtain ⟨h1, h2⟩ := List.getElem?_eq_some_iff.1 hq
    simp at h2 h1; subst h2
    simp [hq] at hj; subst hj
    rw [addr_add]; exact h j h1
theorem getD_rangeL (n : Nat) (f : Nat → Value) (k : Nat) (hk : k < n) : ((List.range n).map f).getD k undef = f k := by
  simp [List.getD, hk]

theorem ElR.one {w : World} {ok : Nat → Prop} {s : Nat} {xs : List PV} {news : List Value} (a : ElR w ok s xs (news.getD · undef)) (hl : news.length = xs.length * s) : ∀ u ∈ news, u.oneCell' = true := by
  intro u hu
  obtain ⟨k, hk⟩ := List.mem_iff_getElem?.1 hu
  have hlt := (List.getElem?_eq_some_iff.1 hk).1
  have hs : 0 < s := by
    rcases Nat.eq_zero_or_pos s with h | h
    · exfalso
      have : news.length = 0 := by rw [hl, h, Nat.mul_zero]
      omega
    · exact h
  have hi : k / s < xs.length := Nat.div_lt_of_lt_mul (by rw [Nat.mul_comm, ← hl]; exact hlt)
  have hx := List.getElem?_eq_getElem hi
  have hc := a.len _ _ hx
  have hq : k % s < xs[k / s].cells.length := by rw [hc]; exact Nat.mod_lt _ hs
  have := a.rel _ (k % s) _ _ hx (List.getElem?_eq_getElem hq)
  have e : k / s * s + k % s = k := by rw [Nat.mul_comm]; exact Nat.div_add_mod k s
  rw [e] at this
  have e2 : news.getD k undef = u := by simp [List.getD, hk]
  have h2 := this.2
  simp only [e2] at h2
  exact h2.one this.1

theorem src_rel {C : Ctx} {j : Nat → Option Loc} {a : Act} {w : World} (hr : ERel WG C j σ a w) {x : Operand} {v : V} {s : Nat} {agg : Bool} {ys : List PV} {side : Prop} (hx : ev σ x = some v) (hsrc : srcV σ.tab agg s v = some (ys, side)) (hs : side) :
    (∃ b c n, a.eval x = .slice b n c ∧ n = ys.length ∧ ∃ news : List Value, news.length = n * s ∧ ElR w (okc C (Own j σ.tab) w) s ys (news.getD · undef) ∧ (n = 0 ∨ ∃ B, b = some B ∧ ∀ j u, news[j]? = some u → w.cell? (B.add j) = some u)) ∨
    (∃ t : ByteArray, a.eval x = .string t ∧ s = 1 ∧ ys = bytesP t.data.toList) := by
  have hv := hr.ev hx
  generalize hm : a.eval x = m at hv
  unfold srcV at hsrc
  split at hsrc
  · rename_i s' ys'
    split at hsrc
    · rename_i he; subst he; cases hsrc
      left
      cases hv with
      | p hp =>
        cases hp with
        | nil => exact ⟨_, _, 0, rfl, rfl, [], by simp, .nil, .inl rfl⟩
        | @sl s xs B o c n f hn hok hc hcell hlen hone hrel =>
          subst hn
          refine ⟨_, _, _, rfl, rfl, (List.range (ys.length * s')).map f, by simp, ⟨hlen, fun i k x y hx hy => ⟨hone _ _ _ _ hx hy, ?_⟩⟩, .inr ⟨_, rfl, loadL f hcell⟩⟩
          have hk : k < s' := by rw [← hlen i x hx]; exact (List.getElem?_eq_some_iff.1 hy).1
          have hlt := (List.getElem?_eq_some_iff.1 hx).1
          have hb : i * s' + s' ≤ ys.length * s' := by rw [← Nat.succ_mul]; exact Nat.mul_le_mul_right _ hlt
          rw [getD_rangeL _ _ _ (by omega)]; exact hrel _ _ _ _ hx hy
    · cases hsrc
  · cases hsrc
    left
    cases hv with
    | p hp => cases hp; exact ⟨_, _, 0, rfl, rfl, [], by simp, .nil, .inl rfl⟩
  · cases hsrc
    left
    cases hv with
    | zc => exact ⟨_, _, 0, rfl, rfl, [], by simp, .nil, .inl rfl⟩
  · rename_i b
    split at hsrc
    · rename_i he; cases hsrc
      right
      cases hv with
      | p hp => cases hp; exact ⟨_, rfl, he, rfl⟩
    · cases hsrc
  · rename_i b s' lo len cap
    split at hsrc
    · rename_i s'' xs gr hb
      split at hsrc
      · rename_i he
        obtain ⟨rfl, rfl⟩ := he
        cases hsrc
        left
        have hlenl : ((xs.drop lo).take len).length = len := by simp; omega
        cases hv with
        | oslNil => exact ⟨_, _, 0, rfl, hlenl.symm, [], by simp, by rw [List.take_zero]; exact .nil, .inl rfl⟩
        | oslEnd => exact ⟨_, _, 0, rfl, hlenl.symm, [], by simp, by rw [List.take_zero]; exact .nil, .inl rfl⟩
        | @osl b s lo len cap l c q hbn hl hq hle hc hsm hn =>
          rcases hr.mem.blk b _ hb with ⟨hl', _⟩ | ⟨l', ms, e, fr, hl', hh, hfr, hsz, hlen', hg, h0, hone, hrel⟩
          · rw [hl] at hl'; cases hl'
          obtain rfl : l' = l := by rw [hl] at hl'; exact (Option.some.inj hl').symm
          have hel : ElR w (okc C (Own j σ.tab) w) s'' xs (fun k => ms.getD (l'.off + k) undef) := ⟨h0, fun i k x y hx hy => ⟨hone i k x y hx hy, hrel i k x y hx hy⟩⟩
          have hsub := hel.sub lo len
          refine ⟨_, _, _, rfl, hlenl.symm, (List.range (len * s'')).map fun k => ms.getD (q + k) undef, by simp, hsub.congr (fun k hk => ?_), .inr ⟨_, rfl, loadL _ (fun k hk => ?_)⟩⟩
          · rw [hlenl] at hk
            rw [getD_rangeL _ _ _ hk, hq, Nat.add_assoc]
          · have hb1 : lo * s'' + len * s'' ≤ l'.cap * s'' := by rw [← Nat.add_mul]; exact Nat.mul_le_mul_right _ (by omega)
            rw [cell_row hh, Array.getElem?_eq_getElem (by omega)]
            simp [Array.getD, show q + k < ms.size by omega]
      · cases hsrc
    · cases hsrc
  · rename_i b o s' len cap
    split at hsrc
    · rename_i cs hb
      split at hsrc
      · rename_i ps hps
        split at hsrc
        · rename_i he; subst he; cases hsrc
          obtain ⟨hs1, hs2⟩ := hs
          left
          cases hv with
          | bslEnd => exact ⟨_, _, 0, rfl, rfl, [], by simp, by simp only [elemsOf]; exact .nil, .inl rfl⟩
          | @bsl b o s len cap l q hbn hl hq hle =>
            obtain ⟨l', ms, e, fr, hl', hh, hfr, hsz, hone, hrel⟩ := hr.mem.blk b _ hb
            obtain rfl : l' = l := by rw [hl] at hl'; exact (Option.some.inj hl').symm
            have hpl := allP_some hps
            have hpsl : ps.length = len * s' := by
              have := congrArg List.length hpl
              simp at this; omega
            have hpget : ∀ (k : Nat) y, ps[k]? = some y → cs[o + k]? = some (.p y) := fun k y hy => by
              have : ((cs.drop o).take (len * s'))[k]? = some (.p y) := by rw [hpl]; simp [hy]
              rw [List.getElem?_take] at this
              split at this
              · rwa [List.getElem?_drop] at this
              · cases this
            have hps1 : ∀ (k : Nat) y, ps[k]? = some y → y.one = true ∧ PR w (okc C (Own j σ.tab) w) y (ms.getD (q + k) undef) := fun k y hy => by
              have h1 := hone _ _ (hpget k y hy)
              have h2 := hrel _ _ (hpget k y hy)
              rw [hq, Nat.add_assoc]
              cases h2 with
              | p h => exact ⟨h1, h⟩
            have hcs : ∀ (k : Nat) x, (elemsOf agg s' len ps)[k]? = some x → k < len ∧ x.cells = (ps.drop (k * s')).take s' := fun k x hx => by
              obtain ⟨hk, rfl⟩ := elemsOf_get hx
              have hb : k * s' + s' ≤ len * s' := by rw [← Nat.succ_mul]; exact Nat.mul_le_mul_right _ hk
              exact ⟨hk, elemOf_cells (s := s') (by simp; omega) hs2 (fun c hc => by
                obtain ⟨r, hr'⟩ := List.mem_iff_getElem?.1 (List.mem_of_mem_drop (List.mem_of_mem_take hc))
                exact (hps1 r c hr').1)⟩
            refine ⟨_, _, _, rfl, elemsOf_length.symm, (List.range (len * s')).map fun k => ms.getD (q + k) undef, by simp, ⟨fun k x hx => ?_, fun k r x y hx hy => ?_⟩, .inr ⟨_, rfl, loadL _ (fun k hk => ?_)⟩⟩
            · obtain ⟨hk, e⟩ := hcs k x hx
              have hb : k * s' + s' ≤ len * s' := by rw [← Nat.succ_mul]; exact Nat.mul_le_mul_right _ hk
              rw [e]; simp; omega
            · obtain ⟨hk, e⟩ := hcs k x hx
              have hb : k * s' + s' ≤ len * s' := by rw [← Nat.succ_mul]; exact Nat.mul_le_mul_right _ hk
              rw [e] at hy
              have hr1 : r < s' := by have := (List.getElem?_eq_some_iff.1 hy).1; simp at this; omega
              rw [List.getElem?_take, if_pos hr1, List.getElem?_drop] at hy
              rw [getD_rangeL _ _ _ (by omega)]
              exact hps1 _ y hy
            · rw [cell_row hh, Array.getElem?_eq_getElem (by omega)]
              simp [Array.getD, show q + k < ms.size by omega]
        · cases hsrc
      · cases hsrc
    · cases hsrc
  · cases hsrc

theorem src_Src {C : Ctx} {j : Nat → Option Loc} {a : Act} {w : World} (hr : ERel WG C j σ a w) {x : Operand} {v : V} {s : Nat} {agg : Bool} {ys : List PV} {side : Prop} (hx : ev σ x = some v) (hsrc : srcV σ.tab agg s v = some (ys, side)) (hs : side)
    {tx : TypeId} {ti : TI} (hti : tiOf P tx = some ti) (hk : (∃ e, ti.d = .slice e) ∨ ti.d = .str) (hstr : ti.d = .str ↔ ∃ b, v = .p (.v (.string b))) :
    ∃ news, Src P s tx (a.eval x) ys.length news w ∧ ElR w (okc C (Own j σ.tab) w) s ys (news.getD · undef) := by
  obtain ⟨info, d, z, ht⟩ := tiOf_some hti
  have htd := ht.td
  rcases src_rel hr hx hsrc hs with ⟨b, c, n, hm, rfl, news, hl, hel, hcell⟩ | ⟨t, hm, rfl, rfl⟩
  · have hnstr : ¬ ti.d = .str := fun h => by
      obtain ⟨b', hb'⟩ := hstr.1 h
      subst hb'
      have := ev_flat hr hx
      rw [hm] at this; cases this
    obtain ⟨e, he⟩ := hk.resolve_right hnstr
    rw [he] at htd
    cases d <;> simp only [tdOf] at htd <;> try cases htd
    have h1 := hel.one hl
    rcases hcell with h0 | ⟨B, rfl, hcell⟩
    · have hn0 : news = [] := List.eq_nil_of_length_eq_zero (by rw [hl, h0]; simp)
      subst hn0
      refine ⟨[], ?_, hel⟩
      rw [hm, h0]
      exact ⟨.inl ⟨_, ht.und⟩, fun _ => rfl, by cases b <;> simp [Builtin.firstCells, loadCells, loadCellsFrom], by cases b <;> simp [Builtin.firstCells, loadCells, loadCellsFrom], by simp, fun u hu => by cases hu⟩
    · refine ⟨news, ?_, hel⟩
      rw [hm]
      exact Src.ofSlice w ht.und B _ c news hl hcell h1
  · have hd : ti.d = .str := by
      rcases hk with ⟨e, he⟩ | h
      · exfalso
        have hv := hr.ev hx
        rw [hm] at hv
        have : ∃ b, v = .p (.v (.string b)) := by
          cases hv with
          | p hp => cases hp; exact ⟨_, rfl⟩
          | cnd h1 h0 => 
            unfold srcV at hsrc; simp at hsrc
        rw [hstr.2 this] at he; cases he
      · exact h
    rw [hd] at htd
    cases d <;> simp only [tdOf] at htd <;> try cases htd
    refine ⟨byteCells t, ?_, ?_⟩
    · rw [hm]
      have : (bytesP t.data.toList).length = t.size := by rw [bytesP, List.length_map, Array.length_toList]; rfl
      rw [this]
      exact Src.ofString w ht.und t
    · refine ⟨fun i x hx => ?_, fun i k x y hx hy => ?_⟩
      · simp only [bytesP, List.getElem?_map] at hx
        cases hq : t.data.toList[i]? with
        | none => simp [hq] at hx
        | some b => simp [hq] at hx; subst hx; rfl
      · simp only [bytesP, List.getElem?_map] at hx
        cases hq : t.data.toList[i]? with
        | none => simp [hq] at hx
        | some b =>
          simp [hq] at hx; subst hx
          have hk0 : k = 0 ∧ y = byteP b := by
            rcases k with _ | k
            · simp [PV.cells, byteP] at hy; exact ⟨rfl, hy.symm⟩
            · simp [PV.cells, byteP] at hy
          obtain ⟨rfl, rfl⟩ := hk0
          refine ⟨rfl, ?_⟩
          have : (byteCells t).getD (i * 1 + 0) undef = .int .u8 b.toNat := by
            simp only [byteCells, Nat.mul_one, Nat.add_zero, List.getD, List.getElem?_map, hq, Option.map_some, Option.getD_some]
          rw [this]; exact .v rfl

theorem zeroCells_size (z : Array Value) (n : Nat) : (Builtin.zeroCells z n).size = n * z.size := by simp [Builtin.zeroCells]

theorem grownCap_ge (w : World) (need old : Nat) (e : TypeId) : need ≤ grownCap w need old e := by unfold grownCap Question.cut; exact Nat.le_add_right _ _

theorem drew_props (w : World) : w.drew.heap = w.heap ∧ w.drew.os = w.os ∧ w.drew.tape = w.tape ∧ w.drew.output = w.output := ⟨rfl, rfl, rfl, rfl⟩

theorem grown {C : Ctx} {j : Nat → Option Loc} {a : Act} {w : World} (hr : ERel WG C j σ a w) {s : Nat} {xs : List PV} {cells : List Value} (hel : ElR w (okc C (Own j σ.tab) w) s xs (cells.getD · undef)) (hcl : cells.length = xs.length * s) (z : Array Value) (hz : z.size = s) (cap : Nat) (hcap : xs.length ≤ cap) (e : TypeId) :
    ∃ j', Moves WG C σ.lo j σ.tab σ.nx w j' (aset σ.tab σ.nx (.arr s xs true)) (σ.nx + 1) (w.drew.alloc (.cells (cells.toArray ++ Builtin.zeroCells z (cap - xs.length)) e (0, 0))) ∧ j' σ.nx = some ⟨w.heap.size, 0, cap⟩ := by
  refine newArr hr (drew_props w) s xs true cap _ e (0, 0) (Opn.zero _) ?_ hcap (fun h => by cases h) hel.len (fun i k x y hx hy => ?_)
  · rw [Array.size_append, zeroCells_size, hz]
    simp only [List.size_toArray, hcl]
    rw [← Nat.add_mul]
    exact Nat.mul_le_mul_right _ (by omega)
  · obtain ⟨h1, h2⟩ := hel.rel i k x y hx hy
    refine ⟨h1, ?_⟩
    have hk : k < s := by rw [← hel.len i x hx]; exact (List.getElem?_eq_some_iff.1 hy).1
    have hlt := (List.getElem?_eq_some_iff.1 hx).1
    have hb : i * s + s ≤ xs.length * s := by rw [← Nat.succ_mul]; exact Nat.mul_le_mul_right _ hlt
    have : (cells.toArray ++ Builtin.zeroCells z (cap - xs.length)).getD (i * s + k) undef = cells.getD (i * s + k) undef := by
      simp only [Array.getD_eq_getD_getElem?, List.getD]
      rw [Array.getElem?_append_left (by simp; omega)]
      simp
    rw [this]; exact h2

theorem nextcap_ok {need old bytes : Nat} (h : old < need) (hn : need ≤ 4294967296) (hb : bytes ≤ 16384) : Builtin.nextslicecap need old * bytes ≤ 281474976710656 := by
  have h1 := nextslicecap_le h
  have h2 : Builtin.nextslicecap need old * bytes ≤ (2 * 4294967296) * 16384 := Nat.mul_le_mul (by omega) hb
  omega

theorem op_append_new {c : Call} {t tx : TypeId} {x y : Operand} {i ei ti : TI} {e : TypeId} {v u : V} {olds ys : List PV} {side : Prop} (ho : op.op = .call c) (hc : c = { callee := .builtin .append, args := #[x, y], argTypes := #[t, tx] })
    (hi : tiOf P t = some i) (hd : i.d = .slice e) (hei : tiOf P e = some ei) (hti : tiOf P tx = some ti) (hk' : (∃ e, ti.d = .slice e) ∨ ti.d = .str) (hstr : ti.d = .str ↔ ∃ b, u = .p (.v (.string b))) (hby : ei.bytes ≤ 16384)
    (hx : ev σ x = some v) (hy : ev σ y = some u) (hsrc : srcV σ.tab ei.agg ei.size u = some (ys, side)) (hs : side)
    (hv : (v = .zc ∨ v = .p (.v (.slice none 0 0))) ∧ olds = [] ∨ ∃ b o len cap, v = .bsl b o ei.size len cap ∧ ∃ side', srcV σ.tab ei.agg ei.size v = some (olds, side') ∧ side' ∧ cap < len + ys.length)
    (hsz : olds.length + ys.length ≤ 4294967296)
    (hk : K (.osl σ.nx ei.size 0 (olds.length + ys.length) none) (aset σ.tab σ.nx (.arr ei.size (olds ++ ys) true)) (σ.nx + 1)) : OpS P WG op σ K := by
  intro C j a w hr
  subst hc
  obtain ⟨info, d, z, ht⟩ := tiOf_some hi
  obtain ⟨info', d', z', ht'⟩ := tiOf_some hei
  have htd := ht.td; rw [hd] at htd
  cases d <;> simp only [tdOf] at htd <;> try cases htd
  obtain ⟨news, hS, hel⟩ := src_Src hr hy hsrc hs hti hk' hstr
  have hzs : z'.cells.size = ei.size := by rw [ht'.zc]; simpa using ht'.zs
  have hrunop : ∀ r, (Builtin.append_ #[t, tx] op.type #[a.eval x, a.eval y]).run P w = r → (execOp a.eval op).run P w = r.andThen fun v w' => .ok (.value v) w' := fun r h => by
    unfold execOp; rw [ho]
    simp [resolve, invoke, builtin, h]
  rw [← ht'.size] at hS

  have key : ∀ (base : Option Addr) (len cap : Nat) (ocells : List Value), a.eval x = .slice base len cap → len = olds.length → ocells.length = olds.length * ei.size → ElR w (okc C (Own j σ.tab) w) ei.size olds (ocells.getD · undef) →
      (Builtin.firstCells info'.size len (.slice base len cap)).run P w.drew = .ok ocells.toArray w.drew → cap < len + ys.length →
      ∃ m w' v j' tab' nx', (execOp a.eval op).run P w = .ok (.value m) w' ∧ Moves WG C σ.lo j σ.tab σ.nx w j' tab' nx' w' ∧ VR w' (okc C (Own j' tab') w') j' nx' v m ∧ K v tab' nx' := by
    intro base len cap ocells hm hlen hocl hoel hfc hcap
    subst hlen
    have hrun := run_append_grow_src (P := P) w t tx op.type e info' z' ht.und ht'.inf ht'.hz base olds.length cap ocells hfc (a.eval y) ys.length news hS hcap (by omega) (nextcap_ok hcap (by omega) (by rw [ht'.bytes]; exact hby))
    rw [← hm] at hrun
    have hnl : news.length = ys.length * ei.size := by rw [hS.newsLen, ht'.size]
    have hel2 : ElR w (okc C (Own j σ.tab) w) ei.size (olds ++ ys) ((ocells ++ news).getD · undef) := hoel.append hel (fun k hk => by
        simp only [List.getD]; rw [List.getElem?_append_left (by omega)]) (fun k hk => by
        simp only [List.getD]; rw [List.getElem?_append_right (by omega)]; congr 2; omega)
    have hcapn := grownCap_ge w (olds.length + ys.length) cap e
    obtain ⟨j', hmv, hj⟩ := grown hr hel2 (by simp [hocl, hnl, Nat.add_mul]) z'.cells hzs (grownCap w (olds.length + ys.length) cap e) (by simp; omega) e
    refine ⟨_, _, .osl σ.nx ei.size 0 (olds.length + ys.length) none, j', _, _, hrunop _ hrun, ?_, ?_, hk⟩
    · rw [List.length_append] at hmv; exact hmv
    · exact .osl (Nat.lt_succ_self _) hj (by simp) (by omega) (by simp) (fun k h => by cases h) (fun _ => by simp)
  rcases hv with ⟨hv, rfl⟩ | ⟨b, o, len, cap, rfl, side', hsrc', hside', hcap⟩
  · obtain ⟨base, hm⟩ : ∃ base, a.eval x = .slice base 0 0 := by
      have := hr.ev hx
      generalize a.eval x = m at this ⊢
      rcases hv with rfl | rfl
      · cases this with | zc => exact ⟨_, rfl⟩
      · cases this with | p hp => cases hp; exact ⟨_, rfl⟩
    by_cases h0 : ys.length = 0
    · have hy0 : ys = [] := List.eq_nil_of_length_eq_zero h0
      subst hy0
      obtain ⟨hm1, hkeep⟩ := hr.mem.noMem ei.size
      have hn0 : news = [] := List.eq_nil_of_length_eq_zero (by rw [hS.newsLen]; simp)
      subst hn0
      have hrun : (Builtin.append_ #[t, tx] op.type #[a.eval x, a.eval y]).run P w = .ok (.slice base 0 0) w := by
        rw [hm]
        have hlen := hS.len w
        have hcells := hS.cells
        simp only [List.length_nil] at hlen hcells
        rcases hS.kind with ⟨e', hk⟩ | hk <;> cases base <;> simp [Builtin.append_, run_underlying ht.und, run_underlying hk, sizeOf, typeInfo, ht'.inf, hlen, hcells, storeCells]
      refine ⟨_, _, .osl σ.nx ei.size 0 0 none, _, _, _, hrunop _ hrun, ⟨hm1, Nat.le_succ_of_le hr.lx, fun x m hv => hv.mono hkeep (fun b hb => ⟨jset_lt _ hb, by omega⟩), hkeep⟩, .oslNil (Nat.lt_succ_self _) (jset_same _ _), by simpa using hk⟩
    · exact key base 0 0 [] hm rfl (by simp) .nil (by cases base <;> simp [Builtin.firstCells, loadCells, loadCellsFrom]) (by omega)
  · rcases src_rel hr hx hsrc' hside' with ⟨base, c, n, hm, hn, ocells, hocl, hoel, hocell⟩ | ⟨_, hm, _⟩
    · have hcn : c = cap ∧ n = len := by
        have := hr.ev hx
        rw [hm] at this
        cases this with
        | bslEnd => exact ⟨rfl, rfl⟩
        | bsl => exact ⟨rfl, rfl⟩
      obtain ⟨rfl, rfl⟩ := hcn
      refine key base n c ocells hm hn (by rw [hocl, hn]) hoel ?_ (by omega)
      rw [ht'.size]
      rcases hocell with h0 | ⟨B, rfl, hcell⟩
      · have : ocells = [] := List.eq_nil_of_length_eq_zero (by rw [hocl, h0]; simp)
        subst this; rw [h0]
        cases base <;> simp [Builtin.firstCells, loadCells, loadCellsFrom]
      · exact run_firstCells_some w.drew ei.size n B n c ocells hocl (by simpa using hcell)
    · exfalso
      have := hr.ev hx
      rw [hm] at this
      cases this

theorem run_append_room_own (w w' : World) (t tx ty e : TypeId) (i : TypeInfo) (ht : P.underlying t = some (.slice e)) (hi : P.info? e = some i) (base : Option Addr) (sLen sCap : Nat) (x : Value) (n : Nat) (news : List Value) (hs : Src P i.size tx x n news w)
    (hroom : sLen + n ≤ sCap) (hst : (match base with | some a => storeCells (a.add (sLen * i.size)) news | none => (pure () : Sem Unit)).run P w = .ok () w') :
    (Builtin.append_ #[t, tx] ty #[.slice base sLen sCap, x]).run P w = .ok (.slice base (sLen + n) sCap) w' := by
  cases base <;> rcases hs.kind with ⟨e', hk⟩ | hk <;> simp only at hst <;> simp [Builtin.append_, run_underlying ht, run_underlying hk, sizeOf, typeInfo, hi, hs.len, hroom, hs.cells, hst] <;> simp at hst <;> exact hst

theorem op_append_own {c : Call} {t tx : TypeId} {x y : Operand} {i ei ti : TI} {e : TypeId} {u : V} {b lo len : Nat} {cap : Option Nat} {xs ys : List PV} {gr : Bool} {side : Prop} (ho : op.op = .call c) (hc : c = { callee := .builtin .append, args := #[x, y], argTypes := #[t, tx] })
    (hi : tiOf P t = some i) (hd : i.d = .slice e) (hei : tiOf P e = some ei) (hti : tiOf P tx = some ti) (hk' : (∃ e, ti.d = .slice e) ∨ ti.d = .str) (hstr : ti.d = .str ↔ ∃ b, u = .p (.v (.string b))) (hby : ei.bytes ≤ 16384)
    (hx : ev σ x = some (.osl b ei.size lo len cap)) (hb : aget σ.tab b = some (.arr ei.size xs gr)) (hlen : lo + len ≤ xs.length) (hy : ev σ y = some u) (hsrc : srcV σ.tab ei.agg ei.size u = some (ys, side)) (hs : side)
    (hsz : len + ys.length ≤ 4294967296)
    (hk : K (.osl σ.nx ei.size 0 (len + ys.length) none) (aset (adel σ.tab b) σ.nx (.arr ei.size ((xs.drop lo).take len ++ ys) true)) (σ.nx + 1)) : OpS P WG op σ K := by
  intro C j a w hr
  subst hc
  obtain ⟨info, d, z, ht⟩ := tiOf_some hi
  obtain ⟨info', d', z', ht'⟩ := tiOf_some hei
  have htd := ht.td; rw [hd] at htd
  cases d <;> simp only [tdOf] at htd <;> try cases htd
  obtain ⟨news, hS, hel⟩ := src_Src hr hy hsrc hs hti hk' hstr
  have hzs : z'.cells.size = ei.size := by rw [ht'.zc]; simpa using ht'.zs
  have hrunop : ∀ r, (Builtin.append_ #[t, tx] op.type #[a.eval x, a.eval y]).run P w = r → (execOp a.eval op).run P w = r.andThen fun v w' => .ok (.value v) w' := fun r h => by
    unfold execOp; rw [ho]
    simp [resolve, invoke, builtin, h]
  have hnl : news.length = ys.length * ei.size := hS.newsLen
  rw [← ht'.size] at hS
  have hol : ((xs.drop lo).take len).length = len := by simp; omega

  have after : ∀ {j' : Nat → Option Loc} {w' : World} {ys' : List PV}, Moves WG C σ.lo j σ.tab σ.nx w j' (aset σ.tab σ.nx (.arr ei.size ys' true)) (σ.nx + 1) w' → Moves WG C σ.lo j σ.tab σ.nx w j' (aset (adel σ.tab b) σ.nx (.arr ei.size ys' true)) (σ.nx + 1) w' := by
    intro j' w' ys' hmv
    have hlt := hr.mem.low b _ hb
    have hcom : aset (adel σ.tab b) σ.nx (.arr ei.size ys' true) = adel (aset σ.tab σ.nx (.arr ei.size ys' true)) b := by
      have : ∀ (t : Tab), aset (adel t b) σ.nx (.arr ei.size ys' true) = adel (aset t σ.nx (.arr ei.size ys' true)) b := by
        intro t
        induction t with
        | nil => simp only [adel, aset]; rw [if_neg (by omega)]
        | cons p r ih =>
          obtain ⟨k, q⟩ := p
          by_cases h1 : k = b
          · subst h1; simp only [adel, aset, if_true]; rw [if_neg (by omega)]; simp only [adel, if_true]; exact ih
          · simp only [adel, aset, if_neg h1]
            by_cases h2 : k = σ.nx
            · simp only [aset, if_pos h2, adel, if_neg h1]
            · simp only [aset, if_neg h2, adel, if_neg h1, ih]
      exact this _
    rw [hcom]
    obtain ⟨h1, h2⟩ := hmv.mem.del b
    exact ⟨h1, hmv.lx, fun x m hv => (hmv.keep x m hv).mono h2 (fun b hb => ⟨rfl, hb⟩), fun k hk => ⟨(h2 k (hmv.okk k hk).1).1, (hmv.okk k hk).2⟩⟩
  have grow : ∀ (base : Option Addr) (cp : Nat) (ocells : List Value), a.eval x = .slice base len cp → ocells.length = len * ei.size → ElR w (okc C (Own j σ.tab) w) ei.size ((xs.drop lo).take len) (ocells.getD · undef) →
      (Builtin.firstCells info'.size len (.slice base len cp)).run P w.drew = .ok ocells.toArray w.drew → cp < len + ys.length →
      ∃ m w' v j' tab' nx', (execOp a.eval op).run P w = .ok (.value m) w' ∧ Moves WG C σ.lo j σ.tab σ.nx w j' tab' nx' w' ∧ VR w' (okc C (Own j' tab') w') j' nx' v m ∧ K v tab' nx' := by
    intro base cp ocells hm hocl hoel hfc hcap
    have hrun := run_append_grow_src (P := P) w t tx op.type e info' z' ht.und ht'.inf ht'.hz base len cp ocells hfc (a.eval y) ys.length news hS hcap (by omega) (nextcap_ok hcap (by omega) (by rw [ht'.bytes]; exact hby))
    rw [← hm] at hrun
    have hel2 : ElR w (okc C (Own j σ.tab) w) ei.size ((xs.drop lo).take len ++ ys) ((ocells ++ news).getD · undef) := hoel.append hel (fun k hk => by
        rw [hol] at hk
        simp only [List.getD]; rw [List.getElem?_append_left (by omega)]) (fun k hk => by
        rw [hol]
        simp only [List.getD]; rw [List.getElem?_append_right (by omega)]; congr 2; omega)
    have hcapn := grownCap_ge w (len + ys.length) cp e
    obtain ⟨j', hmv, hj⟩ := grown hr hel2 (by rw [List.length_append, List.length_append, hol, hocl, hnl, Nat.add_mul]) z'.cells hzs (grownCap w (len + ys.length) cp e) (by rw [List.length_append, hol]; exact hcapn) e
    rw [List.length_append, hol] at hmv
    exact ⟨_, _, .osl σ.nx ei.size 0 (len + ys.length) none, j', _, _, hrunop _ hrun, after hmv, .osl (Nat.lt_succ_self _) hj (by simp) hcapn (by simp) (fun k h => by cases h) (fun _ => by simp), hk⟩
  have hv := hr.ev hx
  generalize hm : a.eval x = m at hv
  have nothing : ∀ (base : Option Addr), m = .slice base len 0 → len = 0 →
      ∃ m w' v j' tab' nx', (execOp a.eval op).run P w = .ok (.value m) w' ∧ Moves WG C σ.lo j σ.tab σ.nx w j' tab' nx' w' ∧ VR w' (okc C (Own j' tab') w') j' nx' v m ∧ K v tab' nx' := by
    intro base hme hl0
    subst hl0
    by_cases h0 : ys.length = 0
    · have hy0 : ys = [] := List.eq_nil_of_length_eq_zero h0
      subst hy0
      have hn0 : news = [] := List.eq_nil_of_length_eq_zero (by rw [hnl]; simp)
      subst hn0
      obtain ⟨hm1, hkeep⟩ := hr.mem.noMem ei.size
      have hrun := run_append_room_own (P := P) w w t tx op.type e info' ht.und ht'.inf base 0 0 (a.eval y) 0 [] hS (by omega) (by cases base <;> rfl)
      have hax : a.eval x = .slice base 0 0 := hm.trans hme
      have hmv : Moves WG C σ.lo j σ.tab σ.nx w (jset j σ.nx none) (aset σ.tab σ.nx (.arr ei.size [] true)) (σ.nx + 1) w := ⟨hm1, Nat.le_succ_of_le hr.lx, fun x m hv => hv.mono hkeep (fun b hb => ⟨jset_lt _ hb, by omega⟩), hkeep⟩
      have hnil : (xs.drop lo).take 0 ++ ([] : List PV) = [] := by simp
      rw [hnil] at hk
      exact ⟨.slice base 0 0, _, .osl σ.nx ei.size 0 0 none, _, _, _, hrunop (.ok (.slice base 0 0) w) (by rw [hax]; exact hrun), after hmv, .oslNil (Nat.lt_succ_self _) (jset_same _ _), hk⟩
    · refine grow base 0 [] (by rw [hm, hme]) (by simp) ?_ ?_ (by omega)
      · rw [List.take_zero]; exact .nil
      · cases base <;> simp [Builtin.firstCells, loadCells, loadCellsFrom]
  cases hv with
  | oslNil => exact nothing _ rfl rfl
  | oslEnd => exact nothing _ rfl rfl
  | @osl b s lo len cap l cp q hbn hl hq hle hcp hsm hn =>
    rcases hr.mem.blk b _ hb with ⟨hl', _⟩ | ⟨l', ms, e', fr, hl', hh, hfr, hsz', hlen', hg, h0, hone, hrel⟩
    · rw [hl] at hl'; cases hl'
    obtain rfl : l' = l := by rw [hl] at hl'; exact (Option.some.inj hl').symm
    have hxel : ElR w (okc C (Own j σ.tab) w) ei.size xs (fun k => ms.getD (l'.off + k) undef) := ⟨h0, fun i k x y hx hy => ⟨hone i k x y hx hy, hrel i k x y hx hy⟩⟩
    have hsub := hxel.sub lo len
    have hlc : lo * ei.size + cp * ei.size ≤ l'.cap * ei.size := by rw [← Nat.add_mul]; exact Nat.mul_le_mul_right _ hcp
    have hlen2 : len * ei.size ≤ cp * ei.size := Nat.mul_le_mul_right _ hle
    by_cases hroom : len + ys.length ≤ cp
    · -- in place
      have hnew : len * ei.size + ys.length * ei.size ≤ cp * ei.size := by rw [← Nat.add_mul]; exact Nat.mul_le_mul_right _ hroom
      obtain ⟨w', hst, htu, hh'⟩ := run_storeCells_row (P := P) l'.blk (q + len * ei.size) e' fr news 0 ms w hh hfr (by rw [hnl]; omega) (hel.one hnl)
      have hrun := run_append_room_own (P := P) w w' t tx op.type e info' ht.und ht'.inf (some ⟨l'.blk, q, none⟩) len cp (a.eval y) ys.length news hS hroom (by simp only [ht'.size, addr_add]; exact hst)
      rw [← hm] at hrun
      have hblk : (∀ k, okc C (Own j σ.tab) w k → w'.heap[k]? = w.heap[k]?) → BlkR w' (okc C (Own j σ.tab) w) (jset j σ.nx (some ⟨l'.blk, q, cp⟩)) (σ.nx + 1) σ.nx (.arr ei.size ((xs.drop lo).take len ++ ys) true) := by
        intro hok
        have hel2 : ElR w (okc C (Own j σ.tab) w) ei.size ((xs.drop lo).take len ++ ys) (fun k => (updCells ms (q + len * ei.size + 0) news).getD (q + k) undef) := by
          refine (hsub.congr (g := fun k => ms.getD (q + k) undef) (fun k hk => by rw [hq, Nat.add_assoc])).append hel (fun k hk => ?_) (fun k hk => ?_)
          · rw [hol] at hk
            rw [updCells_getD _ _ _ _ (by rw [hnl]; omega), if_neg (by omega)]
          · rw [hol]
            rw [updCells_getD _ _ _ _ (by rw [hnl]; omega), if_pos (by rw [hnl]; omega)]
            congr 1; omega
        have hel3 := hel2.mono (w' := w') (fun k hk => ⟨hk, hok k hk⟩)
        refine .inr ⟨⟨l'.blk, q, cp⟩, _, e', fr, jset_same _ _, hh', ?_, ?_, ?_, (fun h => by cases h), hel3.len, fun i k x y hx hy => (hel3.rel i k x y hx hy).1, fun i k x y hx hy => (hel3.rel i k x y hx hy).2⟩
        · rw [updCells_size]; exact hfr
        · rw [updCells_size]; show q + cp * ei.size ≤ ms.size; omega
        · rw [List.length_append, hol]; exact hroom
      obtain ⟨hm1, hkeep⟩ := hr.mem.move hb hl (l' := ⟨l'.blk, q, cp⟩) rfl _ htu.size htu.other htu.os htu.tape htu.output hblk
      exact ⟨.slice (some ⟨l'.blk, q, none⟩) (len + ys.length) cp, _, .osl σ.nx ei.size 0 (len + ys.length) none, _, _, _, hrunop _ hrun, ⟨hm1, Nat.le_succ_of_le hr.lx, fun x m hv => hv.mono hkeep (fun b hb => ⟨jset_lt _ hb, by omega⟩), hkeep⟩,
        .osl (l := ⟨l'.blk, q, cp⟩) (Nat.lt_succ_self _) (jset_same _ _) (by simp) hroom (by simp) (fun k h => by cases h) (fun _ => by simp), hk⟩
    · refine grow (some ⟨l'.blk, q, none⟩) cp ((List.range (len * ei.size)).map fun k => ms.getD (q + k) undef) hm (by simp) (hsub.congr (fun k hk => ?_)) ?_ (by omega)
      · rw [hol] at hk
        rw [getD_rangeL _ _ _ hk, hq, Nat.add_assoc]
      · rw [ht'.size]
        refine run_firstCells_some w.drew ei.size len _ len cp _ (by simp) (loadL (w := w.drew) (fun k => ms.getD (q + k) undef) (fun k hk => ?_))
        show w.cell? _ = _
        rw [cell_row hh, Array.getElem?_eq_getElem (by omega)]
        simp [Array.getD, show q + k < ms.size by omega]

theorem bytesP_length (l : List UInt8) : (bytesP l).length = l.length := by simp [bytesP]
theorem bytesP_get {l : List UInt8} {i : Nat} {x : PV} (h : (bytesP l)[i]? = some x) : ∃ b, l[i]? = some b ∧ x = byteP b := by
  simp only [bytesP, List.getElem?_map] at h
  cases hq : l[i]? with
  | none => simp [hq] at h
  | some b => simp [hq] at h; exact ⟨b, rfl, h.symm⟩

theorem op_conv_bytes {s t : TypeId} {x : Operand} {i i' ei : TI} {e : TypeId} {b : ByteArray} (ho : op.op = .convert s t x) (hi : tiOf P t = some i) (hd : i.d = .slice e) (hei : tiOf P e = some ei) (hed : ei.d = .int .u8) (hi' : tiOf P s = some i') (hd' : i'.d = .str) (hx : ev σ x = some (.p (.v (.string b))))
    (hk : K (.osl σ.nx 1 0 b.size none) (aset σ.tab σ.nx (.arr 1 (bytesP b.data.toList) true)) (σ.nx + 1)) : OpS P WG op σ K := by
  intro C j a w hr
  obtain ⟨info, d, z, ht⟩ := tiOf_some hi
  obtain ⟨info', d', z', ht'⟩ := tiOf_some hi'
  obtain ⟨info2, d2, z2, ht2⟩ := tiOf_some hei
  have htd := ht.td; rw [hd] at htd
  cases d <;> simp only [tdOf] at htd <;> try cases htd
  have htd' := ht'.td; rw [hd'] at htd'
  cases d' <;> simp only [tdOf] at htd' <;> try cases htd'
  have htd2 := ht2.td; rw [hed] at htd2
  cases d2 <;> simp only [tdOf] at htd2 <;> try cases htd2
  have hrun := run_bytes_of_string (P := P) w s t e b ht'.und ht.und ht2.und
  have hge := grownCap_ge w b.size 0 e
  have hbl : b.data.toList.length = b.size := by rw [Array.length_toList]; rfl
  have hsz : (bytesRow b (grownCap w b.size 0 e)).size = grownCap w b.size 0 e := by
    have : b.data.size = b.size := rfl
    simp [bytesRow, this]; omega
  obtain ⟨j', hmv, hj⟩ := newArr hr (drew_props w) 1 (bytesP b.data.toList) true (grownCap w b.size 0 e) (bytesRow b (grownCap w b.size 0 e)) e ((bytesRow b (grownCap w b.size 0 e)).size, (bytesRow b (grownCap w b.size 0 e)).size + 1)
    (fun i hi h => by simp only at h; omega) (by rw [hsz]; omega) (by rw [bytesP_length, hbl]; exact hge) (fun h => by cases h)
    (fun i x hx => by obtain ⟨b', _, rfl⟩ := bytesP_get hx; rfl)
    (fun i k x y hx hy => by
      obtain ⟨b', hb', rfl⟩ := bytesP_get hx
      have hk0 : k = 0 ∧ y = byteP b' := by
        rcases k with _ | k
        · simp [PV.cells, byteP] at hy; exact ⟨rfl, hy.symm⟩
        · simp [PV.cells, byteP] at hy
      obtain ⟨rfl, rfl⟩ := hk0
      refine ⟨rfl, ?_⟩
      have hlt := (List.getElem?_eq_some_iff.1 hb').1
      have : (bytesRow b (grownCap w b.size 0 e)).getD (i * 1 + 0) undef = .int .u8 b'.toNat := by
        simp only [Nat.mul_one, Nat.add_zero, bytesRow, Array.getD_eq_getD_getElem?]
        rw [Array.getElem?_append_left (by simpa using hlt)]
        simp only [Array.getElem?_map]
        have hb2 : b.data[i]? = some b' := by simpa using hb'
        simp [hb2]
      rw [this]; exact .v rfl)
  refine ⟨_, _, .osl σ.nx 1 0 b.size none, j', _, _, ?_, hmv, .osl (q := 0) (Nat.lt_succ_self _) hj (by simp) hge (by simp) (fun k h => by cases h) (fun _ => by simp), hk⟩
  unfold execOp; rw [ho]
  simp only [ev_flat hr hx, Sem.run_bind, hrun, Result.andThen_ok, Sem.run_pure]

theorem op_conv_string {s t : TypeId} {x : Operand} {i i' ei : TI} {e : TypeId} {v : V} {l : List UInt8} {side : Prop} (ho : op.op = .convert s t x) (hi : tiOf P t = some i) (hd : i.d = .str) (hi' : tiOf P s = some i') (hd' : i'.d = .slice e) (hei : tiOf P e = some ei) (hed : ei.d = .int .u8)
    (hx : ev σ x = some v) (hsrc : srcV σ.tab false 1 v = some (bytesP l, side)) (hs : side) (hnv : ∀ b, v ≠ .p (.v (.string b)))
    (hk : K (.p (.v (.string ⟨l.toArray⟩))) σ.tab σ.nx) : OpS P WG op σ K := by
  refine .pure (fun C j a w hr => ⟨.string ⟨l.toArray⟩, ?_, .p (.v rfl)⟩) hk
  obtain ⟨info, d, z, ht⟩ := tiOf_some hi
  obtain ⟨info', d', z', ht'⟩ := tiOf_some hi'
  obtain ⟨info2, d2, z2, ht2⟩ := tiOf_some hei
  have htd := ht.td; rw [hd] at htd
  cases d <;> simp only [tdOf] at htd <;> try cases htd
  have htd' := ht'.td; rw [hd'] at htd'
  cases d' <;> simp only [tdOf] at htd' <;> try cases htd'
  have htd2 := ht2.td; rw [hed] at htd2
  cases d2 <;> simp only [tdOf] at htd2 <;> try cases htd2
  rcases src_rel hr hx hsrc hs with ⟨b, c, n, hm, hn, news, hnl, hel, hcell⟩ | ⟨q, hm, _, _⟩
  · rw [bytesP_length] at hn
    subst hn
    unfold execOp; rw [ho]
    simp only [hm, Sem.run_bind]
    have hnone : ∀ {b : Option Addr}, l.length = 0 → (convert s t (.slice b l.length c)).run P w = .ok (.string ⟨l.toArray⟩) w := by
      intro b h0
      have hl0 : l = [] := List.eq_nil_of_length_eq_zero h0
      subst hl0
      cases b <;> simp [convert, ht.run_und, ht'.run_und, ht2.run_und, Conv.bytesToString, loadCells, loadCellsFrom] <;> rfl
    rcases hcell with h0 | ⟨B, rfl, hcell⟩
    · rw [hnone h0]; rfl
    · have hback := run_convert_bytes_back (P := P) w s t e B c l ht'.und ht2.und ht.und (fun k hk => by
        have hx' : (bytesP l)[k]? = some (byteP l[k]) := by simp [bytesP, hk]
        have := hel.rel k 0 _ _ hx' rfl
        have h2 := this.2
        have hnk : k < news.length := by rw [hnl]; omega
        have hc2 := hcell k _ (List.getElem?_eq_getElem hnk)
        rw [hc2]
        simp only [Nat.mul_one, Nat.add_zero, List.getD, List.getElem?_eq_getElem hnk, Option.getD_some] at h2
        generalize news[k] = m at h2 ⊢
        cases h2; rfl)
      rw [hback]; rfl
  · exfalso
    have hv := hr.ev hx
    rw [hm] at hv
    cases hv with
    | p hp => cases hp; exact hnv _ rfl
    | cnd => unfold srcV at hsrc; simp at hsrc

end
end Go.Gp

namespace Go.Gp
open Go.RowKit
open Go.MapKept (IsKey run_checkKey run_findKey run_setObj_map bytes_beq)
def keyEq : Value → Value → Bool
  | .string a, .string b => strEq a b
  | .int _ a, .int _ b => decide (a = b)
  | _, _ => false
def mfind : List (Value × PV) → Value → Option PV
  | [], _ => none
  | (k', v) :: r, k => if keyEq k k' then some v else mfind r k
def mhas (es : List (Value × PV)) (k : Value) : Bool := (mfind es k).isSome
def mget (es : List (Value × PV)) (k : Value) (z : PV) : PV := (mfind es k).getD z
def mset : List (Value × PV) → Value → PV → List (Value × PV)
  | [], k, v => [(k, v)]
  | (k', v') :: r, k, v => if keyEq k k' then (k, v) :: r else (k', v') :: mset r k v

theorem strEq_iff' (a b : ByteArray) : strEq a b = true ↔ a = b := by
  simp only [strEq, ByteArray.toList_eq, beq_iff_eq]
  refine ⟨fun h => ?_, fun h => by rw [h]⟩
  obtain ⟨⟨x⟩⟩ := a; obtain ⟨⟨y⟩⟩ := b
  simpa using h

def kdesc : Option IntKind → TypeDesc → Prop
  | none, d => d = .string
  | some k, d => d = .int k

theorem sameNow_eq {kk : Option IntKind} {d : TypeDesc} (hd : kdesc kk d) {a b : Value} (ha : keyK kk a = true) (hb : keyK kk b = true) : Instr.sameNow d a b = some (keyEq a b) := by
  cases kk with
  | none =>
    cases a <;> simp [keyK] at ha
    cases b <;> simp [keyK] at hb
    rename_i x y
    subst hd
    have : (x == y) = strEq x y := by
      rw [Bool.eq_iff_iff, bytes_beq, strEq_iff']
    simp [Instr.sameNow, keyEq, this]
  | some k =>
    cases a <;> simp [keyK] at ha
    cases b <;> simp [keyK] at hb
    subst ha hb hd
    rename_i x _ y
    by_cases e : x = y <;> simp [Instr.sameNow, keyEq, e]
theorem keyEq_eq {kk : Option IntKind} {a b : Value} (ha : keyK kk a = true) (hb : keyK kk b = true) (h : keyEq a b = true) : a = b := by
  cases kk with
  | none =>
    cases a <;> simp [keyK] at ha
    cases b <;> simp [keyK] at hb
    simp only [keyEq, strEq_iff'] at h
    rw [h]
  | some k =>
    cases a <;> simp [keyK] at ha
    cases b <;> simp [keyK] at hb
    subst ha hb
    simp only [keyEq, decide_eq_true_eq] at h
    rw [h]

def EntR (w : World) (ok : Nat → Prop) (kk : Option IntKind) (es : List (Value × PV)) (ms : List MapEntry) : Prop :=
  ms.length = es.length ∧ ∀ (i : Nat) k v, es[i]? = some (k, v) → ∃ e, ms[i]? = some e ∧ e.key = k ∧ keyK kk k = true ∧ PR w ok v e.val

theorem EntR.tail {w : World} {ok : Nat → Prop} {kk : Option IntKind} {x : Value × PV} {es : List (Value × PV)} {m : MapEntry} {ms : List MapEntry} (h : EntR w ok kk (x :: es) (m :: ms)) : EntR w ok kk es ms :=
  ⟨by have := h.1; simpa using this, fun i k v hi => by have := h.2 (i + 1) k v (by simpa using hi); simpa using this⟩

theorem findNow_eq {w : World} {ok : Nat → Prop} {kk : Option IntKind} {d : TypeDesc} (hd : kdesc kk d) {key : Value} (hk : keyK kk key = true) : ∀ {es : List (Value × PV)} {ms : List MapEntry} (i : Nat), EntR w ok kk es ms →
    (Instr.findNow d key ms i = some none ∧ mfind es key = none ∧ mset es key = fun v => es ++ [(key, v)]) ∨
    ∃ q e v, ms[q]? = some e ∧ Instr.findNow d key ms i = some (some (i + q, e.val)) ∧ mfind es key = some v ∧ PR w ok v e.val ∧ e.key = key ∧ mset es key = fun v => es.set q (key, v)
  | [], [], i, h => .inl ⟨rfl, rfl, rfl⟩
  | [], m :: ms, i, h => by have := h.1; simp at this
  | x :: es, [], i, h => by have := h.1; simp at this
  | (k, v) :: es, m :: ms, i, h => by
    obtain ⟨e, h1, h2, h3, h4⟩ := h.2 0 k v rfl
    simp at h1; subst h1
    have hs := sameNow_eq hd hk (show keyK kk m.key = true by rw [h2]; exact h3)
    rw [h2] at hs
    unfold Instr.findNow
    rw [h2, hs]
    cases hq : keyEq key k with
    | true =>
      right
      refine ⟨0, m, v, rfl, rfl, by simp [mfind, hq], h4, ?_, ?_⟩
      · rw [h2]; exact (keyEq_eq hk h3 hq).symm
      · funext u; simp [mset, hq]
    | false =>
      rcases findNow_eq hd hk (i + 1) h.tail with ⟨a, b, c⟩ | ⟨q, e, u, a, b, c, d', f, g⟩
      · left; refine ⟨a, by simp [mfind, hq, b], ?_⟩
        funext u; simp [mset, hq, c]
      · right
        refine ⟨q + 1, e, u, by simpa using a, ?_, by simp [mfind, hq, c], d', f, ?_⟩
        · have : i + 1 + q = i + (q + 1) := by omega
          rw [← this]; exact b
        · funext x; simp [mset, hq, g]

section
variable {P : Program} {WG : World} {σ : St} {op : Oper}
def kkOf (P : Program) (t : TypeId) : Option (Option IntKind) :=
  match tiOf P t with
  | some i => (match i.d with | .str => some none | .int k => some (some k) | _ => none)
  | none => none
theorem kkOf_desc {t : TypeId} {kk : Option IntKind} (h : kkOf P t = some kk) : ∃ d, P.underlying t = some d ∧ kdesc kk d := by
  unfold kkOf at h
  split at h
  · rename_i i hi
    obtain ⟨info, d, z, ht⟩ := tiOf_some hi
    have htd := ht.td
    split at h
    · rename_i hd; rw [hd] at htd; cases h
      refine ⟨d, ht.und, ?_⟩
      cases d <;> simp [tdOf] at htd
      rfl
    · rename_i k hd; rw [hd] at htd; cases h
      refine ⟨d, ht.und, ?_⟩
      cases d <;> simp [tdOf] at htd
      subst htd; rfl
    · cases h
  · cases h
theorem isKey_of {kk : Option IntKind} {d : TypeDesc} {k : Value} (hd : kdesc kk d) (h : keyK kk k = true) : IsKey d k := by
  cases kk with
  | none => cases k <;> simp [keyK] at h; subst hd; simp [IsKey]
  | some q => cases k <;> simp [keyK] at h; subst h; subst hd; simp [IsKey]

theorem op_makeMap {t : TypeId} {kk : Option IntKind} {K : V → Tab → Nat → Prop} (ho : op.op = .makeMap t none) (hk : K (.mp σ.nx) (aset σ.tab σ.nx (.mp kk [])) (σ.nx + 1)) : OpS P WG op σ K := by
  intro C j a w hr
  let l : Loc := ⟨w.heap.size, 0, 0⟩
  have hx : BlkR (w.alloc (.map #[] 0)) (okc C (Own j σ.tab) w) (jset j σ.nx (some l)) (σ.nx + 1) σ.nx (.mp kk []) :=
    ⟨l, #[], 0, jset_same _ _, alloc_new _ _, rfl, fun i k v hi => by simp at hi⟩
  obtain ⟨h1, h2⟩ := hr.mem.alloc (.map #[] 0) (.mp kk []) l rfl hx
  refine ⟨.map (some w.heap.size), _, .mp σ.nx, _, _, _, ?_, ⟨h1, Nat.le_succ_of_le hr.lx, fun x m hv => hv.mono h2 (fun b hb => ⟨jset_lt _ hb, Nat.lt_succ_of_lt hb⟩), h2⟩, .mp (l := l) (Nat.lt_succ_self _) (jset_same _ _), hk⟩
  unfold execOp; rw [ho]; rfl

theorem ev_mp {C : Ctx} {j : Nat → Option Loc} {a : Act} {w : World} (hr : ERel WG C j σ a w) {x : Operand} {b : Nat} (hx : ev σ x = some (.mp b)) : ∃ l, a.eval x = .map (some l.blk) ∧ j b = some l := by
  have := hr.ev hx
  generalize a.eval x = m at this ⊢
  cases this with
  | mp hb hl => exact ⟨_, rfl, hl⟩

def mpVal : V → Option PV
  | .p x => some x
  | .agg cs => (match allP cs with | some l => some (.agg l) | none => none)
  | _ => none
theorem VR.mpVal {w : World} {ok : Nat → Prop} {j : Nat → Option Loc} {nx : Nat} {v : V} {m : Value} {y : PV} (h : VR w ok j nx v m) (e : Gp.mpVal v = some y) : PR w ok y m := by
  cases v with
  | p x => simp only [Gp.mpVal] at e; cases e; cases h with | p hp => exact hp
  | agg cs =>
    simp only [Gp.mpVal] at e
    split at e
    · rename_i l hl
      cases e
      have hcs := allP_some hl
      subst hcs
      cases h with
      | agg hlen hone hrel =>
        refine .agg (by simpa using hlen) (fun i c hi => ?_) (fun i c hi => ?_)
        · have := hone i (.p c) (by simp [hi]); simpa [V.one] using this
        · have := hrel i (.p c) (by simp [hi])
          cases this with | p hp => exact hp
    · cases e
  | _ => simp [Gp.mpVal] at e

theorem op_insert {t kt et b : Nat} {x k v : Operand} {i : TI} {kk : Option IntKind} {es : List (Value × PV)} {key : Value} {u : V} {y : PV} {K : Tab → Nat → Prop} (ho : op.op = .insert t x k v ∨ op.op = .mapUpdate t x k v) (hi : tiOf P t = some i) (hd : i.d = .map kt et) (hkk : kkOf P kt = some kk)
    (hx : ev σ x = some (.mp b)) (hb : aget σ.tab b = some (.mp kk es)) (hk : ev σ k = some (.p (.v key))) (hkey : keyK kk key = true) (hv : ev σ v = some u) (hu : mpVal u = some y) (hK : K (aset σ.tab b (.mp kk (mset es key y))) σ.nx) : OpK P WG op σ K := by
  intro C j a w hr
  obtain ⟨info, d, z, ht⟩ := tiOf_some hi
  have htd := ht.td; rw [hd] at htd
  cases d <;> simp only [tdOf] at htd <;> try cases htd
  obtain ⟨kd, hku, hkd⟩ := kkOf_desc hkk
  obtain ⟨l, hm, hl⟩ := ev_mp hr hx
  obtain ⟨l', ms, ck, hl', hh, hs, hrel⟩ := hr.mem.blk b _ hb
  obtain rfl : l' = l := by rw [hl] at hl'; exact (Option.some.inj hl').symm
  have hke : a.eval k = key := by
    have := hr.ev hk
    generalize a.eval k = m at this ⊢
    cases this with | p hp => cases hp; rfl
  have hy : PR w (okc C (Own j σ.tab) w) y (a.eval v) := (hr.ev hv).mpVal hu
  have hent : EntR w (okc C (Own j σ.tab) w) kk es ms.toList := ⟨by simpa using hs, fun q k' v' hq => by
    obtain ⟨e, h1, h2⟩ := hrel q k' v' hq; exact ⟨e, by simpa using h1, h2⟩⟩
  have hck : (Instr.checkKey false 10000 kt key).run P w = .ok () w := run_checkKey hku (isKey_of hkd hkey) false 9999

  have fin : ∀ (ms' : Array MapEntry) (ck' : Nat), EntR w (okc C (Own j σ.tab) w) kk (mset es key y) ms'.toList →
      (Instr.mapUpdate t (.map (some l'.blk)) key (a.eval v)).run P w = .ok () { w with heap := w.heap.setIfInBounds l'.blk (.map ms' ck') } →
      ∃ w' j' tab' nx', (execOp a.eval op).run P w = .ok .skip w' ∧ Moves WG C σ.lo j σ.tab σ.nx w j' tab' nx' w' ∧ K tab' nx' := by
    intro ms' ck' hE hrun
    obtain ⟨hset, hoth⟩ := Go.MapKept.heap_set (o' := .map ms' ck') hh
    have hblk : (∀ k, okc C (Own j σ.tab) w k → ({ w with heap := w.heap.setIfInBounds l'.blk (.map ms' ck') } : World).heap[k]? = w.heap[k]?) → BlkR { w with heap := w.heap.setIfInBounds l'.blk (.map ms' ck') } (okc C (Own j σ.tab) w) j σ.nx b (.mp kk (mset es key y)) := by
      intro hok
      refine ⟨l', ms', ck', hl, hset, by have := hE.1; simpa using this, fun q k' v' hq => ?_⟩
      obtain ⟨e, h1, h2, h3, h4⟩ := hE.2 q k' v' hq
      exact ⟨e, by simpa using h1, h2, h3, h4.mono (fun k hk => ⟨hk, hok k hk⟩)⟩
    obtain ⟨hmm, hkeep⟩ := hr.mem.turn (w' := { w with heap := w.heap.setIfInBounds l'.blk (.map ms' ck') }) hb hl _ (by simp) hoth rfl rfl rfl hblk
    refine ⟨_, j, _, _, ?_, ⟨hmm, hr.lx, fun x m hv => hv.mono hkeep (fun b hb => ⟨rfl, hb⟩), hkeep⟩, hK⟩
    rcases ho with ho | ho <;> (unfold execOp; rw [ho]; simp only [hm, hke, Sem.run_bind, hrun, Result.andThen_ok, Sem.run_pure])
  rcases findNow_eq hkd hkey 0 hent with ⟨h1, h2, h3⟩ | ⟨q, e, u', h1, h2, h3, h4, h5, h6⟩
  · refine fin (ms.push { key, val := a.eval v, born := ck }) (ck + 1) ?_ ?_
    · rw [h3]
      refine ⟨by simp [hs], fun q k' v' hq => ?_⟩
      rcases Nat.lt_trichotomy q es.length with hlt | heq | hgt
      · rw [List.getElem?_append_left hlt] at hq
        obtain ⟨e, h4, h5⟩ := hent.2 q k' v' hq
        refine ⟨e, ?_, h5⟩
        simp only [Array.toList_push]
        rw [List.getElem?_append_left (by rw [hent.1]; exact hlt)]; exact h4
      · subst heq
        simp at hq
        obtain ⟨rfl, rfl⟩ := hq
        refine ⟨{ key, val := a.eval v, born := ck }, ?_, rfl, hkey, hy⟩
        simp only [Array.toList_push]
        rw [List.getElem?_append_right (by rw [hent.1]; exact Nat.le_refl _)]
        simp [hent.1]
      · rw [List.getElem?_eq_none (by simp; omega)] at hq; cases hq
    · simp only [Instr.mapUpdate, Sem.run_bind, ht.run_und, Result.andThen_ok, Go.MapKept.run_getObj_map hh, hck, run_findKey hku h1, run_setObj_map _ hh]
  · have hq' : ms[q]? = some e := by simpa using h1
    have hlt : q < ms.size := (Array.getElem?_eq_some_iff.1 hq').1
    have hql : q < es.length := by omega
    have hst : (Instr.keyThatStays (((ms[q]?).map (·.key)).getD key) key).run P w = .ok key w := by
      have : Instr.sameBits 10000 key key = true := by
        cases kk with
        | none => cases key <;> simp [keyK] at hkey; simp [Instr.sameBits, bytes_beq]
        | some z => cases key <;> simp [keyK] at hkey; simp [Instr.sameBits]
      rw [hq']
      simp only [Option.map_some, Option.getD_some, h5]
      unfold Instr.keyThatStays
      rw [this]; rfl
    refine fin (ms.modify q fun e => { e with key := key, val := a.eval v }) ck ?_ ?_
    · rw [h6]
      refine ⟨by simp [hs], fun p k' v' hp => ?_⟩
      simp only [List.getElem?_set] at hp
      simp only [Array.getElem?_toList, Array.getElem?_modify]
      by_cases e : q = p
      · subst e
        rw [if_pos rfl, if_pos hql] at hp
        cases hp
        rw [if_pos rfl, hq']
        exact ⟨_, rfl, rfl, hkey, hy⟩
      · rw [if_neg e] at hp
        rw [if_neg e]
        obtain ⟨e', h7, h8⟩ := hent.2 p k' v' hp
        exact ⟨e', by simpa using h7, h8⟩
    · have h2' : Instr.findNow kd key ms.toList 0 = some (some (q, e.val)) := by rw [h2, Nat.zero_add]
      simp only [Instr.mapUpdate, Sem.run_bind, ht.run_und, Result.andThen_ok, Go.MapKept.run_getObj_map hh, hck, run_findKey hku h2', hst, run_setObj_map _ hh]

theorem op_lookup {t kt et b : Nat} {x k : Operand} {i ei : TI} {kk : Option IntKind} {es : List (Value × PV)} {key : Value} {ok : Bool} {K : V → Tab → Nat → Prop} (ho : op.op = .lookup t x k ok) (hi : tiOf P t = some i) (hd : i.d = .map kt et) (hkk : kkOf P kt = some kk) (hei : tiOf P et = some ei)
    (hx : ev σ x = some (.mp b)) (hb : aget σ.tab b = some (.mp kk es)) (hk : ev σ k = some (.p (.v key))) (hkey : keyK kk key = true)
    (hK : K (if ok then .tup [.p (mget es key ei.zeroP), .p (.v (.bool (mhas es key)))] else .p (mget es key ei.zeroP)) σ.tab σ.nx) : OpS P WG op σ K := by
  refine .pure (fun C j a w hr => ?_) hK
  obtain ⟨info, d, z, ht⟩ := tiOf_some hi
  obtain ⟨info', d', z', ht'⟩ := tiOf_some hei
  have htd := ht.td; rw [hd] at htd
  cases d <;> simp only [tdOf] at htd <;> try cases htd
  obtain ⟨kd, hku, hkd⟩ := kkOf_desc hkk
  obtain ⟨l, hm, hl⟩ := ev_mp hr hx
  obtain ⟨l', ms, ck, hl', hh, hs, hrel⟩ := hr.mem.blk b _ hb
  obtain rfl : l' = l := by rw [hl] at hl'; exact (Option.some.inj hl').symm
  have hke : a.eval k = key := by
    have := hr.ev hk
    generalize a.eval k = m at this ⊢
    cases this with | p hp => cases hp; rfl
  have hent : EntR w (okc C (Own j σ.tab) w) kk es ms.toList := ⟨by simpa using hs, fun q k' v' hq => by
    obtain ⟨e, h1, h2⟩ := hrel q k' v' hq; exact ⟨e, by simpa using h1, h2⟩⟩
  have hck : (Instr.checkKey ms.isEmpty 10000 kt key).run P w = .ok () w := run_checkKey hku (isKey_of hkd hkey) _ 9999
  have fin : ∀ (m : Value) (hasq : Bool), PR w (okc C (Own j σ.tab) w) (mget es key ei.zeroP) m → mhas es key = hasq → (Instr.lookup t (.map (some l'.blk)) key ok).run P w = .ok (if ok then .tuple #[m, .bool hasq] else m) w →
      ∃ m', (execOp a.eval op).run P w = .ok (.value m') w ∧ VR w (okc C (Own j σ.tab) w) j σ.nx (if ok then .tup [.p (mget es key ei.zeroP), .p (.v (.bool (mhas es key)))] else .p (mget es key ei.zeroP)) m' := by
    intro m hasq hP hq hrun
    refine ⟨if ok then .tuple #[m, .bool hasq] else m, by unfold execOp; rw [ho]; simp only [hm, hke, Sem.run_bind, hrun, Result.andThen_ok, Sem.run_pure], ?_⟩
    cases ok with
    | true =>
      simp only [if_true]
      refine .tup rfl (fun n c hn => ?_)
      match n with
      | 0 => simp at hn; subst hn; exact .p hP
      | 1 => simp at hn; subst hn; subst hq; exact .p (.v rfl)
      | n + 2 => simp at hn
    | false => exact .p hP
  rcases findNow_eq hkd hkey 0 hent with ⟨h1, h2, h3⟩ | ⟨q, e, u', h1, h2, h3, h4, h5, h6⟩
  · refine fin z' false ?_ (by simp [mhas, h2]) ?_
    · simp only [mget, h2, Option.getD_none]; exact ht'.zr _ _
    · cases ok <;> simp [Instr.lookup, Sem.run_bind, ht.run_und, Result.andThen_ok, Go.MapKept.run_getObj_map hh, hck, run_findKey hku h1, ht'.run_zero, Sem.run_pure]
  · refine fin e.val true ?_ (by simp [mhas, h3]) ?_
    · simp only [mget, h3, Option.getD_some]; exact h4
    · have h2' : Instr.findNow kd key ms.toList 0 = some (some (q, e.val)) := by rw [h2, Nat.zero_add]
      cases ok <;> simp [Instr.lookup, Sem.run_bind, ht.run_und, Result.andThen_ok, Go.MapKept.run_getObj_map hh, hck, run_findKey hku h2', Sem.run_pure]

def isNilV (c : Value) (v : V) : Option Bool :=
  match c, v with
  | .nilIface, .p (.v .nilIface) => some true
  | .nilIface, .p (.ifc _ _) => some false
  | .nilIface, .ifc _ _ => some false
  | .pointer none, .p (.v (.pointer none)) => some true
  | .pointer none, .p (.ptr _ _) => some false
  | .pointer none, .ref _ _ => some false
  | .pointer none, .eref _ _ _ _ => some false
  | _, _ => none
def TD.isIface : TD → Bool
  | .iface => true
  | _ => false
def TD.isPtr : TD → Bool
  | .ptr _ => true
  | _ => false
def nilF (P : Program) (bo : BinOp) (xt : TypeId) (yo : Operand) (x : V) : Option (V × Prop) :=
  match yo with
  | .const c =>
    match isNilV c x, tiOf P xt with
    | some b, some i =>
      match c, bo with
      | .nilIface, .eql => if i.d.isIface then some (.p (.v (.bool b)), True) else none
      | .nilIface, .neq => if i.d.isIface then some (.p (.v (.bool !b)), True) else none
      | .pointer none, .eql => if i.d.isPtr then some (.p (.v (.bool b)), True) else none
      | .pointer none, .neq => if i.d.isPtr then some (.p (.v (.bool !b)), True) else none
      | _, _ => none
    | _, _ => none
  | _ => none

theorem op_nil {bo : BinOp} {xt yt : TypeId} {x yo : Operand} {v u : V} {side : Prop} {K : V → Tab → Nat → Prop} (ho : op.op = .binOp bo xt x yo yt) (hx : ev σ x = some v) (h : nilF P bo xt yo v = some (u, side)) (hK : K u σ.tab σ.nx) : OpS P WG op σ K := by
  unfold nilF at h
  split at h
  · rename_i c
    split at h
    · rename_i b i hb hi
      obtain ⟨info, d, z, ht⟩ := tiOf_some hi
      have htd := ht.td
      have ifc : i.d.isIface = true → P.underlying xt = some (.interface (P.methodsAt xt)) := fun hq => by
        rw [← htd] at hq
        have hu := ht.und
        cases d <;> simp [tdOf, TD.isIface] at hq
        rw [hu]; simp [Program.methodsAt, hu]
      have ptr : i.d.isPtr = true → P.underlying xt = some (.pointer (P.pointee xt)) := fun hq => by
        rw [← htd] at hq
        have hu := ht.und
        cases d <;> simp [tdOf, TD.isPtr] at hq
        rw [hu]; simp [Program.pointee, hu]
      have rel : ∀ {C : Ctx} {j : Nat → Option Loc} {a : Act} {w : World}, ERel WG C j σ a w → (c = .nilIface → (b = true → a.eval x = .nilIface) ∧ (b = false → ∃ t m, a.eval x = .iface t m)) ∧ (c = .pointer none → (b = true → a.eval x = .pointer none) ∧ (b = false → ∃ q, a.eval x = .pointer (some q))) := by
        intro C j a w hr
        have hv := hr.ev hx
        generalize a.eval x = m at hv ⊢
        unfold isNilV at hb
        split at hb <;> cases hb
        · refine ⟨fun _ => ⟨fun _ => ?_, fun h => by cases h⟩, fun h => by cases h⟩
          cases hv with | p hp => cases hp; rfl
        · refine ⟨fun _ => ⟨fun h => (by cases h), fun _ => ?_⟩, fun h => by cases h⟩
          cases hv with | p hp => cases hp; exact ⟨_, _, rfl⟩
        · refine ⟨fun _ => ⟨fun h => (by cases h), fun _ => ?_⟩, fun h => by cases h⟩
          cases hv; exact ⟨_, _, rfl⟩
        · refine ⟨fun h => (by cases h), fun _ => ⟨fun _ => ?_, fun h => by cases h⟩⟩
          cases hv with | p hp => cases hp; rfl
        · refine ⟨fun h => (by cases h), fun _ => ⟨fun h => (by cases h), fun _ => ?_⟩⟩
          cases hv with | p hp => cases hp; exact ⟨_, rfl⟩
        · refine ⟨fun h => (by cases h), fun _ => ⟨fun h => (by cases h), fun _ => ?_⟩⟩
          cases hv; exact ⟨_, rfl⟩
        · refine ⟨fun h => (by cases h), fun _ => ⟨fun h => (by cases h), fun _ => ?_⟩⟩
          cases hv; exact ⟨_, rfl⟩
      have gi : ∀ (w : World) (m : Value), (eqGuard bo xt x (.const .nilIface) m .nilIface).run P w = .ok () w := fun w m => by
        by_cases e : m = .nilIface
        · subst e; rw [eqGuard_nil_constR]; rfl
        · exact eqGuard_flat w bo xt x (.const .nilIface) m .nilIface (.inl e) (.inr (fun cs h => by cases h))
      have gp : ∀ (w : World) (m : Value), (eqGuard bo xt x (.const (.pointer none)) m (.pointer none)).run P w = .ok () w := fun w m =>
        eqGuard_flat w bo xt x _ m _ (.inr (by simp)) (.inr (fun cs h => by cases h))
      split at h
      · split at h
        · rename_i hq; cases h
          refine .pure (fun C j a w hr => ⟨.bool b, ?_, .p (.v rfl)⟩) hK
          unfold execOp; rw [ho]
          simp only [show ∀ c : Value, a.eval (.const c) = c from fun _ => rfl, Sem.run_bind]
          obtain ⟨h1, h2⟩ := (rel hr).1 rfl
          cases b with
          | true => rw [show a.eval x = _ from h1 rfl]; simp only [gi, Result.andThen_ok, run_eql_nil_nil w xt (ifc hq), Sem.run_pure]
          | false => obtain ⟨t, m, hm⟩ := h2 rfl; rw [show a.eval x = _ from hm]; simp only [gi, Result.andThen_ok, run_eql_held_nil w xt t m (ifc hq), Sem.run_pure]
        · cases h
      · split at h
        · rename_i hq; cases h
          refine .pure (fun C j a w hr => ⟨.bool !b, ?_, .p (.v rfl)⟩) hK
          unfold execOp; rw [ho]
          simp only [show ∀ c : Value, a.eval (.const c) = c from fun _ => rfl, Sem.run_bind]
          obtain ⟨h1, h2⟩ := (rel hr).1 rfl
          cases b with
          | true => rw [show a.eval x = _ from h1 rfl]; simp only [gi, Result.andThen_ok, run_neq_nil_nil w xt (ifc hq), Sem.run_pure]; rfl
          | false => obtain ⟨t, m, hm⟩ := h2 rfl; rw [show a.eval x = _ from hm]; simp only [gi, Result.andThen_ok, run_neq_held_nil w xt t m (ifc hq), Sem.run_pure]; rfl
        · cases h
      · split at h
        · rename_i hq; cases h
          refine .pure (fun C j a w hr => ⟨.bool b, ?_, .p (.v rfl)⟩) hK
          unfold execOp; rw [ho]
          simp only [show ∀ c : Value, a.eval (.const c) = c from fun _ => rfl, Sem.run_bind]
          obtain ⟨h1, h2⟩ := (rel hr).2 rfl
          cases b with
          | true => rw [show a.eval x = _ from h1 rfl]; simp only [gp, Result.andThen_ok, run_eql_pointer_nil w xt none (ptr hq), Sem.run_pure]; rfl
          | false => obtain ⟨q, hm⟩ := h2 rfl; rw [show a.eval x = _ from hm]; simp only [gp, Result.andThen_ok, run_eql_pointer_nil w xt (some q) (ptr hq), Sem.run_pure]; rfl
        · cases h
      · split at h
        · rename_i hq; cases h
          refine .pure (fun C j a w hr => ⟨.bool !b, ?_, .p (.v rfl)⟩) hK
          unfold execOp; rw [ho]
          simp only [show ∀ c : Value, a.eval (.const c) = c from fun _ => rfl, Sem.run_bind]
          obtain ⟨h1, h2⟩ := (rel hr).2 rfl
          cases b with
          | true => rw [show a.eval x = _ from h1 rfl]; simp only [gp, Result.andThen_ok, run_neq_pointer_nil w xt none (ptr hq), Sem.run_pure]; rfl
          | false => obtain ⟨q, hm⟩ := h2 rfl; rw [show a.eval x = _ from hm]; simp only [gp, Result.andThen_ok, run_neq_pointer_nil w xt (some q) (ptr hq), Sem.run_pure]; rfl
        · cases h
      · cases h
    · cases h
  · cases h
end
end Go.Gp

namespace Go.Gp
open Go.RowKit
def sameK : Value → Value → Bool
  | .int k _, .int k' _ => decide (k = k')
  | .bool _, .bool _ => true
  | .string _, .string _ => true
  | _, _ => false
def sameKs : List Value → List Value → Bool
  | [], [] => true
  | a :: l, b :: m => sameK a b && sameKs l m
  | _, _ => false
def valEq : Value → Value → Bool
  | .int _ a, .int _ b => decide (a = b)
  | .bool a, .bool b => a == b
  | .string a, .string b => strEq a b
  | _, _ => false
def valsEq : List Value → List Value → Bool
  | a :: l, b :: m => valEq a b && valsEq l m
  | _, _ => true

def contigF : List (Nat × TypeId × Nat) → Nat → Nat → Bool
  | [], o, n => o == n
  | (off, _, s) :: r, o, n => off == o && contigF r (o + s) n
def eqOk (P : Program) : Nat → TypeId → Bool
  | 0, _ => false
  | d + 1, t =>
    match tiOf P t with
    | some i =>
      match i.d with
      | .bool => (match i.zero with | [.bool _] => true | _ => false)
      | .int _ => (match i.zero with | [.int _ _] => true | _ => false)
      | .str => (match i.zero with | [.string _] => true | _ => false)
      | .struct fs => !P.stoodInHeld t && (P.fieldsOf t).toList.all (fun f => f.name != "_") && contigF fs 0 i.size &&
          fs.all fun (o, ft, s) => eqOk P d ft && (match tiOf P ft with | some fi => fi.size == s && sameKs fi.zero ((i.zero.drop o).take s) | none => false)
      | .array n e => eqOk P d e && (match tiOf P e with | some ei => i.size == n * ei.size && (List.range n).all fun k => sameKs ei.zero ((i.zero.drop (k * ei.size)).take ei.size) | none => false)
      | _ => false
    | none => false

def eqA (P : Program) (t : TypeId) : Bool := eqOk P 30 t && !P.eqGuardType P.depth t

theorem sameKs_len : ∀ {a b : List Value}, sameKs a b = true → a.length = b.length
  | [], [], _ => rfl
  | a :: l, b :: m, h => by simp only [sameKs, Bool.and_eq_true] at h; simp [sameKs_len h.2]
  | [], _ :: _, h => by simp [sameKs] at h
  | _ :: _, [], h => by simp [sameKs] at h
theorem sameKs_drop : ∀ {a b : List Value} (n : Nat), sameKs a b = true → sameKs (a.drop n) (b.drop n) = true
  | _, _, 0, h => h
  | [], [], _ + 1, _ => rfl
  | a :: l, b :: m, n + 1, h => by simp only [sameKs, Bool.and_eq_true] at h; exact sameKs_drop n h.2
  | [], _ :: _, _ + 1, h => by simp [sameKs] at h
  | _ :: _, [], _ + 1, h => by simp [sameKs] at h
theorem sameKs_take : ∀ {a b : List Value} (n : Nat), sameKs a b = true → sameKs (a.take n) (b.take n) = true
  | _, _, 0, _ => rfl
  | [], [], _ + 1, _ => rfl
  | a :: l, b :: m, n + 1, h => by
    simp only [sameKs, Bool.and_eq_true] at h
    simp only [List.take_succ_cons, sameKs, Bool.and_eq_true]
    exact ⟨h.1, sameKs_take n h.2⟩
  | [], _ :: _, _ + 1, h => by simp [sameKs] at h
  | _ :: _, [], _ + 1, h => by simp [sameKs] at h
theorem sameK_trans {a b c : Value} (h : sameK a b = true) (k : sameK b c = true) : sameK a c = true := by
  cases a <;> cases b <;> simp [sameK] at h <;> cases c <;> simp [sameK] at k ⊢
  exact h.trans k
theorem sameKs_trans : ∀ {a b c : List Value}, sameKs a b = true → sameKs b c = true → sameKs a c = true
  | [], [], [], _, _ => rfl
  | a :: l, b :: m, c :: n, h, k => by
    simp only [sameKs, Bool.and_eq_true] at h k ⊢
    exact ⟨sameK_trans h.1 k.1, sameKs_trans h.2 k.2⟩
  | [], _ :: _, _, h, _ => by simp [sameKs] at h
  | _ :: _, [], _, h, _ => by simp [sameKs] at h
  | [], [], _ :: _, _, k => by simp [sameKs] at k
  | _ :: _, _ :: _, [], _, k => by simp [sameKs] at k
theorem valsEq_split (n : Nat) : ∀ (a b : List Value), a.length = b.length → valsEq a b = (valsEq (a.take n) (b.take n) && valsEq (a.drop n) (b.drop n)) := by
  induction n with
  | zero => intro a b _; simp [valsEq]
  | succ n ih =>
    intro a b h
    cases a with
    | nil => cases b with
      | nil => simp [valsEq]
      | cons => simp at h
    | cons x l => cases b with
      | nil => simp at h
      | cons y m =>
        simp only [List.take_succ_cons, List.drop_succ_cons, valsEq]
        rw [ih l m (by simpa using h), Bool.and_assoc]

def valOf (i : TI) (xs : Array Value) : Value := if i.agg then .agg xs else xs.getD 0 undef

section
variable {P : Program}
theorem run_part_ti {t : TypeId} {i : TI} (hi : tiOf P t = some i) (w : World) (xs : Array Value) (o : Nat) (hs : o + i.size ≤ xs.size) (h1 : i.agg = false → i.size = 1) :
    (part t xs o).run P w = .ok (valOf i (xs.extract o (o + i.size))) w := by
  obtain ⟨info, d, z, ht⟩ := tiOf_some hi
  simp only [part, Sem.run_bind, ht.run_isAgg, Result.andThen_ok, valOf]
  cases hA : i.agg with
  | true => simp only [if_true, Sem.run_bind, ht.run_size, Result.andThen_ok, Sem.run_pure]
  | false =>
    have h1 := h1 hA
    simp only [Bool.false_eq_true, if_false]
    rw [Array.getElem?_eq_getElem (by omega)]
    simp only [Sem.run_pure]
    congr 1
    rw [h1]
    simp [Array.getD, show o < xs.size by omega]
    intro h; omega

theorem toList_extract' (xs : Array Value) (o n : Nat) : (xs.extract o (o + n)).toList = (xs.toList.drop o).take n := by
  simp [Array.toList_extract, List.extract]

theorem eq_one {D : Nat} {t : TypeId} {d : TypeDesc} (w : World) (x y : Value) (hu : P.underlying t = some d) (hd : d = .bool ∨ (∃ k, d = .int k) ∨ d = .string)
    (h : (d = .bool ∧ (∃ a b, x = .bool a ∧ y = .bool b)) ∨ ((∃ k, d = .int k) ∧ ∃ k a b, x = .int k a ∧ y = .int k b) ∨ (d = .string ∧ ∃ a b, x = .string a ∧ y = .string b)) :
    (Op.equalIn (D + 1) t x y).run P w = .ok (valEq x y) w := by
  rcases h with ⟨rfl, a, b, rfl, rfl⟩ | ⟨⟨k', rfl⟩, k, a, b, rfl, rfl⟩ | ⟨rfl, a, b, rfl, rfl⟩
  · rw [run_equalIn_bool' w D t a b hu]; rfl
  · rw [run_equalIn_int w D t k k' a b hu]; rfl
  · rw [run_equalIn_string w D t a b hu]
    simp [valEq, strEq]

theorem one_of {z x : Value} {xs : Array Value} (h : sameKs [z] xs.toList = true) (hx : xs.getD 0 undef = x) : sameK z x = true ∧ xs.toList = [x] := by
  have hl := sameKs_len h
  obtain ⟨l⟩ := xs
  match l, hl with
  | [y], _ =>
    simp only [sameKs, Bool.and_true] at h
    have : y = x := by simpa using hx
    subst this
    exact ⟨h, rfl⟩

theorem run_equalIn_flat : ∀ (d : Nat) (t : TypeId) (i : TI), eqOk P d t = true → tiOf P t = some i → ∀ (D : Nat) (w : World) (xs ys : Array Value), d ≤ D → sameKs i.zero xs.toList = true → sameKs i.zero ys.toList = true →
    (Op.equalIn D t (valOf i xs) (valOf i ys)).run P w = .ok (valsEq xs.toList ys.toList) w
  | 0, t, i, h, _, _, _, _, _, _, _, _ => by simp [eqOk] at h
  | d + 1, t, i, h, hi, 0, w, xs, ys, hD, _, _ => by omega
  | d + 1, t, i, h, hi, D + 1, w, xs, ys, hD, hxs, hys => by
    obtain ⟨info, dd, z, ht⟩ := tiOf_some hi
    have htd := ht.td
    have hux := sameKs_len hxs
    have huy := sameKs_len hys
    have hzs := ht.zs
    simp only [eqOk, hi] at h
    split at h
    · rename_i hd
      rw [hd] at htd
      cases dd <;> simp only [tdOf] at htd <;> try cases htd
      split at h
      · rename_i b hz
        rw [hz] at hxs hys
        obtain ⟨a1, a2⟩ := one_of hxs rfl
        obtain ⟨b1, b2⟩ := one_of hys rfl
        have hA : i.agg = false := by simp [TI.agg, hd, TD.agg]
        simp only [valOf, hA, Bool.false_eq_true, if_false]
        generalize xs.getD 0 undef = x at a1 a2 ⊢
        generalize ys.getD 0 undef = y at b1 b2 ⊢
        rw [a2, b2]
        simp only [valsEq, Bool.and_true]
        refine eq_one w x y ht.und (.inl rfl) (.inl ⟨rfl, ?_⟩)
        cases x <;> simp [sameK] at a1
        cases y <;> simp [sameK] at b1
        exact ⟨_, _, rfl, rfl⟩
      · cases h
    · rename_i k hd
      rw [hd] at htd
      cases dd <;> simp only [tdOf] at htd <;> try cases htd
      split at h
      · rename_i k' b hz
        rw [hz] at hxs hys
        obtain ⟨a1, a2⟩ := one_of hxs rfl
        obtain ⟨b1, b2⟩ := one_of hys rfl
        have hA : i.agg = false := by simp [TI.agg, hd, TD.agg]
        simp only [valOf, hA, Bool.false_eq_true, if_false]
        generalize xs.getD 0 undef = x at a1 a2 ⊢
        generalize ys.getD 0 undef = y at b1 b2 ⊢
        rw [a2, b2]
        simp only [valsEq, Bool.and_true]
        refine eq_one w x y ht.und (.inr (.inl ⟨_, rfl⟩)) (.inr (.inl ⟨⟨_, rfl⟩, ?_⟩))
        cases x <;> simp [sameK] at a1
        cases y <;> simp [sameK] at b1
        subst a1 b1
        exact ⟨_, _, _, rfl, rfl⟩
      · cases h
    · rename_i hd
      rw [hd] at htd
      cases dd <;> simp only [tdOf] at htd <;> try cases htd
      split at h
      · rename_i b hz
        rw [hz] at hxs hys
        obtain ⟨a1, a2⟩ := one_of hxs rfl
        obtain ⟨b1, b2⟩ := one_of hys rfl
        have hA : i.agg = false := by simp [TI.agg, hd, TD.agg]
        simp only [valOf, hA, Bool.false_eq_true, if_false]
        generalize xs.getD 0 undef = x at a1 a2 ⊢
        generalize ys.getD 0 undef = y at b1 b2 ⊢
        rw [a2, b2]
        simp only [valsEq, Bool.and_true]
        refine eq_one w x y ht.und (.inr (.inr rfl)) (.inr (.inr ⟨rfl, ?_⟩))
        cases x <;> simp [sameK] at a1
        cases y <;> simp [sameK] at b1
        exact ⟨_, _, rfl, rfl⟩
      · cases h
    · rename_i fs hd
      rw [hd] at htd
      cases dd <;> simp only [tdOf] at htd <;> try cases htd
      rename_i fa
      simp only [Bool.and_eq_true, Bool.not_eq_true'] at h
      obtain ⟨⟨⟨hst, hnm⟩, hcg⟩, hall⟩ := h
      have hA : i.agg = true := by simp [TI.agg, hd, TD.agg]
      simp only [valOf, hA, if_true]
      have hfo : P.fieldsOf t = fa := by simp [Program.fieldsOf, ht.und]
      rw [run_equalIn_struct w D t xs ys (by rw [hfo]; exact ht.und) hst, hfo]
      rw [hfo] at hnm
      have hsz : i.size = xs.toList.length := by rw [← hux, hzs]
      have hsz' : i.size = ys.toList.length := by rw [← huy, hzs]
      have key : ∀ (l : List Field) (o : Nat), contigF (l.map fun f => (f.offset, f.type, P.cellsOf f.type)) o i.size = true → (∀ f ∈ l, f.name ≠ "_") →
          (∀ f ∈ l, eqOk P d f.type = true ∧ ∃ fi, tiOf P f.type = some fi ∧ fi.size = P.cellsOf f.type ∧ sameKs fi.zero ((i.zero.drop f.offset).take (P.cellsOf f.type)) = true) → o ≤ i.size →
          (Op.eqFields D xs ys l).run P w = .ok (valsEq (xs.toList.drop o) (ys.toList.drop o)) w := by
        intro l
        induction l with
        | nil =>
          intro o hc _ _ _
          simp only [List.map_nil, contigF, beq_iff_eq] at hc
          rw [List.drop_of_length_le (by omega), List.drop_of_length_le (by omega)]
          simp [Op.eqFields, valsEq]
        | cons f l ih =>
          intro o hc hn ha ho
          simp only [List.map_cons, contigF, Bool.and_eq_true, beq_iff_eq] at hc
          obtain ⟨hoff, hc⟩ := hc
          obtain ⟨hek, fi, hfi, hfs, hfk⟩ := ha f List.mem_cons_self
          have hle : o + P.cellsOf f.type ≤ i.size := by
            have : ∀ (l : List (Nat × TypeId × Nat)) (o n : Nat), contigF l o n = true → o ≤ n := by
              intro l
              induction l with
              | nil => intro o n h; simp only [contigF, beq_iff_eq] at h; omega
              | cons p l ih => obtain ⟨a, b, c⟩ := p; intro o n h; simp only [contigF, Bool.and_eq_true] at h; have := ih _ _ h.2; omega
            exact this _ _ _ hc
          have hfz : fi.size = P.cellsOf f.type := hfs
          obtain ⟨info', d', z', ht'⟩ := tiOf_some hfi
          have hf1 : fi.agg = false → fi.size = 1 := by
            intro hA'
            have h1 := ht'.zs
            have : eqOk P d f.type = true := hek
            cases d with
            | zero => simp [eqOk] at this
            | succ d =>
              simp only [eqOk, hfi] at this
              simp only [TI.agg] at hA'
              split at this <;> try (first | (rename_i e; rw [e] at hA'; simp [TD.agg] at hA'; done))
              · split at this
                · rename_i hz; rw [hz] at h1; simpa using h1.symm
                · cases this
              · split at this
                · rename_i hz; rw [hz] at h1; simpa using h1.symm
                · cases this
              · split at this
                · rename_i hz; rw [hz] at h1; simpa using h1.symm
                · cases this
              · cases this
          simp only [Op.eqFields, hn f List.mem_cons_self, ne_eq, not_false_eq_true, if_true, Sem.run_bind]
          rw [hoff, run_part_ti hfi w xs o (by rw [hfz]; simpa [hsz] using hle) hf1]
          simp only [Result.andThen_ok]
          rw [run_part_ti hfi w ys o (by rw [hfz]; simpa [hsz'] using hle) hf1]
          simp only [Result.andThen_ok]
          have hk : ∀ {us : Array Value}, sameKs i.zero us.toList = true → sameKs fi.zero (us.extract o (o + fi.size)).toList = true := fun {us} hus => by
            rw [toList_extract', hfz]
            refine sameKs_trans hfk ?_
            rw [hoff]
            exact sameKs_take _ (sameKs_drop _ hus)
          rw [run_equalIn_flat d f.type fi hek hfi D w _ _ (by omega) (hk hxs) (hk hys)]
          simp only [Result.andThen_ok]
          rw [toList_extract', toList_extract', hfz]
          have hsp := valsEq_split (P.cellsOf f.type) (xs.toList.drop o) (ys.toList.drop o) (by rw [List.length_drop, List.length_drop]; omega)
          rw [List.drop_drop, List.drop_drop] at hsp
          cases hb : valsEq ((xs.toList.drop o).take (P.cellsOf f.type)) ((ys.toList.drop o).take (P.cellsOf f.type)) with
          | false =>
            rw [hb] at hsp
            simp only [Bool.not_false, if_true, Sem.run_pure]
            rw [hsp]; rfl
          | true =>
            rw [hb] at hsp
            simp only [Bool.not_true, Bool.false_eq_true, if_false]
            rw [ih (o + P.cellsOf f.type) hc (fun f' hf' => hn f' (List.mem_cons_of_mem _ hf')) (fun f' hf' => ha f' (List.mem_cons_of_mem _ hf')) hle, hsp]
            rfl
      have := key fa.toList 0 hcg (fun f hf => by simpa using List.all_eq_true.1 hnm f hf) (fun f hf => by
        have h1 := List.all_eq_true.1 hall (f.offset, f.type, P.cellsOf f.type) (List.mem_map.2 ⟨f, hf, rfl⟩)
        simp only [Bool.and_eq_true] at h1
        obtain ⟨h2, h3⟩ := h1
        refine ⟨h2, ?_⟩
        split at h3
        · rename_i fi hfi
          simp only [Bool.and_eq_true, beq_iff_eq] at h3
          exact ⟨fi, hfi, h3.1, h3.2⟩
        · cases h3) (Nat.zero_le _)
      simpa using this
    · rename_i n e hd
      rw [hd] at htd
      cases dd <;> simp only [tdOf] at htd <;> try cases htd
      simp only [Bool.and_eq_true] at h
      obtain ⟨hek, h⟩ := h
      split at h
      case h_2 => cases h
      rename_i ei hei
      simp only [Bool.and_eq_true, beq_iff_eq] at h
      obtain ⟨hsz0, hall⟩ := h
      obtain ⟨info', d', z', ht'⟩ := tiOf_some hei
      have hA : i.agg = true := by simp [TI.agg, hd, TD.agg]
      have hsz : i.size = xs.toList.length := by rw [← hux, hzs]
      have hsz' : i.size = ys.toList.length := by rw [← huy, hzs]
      have hf1 : ei.agg = false → ei.size = 1 := by
        intro hA'
        have h1 := ht'.zs
        have : eqOk P d e = true := hek
        cases d with
        | zero => simp [eqOk] at this
        | succ d =>
          simp only [eqOk, hei] at this
          simp only [TI.agg] at hA'
          split at this <;> try (first | (rename_i e; rw [e] at hA'; simp [TD.agg] at hA'; done))
          · split at this
            · rename_i hz; rw [hz] at h1; simpa using h1.symm
            · cases this
          · split at this
            · rename_i hz; rw [hz] at h1; simpa using h1.symm
            · cases this
          · split at this
            · rename_i hz; rw [hz] at h1; simpa using h1.symm
            · cases this
          · cases this
      simp only [valOf, hA, if_true]
      simp only [Op.equalIn, Sem.run_bind, ht.run_und, Result.andThen_ok, ht'.run_size]
      rw [Std.Legacy.Range.forIn_eq_forIn_range']
      simp only [Std.Legacy.Range.size, Nat.sub_zero, Nat.add_sub_cancel, Nat.div_one]
      have key : ∀ (m a : Nat), a + m = n → (do
          let r ← forIn (List.range' a m 1) ((none : Option Bool), ()) fun k r => do
            let x ← part e xs (k * ei.size)
            let y ← part e ys (k * ei.size)
            let b ← Op.equalIn D e x y
            if (!b) = true then pure (ForInStep.done (some false, ())) else pure (ForInStep.yield (none, ()))
          match r.1 with
          | some b => pure b
          | none => pure true : Sem Bool).run P w = .ok (valsEq (xs.toList.drop (a * ei.size)) (ys.toList.drop (a * ei.size))) w := by
        intro m
        induction m with
        | zero =>
          intro a ha
          have : a = n := by omega
          subst this
          rw [List.drop_of_length_le (by omega), List.drop_of_length_le (by omega)]
          simp [valsEq]
        | succ m ih =>
          intro a ha
          have hle : a * ei.size + ei.size ≤ i.size := by
            rw [hsz0, ← Nat.succ_mul]; exact Nat.mul_le_mul_right _ (by omega)
          have hk0 := List.all_eq_true.1 hall a (by simp; omega)
          have hk : ∀ {us : Array Value}, sameKs i.zero us.toList = true → sameKs ei.zero (us.extract (a * ei.size) (a * ei.size + ei.size)).toList = true := fun {us} hus => by
            rw [toList_extract']
            exact sameKs_trans hk0 (sameKs_take _ (sameKs_drop _ hus))
          rw [List.range'_succ, List.forIn_cons]
          simp only [Sem.run_bind]
          rw [run_part_ti hei w xs _ (by simpa [hsz] using hle) hf1]
          simp only [Result.andThen_ok]
          rw [run_part_ti hei w ys _ (by simpa [hsz'] using hle) hf1]
          simp only [Result.andThen_ok]
          rw [run_equalIn_flat d e ei hek hei D w _ _ (by omega) (hk hxs) (hk hys)]
          simp only [Result.andThen_ok]
          rw [toList_extract', toList_extract']
          have hsp := valsEq_split ei.size (xs.toList.drop (a * ei.size)) (ys.toList.drop (a * ei.size)) (by rw [List.length_drop, List.length_drop]; omega)
          rw [List.drop_drop, List.drop_drop] at hsp
          have e2 : a * ei.size + ei.size = (a + 1) * ei.size := by rw [Nat.succ_mul]
          rw [e2] at hsp
          cases hb : valsEq ((xs.toList.drop (a * ei.size)).take ei.size) ((ys.toList.drop (a * ei.size)).take ei.size) with
          | false =>
            rw [hb] at hsp
            simp only [Bool.not_false, if_true, Sem.run_pure, Result.andThen_ok]
            rw [hsp]; rfl
          | true =>
            rw [hb] at hsp
            simp only [Bool.not_true, Bool.false_eq_true, if_false, Sem.run_pure, Result.andThen_ok]
            have := ih (a + 1) (by omega)
            simp only [Sem.run_bind] at this
            rw [this, hsp]
            rfl
      have h0 := key n 0 (by omega)
      simp only [Nat.zero_mul, List.drop_zero] at h0
      rw [Sem.run_bind] at h0
      refine Eq.trans ?_ h0
      congr 1
      funext a w'
      rcases a with ⟨_ | _, _⟩ <;> rfl
    · cases h

def pvEq : PV → PV → Bool
  | .v a, .v b => valEq a b
  | _, _ => false
def pvsEq : List PV → List PV → Bool
  | a :: l, b :: m => pvEq a b && pvsEq l m
  | _, _ => true
def fitK : Value → PV → Bool
  | z, .v x => sameK z x
  | _, _ => false
def fitKs : List Value → List PV → Bool
  | [], [] => true
  | z :: r, c :: s => fitK z c && fitKs r s
  | _, _ => false

theorem fitKs_vals {w : World} {ok : Nat → Prop} : ∀ {zs : List Value} {cs : List PV} {ms : List Value}, fitKs zs cs = true → ms.length = cs.length → (∀ (i : Nat) c, cs[i]? = some c → PR w ok c (ms.getD i undef)) → sameKs zs ms = true ∧ cs = ms.map .v
  | [], [], ms, _, hl, _ => by
    have : ms = [] := List.eq_nil_of_length_eq_zero hl
    subst this; exact ⟨rfl, rfl⟩
  | z :: r, c :: s, ms, h, hl, hr => by
    simp only [fitKs, Bool.and_eq_true] at h
    match ms, hl with
    | m :: ms, hl =>
      have h0 := hr 0 c rfl
      simp only [List.getD_cons_zero] at h0
      obtain ⟨x, rfl, hx⟩ : ∃ x, c = .v x ∧ sameK z x = true := by
        have h' := h.1
        cases c <;> simp only [fitK] at h' <;> first | exact ⟨_, rfl, h'⟩ | cases h'
      have : m = x := by cases h0; rfl
      subst this
      obtain ⟨h1, h2⟩ := fitKs_vals (cs := s) (ms := ms) h.2 (by simpa using hl) (fun i c hi => by simpa using hr (i + 1) c (by simpa using hi))
      exact ⟨by simp [sameKs, hx, h1], by rw [h2]; rfl⟩
  | [], _ :: _, _, h, _, _ => by simp [fitKs] at h
  | _ :: _, [], _, h, _, _ => by simp [fitKs] at h
theorem pvsEq_vals : ∀ (a b : List Value), pvsEq (a.map .v) (b.map .v) = valsEq a b
  | [], _ => by simp [pvsEq, valsEq]
  | _ :: _, [] => by simp [pvsEq, valsEq]
  | x :: l, y :: m => by simp [pvsEq, valsEq, pvEq, pvsEq_vals l m]

section
variable {WG : World} {σ : St} {op : Oper} {K : V → Tab → Nat → Prop}
theorem op_eq_agg {bo : BinOp} {xt yt : TypeId} {x y : Operand} {i : TI} {cs ds : List PV} (ho : op.op = .binOp bo xt x y yt) (hb : bo = .eql ∨ bo = .neq) (hi : tiOf P xt = some i) (hA : i.agg = true) (he : eqA P xt = true)
    (hx : ev σ x = some (.p (.agg cs))) (hy : ev σ y = some (.p (.agg ds))) (h1 : fitKs i.zero cs = true) (h2 : fitKs i.zero ds = true)
    (hk : K (.p (.v (.bool (if bo = .eql then pvsEq cs ds else !pvsEq cs ds)))) σ.tab σ.nx) : OpS P WG op σ K := by
  refine .pure (fun C j a w hr => ?_) hk
  simp only [eqA, Bool.and_eq_true, Bool.not_eq_true'] at he
  have hvx := hr.ev hx
  have hvy := hr.ev hy
  generalize hmx : a.eval x = mx at hvx
  generalize hmy : a.eval y = my at hvy
  cases hvx with
  | p hpx =>
    cases hvy with
    | p hpy =>
      cases hpx with
      | @agg cs ms hlen hone hrel =>
        cases hpy with
        | @agg ds ns hlen' hone' hrel' =>
          obtain ⟨a1, a2⟩ := fitKs_vals (ms := ms.toList) h1 (by simpa using hlen) (fun k c hc => by have := hrel k c hc; simpa [Array.getD_eq_getD_getElem?, List.getD] using this)
          obtain ⟨b1, b2⟩ := fitKs_vals (ms := ns.toList) h2 (by simpa using hlen') (fun k c hc => by have := hrel' k c hc; simpa [Array.getD_eq_getD_getElem?, List.getD] using this)
          have hrun := run_equalIn_flat (P := P) 30 xt i he.1 hi 10000 w ms ns (by omega) a1 b1
          simp only [valOf, hA, if_true] at hrun
          refine ⟨.bool (if bo = .eql then pvsEq cs ds else !pvsEq cs ds), ?_, .p (.v rfl)⟩
          rw [a2, b2, pvsEq_vals]
          unfold execOp; rw [ho]
          simp only [hmx, hmy]
          rcases hb with rfl | rfl
          · have := run_eqGuard_agg (P := P) w .eql xt x y ms ns he.2
            simp only [Sem.run_bind, this, Result.andThen_ok, run_eql_struct, hrun, Sem.run_pure, if_true]
          · have := run_eqGuard_agg (P := P) w .neq xt x y ms ns he.2
            simp only [Sem.run_bind, this, Result.andThen_ok, run_neq_struct, hrun, Sem.run_pure]
            simp

theorem op_copy_box {c : Call} {t tx : TypeId} {x y : Operand} {i ei : TI} {e : TypeId} {b o len cap : Nat} {cs : List V} {u : V} {ys : List PV} {side : Prop} (ho : op.op = .call c) (hc : c = { callee := .builtin .copy, args := #[x, y], argTypes := #[t, tx] })
    (hi : tiOf P t = some i) (hd : i.d = .slice e) (hei : tiOf P e = some ei) (hx : ev σ x = some (.bsl b o ei.size len cap)) (hb : aget σ.tab b = some (.box cs)) (hy : ev σ y = some u) (hsrc : srcV σ.tab ei.agg ei.size u = some (ys, side)) (hs : side) (hns : ∀ t, u ≠ .p (.v (.string t)))
    (hfit : o + len * ei.size ≤ cs.length)
    (hk : K (.p (.v (.int .i64 (min ys.length len : Nat)))) (aset σ.tab b (.box (putL cs o (((ys.take len).flatMap PV.cells).map V.p)))) σ.nx) : OpS P WG op σ K := by
  intro C j a w hr
  subst hc
  obtain ⟨info, d, z, ht⟩ := tiOf_some hi
  obtain ⟨info', d', z', ht'⟩ := tiOf_some hei
  have htd := ht.td; rw [hd] at htd
  cases d <;> simp only [tdOf] at htd <;> try cases htd
  obtain ⟨l, ms, tt, fr, hl, hh, hfr, hms, hone, hrel⟩ := hr.mem.blk b _ hb
  have hvx := hr.ev hx
  obtain ⟨q, hmx, hq⟩ : ∃ base : Option Addr, a.eval x = .slice base len cap ∧ (len = 0 ∨ base = some ⟨l.blk, l.off + o, none⟩) := by
    generalize a.eval x = mx at hvx
    cases hvx with
    | bsl hbn hl' hq hle => rw [hl] at hl'; cases hl'; subst hq; exact ⟨_, rfl, .inr rfl⟩
    | bslEnd => exact ⟨_, rfl, .inl rfl⟩
  rcases src_rel hr hy hsrc hs with ⟨sb, c, n, hm, rfl, news, hnl, hel, hcell⟩ | ⟨s', hm, _, _⟩
  case inr =>
    exfalso
    have hv := hr.ev hy
    rw [hm] at hv
    cases hv with
    | p hp => cases hp; exact hns _ rfl
    | cnd h1 h0 => simp [srcV] at hsrc
  have hyl : (ys.take len).length = min ys.length len := by rw [List.length_take]; omega

  obtain ⟨cells, hcl, hcr, hcf, hc1⟩ : ∃ cells : List Value, cells.length = (min ys.length len) * ei.size ∧ (∀ (k : Nat) y, ((ys.take len).flatMap PV.cells)[k]? = some y → y.one = true ∧ PR w (okc C (Own j σ.tab) w) y (cells.getD k undef)) ∧
      (Builtin.firstCells ei.size (min ys.length len) (.slice sb ys.length c)).run P w = .ok cells.toArray w ∧ ∀ u ∈ cells, u.oneCell' = true := by
    have hle : (min ys.length len) * ei.size ≤ ys.length * ei.size := Nat.mul_le_mul_right _ (Nat.min_le_left _ _)
    refine ⟨news.take ((min ys.length len) * ei.size), by rw [List.length_take, hnl]; omega, ?_, ?_, ?_⟩
    · -- the elements' cells, one after the other
      have key : ∀ (zs : List PV) (f : Nat → Value), ElR w (okc C (Own j σ.tab) w) ei.size zs f → ∀ (k : Nat) y, (zs.flatMap PV.cells)[k]? = some y → y.one = true ∧ PR w (okc C (Own j σ.tab) w) y (f k) := by
        intro zs
        induction zs with
        | nil => intro f h k y hk; simp at hk
        | cons z zs ih =>
          intro f h k y hk
          have hz := h.len 0 z rfl
          simp only [List.flatMap_cons] at hk
          rw [List.getElem?_append] at hk
          split at hk
          · have := h.rel 0 k z y rfl hk
            simpa using this
          · rename_i hge
            have h' : ElR w (okc C (Own j σ.tab) w) ei.size zs (fun k => f (ei.size + k)) := ⟨fun i x hx => h.len (i + 1) x hx, fun i k x y hx hy => by
              have := h.rel (i + 1) k x y hx hy
              rw [Nat.succ_mul] at this
              rw [show ei.size + (i * ei.size + k) = i * ei.size + ei.size + k by omega]; exact this⟩
            have := ih _ h' _ y hk
            rw [hz] at this hge
            rwa [show ei.size + (k - ei.size) = k by omega] at this
      intro k y hk
      have hsub : ElR w (okc C (Own j σ.tab) w) ei.size (ys.take len) (news.getD · undef) := by
        have := hel.sub 0 len
        simpa using this
      obtain ⟨h1, h2⟩ := key _ _ hsub k y hk
      refine ⟨h1, ?_⟩
      have hklt : k < (min ys.length len) * ei.size := by
        have hlen : ((ys.take len).flatMap PV.cells).length = (ys.take len).length * ei.size := by
          have : ∀ (zs : List PV), (∀ z ∈ zs, z.cells.length = ei.size) → (zs.flatMap PV.cells).length = zs.length * ei.size := by
            intro zs
            induction zs with
            | nil => intro _; simp
            | cons z zs ih => intro h; simp only [List.flatMap_cons, List.length_append, List.length_cons]; rw [ih (fun z hz => h z (List.mem_cons_of_mem _ hz)), h z List.mem_cons_self, Nat.succ_mul]; omega
          refine this _ (fun z hz => ?_)
          obtain ⟨i, hi⟩ := List.mem_iff_getElem?.1 hz
          exact hsub.len i z hi
        rw [← hyl, ← hlen]; exact (List.getElem?_eq_some_iff.1 hk).1
      have : (news.take ((min ys.length len) * ei.size)).getD k undef = news.getD k undef := by
        simp only [List.getD]; rw [List.getElem?_take, if_pos hklt]
      rw [this]; exact h2
    · rcases hcell with h0 | ⟨B, rfl, hcell⟩
      · have hn0 : news = [] := List.eq_nil_of_length_eq_zero (by rw [hnl, h0]; simp)
        subst hn0
        rw [h0]
        cases sb <;> simp [Builtin.firstCells, loadCells, loadCellsFrom]
      · simp only [Builtin.firstCells]
        have := run_loadCells_list (P := P) w B (news.take ((min ys.length len) * ei.size)) (fun j u hj => hcell j u (by rw [List.getElem?_take] at hj; split at hj; exact hj; cases hj))
        rw [List.length_take, hnl, Nat.min_eq_left hle] at this
        exact this
    · intro u hu; exact hel.one hnl u (List.mem_of_mem_take hu)
  have hzl : ((ys.take len).flatMap PV.cells).length = cells.length := by
    have hsub : ElR w (okc C (Own j σ.tab) w) ei.size (ys.take len) (news.getD · undef) := by
      have := hel.sub 0 len
      simpa using this
    have : ∀ (zs : List PV), (∀ z ∈ zs, z.cells.length = ei.size) → (zs.flatMap PV.cells).length = zs.length * ei.size := by
      intro zs
      induction zs with
      | nil => intro _; simp
      | cons z zs ih => intro h; simp only [List.flatMap_cons, List.length_append, List.length_cons]; rw [ih (fun z hz => h z (List.mem_cons_of_mem _ hz)), h z List.mem_cons_self, Nat.succ_mul]; omega
    rw [this _ (fun z hz => by obtain ⟨i, hi⟩ := List.mem_iff_getElem?.1 hz; exact hsub.len i z hi), hyl, hcl]
  have hle2 : cells.length ≤ len * ei.size := by rw [hcl]; exact Nat.mul_le_mul_right _ (Nat.min_le_right _ _)
  obtain ⟨w', hrun, htu, hh'⟩ := run_storeCells_row (P := P) l.blk (l.off + o) tt fr cells 0 ms w hh hfr (by omega) hc1
  have hblk : (∀ k, okc C (Own j σ.tab) w k → w'.heap[k]? = w.heap[k]?) → BlkR w' (okc C (Own j σ.tab) w) j σ.nx b (.box (putL cs o (((ys.take len).flatMap PV.cells).map V.p))) := by
    intro hok
    refine ⟨l, _, tt, fr, hl, hh', ?_, ?_, ?_, ?_⟩
    · rw [updCells_size]; exact hfr
    · rw [updCells_size, putL_length]; exact hms
    · intro k c hc
      rw [putL_get _ _ _ _ (by rw [List.length_map]; omega)] at hc
      split at hc
      · simp only [List.getElem?_map] at hc
        obtain ⟨y', hy', rfl⟩ := Option.map_eq_some_iff.1 hc
        exact (hcr _ _ hy').1
      · exact hone _ _ hc
    · intro k c hc
      rw [putL_get _ _ _ _ (by rw [List.length_map]; omega)] at hc
      rw [updCells_getD _ _ _ _ (by omega)]
      split at hc
      · rename_i hin
        rw [List.length_map] at hin
        rw [if_pos (by omega)]
        have e1 : l.off + k - (l.off + o + 0) = k - o := by omega
        rw [e1]
        simp only [List.getElem?_map] at hc
        obtain ⟨y', hy', rfl⟩ := Option.map_eq_some_iff.1 hc
        exact .p ((hcr _ _ hy').2.mono (fun k hk => ⟨hk, hok k hk⟩))
      · rename_i hout
        rw [List.length_map] at hout
        rw [if_neg (by omega)]
        exact (hrel _ _ hc).mono (fun k hk => ⟨hk, hok k hk⟩) (fun b hb => ⟨rfl, hb⟩)
  obtain ⟨hm', hkeep⟩ := hr.mem.turn hb hl _ htu.size htu.other htu.os htu.tape htu.output hblk
  refine ⟨.int .i64 (min ys.length len : Nat), w', _, j, _, _, ?_, ⟨hm', hr.lx, fun x m hv => hv.mono hkeep (fun b hb => ⟨rfl, hb⟩), hkeep⟩, .p (.v rfl), hk⟩
  have hcopy : (Builtin.copy_ #[t, tx] op.type #[a.eval x, a.eval y]).run P w = .ok (.int .i64 (min ys.length len : Nat)) w' := by
    rw [hmx, hm]
    rcases hq with h0 | rfl
    · subst h0
      have hc0 : cells = [] := List.eq_nil_of_length_eq_zero (by rw [hcl]; simp)
      subst hc0
      simp only [storeCells, Sem.run_pure, Result.ok.injEq, true_and] at hrun
      have hcf' := hcf
      simp only [Nat.min_zero] at hcf' ⊢
      subst hrun
      cases q <;> simp [Builtin.copy_, run_underlying ht.und, Builtin.lenOf, sizeOf, typeInfo, ht'.inf, ht'.size, hcf', storeCells, goInt]
    · simp [Builtin.copy_, run_underlying ht.und, Builtin.lenOf, sizeOf, typeInfo, ht'.inf, ht'.size, hcf, hrun, goInt]
  unfold execOp; rw [ho]
  simp [resolve, invoke, builtin, hcopy]
end
end
end Go.Gp

namespace Go.Gp
open Go.RowKit
section
variable (P : Program) (WG : World)
def RT (ops : Array Oper) (todo : List Nat) (σ : St) (Q : VX → St → Prop) : Prop :=
  ∀ C j a w, ERel WG C j σ a w → wpOpsIn (fw C.rnd) 0 P ops (PostR WG C Q) todo a w
end
theorem semAt_ok {ro : Option Nat} {ρ : Operand → Value} {o : Oper} {P : Program} {w w' : World} {x : Next} (h : (execOp ρ o).run P w = .ok x w') (hx : ∀ d, x ≠ .defer d) : (o.semAt ro ρ).run P w = .ok x w' := by
  cases ro with
  | none => exact h
  | some l =>
    cases ho : o.op with
    | defer c =>
      unfold execOp at h
      rw [ho] at h
      simp only [Sem.run_bind] at h
      cases hr : (resolve ρ c o.type).run P w with
      | ok d w1 => rw [hr] at h; simp only [Result.andThen_ok, Sem.run_pure] at h; cases h; exact absurd rfl (hx _)
      | halt y w1 => rw [hr] at h; cases h
    | _ => rw [Oper.semAt_eq (some l) ρ o (by simp [ho])]; exact h
theorem semAt_value {ro : Option Nat} {ρ : Operand → Value} {o : Oper} {P : Program} {w w' : World} {m : Value} (h : (execOp ρ o).run P w = .ok (.value m) w') : (o.semAt ro ρ).run P w = .ok (.value m) w' := semAt_ok h fun d e => by cases e
theorem semAt_skip {ro : Option Nat} {ρ : Operand → Value} {o : Oper} {P : Program} {w w' : World} (h : (execOp ρ o).run P w = .ok .skip w') : (o.semAt ro ρ).run P w = .ok .skip w' := semAt_ok h fun d e => by cases e
theorem semAt_enter {ro : Option Nat} {ρ : Operand → Value} {o : Oper} {P : Program} {w w' : World} {f : FuncId} {args : Array Value} (h : (execOp ρ o).run P w = .ok (.enter f args) w') : (o.semAt ro ρ).run P w = .ok (.enter f args) w' := semAt_ok h fun d e => by cases e
theorem calls_fw {P : Program} {r : Option Nat} {n : Nat} {f : FuncId} {args : Array Value} {w : World} {R : Ending → World → Prop} (h : Calls P f args w R) : CallsIn (fw r) n P f args w R := callsIn_wide.2 h

def putS (σ : St) (d : Option Nat) (v : V) (tab : Tab) (nx : Nat) : St :=
  match d with
  | some d => { σ with env := aset σ.env d v, tab, nx }
  | none => { σ with tab, nx }
def dstOk (σ : St) : Option Nat → Prop
  | some d => d < σ.n
  | none => True

section
variable {P : Program} {WG : World} {σ : St} {Q : VX → St → Prop} {ops : Array Oper}
theorem RT_nil (h : Q .normal σ) : RT P WG ops [] σ Q := fun _ j _ _ hr => ⟨.normal, σ, j, .normal, hr, h⟩

theorem T_region {id : Nat} (h : RT P WG ops (List.range ops.size) σ Q) : T P WG (.region id ops false) σ Q := fun C j a w hr => wpIn_region (h C j a w hr)

theorem put_rel {C : Ctx} {j j' : Nat → Option Loc} {a : Act} {w w' : World} {tab' : Tab} {nx' : Nat} {v : V} {m : Value} {d : Option Nat} (hr : ERel WG C j σ a w) (hm : Moves WG C σ.lo j σ.tab σ.nx w j' tab' nx' w')
    (hv : VR w' (okc C (Own j' tab') w') j' nx' v m) (hd : dstOk σ d) : ERel WG C j' (putS σ d v tab' nx') (a.put d m) w' := by
  cases d with
  | none => exact ⟨hm.mem, hr.lo, hm.lx, fun t u hu => let ⟨q, h1, h2⟩ := hr.env t u hu; ⟨q, h1, hm.keep _ _ h2⟩, hr.n, hr.defers.mono hm.okk⟩
  | some d =>
    refine ⟨hm.mem, hr.lo, hm.lx, fun t u hu => ?_, ?_, hr.defers.mono hm.okk⟩
    · simp only [putS, aget_aset] at hu
      by_cases e : t = d
      · subst e
        rw [if_pos rfl] at hu; cases hu
        have hlt : t < a.tmps.size := by rw [hr.n]; exact hd
        exact ⟨m, by simp [Act.put, hlt], hv⟩
      · rw [if_neg e] at hu
        obtain ⟨q, h1, h2⟩ := hr.env t u hu
        refine ⟨q, ?_, hm.keep _ _ h2⟩
        simp only [Act.put, Array.getElem?_setIfInBounds]
        rw [if_neg (fun h => e h.symm)]; exact h1
    · simp only [Act.put, Array.size_setIfInBounds, putS]; exact hr.n

theorem wanted_none {o : Oper} (hg : o.guard = none) (y : Nat → Option Bool) : Region.wanted o y = true := by simp [Region.wanted, hg]

theorem RT_op {i : Nat} {rest : List Nat} {o : Oper} (hi : ops[i]? = some o) (hg : o.guard = none) (hd : dstOk σ o.dst)
    (h : OpS P WG o σ fun v tab nx => RT P WG ops rest (putS σ o.dst v tab nx) Q) : RT P WG ops (i :: rest) σ Q := by
  intro C j a w hr
  obtain ⟨m, w', v, j', tab', nx', hrun, hm, hv, hk⟩ := h C j a w hr
  simp only [wpOpsIn, hi, wanted_none hg, if_true]
  refine ⟨fun _ _ => trivial, ?_⟩
  rw [semAt_value hrun]
  simp only [Oper.uponIn]
  exact hk C j' _ w' (put_rel hr hm hv hd)

def cloOf : V → Option (FuncId × List V × List V)
  | .p (.clo (.func f) fs cs) => some (f, fs.map .p, cs.map .p)
  | .clo (.func f) fs cs => some (f, fs, cs)
  | _ => none
theorem VR.cloOf {w : World} {ok : Nat → Prop} {j : Nat → Option Loc} {nx : Nat} {v : V} {m : Value} {f : FuncId} {fs cs : List V} (h : VR w ok j nx v m) (e : cloOf v = some (f, fs, cs)) :
    ∃ ms ns, m = .func (.func f) ms ns ∧ VRs w ok j nx fs ms ∧ VRs w ok j nx cs ns := by
  cases h with
  | p hp =>
    cases hp with
    | @clo fn fs' cs' ms ns h1 h2 h3 h4 =>
      cases fn <;> simp [Gp.cloOf] at e
      obtain ⟨rfl, rfl, rfl⟩ := e
      refine ⟨ms, ns, rfl, ⟨by simpa using h1, fun i v hv => ?_⟩, ⟨by simpa using h2, fun i v hv => ?_⟩⟩
      · simp only [List.getElem?_map] at hv
        cases hq : fs'[i]? with
        | none => simp [hq] at hv
        | some x => simp [hq] at hv; subst hv; exact .p (h3 i x hq)
      · simp only [List.getElem?_map] at hv
        cases hq : cs'[i]? with
        | none => simp [hq] at hv
        | some x => simp [hq] at hv; subst hv; exact .p (h4 i x hq)
    | _ => simp [Gp.cloOf] at e
  | @clo fn fs' cs' ms ns h1 h2 h3 h4 =>
    cases fn <;> simp [Gp.cloOf] at e
    obtain ⟨rfl, rfl, rfl⟩ := e
    exact ⟨ms, ns, rfl, ⟨h1, h3⟩, ⟨h2, h4⟩⟩
  | _ => simp [Gp.cloOf] at e

theorem VRs.append {w : World} {ok : Nat → Prop} {j : Nat → Option Loc} {nx : Nat} {a b : List V} {ms ns : Array Value} (h1 : VRs w ok j nx a ms) (h2 : VRs w ok j nx b ns) : VRs w ok j nx (a ++ b) (ms ++ ns) := by
  refine ⟨by simp [h1.1, h2.1], fun i v hv => ?_⟩
  rw [List.getElem?_append] at hv
  split at hv
  · rename_i hlt
    have : (ms ++ ns).getD i undef = ms.getD i undef := by
      simp only [Array.getD_eq_getD_getElem?]; rw [Array.getElem?_append_left (by rw [h1.1]; exact hlt)]
    rw [this]; exact h1.2 i v hv
  · rename_i hge
    have : (ms ++ ns).getD i undef = ns.getD (i - a.length) undef := by
      simp only [Array.getD_eq_getD_getElem?]; rw [Array.getElem?_append_right (by rw [h1.1]; omega), h1.1]
    rw [this]; exact h2.2 _ v hv

def subC (C : Ctx) (j : Nat → Option Loc) (tab : Tab) (nx : Nat) (w : World) : Ctx := ⟨nx, j, Own j tab, okc C (Own j tab) w, w, none, []⟩

theorem MemR.sub {C : Ctx} {j : Nat → Option Loc} {tab : Tab} {nx : Nat} {w : World} (h : MemR WG C j tab nx w) : MemR WG (subC C j tab nx w) j tab nx w where
  nb := Nat.le_refl _
  low := h.low
  blk := fun b x hb => (h.blk b x hb).mono (fun k hk => ⟨⟨hk.1, hk.2.1, .inl hk⟩, rfl⟩) (fun b hb => ⟨rfl, hb⟩) (h.low b x hb) (fun _ _ => rfl)
  apart := h.apart
  agree := fun _ _ => rfl
  own := fun k hk => .inl hk
  ownG := h.ownG
  size := Nat.le_refl _
  keep := fun _ _ _ => rfl
  os := rfl
  tape := rfl
  output := rfl
  glob := h.glob
  rd := fun k hk => ⟨hk.1, hk.2.1⟩

theorem okc_sub {C : Ctx} {j j' : Nat → Option Loc} {tab tab' : Tab} {nx : Nat} {w w' : World} (h : MemR WG C j tab nx w) {k : Nat} (hk : okc (subC C j tab nx w) (Own j' tab') w' k) : okc C (Own j' tab') w' k := by
  obtain ⟨h1, h2, h3⟩ := hk
  refine ⟨h1, h2, ?_⟩
  rcases h3 with h3 | h3 | h3
  · exact h3.2.2
  · rcases h.own k h3 with h4 | h4
    · exact .inr (.inl h4)
    · exact .inr (.inr h4)
  · right; right; have := h.size; simp only [subC] at h3; omega

theorem MemR.unsub {C : Ctx} {j j' : Nat → Option Loc} {tab tab' : Tab} {nx nx' : Nat} {w w' : World} {lo : Nat} (h : MemR WG C j tab nx w) (hlo : C.nb ≤ lo) (hlx : lo ≤ nx) (h' : MemR WG (subC C j tab nx w) j' tab' nx' w') :
    Moves WG C lo j tab nx w j' tab' nx' w' := by
  have hnx : nx ≤ nx' := h'.nb
  have hok : ∀ k, okc C (Own j tab) w k → okc C (Own j' tab') w' k ∧ w'.heap[k]? = w.heap[k]? := by
    rintro k ⟨h1, h2, h3⟩
    refine ⟨⟨Nat.lt_of_lt_of_le h1 h'.size, fun hn => ?_, h3⟩, h'.keep k h1 h2⟩
    rcases h'.own k hn with h4 | h4
    · exact h2 h4
    · simp only [subC] at h4; omega
  refine ⟨?_, by omega, fun x m hv => hv.mono hok (fun b hb => ⟨h'.agree b hb, Nat.lt_of_lt_of_le hb hnx⟩), hok⟩
  exact {
    nb := by omega
    low := h'.low
    blk := fun b x hb => (h'.blk b x hb).mono (fun k hk => ⟨okc_sub h hk, rfl⟩) (fun b hb => ⟨rfl, hb⟩) (h'.low b x hb) (fun _ _ => rfl)
    apart := h'.apart
    agree := fun b hb => (h'.agree b (show b < nx by omega)).trans (h.agree b hb)
    own := fun k hk => by
      rcases h'.own k hk with h4 | h4
      · exact h.own k h4
      · right; have := h.size; simp only [subC] at h4; omega
    ownG := h'.ownG
    size := Nat.le_trans h.size h'.size
    keep := fun k hk h0 => by
      refine (h'.keep k (Nat.lt_of_lt_of_le hk h.size) (fun hn => ?_)).trans (h.keep k hk h0)
      rcases h.own k hn with h4 | h4
      · exact h0 h4
      · omega
    os := h'.os.trans h.os
    tape := h'.tape.trans h.tape
    output := h'.output.trans h.output
    glob := h'.glob
    rd := h.rd }

def callable (P : Program) (f : FuncId) : Bool :=
  match P.funcs[f]? with
  | some fn => !(fn.name == "runtime.NumGoroutine") && fn.body.isSome
  | none => false

theorem run_call_enter {f : FuncId} (h : callable P f = true) (args : Array Value) (w : World) : (callFunc f args).run P w = .ok (.enter f args) w := by
  unfold callable at h
  split at h
  · rename_i fn hf
    simp only [Bool.and_eq_true, Bool.not_eq_true'] at h
    obtain ⟨c, hc⟩ := Option.isSome_iff_exists.1 h.2
    have h1 : fn.name ≠ "runtime.NumGoroutine" := by simpa using h.1
    simp [callFunc, hf, h1, hc]
  · cases h

theorem wp_call {o : Oper} {x : Operand} {args : Array Operand} {ts : Array TypeId} {v : V} {f : FuncId} {fs cs vs : List V} {K KP : V → Tab → Nat → Prop} {C : Ctx} {j : Nat → Option Loc} {a : Act} {w : World} {next : Act → World → Prop} {Qx : Exit → Act → World → Prop}
    (hr : ERel WG C j σ a w) (ho : o.op = .call { callee := .value x, args := args, argTypes := ts }) (hx : ev σ x = some v) (hc : cloOf v = some (f, fs, cs)) (hvs : evs σ args.toList = some vs) (hf : callable P f = true)
    (h : CallT P WG f (fs ++ vs ++ cs) σ.tab σ.nx K KP)
    (hk : ∀ j' tab' nx' w' r m, Moves WG C σ.lo j σ.tab σ.nx w j' tab' nx' w' → VR w' (okc C (Own j' tab') w') j' nx' r m → K r tab' nx' → next (a.put o.dst m) w')
    (hp : ∀ j' tab' nx' w' r m, Moves WG C σ.lo j σ.tab σ.nx w j' tab' nx' w' → VR w' (okc C (Own j' tab') w') j' nx' r m → KP r tab' nx' → Qx (.panic [{ v := m, recovered := false }]) a w') : o.wpIn (fw C.rnd) 0 P a w next Qx := by
  obtain ⟨ms, ns, hm, hms, hns⟩ := (hr.ev hx).cloOf hc
  have hargs := (hms.append (hr.evsA hvs)).append hns
  have hrun : (execOp a.eval o).run P w = .ok (.enter f (ms ++ args.map a.eval ++ ns)) w := by
    unfold execOp; rw [ho]
    simp only [resolve, hm, Deferred.ofValue, Sem.run_bind, Sem.run_pure, Result.andThen_ok, invoke, run_call_enter hf]
  refine ⟨fun _ _ => trivial, ?_⟩
  rw [semAt_enter hrun]
  simp only [Oper.uponIn]
  refine ⟨fun hd => by simp [fw, Fence.wide] at hd, ?_⟩
  have hargs' : VRs w (okc (subC C j σ.tab σ.nx w) (Own j σ.tab) w) j σ.nx (fs ++ vs ++ cs) (ms ++ args.map a.eval ++ ns) :=
    ⟨hargs.1, fun i v hv => (hargs.2 i v hv).mono (fun k hk => ⟨⟨hk.1, hk.2.1, .inl hk⟩, rfl⟩) (fun b hb => ⟨rfl, hb⟩)⟩
  refine calls_fw ((h (subC C j σ.tab σ.nx w) j w _ rfl rfl rfl rfl hr.mem.sub hargs').mono fun e w' he => ?_)
  cases e with
  | returned m =>
    obtain ⟨j', tab', nx', r, h1, h2, h3⟩ := he
    exact hk j' tab' nx' w' r m (hr.mem.unsub hr.lo hr.lx h1) (h2.mono (fun k hk => ⟨okc_sub hr.mem hk, rfl⟩) (fun b hb => ⟨rfl, hb⟩)) h3
  | panicked ch =>
    obtain ⟨j', tab', nx', r, m, h1, rfl, h2, h3⟩ := he
    exact hp j' tab' nx' w' r m (hr.mem.unsub hr.lo hr.lx h1) (h2.mono (fun k hk => ⟨okc_sub hr.mem hk, rfl⟩) (fun b hb => ⟨rfl, hb⟩)) h3
  | outgrown => exact he.elim

theorem RT_call {i : Nat} {rest : List Nat} {o : Oper} {x : Operand} {args : Array Operand} {ts : Array TypeId} {v : V} {f : FuncId} {fs cs vs : List V} (hi : ops[i]? = some o) (hg : o.guard = none) (hd : dstOk σ o.dst)
    (ho : o.op = .call { callee := .value x, args := args, argTypes := ts }) (hx : ev σ x = some v) (hc : cloOf v = some (f, fs, cs)) (hvs : evs σ args.toList = some vs) (hf : callable P f = true)
    (h : CallT P WG f (fs ++ vs ++ cs) σ.tab σ.nx (fun r tab nx => RT P WG ops rest (putS σ o.dst r tab nx) Q) (fun r tab nx => Q (.panic r) { σ with tab, nx })) : RT P WG ops (i :: rest) σ Q := by
  intro C j a w hr
  simp only [wpOpsIn, hi, wanted_none hg, if_true]
  refine wp_call hr ho hx hc hvs hf h (fun j' tab' nx' w' r m hm hv hk => hk C j' _ w' (put_rel hr hm hv hd)) (fun j' tab' nx' w' r m hm hv hk => ?_)
  exact ⟨.panic r, { σ with tab := tab', nx := nx' }, j', .panic hv, ⟨hm.mem, hr.lo, hm.lx, fun t u hu => let ⟨q, h1, h2⟩ := hr.env t u hu; ⟨q, h1, hm.keep _ _ h2⟩, hr.n, hr.defers.mono hm.okk⟩, hk⟩

def res1 (P : Program) (σ : St) : ResultVar → Option V
  | .tmp t => aget σ.env t
  | .cell a t =>
    match aget σ.env a, tiOf P t with
    | some (.ref b o), some i =>
      match aget σ.tab b with
      | some (.box cs) => if (i.agg = true ∨ i.size = 1) ∧ o + i.size ≤ cs.length then some (readV i cs o) else none
      | _ => none
    | _, _ => none
def resL (P : Program) (σ : St) : List ResultVar → Option (List V)
  | [] => some []
  | x :: r => match res1 P σ x, resL P σ r with
    | some v, some l => some (v :: l)
    | _, _ => none
def resV (P : Program) (σ : St) (rs : List ResultVar) : Option V :=
  match resL P σ rs with
  | some [v] => some v
  | some l => some (.tup l)
  | none => none

def resVar1 (tmps : Array Value) : ResultVar → Sem Value
  | .tmp t => pure (tmps.getD t undef)
  | .cell a t => do loadVar t (← asAddr (tmps.getD a undef))

theorem run_res1 {C : Ctx} {j : Nat → Option Loc} {a : Act} {w : World} (hr : ERel WG C j σ a w) {x : ResultVar} {v : V} (h : res1 P σ x = some v) :
    ∃ m, (resVar1 a.tmps x).run P w = .ok m w ∧ VR w (okc C (Own j σ.tab) w) j σ.nx v m := by
  cases x with
  | tmp t =>
    obtain ⟨m, hm, hv⟩ := hr.env t v h
    refine ⟨m, ?_, hv⟩
    obtain ⟨hlt, he⟩ := Array.getElem?_eq_some_iff.1 hm
    simp [resVar1, Array.getD, hlt, he]
  | cell q t =>
    simp only [res1] at h
    split at h
    · rename_i b o i hq hi
      split at h
      · rename_i cs hb
        split at h
        · rename_i hc
          cases h
          obtain ⟨info, d, z, ht⟩ := tiOf_some hi
          obtain ⟨m0, hm0, hv0⟩ := hr.env q _ hq
          have hq' : a.tmps.getD q undef = m0 := by
            obtain ⟨hlt, he⟩ := Array.getElem?_eq_some_iff.1 hm0
            simp [Array.getD, hlt, he]
          cases hv0 with
          | @ref b o l p hbn hl hp =>
            subst hp
            obtain ⟨l', ms, e, fr, hl', hh, hfr, hs, hone, hrel⟩ := hr.mem.blk b _ hb
            obtain rfl : l' = l := by rw [hl] at hl'; exact (Option.some.inj hl').symm
            have hload := run_loadVar_ti ht w l'.blk (l'.off + o) (fun k => ms.getD (l'.off + o + k) undef) (fun k hk => by
              rw [cell_row hh, Array.getElem?_eq_getElem (by omega)]
              simp [Array.getD, show l'.off + o + k < ms.size by omega]) (fun e => hc.1.resolve_left (by simp [e]))
            refine ⟨if i.agg then .agg ((List.range i.size).map fun k => ms.getD (l'.off + o + k) undef).toArray else ms.getD (l'.off + o + 0) undef, ?_, ?_⟩
            · simp only [resVar1, hq', asAddr, Sem.run_bind, Sem.run_pure, Result.andThen_ok]
              exact hload
            · unfold readV
              split
              · refine VR.mkAgg (by simp; omega) (fun k c hc' => ?_)
                have hk' : k < i.size := by
                  have := (List.getElem?_eq_some_iff.1 hc').1
                  simp at this; omega
                rw [getD_range _ _ _ hk']
                have hc'' : cs[o + k]? = some c := by
                  rw [List.getElem?_take] at hc'
                  simpa [hk', List.getElem?_drop] using hc'
                exact ⟨hone _ _ hc'', by rw [Nat.add_assoc]; exact hrel _ _ hc''⟩
              · have hlt : o < cs.length := by
                  rcases hc.1 with h | h
                  · simp_all
                  · omega
                have hcc : cs[o]? = some (cs.getD o (.p (.v .nilFunc))) := by
                  rw [List.getElem?_eq_getElem hlt]; simp [List.getD, hlt]
                exact hrel o _ hcc
        · cases h
      · cases h
    · cases h

theorem run_resL {C : Ctx} {j : Nat → Option Loc} {a : Act} {w : World} (hr : ERel WG C j σ a w) : ∀ {xs : List ResultVar} {vs : List V}, resL P σ xs = some vs →
    ∃ ms : List Value, (xs.mapM (resVar1 a.tmps)).run P w = .ok ms w ∧ ms.length = vs.length ∧ ∀ (i : Nat) v, vs[i]? = some v → ∃ m, ms[i]? = some m ∧ VR w (okc C (Own j σ.tab) w) j σ.nx v m
  | [], vs, h => by simp [resL] at h; subst h; exact ⟨[], rfl, rfl, by simp⟩
  | x :: r, vs, h => by
    simp only [resL] at h
    split at h
    · rename_i v l hv hl
      cases h
      obtain ⟨m, h1, h2⟩ := run_res1 hr hv
      obtain ⟨ms, h3, h4, h5⟩ := run_resL hr hl
      refine ⟨m :: ms, by simp only [List.mapM_cons, Sem.run_bind, h1, Result.andThen_ok, h3, Sem.run_pure], by simp [h4], fun i u hu => ?_⟩
      rcases i with _ | i
      · simp at hu; subst hu; exact ⟨m, rfl, h2⟩
      · simp at hu; simpa using h5 i u hu
    · cases h

theorem run_results {C : Ctx} {j : Nat → Option Loc} {a : Act} {w : World} (hr : ERel WG C j σ a w) {fn : Func} {v : V} (h : resV P σ fn.results.toList = some v) :
    ∃ m, (results fn a.tmps).run P w = .ok m w ∧ VR w (okc C (Own j σ.tab) w) j σ.nx v m := by
  unfold resV at h
  have key : ∀ {vs : List V}, resL P σ fn.results.toList = some vs → ∃ ms : List Value, (fn.results.mapM (resVar1 a.tmps)).run P w = .ok ms.toArray w ∧ ms.length = vs.length ∧ ∀ (i : Nat) v, vs[i]? = some v → ∃ m, ms[i]? = some m ∧ VR w (okc C (Own j σ.tab) w) j σ.nx v m := by
    intro vs hl
    obtain ⟨ms, h1, h2⟩ := run_resL hr hl
    exact ⟨ms, by rw [Array.mapM_eq_mapM_toList]; simp only [Sem.run_map, h1, Result.andThen_ok], h2⟩
  have hres : results fn a.tmps = (do let vs ← fn.results.mapM (resVar1 a.tmps); pure (if h : vs.size = 1 then vs[0] else .tuple vs)) := by
    unfold results
    congr 1
  rw [hres]
  split at h
  · rename_i v' hl
    cases h
    obtain ⟨ms, h1, h2, h3⟩ := key hl
    obtain ⟨m, hm, hv⟩ := h3 0 v rfl
    match ms, h2, hm with
    | [m'], _, hm =>
      simp at hm; subst hm
      exact ⟨m', by simp only [Sem.run_bind, h1, Result.andThen_ok, Sem.run_pure]; rfl, hv⟩
  · rename_i l hne hl
    cases h
    obtain ⟨ms, h1, h2, h3⟩ := key hl
    have hsz : ¬ ms.toArray.size = 1 := by
      intro e
      match l, ms, h2, e with
      | [x], _, _, _ => exact hne x rfl
      | [], [_], h, _ => simp at h
      | _ :: _ :: _, [_], h, _ => simp at h
    refine ⟨.tuple ms.toArray, by simp only [Sem.run_bind, h1, Result.andThen_ok, Sem.run_pure]; rw [dif_neg hsz], .tup (by simpa using h2) (fun i c hc => ?_)⟩
    obtain ⟨m, hm, hv⟩ := h3 i c hc
    have : ms.toArray.getD i undef = m := by simp [Array.getD_eq_getD_getElem?, hm]
    rw [this]; exact hv
  · cases h

def enumFrom : Nat → List V → List (Nat × V)
  | _, [] => []
  | n, v :: r => (n, v) :: enumFrom (n + 1) r
theorem aget_enum : ∀ (vs : List V) (n t : Nat), aget (enumFrom n vs) t = if n ≤ t then vs[t - n]? else none
  | [], n, t => by simp [enumFrom, aget]
  | v :: r, n, t => by
    simp only [enumFrom, aget]
    by_cases h : n = t
    · subst h; simp
    · rw [if_neg h, aget_enum r (n + 1) t]
      by_cases h2 : n ≤ t
      · rw [if_pos h2, if_pos (by omega)]
        obtain ⟨q, hq⟩ : ∃ q, t - n = q + 1 := ⟨t - n - 1, by omega⟩
        rw [hq, List.getElem?_cons_succ]
        congr 1; omega
      · rw [if_neg h2, if_neg (by omega)]

def enter (fn : Func) (vs : List V) (tab : Tab) (nx : Nat) : St := { env := enumFrom 0 vs, tab, nx, lo := nx, n := fn.ntmps }

def bodyQ (P : Program) (fn : Func) (K KP : V → Tab → Nat → Prop) : VX → St → Prop
  | .normal, σ | .ret, σ => ∃ r, resV P σ fn.results.toList = some r ∧ K r σ.tab σ.nx
  | .panic v, σ => KP v σ.tab σ.nx
  | _, _ => False

theorem leaves_marks {C : Ctx} {j : Nat → Option Loc} {fn : Func} {tm : Array Value} {R : Ending → World → Prop} {u : FrameMode} (hu : u ≠ .run) (hG : WG.heap.size ≤ C.w0.heap.size) (hrn : C.rnd = none)
    (fin : ∀ w, ERel WG C j σ { tmps := tm, defers := C.base } w → LeavesInM Fence.wide 0 P fn tm R C.base u w) :
    ∀ (Ds : List Nat) (w : World), Ds.Nodup → (∀ D ∈ Ds, okc C (Own j σ.tab) w D ∧ C.w0.heap.size ≤ D ∧ w.heap[D]? = some (.deferred (some []))) → ERel WG C j σ { tmps := tm, defers := C.base } w →
      LeavesInM Fence.wide 0 P fn tm R (Ds.map markOf ++ C.base) u w
  | [], w, _, _, hr => fin w hr
  | D :: Ds, w, hn, hD, hr => by
    obtain ⟨h1, h2, h3⟩ := hD D List.mem_cons_self
    have hnc : ¬ IsCells w D := fun ⟨ms, e, fr, hh⟩ => by rw [h3] at hh; cases hh
    obtain ⟨hm, hok, hh⟩ := hr.mem.put (.deferred none) h1.1 h1.2.1 h2 (by omega) hnc
    refine ⟨hu, .inl ⟨D, _, rfl, run_takeDeferred h3, leaves_marks hu hG hrn fin Ds _ (List.nodup_cons.1 hn).2 (fun E hE => ?_) ?_⟩⟩
    · obtain ⟨e1, e2, e3⟩ := hD E (List.mem_cons_of_mem _ hE)
      have hne : E ≠ D := fun e => (List.nodup_cons.1 hn).1 (e ▸ hE)
      exact ⟨hok E e1, e2, (hh E hne).trans e3⟩
    · refine ⟨hm, hr.lo, hr.lx, fun t v hv => ?_, hr.n, ⟨⟨[], rfl, List.nodup_nil, by simp⟩, fun l hl => by rw [hrn] at hl; cases hl⟩⟩
      obtain ⟨m, a, b⟩ := hr.env t v hv
      exact ⟨m, a, b.monoC (fun k hk hcl => ⟨hok k hk, hh k (fun e => hnc (e ▸ hcl))⟩) (fun b hb => ⟨rfl, hb⟩)⟩

def Ctx.plain (C : Ctx) : Ctx := { C with rnd := none, base := [] }
theorem MemR.plain {C : Ctx} {j : Nat → Option Loc} {tab : Tab} {nx : Nat} {w : World} (h : MemR WG C j tab nx w) : MemR WG C.plain j tab nx w :=
  ⟨h.nb, h.low, h.blk, h.apart, h.agree, h.own, h.ownG, h.size, h.keep, h.os, h.tape, h.output, h.glob, h.rd⟩
theorem MemR.unplain {C : Ctx} {j : Nat → Option Loc} {tab : Tab} {nx : Nat} {w : World} (h : MemR WG C.plain j tab nx w) : MemR WG C j tab nx w :=
  ⟨h.nb, h.low, h.blk, h.apart, h.agree, h.own, h.ownG, h.size, h.keep, h.os, h.tape, h.output, h.glob, h.rd⟩

theorem CallT_body {f : FuncId} {fn : Func} {c : Code} {vs : List V} {tab : Tab} {nx : Nat} {K KP : V → Tab → Nat → Prop} (hf : P.funcs[f]? = some fn) (hb : fn.body = some c) (hn : vs.length ≤ fn.ntmps)
    (h : T P WG c (enter fn vs tab nx) (bodyQ P fn K KP)) : CallT P WG f vs tab nx K KP := by
  intro C j w ms h1 h2 h3 h4 hm hvs
  refine callsIn_wide.1 (callsIn_of_wp_marks (F := Fence.wide) (n := 0) hf hb trivial ?_)
  have hG : WG.heap.size ≤ C.w0.heap.size := by rw [h4]; exact hm.glob.size
  have hr : ERel WG C.plain j (enter fn vs tab nx) { tmps := ms ++ Array.replicate (fn.ntmps - ms.size) undef, defers := [] } w := by
    refine ⟨hm.plain, by show C.nb ≤ nx; rw [h1]; exact Nat.le_refl _, Nat.le_refl _, fun t v hv => ?_, by simp [enter, hvs.1]; omega, ⟨⟨[], rfl, List.nodup_nil, by simp⟩, fun l hl => by cases hl⟩⟩
    simp only [enter, aget_enum, Nat.zero_le, if_true, Nat.sub_zero] at hv
    have hlt : t < ms.size := by rw [hvs.1]; exact (List.getElem?_eq_some_iff.1 hv).1
    refine ⟨ms.getD t undef, ?_, hvs.2 t v hv⟩
    rw [Array.getElem?_append_left hlt, Array.getElem?_eq_getElem hlt]
    simp [Array.getD, hlt]
  have leave : ∀ {u : FrameMode} {a : Act} {w' : World} {j' : Nat → Option Loc} {σ' : St}, u ≠ .run → ERel WG C.plain j' σ' a w' →
      (∀ w2, ERel WG C.plain j' σ' { tmps := a.tmps, defers := [] } w2 → LeavesInM Fence.wide 0 P fn a.tmps (EndR WG C K KP) [] u w2) → LeavesInM Fence.wide 0 P fn a.tmps (EndR WG C K KP) a.defers u w' := by
    intro u a w' j' σ' hu hr' hfin
    obtain ⟨Ds, e1, e2, e3⟩ := hr'.defers.defers
    have e4 : a.defers = Ds.map markOf ++ C.plain.base := e1
    rw [e4]
    refine leaves_marks (C := C.plain) hu hG rfl hfin Ds w' e2 e3 ⟨hr'.mem, hr'.lo, hr'.lx, hr'.env, hr'.n, ⟨⟨[], rfl, List.nodup_nil, by simp⟩, fun l hl => by cases hl⟩⟩
  refine wpIn_mono (h C.plain j _ w hr) fun e a w' ⟨x, σ', j', hx, hr', hq⟩ => ?_
  cases hx with
  | normal =>
    obtain ⟨r, hres, hK⟩ := hq
    refine leave (by simp) hr' fun w2 hr2 => ?_
    obtain ⟨m, hrun, hv⟩ := run_results hr2 hres
    exact ⟨m, hrun, j', σ'.tab, σ'.nx, r, hr2.mem.unplain, hv, hK⟩
  | ret =>
    obtain ⟨r, hres, hK⟩ := hq
    refine leave (by simp) hr' fun w2 hr2 => ?_
    obtain ⟨m, hrun, hv⟩ := run_results hr2 hres
    exact ⟨m, hrun, j', σ'.tab, σ'.nx, r, hr2.mem.unplain, hv, hK⟩
  | exit => exact hq.elim
  | goto => exact hq.elim
  | @panic v m hp =>
    obtain ⟨Ds, e1, e2, e3⟩ := hr'.defers.defers
    have e4 : a.defers = Ds.map markOf ++ C.plain.base := e1
    show LeavesInM _ _ _ _ _ _ a.defers _ _
    rw [e4]
    let σ2 : St := { σ' with env := aset σ'.env σ'.n v, n := σ'.n + 1 }
    have hr0 : ERel WG C.plain j' σ2 { tmps := a.tmps.push m, defers := [] } w' := by
      refine ⟨hr'.mem, hr'.lo, hr'.lx, fun t u ht => ?_, by simp [σ2, hr'.n], ⟨⟨[], rfl, List.nodup_nil, by simp⟩, fun l hl => by cases hl⟩⟩
      simp only [σ2, aget_aset] at ht
      by_cases e : t = σ'.n
      · rw [if_pos e] at ht; cases ht
        exact ⟨m, by rw [e, ← hr'.n]; simp, hp⟩
      · rw [if_neg e] at ht
        obtain ⟨m', h1, h2⟩ := hr'.env t u ht
        exact ⟨m', by rw [Array.getElem?_push, if_neg (by rw [hr'.n]; exact e)]; exact h1, h2⟩
    have key := leaves_marks (P := P) (fn := fn) (C := C.plain) (σ := σ2) (tm := a.tmps.push m) (u := .panicking [{ v := m, recovered := false }]) (R := EndR WG C K KP) (by simp) hG rfl (fun w2 hr2 => by
      obtain ⟨m', h1, h2⟩ := hr2.env σ'.n v (by simp only [σ2, aget_aset, if_true])
      have : m' = m := by rw [← hr'.n] at h1; simpa using h1.symm
      subst this
      exact ⟨j', σ2.tab, σ2.nx, v, _, hr2.mem.unplain, rfl, h2, hq⟩) Ds w' e2 e3 hr0
    have tmps : ∀ (ds : List Deferred) (t1 t2 : Array Value) (ch : List PanicEntry) (w : World), (∀ d ∈ ds, ∃ D, d = markOf D) → LeavesInM Fence.wide 0 P fn t1 (EndR WG C K KP) ds (.panicking ch) w → LeavesInM Fence.wide 0 P fn t2 (EndR WG C K KP) ds (.panicking ch) w := by
      intro ds
      induction ds with
      | nil => exact fun _ _ _ _ _ h => h
      | cons d ds ih =>
        intro t1 t2 ch w hd h
        obtain ⟨h1, h2⟩ := h
        refine ⟨h1, ?_⟩
        rcases h2 with ⟨r, w', a, b, c⟩ | ⟨_, fv, cap, f, args, a, _⟩
        · exact .inl ⟨r, w', a, b, ih t1 t2 ch w' (fun d hd' => hd d (List.mem_cons_of_mem _ hd')) c⟩
        · obtain ⟨D, rfl⟩ := hd d List.mem_cons_self; cases a
    exact tmps _ _ _ _ _ (fun d hd => by simp [Ctx.plain] at hd; obtain ⟨D, _, rfl⟩ := hd; exact ⟨D, rfl⟩) key

end
end Go.Gp

namespace Go.Gp
open Go.RowKit
theorem adel_aset {α : Type} {t : List (Nat × α)} {b : Nat} (h : aget t b = none) (x : α) : adel (aset t b x) b = t := by
  induction t with
  | nil => simp [aset, adel]
  | cons p r ih =>
    obtain ⟨k, y⟩ := p
    simp only [aget] at h
    by_cases e : k = b
    · simp [e] at h
    · rw [if_neg e] at h
      simp only [aset, if_neg e, adel, ih h]
theorem aset_aset {α : Type} (t : List (Nat × α)) (b : Nat) (x y : α) : aset (aset t b x) b y = aset t b y := by
  induction t with
  | nil => simp [aset]
  | cons p r ih =>
    obtain ⟨k, z⟩ := p
    by_cases e : k = b
    · simp [aset, e]
    · simp only [aset, if_neg e, ih]

def putPs (env : List (Nat × V)) : List Nat → List V → List (Nat × V)
  | p :: r, v :: s => putPs (aset env p v) r s
  | _, _ => env

section
variable {P : Program} {WG : World} {σ : St} {C : Ctx} {j j' : Nat → Option Loc} {tab tab' : Tab} {nx nx' : Nat} {w w' : World}
theorem Moves.trans {lo : Nat} {j1 j2 : Nat → Option Loc} {tab1 tab2 : Tab} {nx1 nx2 : Nat} {w1 w2 : World} (h : Moves WG C lo j tab nx w j1 tab1 nx1 w1) (k : Moves WG C lo j1 tab1 nx1 w1 j2 tab2 nx2 w2) : Moves WG C lo j tab nx w j2 tab2 nx2 w2 :=
  ⟨k.mem, k.lx, fun x m hv => k.keep x m (h.keep x m hv), fun q hq => ⟨(k.okk q (h.okk q hq).1).1, (k.okk q (h.okk q hq).1).2.trans (h.okk q hq).2⟩⟩

def rndC (C : Ctx) (j : Nat → Option Loc) (tab : Tab) (b nx : Nat) (w : World) (l : Nat) : Ctx := ⟨nx, j, Own j (adel tab b), fun k => okc C (Own j tab) w k ∨ k = l, w, some l, []⟩

theorem own_adel {b k : Nat} (h : Own j (adel tab b) k) : Own j tab k := by
  obtain ⟨c, y, l, hc, hl, e⟩ := h
  rw [aget_adel] at hc
  by_cases e2 : c = b
  · simp [e2] at hc
  · rw [if_neg e2] at hc; exact ⟨c, y, l, hc, hl, e⟩
theorem MemR.not_own_adel (h : MemR WG C j tab nx w) {b : Nat} {x : Blk} {l : Loc} (hb : aget tab b = some x) (hl : j b = some l) : ¬ Own j (adel tab b) l.blk := by
  rintro ⟨c, y, l', hc, hl', e⟩
  rw [aget_adel] at hc
  by_cases e2 : c = b
  · simp [e2] at hc
  · rw [if_neg e2] at hc; exact h.apart c b y x l' l hc hb e2 hl' hl e
theorem own_of_adel {b k : Nat} {l : Loc} (hl : j b = some l) (h : Own j tab k) (hn : ¬ Own j (adel tab b) k) : k = l.blk := by
  obtain ⟨c, y, l', hc, hl', e⟩ := h
  by_cases e2 : c = b
  · subst e2; rw [hl] at hl'; cases hl'; exact e.symm
  · exact absurd ⟨c, y, l', by rw [aget_adel, if_neg e2]; exact hc, hl', e⟩ hn

theorem okc_round {b : Nat} {l : Loc} {k : Nat} (hl : j b = some l) (hk : okc C (Own j tab) w k) : okc (rndC C j tab b nx w l.blk) (Own j (adel tab b)) w k :=
  ⟨hk.1, fun hn => hk.2.1 (own_adel hn), .inl (.inl hk)⟩

theorem MemR.inRound (h : MemR WG C j tab nx w) {b : Nat} {x : Blk} {l : Loc} (hb : aget tab b = some x) (hl : j b = some l) : MemR WG (rndC C j tab b nx w l.blk) j (adel tab b) nx w := by
  have hd := (h.del b).1
  have hno := h.not_own_adel hb hl
  exact {
    nb := Nat.le_refl _
    low := hd.low
    blk := fun c y hc => (hd.blk c y hc).mono (fun k hk => ⟨⟨hk.1, hk.2.1, by
      left
      by_cases e : k = l.blk
      · exact .inr e
      · exact .inl ⟨hk.1, fun hn => e (own_of_adel hl hn hk.2.1), hk.2.2⟩⟩, rfl⟩) (fun b hb => ⟨rfl, hb⟩) (hd.low c y hc) (fun _ _ => rfl)
    apart := hd.apart
    agree := fun _ _ => rfl
    own := fun k hk => .inl hk
    ownG := hd.ownG
    size := Nat.le_refl _
    keep := fun _ _ _ => rfl
    os := rfl
    tape := rfl
    output := rfl
    glob := h.glob
    rd := fun k hk => by
      rcases hk with hk | rfl
      · exact ⟨hk.1, fun hn => hk.2.1 (own_adel hn)⟩
      · exact ⟨(h.blk b x hb).lt hl, hno⟩ }

theorem okc_unround (h : MemR WG C j tab nx w) {b : Nat} {l : Loc} {y : Blk} (hl : j b = some l) (hbn : b < nx) (h' : MemR WG (rndC C j tab b nx w l.blk) j' tab' nx' w') {k : Nat}
    (hk : okc (rndC C j tab b nx w l.blk) (Own j' tab') w' k) (hne : k ≠ l.blk) : okc C (Own j' (aset tab' b y)) w' k := by
  obtain ⟨h1, h2, h3⟩ := hk
  refine ⟨h1, ?_, ?_⟩
  · rintro ⟨c, z, l', hc, hl', rfl⟩
    rw [aget_aset] at hc
    by_cases e : c = b
    · subst e
      have : j' c = j c := h'.agree c hbn
      rw [this, hl] at hl'; cases hl'; exact hne rfl
    · rw [if_neg e] at hc; exact h2 ⟨c, z, l', hc, hl', rfl⟩
  · rcases h3 with h3 | h3 | h3
    · rcases h3 with h3 | h3
      · exact h3.2.2
      · exact absurd h3 hne
    · rcases h.own k (own_adel h3) with h4 | h4
      · exact .inr (.inl h4)
      · exact .inr (.inr h4)
    · right; right; have := h.size; simp only [rndC] at h3; omega

theorem MemR.outRound {lo : Nat} (h : MemR WG C j tab nx w) (hlo : C.nb ≤ lo) (hlx : lo ≤ nx) {b : Nat} {s : LSt} {c : LpC} {env : List (Nat × V)} {l : Loc} {r : Loop} (hb : aget tab b = some (.lp s c env)) (hl : j b = some l) (hh : w.heap[l.blk]? = some (.loop r))
    (h' : MemR WG (rndC C j tab b nx w l.blk) j' tab' nx' w') :
    Moves WG C lo j tab nx w j' (aset tab' b (.lp s c env)) nx' w' ∧ aget tab' b = none ∧ w'.heap[l.blk]? = some (.loop r) ∧ j' b = some l := by
  have hbn := h.low b _ hb
  have hno := h.not_own_adel hb hl
  have hls : l.blk < w.heap.size := (h.blk b _ hb).lt hl
  have hjb : j' b = some l := (h'.agree b hbn).trans hl
  have hnx : nx ≤ nx' := h'.nb
  have hO : Own j tab l.blk := ⟨b, _, l, hb, hl, rfl⟩
  have hnl : ¬ Own j' tab' l.blk := fun hn => by
    rcases h'.own _ hn with h1 | h1
    · exact hno h1
    · simp only [rndC] at h1; omega
  have hnone : aget tab' b = none := by
    cases hq : aget tab' b with
    | none => rfl
    | some y => exact absurd ⟨b, y, l, hq, hjb, rfl⟩ hnl
  have hheap : w'.heap[l.blk]? = some (.loop r) := (h'.keep l.blk hls hno).trans hh
  have hnc : ¬ IsCells w' l.blk := fun ⟨ms, e, fr, hq⟩ => by rw [hheap] at hq; cases hq
  have hown : ∀ k, Own j' (aset tab' b (.lp s c env)) k → k = l.blk ∨ Own j' tab' k := by
    rintro k ⟨d, z, l', hd, hl', rfl⟩
    rw [aget_aset] at hd
    by_cases e : d = b
    · subst e; rw [hjb] at hl'; cases hl'; exact .inl rfl
    · rw [if_neg e] at hd; exact .inr ⟨d, z, l', hd, hl', rfl⟩
  have hok : ∀ k, okc C (Own j tab) w k → okc C (Own j' (aset tab' b (.lp s c env))) w' k ∧ w'.heap[k]? = w.heap[k]? := by
    rintro k ⟨h1, h2, h3⟩
    refine ⟨⟨Nat.lt_of_lt_of_le h1 h'.size, fun hn => ?_, h3⟩, h'.keep k h1 (fun hn => h2 (own_adel hn))⟩
    rcases hown k hn with rfl | hn
    · exact h2 hO
    · rcases h'.own k hn with h4 | h4
      · exact h2 (own_adel h4)
      · simp only [rndC] at h4; omega
  refine ⟨⟨?_, by omega, fun x m hv => hv.mono hok (fun b hb => ⟨h'.agree b hb, Nat.lt_of_lt_of_le hb hnx⟩), hok⟩, hnone, hheap, hjb⟩
  exact {
    nb := by omega
    low := fun d z hd => by
      rw [aget_aset] at hd
      by_cases e : d = b
      · subst e; omega
      · rw [if_neg e] at hd; exact h'.low d z hd
    blk := fun d z hd => by
      rw [aget_aset] at hd
      by_cases e : d = b
      · subst e; rw [if_pos rfl] at hd; cases hd
        exact (h.blk d _ hb).mono hok (fun q hq => ⟨h'.agree q hq, Nat.lt_of_lt_of_le hq hnx⟩) hbn (fun l' hl' => by have e2 : j d = some l' := hl'; rw [hl] at e2; cases e2; exact hheap.trans hh.symm)
      · rw [if_neg e] at hd
        exact (h'.blk d z hd).monoC (fun k hk hcl => ⟨okc_unround h hl hbn h' hk (fun e => hnc (e ▸ hcl)), rfl⟩) (fun b hb => ⟨rfl, hb⟩) (h'.low d z hd) (fun _ _ => rfl)
    apart := fun d d' z z' l1 l2 hd hd' hne h1 h2 => by
      rw [aget_aset] at hd hd'
      by_cases e : d = b
      · subst e
        rw [hjb] at h1; cases h1
        rw [if_neg (Ne.symm hne)] at hd'
        exact fun he => hnl ⟨d', z', l2, hd', h2, he.symm⟩
      · rw [if_neg e] at hd
        by_cases e' : d' = b
        · subst e'
          rw [hjb] at h2; cases h2
          exact fun he => hnl ⟨d, z, l1, hd, h1, he⟩
        · rw [if_neg e'] at hd'
          exact h'.apart d d' z z' l1 l2 hd hd' hne h1 h2
    agree := fun d hd => (h'.agree d (show d < nx by have := h.nb; omega)).trans (h.agree d hd)
    own := fun k hk => by
      rcases hown k hk with rfl | hk
      · exact h.own _ hO
      · rcases h'.own k hk with h4 | h4
        · exact h.own k (own_adel h4)
        · right; have := h.size; simp only [rndC] at h4; omega
    ownG := fun k hk => by
      rcases hown k hk with rfl | hk
      · exact h.ownG _ hO
      · exact h'.ownG k hk
    size := Nat.le_trans h.size h'.size
    keep := fun k hk h0 => by
      refine (h'.keep k (Nat.lt_of_lt_of_le hk h.size) (fun hn => ?_)).trans (h.keep k hk h0)
      rcases h.own k (own_adel hn) with h4 | h4
      · exact h0 h4
      · omega
    os := h'.os.trans h.os
    tape := h'.tape.trans h.tape
    output := h'.output.trans h.output
    glob := h'.glob
    rd := h.rd }

theorem MemR.turnLp {lo : Nat} (h : MemR WG C j tab nx w) (hlx : lo ≤ nx) {b : Nat} {s s' : LSt} {c : LpC} {env : List (Nat × V)} {l : Loc} {r r' : Loop} (hb : aget tab b = some (.lp s c env)) (hl : j b = some l) (hh : w.heap[l.blk]? = some (.loop r))
    (h1 : r'.params = r.params) (h2 : r'.assign = r.assign) (h3 : r'.body = r.body) (h4 : r'.tmps = r.tmps) (h5 : s'.is r') :
    Moves WG C lo j tab nx w j (aset tab b (.lp s' c env)) nx (w.putObj l.blk (.loop r')) := by
  obtain ⟨hm, hk⟩ := h.turn (w' := w.putObj l.blk (.loop r')) hb hl (.lp s' c env) World.putObj_size (fun k hk => World.putObj_heap_other hk) rfl rfl rfl (fun hx => by
    obtain ⟨l', q, hl', hh', a1, a2, a3, a4, a5, a6⟩ := h.blk b _ hb
    rw [hl] at hl'; cases hl'
    rw [hh] at hh'; cases hh'
    exact ⟨l, r', hl, World.putObj_heap_same ((h.blk b _ hb).lt hl), h5, h1.trans a2, h2.trans a3, h3.trans a4, by rw [h4]; exact a5, fun t v ht => by
      obtain ⟨m, b1, b2⟩ := a6 t v ht
      exact ⟨m, by rw [h4]; exact b1, b2.mono (fun k hk => ⟨hk, hx k hk⟩) (fun b hb => ⟨rfl, hb⟩)⟩⟩)
  exact ⟨hm, hlx, fun x m hv => hv.mono hk (fun b hb => ⟨rfl, hb⟩), hk⟩

def roundQ (K : V → Tab → Nat → Prop) (b : Nat) (c : LpC) (env : List (Nat × V)) : VX → St → Prop
  | .normal, σ => aget σ.tab b = none → K (.p (.v (.bool true))) (aset σ.tab b (.lp .ready c env)) σ.nx
  | .ret, σ => aget σ.tab b = none → K (.p (.v (.bool false))) (aset σ.tab b (.lp (.done .ret) c env)) σ.nx
  | .exit i, σ => aget σ.tab b = none → K (.p (.v (.bool false))) (aset σ.tab b (.lp (.done (.exit i)) c env)) σ.nx
  | .goto i, σ => aget σ.tab b = none → K (.p (.v (.bool false))) (aset σ.tab b (.lp (.done (.goto i)) c env)) σ.nx
  | .panic _, _ => False
def noQ : VX → St → Prop := fun _ _ => False

def YldT (P : Program) (WG : World) (b : Nat) (vs : List V) (tab : Tab) (nx : Nat) (K : V → Tab → Nat → Prop) : Prop :=
  match aget tab b with
  | some (.lp .ready c env) => c.ps.toList.length = vs.length ∧ c.ps.toList.all (fun p => decide (p < c.n)) = true ∧
      T P WG c.asg ⟨putPs env c.ps.toList vs, adel tab b, nx, nx, c.n⟩ (thenQ (fun σ => T P WG c.bd ⟨σ.env, σ.tab, σ.nx, σ.nx, σ.n⟩ (roundQ K b c env)) noQ)
  | _ => False

theorem YldT.mono {b : Nat} {vs : List V} {K K' : V → Tab → Nat → Prop} (h : YldT P WG b vs tab nx K) (hk : ∀ r t n, K r t n → K' r t n) : YldT P WG b vs tab nx K' := by
  unfold YldT at h ⊢
  split at h
  · rename_i c env hb
    obtain ⟨h1, h2, h3⟩ := h
    refine ⟨h1, h2, h3.mono fun x σ hq => ?_⟩
    cases x with
    | normal =>
      refine T.mono hq fun y σ' hq' => ?_
      cases y with
      | panic => exact hq'
      | _ => exact fun hn => hk _ _ _ (hq' hn)
    | _ => exact hq
  · exact h.elim

theorem putPs_rel {ok : Nat → Prop} : ∀ (ps : List Nat) (vs : List V) (args : List Value) (env : List (Nat × V)) (tm : Array Value), args.length = vs.length → ps.length = vs.length → 
    (∀ (i : Nat) v, vs[i]? = some v → ∃ m, args[i]? = some m ∧ VR w ok j nx v m) → (∀ t v, aget env t = some v → ∃ m, tm[t]? = some m ∧ VR w ok j nx v m) → (∀ t v, aget (putPs env ps vs) t = some v → t < tm.size) →
    ∀ t v, aget (putPs env ps vs) t = some v → ∃ m, ((ps.zip args).foldl (fun tm (p : Nat × Value) => tm.setIfInBounds p.1 p.2) tm)[t]? = some m ∧ VR w ok j nx v m
  | [], vs, args, env, tm, h1, h2, h3, h4, h5, t, v, ht => by
    have : vs = [] := by cases vs with | nil => rfl | cons => simp at h2
    subst this
    simpa [putPs] using h4 t v (by simpa [putPs] using ht)
  | p :: ps, [], args, env, tm, h1, h2, h3, h4, h5, t, v, ht => by simp at h2
  | p :: ps, u :: vs, [], env, tm, h1, h2, h3, h4, h5, t, v, ht => by simp at h1
  | p :: ps, u :: vs, m :: args, env, tm, h1, h2, h3, h4, h5, t, v, ht => by
    simp only [List.zip_cons_cons, List.foldl_cons]
    simp only [putPs] at ht h5
    refine putPs_rel ps vs args (aset env p u) (tm.setIfInBounds p m) (by simpa using h1) (by simpa using h2) (fun i v hi => by simpa using h3 (i + 1) v (by simpa using hi)) (fun t v hv => ?_) (fun t v hv => by rw [Array.size_setIfInBounds]; exact h5 t v hv) t v ht
    rw [aget_aset] at hv
    by_cases e : t = p
    · subst e
      rw [if_pos rfl] at hv; cases hv
      obtain ⟨m', hm', hv'⟩ := h3 0 u rfl
      simp at hm'; subst hm'
      have hlt : t < tm.size := by
        have key : ∀ (ps : List Nat) (vs : List V) (env : List (Nat × V)), (∃ v, aget env t = some v) → ∃ v, aget (putPs env ps vs) t = some v := by
          intro ps
          induction ps with
          | nil => intro vs env h; cases vs <;> exact h
          | cons p ps ih =>
            intro vs env h
            cases vs with
            | nil => exact h
            | cons v vs =>
              simp only [putPs]
              refine ih vs _ ?_
              rw [aget_aset]
              by_cases e : t = p
              · exact ⟨v, by rw [if_pos e]⟩
              · rw [if_neg e]; exact h
        obtain ⟨v', hv2⟩ := key ps vs (aset env t u) ⟨u, by rw [aget_aset, if_pos rfl]⟩
        exact h5 t v' hv2
      exact ⟨m, by simp [hlt], hv'⟩
    · rw [if_neg e] at hv
      obtain ⟨m', a, b⟩ := h4 t v hv
      exact ⟨m', by rw [Array.getElem?_setIfInBounds, if_neg (fun h => e h.symm)]; exact a, b⟩

theorem VR.yldOf {ok : Nat → Prop} {b : Nat} {m : Value} (h : VR w ok j nx (.yld b) m) : ∃ l, j b = some l ∧ m = .func (.yield l.blk) #[] #[] := by
  cases h with | yld hb hl => exact ⟨_, hl, rfl⟩

theorem aget_putPs : ∀ (ps : List Nat) (vs : List V) (env : List (Nat × V)) (t : Nat) (v : V), aget (putPs env ps vs) t = some v → t ∈ ps ∨ aget env t = some v
  | [], vs, env, t, v, h => by cases vs <;> exact .inr h
  | p :: ps, [], env, t, v, h => .inr h
  | p :: ps, u :: vs, env, t, v, h => by
    simp only [putPs] at h
    rcases aget_putPs ps vs _ t v h with h1 | h1
    · exact .inl (List.mem_cons_of_mem _ h1)
    · rw [aget_aset] at h1
      by_cases e : t = p
      · exact .inl (by rw [e]; exact List.mem_cons_self)
      · rw [if_neg e] at h1; exact .inr h1

theorem foldl_set_size (l : List (Nat × Value)) : ∀ tm : Array Value, (l.foldl (fun tm (p : Nat × Value) => tm.setIfInBounds p.1 p.2) tm).size = tm.size := by
  induction l with
  | nil => exact fun _ => rfl
  | cons p r ih => intro tm; simp only [List.foldl_cons]; rw [ih, Array.size_setIfInBounds]

theorem yld_op {o : Oper} {x : Operand} {args : Array Operand} {ts : Array TypeId} {b : Nat} {vs : List V} {K : V → Tab → Nat → Prop} {a : Act} {next : Act → World → Prop} {Qx : Exit → Act → World → Prop}
    (hr : ERel WG C j σ a w) (ho : o.op = .call { callee := .value x, args := args, argTypes := ts }) (hx : ev σ x = some (.yld b)) (hvs : evs σ args.toList = some vs) (h : YldT P WG b vs σ.tab σ.nx K)
    (hk : ∀ j' tab' nx' w' r m, Moves WG C σ.lo j σ.tab σ.nx w j' tab' nx' w' → VR w' (okc C (Own j' tab') w') j' nx' r m → K r tab' nx' → next (a.put o.dst m) w') : o.wpIn (fw C.rnd) 0 P a w next Qx := by
  unfold YldT at h
  split at h
  case h_2 => exact h.elim
  rename_i c env hb
  obtain ⟨hps, hpn, hT⟩ := h
  obtain ⟨l, hl, hm⟩ := (hr.ev hx).yldOf
  have hargs := hr.evsA hvs
  obtain ⟨l', q, hl', hh, ⟨hst, hpe⟩, e1, e2, e3, e4, henv⟩ := hr.mem.blk b _ hb
  rw [hl] at hl'; cases hl'
  have hsz : (args.map a.eval).size = q.params.size := by have h1 := hargs.1; rw [e1]; rw [Array.length_toList] at hps; exact h1.trans hps.symm
  have hrun : (execOp a.eval o).run P w = .ok (.round l.blk q.fn ((q.params.zip (args.map a.eval)).foldl (fun tmps (t, a) => tmps.setIfInBounds t a) q.tmps) q.assign q.body) w := by
    unfold execOp; rw [ho]
    simp only [resolve, hm, Deferred.ofValue, Sem.run_bind, Sem.run_pure, Result.andThen_ok, invoke]
    simpa using run_yield hh hsz
  refine ⟨fun _ _ => trivial, ?_⟩
  rw [semAt_ok hrun (fun d e => by cases e)]
  simp only [Oper.uponIn]
  refine ⟨fun hd => by simp [fw, Fence.wide] at hd, ?_⟩
  refine roundIn_of_wpIn (F := fw C.rnd) trivial ?_
  have hm1 := hr.mem.inRound hb hl
  have hls : l.blk < w.heap.size := (hr.mem.blk b _ hb).lt hl
  have hbn := hr.mem.low b _ hb
  have hok1 : okc (rndC C j σ.tab b σ.nx w l.blk) (Own j (adel σ.tab b)) w l.blk := ⟨hls, hr.mem.not_own_adel hb hl, .inl (.inr rfl)⟩
  have hfold : (q.params.zip (args.map a.eval)).foldl (fun tmps (t, a) => tmps.setIfInBounds t a) q.tmps = ((c.ps.toList.zip (args.map a.eval).toList).foldl (fun tm (p : Nat × Value) => tm.setIfInBounds p.1 p.2) q.tmps) := by
    rw [← Array.foldl_toList, Array.toList_zip, e1]
  have hsz2 : ((q.params.zip (args.map a.eval)).foldl (fun tmps (t, a) => tmps.setIfInBounds t a) q.tmps).size = c.n := by rw [hfold, foldl_set_size, e4]
  generalize htm : (q.params.zip (args.map a.eval)).foldl (fun tmps (t, a) => tmps.setIfInBounds t a) q.tmps = tm at hfold hsz2 ⊢
  have hr1 : ERel WG (rndC C j σ.tab b σ.nx w l.blk) j ⟨putPs env c.ps.toList vs, adel σ.tab b, σ.nx, σ.nx, c.n⟩ { tmps := tm, defers := [] } w := by
    refine ⟨hm1, Nat.le_refl _, Nat.le_refl _, ?_, hsz2, ⟨⟨[], rfl, List.nodup_nil, by simp⟩, fun l2 hl2 => ?_⟩⟩
    · show ∀ t v, aget (putPs env c.ps.toList vs) t = some v → ∃ m, tm[t]? = some m ∧ _
      rw [hfold]
      refine putPs_rel c.ps.toList vs _ env q.tmps (by rw [Array.length_toList]; exact hargs.1) hps (fun i v hi => ?_) (fun t v ht => ?_) (fun t v ht => ?_)
      · have := hargs.2 i v hi
        have hlt : i < (args.map a.eval).size := by rw [hargs.1]; exact (List.getElem?_eq_some_iff.1 hi).1
        refine ⟨(args.map a.eval).getD i undef, ?_, this.mono (fun k hk => ⟨okc_round hl hk, rfl⟩) (fun b hb => ⟨rfl, hb⟩)⟩
        rw [Array.getElem?_toList, Array.getElem?_eq_getElem hlt]
        simp only [Array.getD, hlt, dif_pos, Array.getInternal_eq_getElem]
      · obtain ⟨m, a1, a2⟩ := henv t v ht
        exact ⟨m, a1, a2.mono (fun k hk => ⟨okc_round hl hk, rfl⟩) (fun b hb => ⟨rfl, hb⟩)⟩
      · rcases aget_putPs _ _ _ _ _ ht with h1 | h1
        · rw [e4]; simpa using List.all_eq_true.1 hpn t h1
        · obtain ⟨m, a1, _⟩ := henv t v h1
          exact (Array.getElem?_eq_some_iff.1 a1).1
    · cases hl2; exact ⟨rfl, hok1, q, hh⟩
  rw [e2]
  have hb0 : (fw C.rnd).inRound l.blk = fw (some l.blk) := rfl
  rw [hb0]
  refine wpIn_mono (hT _ j _ w hr1) fun e a1 w1 ⟨x1, σ1, j1, hx1, hr2, hq1⟩ => ?_
  cases hx1 with
  | exit => exact hq1.elim
  | goto => exact hq1.elim
  | ret => exact hq1.elim
  | panic h => exact hq1.elim
  | normal =>
    have hq1 : T P WG c.bd ⟨σ1.env, σ1.tab, σ1.nx, σ1.nx, σ1.n⟩ (roundQ K b c env) := hq1
    obtain ⟨mv1, hnone, hh1, hj1⟩ := hr.mem.outRound (lo := σ.lo) hr.lo hr.lx hb hl hh hr2.mem
    have hb1 : aget (aset σ1.tab b (.lp .ready c env)) b = some (.lp .ready c env) := by rw [aget_aset, if_pos rfl]
    have mv2 := mv1.mem.turnLp (s' := .busy) (r' := { q with state := .busy }) mv1.lx hb1 hj1 hh1 rfl rfl rfl rfl rfl
    rw [aset_aset] at mv2
    refine ⟨_, run_beginRound hh1 hst, ?_⟩
    have hb2 : aget (aset σ1.tab b (.lp .busy c env)) b = some (.lp .busy c env) := by rw [aget_aset, if_pos rfl]
    have hls1 : l.blk < w1.heap.size := (Array.getElem?_eq_some_iff.1 hh1).1
    have hh2 : (w1.putObj l.blk (.loop { q with state := .busy })).heap[l.blk]? = some (.loop { q with state := .busy }) := World.putObj_heap_same hls1
    have hm3 := mv2.mem.inRound hb2 hj1
    have hno3 := mv2.mem.not_own_adel hb2 hj1
    rw [adel_aset hnone] at hm3 hno3
    have hnc : ¬ IsCells w1 l.blk := fun ⟨ms, e, fr, hq⟩ => by rw [hh1] at hq; cases hq
    have hok3 : okc (rndC C j1 (aset σ1.tab b (.lp .busy c env)) b σ1.nx (w1.putObj l.blk (.loop { q with state := .busy })) l.blk) (Own j1 σ1.tab) (w1.putObj l.blk (.loop { q with state := .busy })) l.blk := ⟨by rw [World.putObj_size]; exact hls1, hno3, .inl (.inr rfl)⟩
    obtain ⟨hd1, _, _⟩ := hr2.defers.rnd l.blk rfl
    have hr3 : ERel WG (rndC C j1 (aset σ1.tab b (.lp .busy c env)) b σ1.nx (w1.putObj l.blk (.loop { q with state := .busy })) l.blk) j1 ⟨σ1.env, σ1.tab, σ1.nx, σ1.nx, σ1.n⟩ a1 (w1.putObj l.blk (.loop { q with state := .busy })) := by
      refine ⟨hm3, Nat.le_refl _, Nat.le_refl _, fun t v ht => ?_, hr2.n, ⟨⟨[], by rw [hd1]; rfl, List.nodup_nil, by simp⟩, fun l2 hl2 => ?_⟩⟩
      · obtain ⟨m, a2, a3⟩ := hr2.env t v ht
        refine ⟨m, a2, a3.monoC (fun k hk hcl => ?_) (fun b hb => ⟨rfl, hb⟩)⟩
        have hne : k ≠ l.blk := fun e => hnc (e ▸ hcl)
        have h4 := okc_unround (y := .lp .busy c env) hr.mem hl hbn hr2.mem hk hne
        refine ⟨⟨by rw [World.putObj_size]; exact hk.1, hk.2.1, .inl (.inl ⟨by rw [World.putObj_size]; exact h4.1, h4.2⟩)⟩, World.putObj_heap_other hne⟩
      · cases hl2; exact ⟨hd1, hok3, _, hh2⟩
    have hq1 : T P WG q.body ⟨σ1.env, σ1.tab, σ1.nx, σ1.nx, σ1.n⟩ (roundQ K b c env) := by rw [e3]; exact hq1
    refine wpIn_mono (hq1 _ j1 a1 _ hr3) fun e a2 w3 ⟨x2, σ2, j2, hx2, hr4, hq2⟩ => ?_
    obtain ⟨mv3, hnone2, hh3, hj2⟩ := mv2.mem.outRound (lo := σ.lo) (by have := mv2.mem.nb; exact hr.lo) mv2.lx hb2 hj1 hh2 hr4.mem
    have hb3 : aget (aset σ2.tab b (.lp .busy c env)) b = some (.lp .busy c env) := by rw [aget_aset, if_pos rfl]
    have fin : ∀ (jump : Option Code) (s : LSt), (∀ q : Loop, s.is { q with state := if jump.isNone then .ready else .done, pending := jump }) → K (.p (.v (.bool jump.isNone))) (aset σ2.tab b (.lp s c env)) σ2.nx →
        ∃ v w', (Instr.endRound l.blk jump).run P w3 = .ok v w' ∧ next (a.put o.dst v) w' := fun jump s hs hK => by
      have mv4 := mv3.mem.turnLp (s' := s) (r' := { ({ q with state := .busy } : Loop) with state := if jump.isNone then .ready else .done, pending := jump }) mv3.lx hb3 hj2 hh3 rfl rfl rfl rfl (hs _)
      rw [aset_aset] at mv4
      exact ⟨_, _, run_endRound jump hh3, hk j2 _ _ _ _ (.bool jump.isNone) (((mv1.trans mv2).trans mv3).trans mv4) (.p (.v rfl)) hK⟩
    cases hx2 with
    | normal => exact fin none .ready (fun q => ⟨rfl, rfl⟩) (hq2 hnone2)
    | ret => exact fin (some .ret) (.done .ret) (fun q => ⟨rfl, rfl⟩) (hq2 hnone2)
    | @exit i => exact fin (some (.exit i)) (.done (.exit i)) (fun q => ⟨rfl, rfl⟩) (hq2 hnone2)
    | @goto i => exact fin (some (.goto i)) (.done (.goto i)) (fun q => ⟨rfl, rfl⟩) (hq2 hnone2)
    | panic h => exact hq2.elim

theorem RT_yld {ops : Array Oper} {Q : VX → St → Prop} {i : Nat} {rest : List Nat} {o : Oper} {x : Operand} {args : Array Operand} {ts : Array TypeId} {b : Nat} {vs : List V} (hi : ops[i]? = some o) (hg : o.guard = none) (hd : dstOk σ o.dst)
    (ho : o.op = .call { callee := .value x, args := args, argTypes := ts }) (hx : ev σ x = some (.yld b)) (hvs : evs σ args.toList = some vs)
    (h : YldT P WG b vs σ.tab σ.nx (fun r tab nx => RT P WG ops rest (putS σ o.dst r tab nx) Q)) : RT P WG ops (i :: rest) σ Q := by
  intro C j a w hr
  simp only [wpOpsIn, hi, wanted_none hg, if_true]
  exact yld_op hr ho hx hvs h (fun j' tab' nx' w' r m hm hv hk => hk C j' _ w' (put_rel hr hm hv hd))
end
end Go.Gp

namespace Go.Gp
open Go.RowKit
inductive Ext where
  | add64 | idxB
  deriving DecidableEq, Repr
def extRow : Ext → Array Value → Sem Value
  | .add64 => add64Entry
  | .idxB => Extern.BytealgIndexByte.indexByte
def extNamed (n : String) : Option Ext :=
  if n = "math/bits.Add64" then some .add64 else if n = "internal/bytealg.IndexByteString" then some .idxB else none
def extOf (P : Program) (g : FuncId) : Option Ext :=
  match P.funcs[g]? with
  | some fn => if fn.body.isNone && fn.origin == "" then extNamed fn.name else none
  | none => none

theorem find_of {fn : Func} {e : Ext} (h : extNamed fn.name = some e) (ho : fn.origin = "") : Extern.findNext fn = none ∧ Extern.find fn = some (extRow e) ∧ (fn.name == "runtime.NumGoroutine") = false := by
  unfold extNamed at h
  split at h
  · rename_i hn
    cases h
    refine ⟨?_, ?_, by rw [hn]; decide⟩
    · unfold Extern.findNext; simp only [ho, hn]; kernel_rfl
    · unfold Extern.find; simp only [ho, hn]; kernel_rfl
  · split at h
    · rename_i hn
      cases h
      refine ⟨?_, ?_, by rw [hn]; decide⟩
      · unfold Extern.findNext; simp only [ho, hn]; kernel_rfl
      · unfold Extern.find; simp only [ho, hn]; kernel_rfl
    · cases h

def extV : Ext → List V → Option (V × Prop)
  | .add64, [.p (.v (.int .u64 a)), .p (.v (.int .u64 b)), .p (.v (.int .u64 c))] => some (.tup [.p (.v (.int .u64 ((a + b + c) % 18446744073709551616))), .p (.v (.int .u64 ((a + b + c) / 18446744073709551616)))], 0 ≤ a ∧ 0 ≤ b ∧ 0 ≤ c ∧ c ≤ 1)
  | .idxB, [.p (.v (.string s)), .p (.v (.int .u8 c))] => some (.p (.v (.int .i64 (firstIdx s c.toNat.toUInt8))), True)
  | _, _ => none

section
variable {P : Program} {WG : World} {σ : St}
theorem pr_flat {w : World} {ok : Nat → Prop} {x m : Value} (h : PR w ok (.v x) m) : m = x := by cases h; rfl
theorem op_ext {o : Oper} {x : Operand} {args : Array Operand} {ts : Array TypeId} {vf v : V} {g : FuncId} {fs cs vs : List V} {e : Ext} {side : Prop} (ho : o.op = .call { callee := .value x, args := args, argTypes := ts })
    (hx : ev σ x = some vf) (hc : cloOf vf = some (g, fs, cs)) (hvs : evs σ args.toList = some vs) (he : extOf P g = some e) (hv : extV e (fs ++ vs ++ cs) = some (v, side)) (hs : side) : OpS P WG o σ (fun v' t n => v' = v ∧ t = σ.tab ∧ n = σ.nx) := by
  refine .pure (fun C j a w hr => ?_) ⟨rfl, rfl, rfl⟩
  obtain ⟨ms, ns, hm, hms, hns⟩ := (hr.ev hx).cloOf hc
  have hargs := (hms.append (hr.evsA hvs)).append hns
  unfold extOf at he
  split at he
  case h_2 => cases he
  rename_i fn hf
  split at he
  case isFalse => cases he
  rename_i hb
  simp only [Bool.and_eq_true, beq_iff_eq] at hb
  obtain ⟨h1, h2, h3⟩ := find_of he hb.2
  have hcall := run_callFunc_extern (P := P) hf h3 hb.1 h1 h2 (ms ++ args.map a.eval ++ ns) w
  have hrun : ∀ {m : Value}, (extRow e (ms ++ args.map a.eval ++ ns)).run P w = .ok m w → (execOp a.eval o).run P w = .ok (.value m) w := fun h => by
    unfold execOp; rw [ho]
    simp only [resolve, hm, Deferred.ofValue, Sem.run_bind, Sem.run_pure, Result.andThen_ok, invoke, hcall, h]
  generalize hall : ms ++ args.map a.eval ++ ns = as at hargs hrun
  generalize hl : fs ++ vs ++ cs = l at hargs hv
  unfold extV at hv
  split at hv
  · rename_i x y c
    cases hv
    obtain ⟨s1, s2, s3, s4⟩ := hs
    have e1 : as = #[.int .u64 x, .int .u64 y, .int .u64 c] := by
      obtain ⟨as⟩ := as
      match as, hargs.1 with
      | [p, q, r], _ =>
        have a0 := hargs.2 0 _ rfl
        have a1 := hargs.2 1 _ rfl
        have a2 := hargs.2 2 _ rfl
        simp only [Array.getD_eq_getD_getElem?] at a0 a1 a2
        cases a0 with | p h => cases a1 with | p k => cases a2 with | p m =>
          have b0 := pr_flat h
          have b1 := pr_flat k
          have b2 := pr_flat m
          simp at b0 b1 b2
          subst b0 b1 b2; rfl
    subst e1
    refine ⟨_, hrun (run_add64 x y c s1 s2 s3 s4 w), .tup (by rfl) (fun i u hi => ?_)⟩
    match i, hi with
    | 0, hi => cases hi; exact .p (.v rfl)
    | 1, hi => cases hi; exact .p (.v rfl)
  · rename_i s c
    cases hv
    have e1 : as = #[.string s, .int .u8 c] := by
      obtain ⟨as⟩ := as
      match as, hargs.1 with
      | [p, q], _ =>
        have a0 := hargs.2 0 _ rfl
        have a1 := hargs.2 1 _ rfl
        simp only [Array.getD_eq_getD_getElem?] at a0 a1
        cases a0 with | p h => cases a1 with | p k =>
          have b0 := pr_flat h
          have b1 := pr_flat k
          simp at b0 b1
          subst b0 b1; rfl
    subst e1
    exact ⟨_, hrun (run_indexByte_string s c w), .p (.v rfl)⟩
  · cases hv
end
end Go.Gp

namespace Go.Gp
open Go.RowKit
def condV : V → Bool
  | .cnd b _ => b
  | _ => true
def stripV : V → V
  | .cnd _ x => x
  | x => x

def binI' (op : BinOp) (k : IntKind) (a b : Int) : Option (Value × Prop) :=
  match op with
  | .add => some (.int k (k.wrap (a + b)), True)
  | .sub => some (.int k (k.wrap (a - b)), True)
  | .mul => some (.int k (k.wrap (a * b)), True)
  | .quo => some (.int k (k.wrap (a.tdiv b)), b ≠ 0)
  | .rem => some (.int k (a.tmod b), b ≠ 0)
  | .and => some (.int k (bits2 k (· &&& ·) a b), True)
  | .or => some (.int k (bits2 k (· ||| ·) a b), True)
  | .xor => some (.int k (bits2 k (· ^^^ ·) a b), True)
  | .andNot => some (.int k (bits2 k (fun x y => x &&& ~~~y) a b), True)
  | .eql => some (.bool (decide (a = b)), True)
  | .neq => some (.bool (!decide (a = b)), True)
  | .lss => some (.bool (decide (a < b)), True)
  | .leq => some (.bool (decide (a ≤ b)), True)
  | .gtr => some (.bool (decide (b < a)), True)
  | .geq => some (.bool (decide (b ≤ a)), True)
  | .shl => some (.int k (k.wrap (a * 2 ^ shAmt k b)), 0 ≤ b)
  | .shr => some (.int k (a.fdiv (2 ^ shAmt k b)), 0 ≤ b)

def binS' (op : BinOp) (a b : ByteArray) : Option (Value × Prop) :=
  match op with
  | .add => some (.string (a ++ b), (a.size : Int) + b.size ≤ 9223372036854775807)
  | .eql => some (.bool (strEq a b), True)
  | .neq => some (.bool (!strEq a b), True)
  | .lss => some (.bool (strLt a b), True)
  | .leq => some (.bool (strLt a b || strEq a b), True)
  | .gtr => some (.bool (!(strLt a b || strEq a b)), True)
  | .geq => some (.bool (!strLt a b), True)
  | _ => none

def pv (x : Option (Value × Prop)) : Option (V × Prop) :=
  match x with
  | some (v, s) => some (.p (.v v), s)
  | none => none

def binF (P : Program) (bo : BinOp) (xt : TypeId) (x y : V) : Option (V × Prop) :=
  match x, y with
  | .p (.v (.int k a)), .p (.v (.int k' b)) => if isShift bo || decide (k = k') then pv (binI' bo k a b) else none
  | .p (.v (.string a)), .p (.v (.string b)) => pv (binS' bo a b)
  | .p (.v (.bool a)), .p (.v (.bool b)) =>
    match tiOf P xt with
    | some i => if i.d = .bool then (match bo with | .eql => some (.p (.v (.bool (a == b))), True) | .neq => some (.p (.v (.bool (!(a == b)))), True) | _ => none) else none
    | none => none
  | .p (.agg cs), .p (.agg ds) =>
    match tiOf P xt with
    | some i =>
      if i.agg && eqA P xt then
        (match bo with | .eql => some (.p (.v (.bool (pvsEq cs ds))), fitKs i.zero cs = true ∧ fitKs i.zero ds = true) | .neq => some (.p (.v (.bool (!pvsEq cs ds))), fitKs i.zero cs = true ∧ fitKs i.zero ds = true) | _ => none)
      else none
    | none => none
  | _, _ => none

def unF (uo : UnOp) (x : V) : Option (V × Prop) :=
  match uo, x with
  | .not, .p (.v (.bool b)) => some (.p (.v (.bool !b)), True)
  | .neg, .p (.v (.int k n)) => some (.p (.v (.int k (k.wrap (0 - n)))), True)
  | .xor, .p (.v (.int k n)) => some (.p (.v (.int k (bits2 k (· ^^^ ·) (if k.signed then -1 else k.max) n))), True)
  | _, _ => none

def loadF (P : Program) (tab : Tab) (t : TypeId) (x : V) : Option (V × Prop) :=
  match tiOf P t, x with
  | some i, .ref b o =>
    match aget tab b with
    | some (.box cs) => if i.agg || i.size == 1 then some (readV i cs o, o + i.size ≤ cs.length) else none
    | _ => none
  | some i, .p (.ptr y o) => if i.agg || i.size == 1 then some (readX i y o, o + i.size ≤ y.cells.length) else none
  | some i, .eref b s k c =>
    match aget tab b with
    | some (.arr s' xs _) =>
      match xs[k]? with
      | some y => if (i.agg || i.size == 1) && s' == s then some (readX i y c, c + i.size ≤ s) else none
      | none => none
    | _ => none
  | _, _ => none

def fieldAddrF (P : Program) (s : TypeId) (f : Nat) (x : V) : Option (V × Prop) :=
  match tiOf P s with
  | some i =>
    match i.d with
    | .struct fs =>
      match fs[f]? with
      | some (off, _, sz) => if sz = 0 then none else (match addrAdd x off with | some v => some (v, True) | none => none)
      | none => none
    | _ => none
  | none => none

def fieldF (P : Program) (s : TypeId) (f : Nat) (x : V) : Option (V × Prop) :=
  match tiOf P s with
  | some i =>
    match i.d with
    | .struct fs =>
      match fs[f]? with
      | some (off, ft, _) =>
        match tiOf P ft with
        | some fi => if (fi.agg || fi.size == 1) && x.isAgg then some (readV fi x.cells off, off + fi.size ≤ x.cells.length) else none
        | none => none
      | none => none
    | _ => none
  | none => none

def indexF (P : Program) (t : TypeId) (x ix : V) : Option (V × Prop) :=
  match tiOf P t, ix with
  | some i, .p (.v (.int _ q)) =>
    match i.d, x with
    | .str, .p (.v (.string s)) => some (.p (.v (.int .u8 ((bAt s q.toNat).toNat))), 0 ≤ q ∧ q < (s.size : Int))
    | .array n e, x =>
      match tiOf P e with
      | some ei => if (ei.agg || ei.size == 1) && x.isAgg then some (readV ei x.cells (q.toNat * ei.size), (0 ≤ q ∧ q < (n : Int)) ∧ q.toNat * ei.size + ei.size ≤ x.cells.length) else none
      | none => none
    | _, _ => none
  | _, _ => none

def indexAddrF (P : Program) (t : TypeId) (x ix : V) : Option (V × Prop) :=
  match tiOf P t, ix with
  | some i, .p (.v (.int _ q)) =>
    match i.d with
    | .array n e =>
      match tiOf P e with
      | some ei => (match addrAdd x (q.toNat * ei.size) with | some v => some (v, 0 ≤ q ∧ q < (n : Int)) | none => none)
      | none => none
    | .slice e =>
      match tiOf P e, x with
      | some ei, .p (.sl s xs) => (match xs[q.toNat]? with | some y => if ei.size = s then some (.p (.ptr y 0), 0 ≤ q) else none | none => none)
      | some ei, .osl b s lo len _ => if ei.size = s then some (.eref b s (lo + q.toNat) 0, 0 ≤ q ∧ q < (len : Int)) else none
      | some ei, .bsl b o s len _ => if ei.size = s then some (.ref b (o + q.toNat * s), 0 ≤ q ∧ q < (len : Int)) else none
      | _, _ => none
    | _ => none
  | _, _ => none

def lenF (P : Program) (t : TypeId) (x : V) : Option (V × Prop) :=
  match tiOf P t with
  | some i =>
    match i.d with
    | .str => (match x with | .p (.v (.string s)) => some (.p (.v (.int .i64 s.size)), True) | _ => none)
    | .slice _ => (match lenV x with | some n => some (.p (.v (.int .i64 n)), True) | none => none)
    | .array n _ => some (.p (.v (.int .i64 n)), True)
    | _ => none
  | none => none

def convF (P : Program) (s t : TypeId) (x : V) : Option (V × Prop) :=
  match tiOf P s, tiOf P t with
  | some i', some i =>
    match i.d, x with
    | .int k, .p (.v (.int _ n)) => some (.p (.v (.int k (k.wrap n))), True)
    | .str, .p (.v (.string b)) => if i'.d = .str then some (.p (.v (.string b)), True) else none
    | _, _ => none
  | _, _ => none

def ifaceF (P : Program) (t : TypeId) (x : V) : Option (V × Prop) :=
  match tiOf P t with
  | some i => if i.d = .iface then none else some (.ifc t x, True)
  | none => none

def zipParts : List (Nat × Operand) → List V → Option (List (Nat × V))
  | [], [] => some []
  | (k, _) :: r, v :: s => match zipParts r s with | some l => some ((k, v) :: l) | none => none
  | _, _ => none

def buildF (P : Program) (t : TypeId) (parts : List (Nat × Operand)) (vs : List V) : Option (V × Prop) :=
  match tiOf P t with
  | some i =>
    match placesOf P i.d, zipParts parts vs with
    | some pl, some l => (match fillV pl (i.zero.map fun x => V.p (.v x)) l with | some out => some (mkAgg out, True) | none => none)
    | _, _ => none
  | none => none

def extractF (k : Nat) (x : V) : Option (V × Prop) :=
  match x with
  | .tup vs => (match vs[k]? with | some v => some (v, True) | none => none)
  | _ => none

def minF (mx : Bool) (x y : V) : Option (V × Prop) :=
  match x, y with
  | .p (.v (.int k a)), .p (.v (.int k' b)) => if k = k' then some (.p (.v (.int k (if mx then (if a < b then b else a) else (if b < a then b else a)))), True) else none
  | _, _ => none

def max3F (x y z : V) : Option (V × Prop) :=
  match x, y, z with
  | .p (.v (.int k a)), .p (.v (.int k' b)), .p (.v (.int k'' d)) => if k = k' ∧ k = k'' then some (.p (.v (.int k (if (if a < b then b else a) < d then d else (if a < b then b else a)))), True) else none
  | _, _, _ => none

def callF (P : Program) (c : Call) (vs : List V) : Option (V × Prop) :=
  match c.callee with
  | .builtin .len => (match c.argTypes.toList, vs with | [t], [x] => lenF P t x | _, _ => none)
  | .builtin .min => (match vs with | [x, y] => minF false x y | _ => none)
  | .builtin .max => (match vs with | [x, y] => minF true x y | [x, y, z] => max3F x y z | _ => none)
  | _ => none

def boundF : Option Operand → List V → Option (Option Int × List V)
  | none, vs => some (none, vs)
  | some _, .p (.v (.int _ n)) :: vs => some (some n, vs)
  | _, _ => none

def sliceV (P : Program) (t : TypeId) (x : V) (l h m : Option Int) : Option (V × Prop) :=
  match tiOf P t, m with
  | some i, none =>
    match i.d, x with
    | .str, .p (.v (.string s)) => some (.p (.v (.string (s.extract (l.getD 0).toNat (h.getD s.size).toNat))), 0 ≤ l.getD 0 ∧ l.getD 0 ≤ h.getD s.size ∧ h.getD s.size ≤ s.size)
    | .slice e, .p (.sl s xs) =>
      match tiOf P e with
      | some ei => if ei.size = s then some (.p (.sl s ((xs.drop (l.getD 0).toNat).take ((h.getD xs.length).toNat - (l.getD 0).toNat))), 0 ≤ l.getD 0 ∧ l.getD 0 ≤ h.getD xs.length ∧ h.getD xs.length ≤ xs.length) else none
      | none => none
    | .slice e, .osl b s lo0 len cap =>
      match tiOf P e with
      | some ei => if ei.size = s then some (.osl b s (lo0 + (l.getD 0).toNat) ((h.getD len).toNat - (l.getD 0).toNat) (cap.map (· - (l.getD 0).toNat)), 0 ≤ l.getD 0 ∧ l.getD 0 ≤ h.getD len ∧ h.getD len ≤ len) else none
      | none => none
    | .slice e, .bsl b o s len cap =>
      match tiOf P e with
      | some ei => if ei.size = s then some (.bsl b (o + (l.getD 0).toNat * s) s ((h.getD len).toNat - (l.getD 0).toNat) (cap - (l.getD 0).toNat), 0 ≤ l.getD 0 ∧ l.getD 0 ≤ h.getD len ∧ h.getD len ≤ len) else none
      | none => none
    | .slice e, .p (.v (.slice none 0 0)) =>
      match tiOf P e with
      | some _ => some (.p (.v (.slice none 0 0)), l.getD 0 = 0 ∧ h.getD 0 = 0)
      | none => none
    | .array n e, .ref b o =>
      match tiOf P e with
      | some ei => some (.bsl b (o + (l.getD 0).toNat * ei.size) ei.size ((h.getD n).toNat - (l.getD 0).toNat) (n - (l.getD 0).toNat), 0 ≤ l.getD 0 ∧ l.getD 0 ≤ h.getD n ∧ h.getD n ≤ n)
      | none => none
    | .array n e, .p (.ptr y o) =>
      match tiOf P e with
      | some ei => if ei.agg || ei.size == 1 then some (.p (.sl ei.size (elemsOf ei.agg ei.size ((h.getD n).toNat - (l.getD 0).toNat) (y.cells.drop (o + (l.getD 0).toNat * ei.size)))), (0 ≤ l.getD 0 ∧ l.getD 0 ≤ h.getD n ∧ h.getD n ≤ n) ∧ o + n * ei.size ≤ y.cells.length) else none
      | none => none
    | _, _ => none
  | some i, some m =>
    match i.d with
    | .slice e =>
      match tiOf P e, lenV x with
      | some _, some _ => some (.zc, l.getD 0 = 0 ∧ h = some 0 ∧ m = 0)
      | _, _ => none
    | _ => none
  | none, _ => none

def sliceF (P : Program) (t : TypeId) (lo hi mx : Option Operand) (x : V) (vs : List V) : Option (V × Prop) :=
  match boundF lo vs with
  | some (l, vs1) =>
    match boundF hi vs1 with
    | some (h, vs2) =>
      match boundF mx vs2 with
      | some (m, []) => sliceV P t x l h m
      | _ => none
    | none => none
  | none => none

def byteOf : PV → UInt8
  | .v (.int _ n) => UInt8.ofNat n.toNat
  | _ => 0
theorem byteOf_bytesP (l : List UInt8) : (bytesP l).map byteOf = l := by
  induction l with
  | nil => rfl
  | cons x r ih => simp only [bytesP, List.map_cons] at ih ⊢; rw [ih]; simp [byteP, byteOf]

def convS (P : Program) (tab : Tab) (s t : TypeId) (x : V) : Option (V × Prop) :=
  match tiOf P s, tiOf P t with
  | some i', some i =>
    match i'.d, i.d with
    | .slice e, .str =>
      match tiOf P e with
      | some ei =>
        if ei.d = .int .u8 then
          match x with
          | .p (.v (.string _)) => none
          | x =>
            match srcV tab false 1 x with
            | some (ys, side) => some (.p (.v (.string ⟨(ys.map byteOf).toArray⟩)), side ∧ ys = bytesP (ys.map byteOf))
            | none => none
        else none
      | none => none
    | _, _ => none
  | _, _ => none

def convA (P : Program) (tab : Tab) (s t : TypeId) (x : V) : Option (V × Prop) :=
  match convF P s t x with
  | some r => some r
  | none => convS P tab s t x

def lookupF (P : Program) (tab : Tab) (t : TypeId) (x k : V) (ok : Bool) : Option (V × Prop) :=
  match tiOf P t, x, k with
  | some i, .mp b, .p (.v key) =>
    match i.d with
    | .map kt et =>
      match kkOf P kt, tiOf P et, aget tab b with
      | some kk, some ei, some (.mp kk' es) =>
        if decide (kk' = kk) && keyK kk key then some (if ok then .tup [.p (mget es key ei.zeroP), .p (.v (.bool (mhas es key)))] else .p (mget es key ei.zeroP), True) else none
      | _, _, _ => none
    | _ => none
  | _, _, _ => none

def nilCheckF (x : V) : Option (V × Prop) :=
  match x with
  | .ref b o => some (.ref b o, True)
  | .p (.ptr y o) => some (.p (.ptr y o), True)
  | _ => none

def assertF (P : Program) (t : TypeId) (x : V) (ok : Bool) : Option (V × Prop) :=
  match tiOf P t, x with
  | some i, .ifc u v => if i.d = .iface then none else if ok && decide (u = t) then some (.tup [v, .p (.v (.bool true))], True) else none
  | _, _ => none

def opF (P : Program) (tab : Tab) (op : Op) (vs : List V) : Option (V × Prop) :=
  match op with
  | .nilCheck _ => (match vs with | [x] => nilCheckF x | _ => none)
  | .typeAssert _ _ t ok => (match vs with | [x] => assertF P t x ok | _ => none)
  | .move _ | .assign _ => (match vs with | [x] => some (x, True) | _ => none)
  | .binOp bo xt _ yo _ => (match vs with | [x, y] => (match nilF P bo xt yo x with | some r => some r | none => binF P bo xt x y) | _ => none)
  | .lookup t _ _ ok => (match vs with | [x, k] => lookupF P tab t x k ok | _ => none)
  | .unOp uo _ _ => (match vs with | [x] => unF uo x | _ => none)
  | .convert s t _ => (match vs with | [x] => convA P tab s t x | _ => none)
  | .slice t _ lo hi mx => (match vs with | x :: r => sliceF P t lo hi mx x r | _ => none)
  | .makeInterface t _ => (match vs with | [x] => ifaceF P t x | _ => none)
  | .makeFunc fn fs _ => some (.clo fn (vs.take fs.size) (vs.drop fs.size), True)
  | .load t _ => (match vs with | [x] => loadF P tab t x | _ => none)
  | .fieldAddr s _ f => (match vs with | [x] => fieldAddrF P s f x | _ => none)
  | .field s _ f => (match vs with | [x] => fieldF P s f x | _ => none)
  | .index t _ _ => (match vs with | [x, y] => indexF P t x y | _ => none)
  | .indexAddr t _ _ => (match vs with | [x, y] => indexAddrF P t x y | _ => none)
  | .extract _ k => (match vs with | [x] => extractF k x | _ => none)
  | .build t parts => buildF P t parts.toList vs
  | .call c => callF P c vs
  | _ => none

section
variable {P : Program} {WG : World} {σ : St}
theorem op_nilCheck {op : Oper} {K : V → Tab → Nat → Prop} {x : Operand} {v : V} (ho : op.op = .nilCheck x) (hx : ev σ x = some v) (hn : nilCheckF v = some (v, True)) (hk : K v σ.tab σ.nx) : OpS P WG op σ K := by
  refine .pure (fun C j a w hr => ⟨a.eval x, ?_, hr.ev hx⟩) hk
  have hv := hr.ev hx
  unfold execOp; rw [ho]
  simp only
  generalize a.eval x = m at hv ⊢
  cases hv with
  | p hp => cases hp <;> first | (simp [nilCheckF] at hn; done) | rfl
  | _ => first | (simp [nilCheckF] at hn; done) | rfl

theorem op_typeAssert {op : Oper} {K : V → Tab → Nat → Prop} {x : Operand} {s t : TypeId} {i : TI} {v : V} (ho : op.op = .typeAssert x s t true) (hi : tiOf P t = some i) (hd : i.d ≠ .iface) (hx : ev σ x = some (.ifc t v)) (hk : K (.tup [v, .p (.v (.bool true))]) σ.tab σ.nx) : OpS P WG op σ K := by
  refine .pure (fun C j a w hr => ?_) hk
  obtain ⟨info, d, z, ht⟩ := tiOf_some hi
  have hv := hr.ev hx
  generalize hm : a.eval x = m at hv
  cases hv with
  | ifc h =>
    rename_i m
    refine ⟨.tuple #[m, .bool true], ?_, .tup rfl (fun k u hu => ?_)⟩
    · unfold execOp; rw [ho]
      have htd := ht.td
      simp only [Instr.typeAssert, Sem.run_bind, ht.run_und, Result.andThen_ok, hm]
      cases d <;> first | rfl | (simp only [tdOf] at htd; exact absurd htd.symm hd) | simp
    · rcases k with _ | _ | k
      · simp at hu; subst hu; exact h
      · simp at hu; subst hu; exact .p (.v rfl)
      · simp at hu

theorem evs_one {x : Operand} {vs : List V} (h : evs σ [x] = some vs) : ∃ v, vs = [v] ∧ ev σ x = some v := by
  simp only [evs] at h
  split at h
  · rename_i v l hv hl; cases hl; cases h; exact ⟨v, rfl, hv⟩
  · cases h
theorem evs_two {x y : Operand} {vs : List V} (h : evs σ [x, y] = some vs) : ∃ v u, vs = [v, u] ∧ ev σ x = some v ∧ ev σ y = some u := by
  simp only [evs] at h
  split at h
  · rename_i v l hv hl
    split at hl
    · rename_i u l' hu hl'; cases hl'; cases hl; cases h; exact ⟨v, u, rfl, hv, hu⟩
    · cases hl
  · cases h

theorem evs_len {σ : St} : ∀ {l : List Operand} {vs : List V}, evs σ l = some vs → vs.length = l.length
  | [], _, h => by cases h; rfl
  | x :: l, vs, h => by
    simp only [evs] at h
    split at h
    · rename_i v l' hv hl; cases h; simp [evs_len hl]
    · cases h
theorem evs_three {x y z : Operand} {vs : List V} (h : evs σ [x, y, z] = some vs) : ∃ u v w, vs = [u, v, w] ∧ ev σ x = some u ∧ ev σ y = some v ∧ ev σ z = some w := by
  simp only [evs] at h
  split at h
  · rename_i v l hv hl
    split at hl
    · rename_i u l' hu hl'
      split at hl'
      · rename_i q l2 hq hl2; cases hl2; cases hl'; cases hl; cases h; exact ⟨v, u, q, rfl, hv, hu, hq⟩
      · cases hl'
    · cases hl
  · cases h

theorem aggOr {i : TI} (h : (i.agg || i.size == 1) = true) : i.agg = true ∨ i.size = 1 := by simpa using h

abbrev Just (σ : St) (v : V) : V → Tab → Nat → Prop := fun v' t n => v' = v ∧ t = σ.tab ∧ n = σ.nx

theorem binF_sound {op : Oper} {bo : BinOp} {xt yt : TypeId} {x y : Operand} {vx vy v : V} {side : Prop} (ho : op.op = .binOp bo xt x y yt) (hx : ev σ x = some vx) (hy : ev σ y = some vy) (h : binF P bo xt vx vy = some (v, side)) (hs : side) : OpS P WG op σ (Just σ v) := by
  unfold binF at h
  split at h
  · rename_i k a k' b
    split at h
    · rename_i hk
      cases hsh : isShift bo
      · simp only [hsh, Bool.false_or, decide_eq_true_eq] at hk
        subst hk
        have key : ∀ u, binI bo k a b = some u → v = .p (.v u) → OpS P WG op σ (Just σ v) := fun u hu e => op_bin_int ho hsh hx hy hu ⟨e.symm, rfl, rfl⟩
        cases bo <;> simp only [isShift] at hsh <;> (try cases hsh) <;> simp only [binI', pv] at h <;> cases h <;>
          first
          | exact key _ rfl rfl
          | exact key _ (by simp only [binI]; rw [if_neg hs]) rfl
          | exact key _ (by simp only [binI]; rfl) (by congr 2; simp [BEq.beq])
          | exact key _ (by simp only [binI]; rfl) (by congr 3; simp [bne, BEq.beq])
      · cases bo <;> simp only [isShift] at hsh <;> (try cases hsh) <;> simp only [binI', pv] at h <;> cases h
        · exact op_bin_shift ho hx hy hs (.inl ⟨rfl, rfl⟩) ⟨rfl, rfl, rfl⟩
        · exact op_bin_shift ho hx hy hs (.inr ⟨rfl, rfl⟩) ⟨rfl, rfl, rfl⟩
    · cases h
  · rename_i a b
    have key : ∀ u, binS bo a b = some u → v = .p (.v u) → OpS P WG op σ (Just σ v) := fun u hu e => op_bin_str ho hx hy hu ⟨e.symm, rfl, rfl⟩
    cases bo <;> simp only [binS', pv] at h <;> cases h <;>
      first
      | exact key _ rfl rfl
      | exact key _ (by simp only [binS]; rw [if_pos (by simpa using hs)]) rfl
  · rename_i a b
    split at h
    · rename_i i hi
      split at h
      · rename_i hd
        split at h
        · cases h; exact op_bin_bool ho hi hd hx hy (.inl ⟨rfl, rfl⟩) ⟨rfl, rfl, rfl⟩
        · cases h; exact op_bin_bool ho hi hd hx hy (.inr ⟨rfl, rfl⟩) ⟨rfl, rfl, rfl⟩
        · cases h
      · cases h
    · cases h
  · rename_i cs ds
    split at h
    · rename_i i hi
      split at h
      · rename_i hc
        simp only [Bool.and_eq_true] at hc
        split at h
        · cases h; exact op_eq_agg ho (.inl rfl) hi hc.1 hc.2 hx hy hs.1 hs.2 ⟨by simp, rfl, rfl⟩
        · cases h; exact op_eq_agg ho (.inr rfl) hi hc.1 hc.2 hx hy hs.1 hs.2 ⟨by simp, rfl, rfl⟩
        · cases h
      · cases h
    · cases h
  · cases h

theorem zipParts_sound {parts : List (Nat × Operand)} : ∀ {vs : List V} {l : List (Nat × V)}, evs σ (parts.map (·.2)) = some vs → zipParts parts vs = some l → evParts σ parts = some l := by
  induction parts with
  | nil => intro vs l h1 h2; simp [evs] at h1; subst h1; simp [zipParts] at h2; subst h2; rfl
  | cons p r ih =>
    obtain ⟨k, x⟩ := p
    intro vs l h1 h2
    simp only [List.map_cons, evs] at h1
    split at h1
    · rename_i v s hv hs
      cases h1
      simp only [zipParts] at h2
      split at h2
      · rename_i l' hl'
        cases h2
        simp only [evParts, hv, ih hs hl']
      · cases h2
    · cases h1

theorem evs_append {xs ys : List Operand} : ∀ {vs : List V}, evs σ (xs ++ ys) = some vs → evs σ xs = some (vs.take xs.length) ∧ evs σ ys = some (vs.drop xs.length) := by
  induction xs with
  | nil => intro vs h; exact ⟨by simp [evs], by simpa using h⟩
  | cons x r ih =>
    intro vs h
    simp only [List.cons_append, evs] at h
    split at h
    · rename_i v l hv hl
      cases h
      obtain ⟨h1, h2⟩ := ih hl
      exact ⟨by simp [evs, hv, h1], by simpa using h2⟩
    · cases h

theorem boundF_sound {lo : Option Operand} {rest : List Operand} {vs vs1 : List V} {l : Option Int} (h : evs σ (lo.toList ++ rest) = some vs) (hb : boundF lo vs = some (l, vs1)) : bnd σ lo l ∧ evs σ rest = some vs1 := by
  cases lo with
  | none => simp only [boundF] at hb; cases hb; exact ⟨trivial, h⟩
  | some x =>
    simp only [Option.toList_some, List.singleton_append, evs] at h
    split at h
    · rename_i v l' hv hl
      cases h
      cases v with
      | p px =>
        cases px with
        | v pv =>
          cases pv with
          | int k n => simp only [boundF] at hb; cases hb; exact ⟨⟨k, hv⟩, hl⟩
          | _ => simp [boundF] at hb
        | _ => simp [boundF] at hb
      | _ => simp [boundF] at hb
    · cases h

theorem sliceV_sound {op : Oper} {t : TypeId} {x : Operand} {lo hi mx : Option Operand} {vx v : V} {l h m : Option Int} {side : Prop} (ho : op.op = .slice t x lo hi mx) (hx : ev σ x = some vx) (hl : bnd σ lo l) (hh : bnd σ hi h) (hm : bnd σ mx m) (hv : sliceV P t vx l h m = some (v, side)) (hs : side) : OpS P WG op σ (Just σ v) := by
  have hJ : Just σ v v σ.tab σ.nx := ⟨rfl, rfl, rfl⟩
  unfold sliceV at hv
  split at hv
  · rename_i i hi'
    have hmx : mx = none := by cases mx <;> first | rfl | exact hm.elim
    subst hmx
    split at hv
    · rename_i hd; cases hv; exact op_slice_str ho hi' hd hx hl hh hs.1 hs.2.1 hs.2.2 hJ
    · rename_i hd
      split at hv
      · rename_i ei hei
        split at hv
        · rename_i hsz; cases hv; exact op_slice_sl ho hi' hd hei hsz hx hl hh hs.1 hs.2.1 hs.2.2 hJ
        · cases hv
      · cases hv
    · rename_i hd
      split at hv
      · rename_i ei hei
        split at hv
        · rename_i hsz; cases hv; exact op_slice_osl ho hi' hd hei hsz hx hl hh hs.1 hs.2.1 hs.2.2 hJ
        · cases hv
      · cases hv
    · rename_i hd
      split at hv
      · rename_i ei hei
        split at hv
        · rename_i hsz; cases hv; exact op_slice_bsl ho hi' hd hei hsz hx hl hh hs.1 hs.2.1 hs.2.2 hJ
        · cases hv
      · cases hv
    · rename_i hd
      split at hv
      · rename_i ei hei; cases hv; exact op_slice_nil ho hi' hd hei hx hl hh hs.1 hs.2 hJ
      · cases hv
    · rename_i hd
      split at hv
      · rename_i ei hei; cases hv; exact op_slice_arr ho hi' hd hei hx hl hh hs.1 hs.2.1 hs.2.2 hJ
      · cases hv
    · rename_i hd
      split at hv
      · rename_i ei hei
        split at hv
        · rename_i hc; cases hv; exact op_slice_ptr ho hi' hd hei (aggOr hc) hx hl hh hs.1.1 hs.1.2.1 hs.1.2.2 hs.2 hJ
        · cases hv
      · cases hv
    · cases hv
  · rename_i i m' hi'
    split at hv
    · rename_i e hd
      split at hv
      · rename_i ei n hei hn
        cases hv
        obtain ⟨h1, rfl, rfl⟩ := hs
        refine op_slice_zc ho hi' hd hei hx hn ?_ hh hm hJ
        cases l with
        | none => exact .inr hl
        | some l => simp only [Option.getD_some] at h1; subst h1; exact .inl hl
      · cases hv
    · cases hv
  · cases hv

theorem opF_sound {op : Oper} {vs : List V} {v : V} {side : Prop} (hvs : evs σ op.op.operands.toList = some vs) (h : opF P σ.tab op.op vs = some (v, side)) (hs : side) : OpS P WG op σ (Just σ v) := by
  have hJ : Just σ v v σ.tab σ.nx := ⟨rfl, rfl, rfl⟩
  cases hop : op.op <;> rw [hop] at h hvs <;> simp only [opF] at h <;> (try cases h)
  case move x =>
    obtain ⟨vx, rfl, hx⟩ := evs_one hvs
    simp only at h; cases h
    exact op_move (.inl hop) hx hJ
  case assign x =>
    obtain ⟨vx, rfl, hx⟩ := evs_one hvs
    simp only at h; cases h
    exact op_move (.inr hop) hx hJ
  case binOp bo xt x y yt =>
    obtain ⟨vx, vy, rfl, hx, hy⟩ := evs_two hvs
    simp only at h
    split at h
    · rename_i r hr; cases h; exact op_nil hop hx hr hJ
    · exact binF_sound hop hx hy h hs
  case lookup t x k ok =>
    obtain ⟨vx, vy, rfl, hx, hy⟩ := evs_two hvs
    simp only [lookupF] at h
    split at h
    · rename_i i b key hi
      split at h
      · rename_i kt et hd
        split at h
        · rename_i kk ei kk' es hkk hei hb
          split at h
          · rename_i hc
            simp only [Bool.and_eq_true, decide_eq_true_eq] at hc
            obtain ⟨rfl, hc⟩ := hc
            cases h
            exact op_lookup hop hi hd hkk hei hx hb hy hc hJ
          · cases h
        · cases h
      · cases h
    · cases h
  case unOp uo xt x =>
    obtain ⟨vx, rfl, hx⟩ := evs_one hvs
    simp only [unF] at h
    split at h <;> cases h
    · exact op_not hop hx hJ
    · exact op_neg hop hx hJ
    · exact op_compl hop hx hJ
  case slice t x lo hi mx =>
    simp only [Op.operands, Array.toList_append] at hvs
    split at h
    · rename_i vx r
      have hv2 : evs σ (x :: (lo.toList ++ (hi.toList ++ (mx.toList ++ [])))) = some (vx :: r) := by
        rw [← hvs]; congr 1
        cases lo <;> cases hi <;> cases mx <;> rfl
      simp only [evs] at hv2
      split at hv2
      · rename_i v' l' hx hr
        cases hv2
        simp only [sliceF] at h
        split at h
        · rename_i l vs1 hb1
          obtain ⟨hl, hr1⟩ := boundF_sound hr hb1
          split at h
          · rename_i hh vs2 hb2
            obtain ⟨hh', hr2⟩ := boundF_sound hr1 hb2
            split at h
            · rename_i m hb3
              obtain ⟨hm, _⟩ := boundF_sound hr2 hb3
              exact sliceV_sound hop hx hl hh' hm h hs
            · cases h
          · cases h
        · cases h
      · cases hv2
    · cases h
  case convert s t x =>
    obtain ⟨vx, rfl, hx⟩ := evs_one hvs
    simp only [convA] at h
    split at h
    case h_2 hcf =>
      simp only [convS] at h
      split at h
      · rename_i i' i hi' hi
        split at h
        · rename_i e hd' hd
          split at h
          · rename_i ei hei
            split at h
            · rename_i hed
              split at h
              · cases h
              · rename_i hns
                split at h
                · rename_i ys side' hsrc
                  cases h
                  exact op_conv_string hop hi hd hi' hd' hei hed hx (by rw [← hs.2]; exact hsrc) hs.1 (fun b e => hns b e) ⟨rfl, rfl, rfl⟩
                · cases h
            · cases h
          · cases h
        · cases h
      · cases h
    rename_i rr hcf
    cases h
    rename_i h0
    clear h0
    have h := hcf
    simp only [convF] at h
    split at h
    · rename_i i' i hi' hi
      split at h
      · rename_i hd; cases h; exact op_conv_int hop hi hd hi' hx hJ
      · rename_i hd
        split at h
        · rename_i hd'; cases h; exact op_conv_str hop hi hd hi' hd' hx hJ
        · cases h
      · cases h
    · cases h
  case makeInterface t x =>
    obtain ⟨vx, rfl, hx⟩ := evs_one hvs
    simp only [ifaceF] at h
    split at h
    · rename_i i hi
      split at h
      · cases h
      · rename_i hd; cases h; exact op_makeInterface hop hi hd hx hJ
    · cases h
  case makeFunc fn fs cs =>
    simp only [Op.operands, Array.toList_append] at hvs
    obtain ⟨h1, h2⟩ := evs_append hvs
    simp only [Array.length_toList] at h1 h2
    exact op_makeFunc hop h1 h2 hJ
  case load t x =>
    obtain ⟨vx, rfl, hx⟩ := evs_one hvs
    simp only [loadF] at h
    split at h
    · rename_i i b o hi
      split at h
      · rename_i cs hb
        split at h
        · rename_i hc; cases h; exact op_load_box hop hi hx hb (aggOr hc) hs hJ
        · cases h
      · cases h
    · rename_i i y o hi
      split at h
      · rename_i hc; cases h; exact op_load_ptr hop hi hx (aggOr hc) hs hJ
      · cases h
    · rename_i i b s k c hi
      split at h
      · rename_i s' xs gr hb
        split at h
        · rename_i y hy
          split at h
          · rename_i hc
            simp only [Bool.and_eq_true, beq_iff_eq] at hc
            obtain ⟨hc1, rfl⟩ := hc
            cases h
            exact op_load_eref hop hi hx hb hy (aggOr hc1) hs hJ
          · cases h
        · cases h
      · cases h
    · cases h
  case fieldAddr s x f =>
    obtain ⟨vx, rfl, hx⟩ := evs_one hvs
    simp only [fieldAddrF] at h
    split at h
    · rename_i i hi
      split at h
      · rename_i fs hd
        split at h
        · rename_i off ft sz hf
          split at h
          · cases h
          · rename_i hsz
            split at h
            · rename_i u hu; cases h; exact op_fieldAddr hop hi hd hf hsz hx hu hJ
            · cases h
        · cases h
      · cases h
    · cases h
  case field s x f =>
    obtain ⟨vx, rfl, hx⟩ := evs_one hvs
    simp only [fieldF] at h
    split at h
    · rename_i i hi
      split at h
      · rename_i fs hd
        split at h
        · rename_i off ft sz hf
          split at h
          · rename_i fi hfi
            split at h
            · rename_i hc
              simp only [Bool.and_eq_true] at hc
              cases h
              exact op_field hop hi hd hf hfi (aggOr hc.1) hx hc.2 hs hJ
            · cases h
          · cases h
        · cases h
      · cases h
    · cases h
  case index t x ix =>
    obtain ⟨vx, vy, rfl, hx, hy⟩ := evs_two hvs
    simp only [indexF] at h
    split at h
    · rename_i i k q hi
      split at h
      · rename_i hd; cases h; exact op_index_str hop hi hd hx hy hs.1 hs.2 hJ
      · rename_i n e hd
        split at h
        · rename_i ei hei
          split at h
          · rename_i hc
            simp only [Bool.and_eq_true] at hc
            cases h
            exact op_index_arr hop hi hd hei (aggOr hc.1) hx hc.2 hy hs.1.1 hs.1.2 hs.2 hJ
          · cases h
        · cases h
      · cases h
    · cases h
  case indexAddr t x ix =>
    obtain ⟨vx, vy, rfl, hx, hy⟩ := evs_two hvs
    simp only [indexAddrF] at h
    split at h
    · rename_i i k q hi
      split at h
      · rename_i n e hd
        split at h
        · rename_i ei hei
          split at h
          · rename_i u hu; cases h; exact op_indexAddr_arr hop hi hd hei hx hy hs.1 hs.2 hu hJ
          · cases h
        · cases h
      · rename_i e hd
        split at h
        · rename_i ei s xs hei
          split at h
          · rename_i y hyy
            split at h
            · rename_i hsz; cases h; exact op_indexAddr_sl hop hi hd hei hx hy hs hyy hsz hJ
            · cases h
          · cases h
        · rename_i ei b s lo len cap hei
          split at h
          · rename_i hsz; cases h; exact op_indexAddr_osl hop hi hd hei hx hy hs.1 hs.2 hsz hJ
          · cases h
        · rename_i ei b o s len cap hei
          split at h
          · rename_i hsz; cases h; exact op_indexAddr_bsl hop hi hd hei hx hy hs.1 hs.2 hsz hJ
          · cases h
        · cases h
      · cases h
    · cases h
  case nilCheck x =>
    obtain ⟨vx, rfl, hx⟩ := evs_one hvs
    simp only at h
    have he : nilCheckF vx = some (v, side) := h
    have : v = vx ∧ side = True := by
      unfold nilCheckF at he
      split at he <;> first | (cases he; exact ⟨rfl, rfl⟩) | cases he
    obtain ⟨rfl, rfl⟩ := this
    exact op_nilCheck hop hx he hJ
  case typeAssert x s t ok =>
    obtain ⟨vx, rfl, hx⟩ := evs_one hvs
    simp only [assertF] at h
    split at h
    · rename_i i u v' hi
      split at h
      · cases h
      · rename_i hd
        split at h
        · rename_i hc
          simp only [Bool.and_eq_true, decide_eq_true_eq] at hc
          obtain ⟨rfl, rfl⟩ := hc
          cases h
          exact op_typeAssert hop hi hd hx hJ
        · cases h
    · cases h
  case extract x k =>
    obtain ⟨vx, rfl, hx⟩ := evs_one hvs
    simp only [extractF] at h
    split at h
    · split at h
      · rename_i u hu; cases h; exact op_extract hop hx hu hJ
      · cases h
    · cases h
  case build t parts =>
    simp only [buildF] at h
    split at h
    · rename_i i hi
      split at h
      · rename_i pl l hpl hl
        split at h
        · rename_i out hout
          cases h
          exact op_build hop hi hpl (zipParts_sound (by simpa [Op.operands] using hvs) hl) hout hJ
        · cases h
      · cases h
    · cases h
  case call c =>
    obtain ⟨callee, args, ts⟩ := c
    simp only [callF] at h
    split at h
    · split at h
      · rename_i t x hts
        obtain ⟨ts⟩ := ts
        have hts' : ts = [t] := hts
        subst hts'
        have hargs : evs σ args.toList = some [x] := by simpa [Op.operands, Call.operands] using hvs
        obtain ⟨y, hy⟩ : ∃ y, args.toList = [y] := by
          match hq : args.toList, hargs with
          | [], h => simp [evs] at h
          | [y], _ => exact ⟨y, rfl⟩
          | y :: z :: r, h =>
            simp only [evs] at h
            split at h
            · rename_i v l hv hl
              split at hl
              · cases hl; simp at h
              · cases hl
            · cases h
        have hargs' : args = #[y] := by apply Array.ext'; simpa using hy
        rw [hy] at hargs
        obtain ⟨v', hv', hx'⟩ := evs_one hargs
        cases hv'
        subst hargs'
        simp only [lenF] at h
        split at h
        · rename_i i hi
          split at h
          · rename_i hd
            split at h
            · cases h; exact op_len_str hop rfl hi hd hx' hJ
            · cases h
          · rename_i e hd
            split at h
            · rename_i n hn; cases h; exact op_len_sl hop rfl hi hd hx' hn hJ
            · cases h
          · rename_i n e hd; cases h; exact op_len_arr hop rfl hi hd hJ
          · cases h
        · cases h
      · cases h
    · split at h
      · rename_i x y
        have hargs : evs σ args.toList = some [x, y] := by simpa [Op.operands, Call.operands] using hvs
        obtain ⟨p, q, hpq⟩ : ∃ p q, args.toList = [p, q] := by
          match hq : args.toList, hargs with
          | [], h => simp [evs] at h
          | [y], h =>
            simp only [evs] at h
            split at h
            · rename_i v l hv hl; cases hl; simp at h
            · cases h
          | [y, z], _ => exact ⟨y, z, rfl⟩
          | y :: z :: u :: r, h =>
            simp only [evs] at h
            split at h
            · rename_i v l hv hl
              split at hl
              · rename_i v2 l2 hv2 hl2
                split at hl2
                · cases hl2; cases hl; simp at h
                · cases hl2
              · cases hl
            · cases h
        have hargs' : args = #[p, q] := by apply Array.ext'; simpa using hpq
        rw [hpq] at hargs
        obtain ⟨v1, v2, hv', hx', hy'⟩ := evs_two hargs
        cases hv'
        subst hargs'
        simp only [minF] at h
        split at h
        · split at h
          · rename_i hk; subst hk; cases h
            exact op_min_int hop rfl hx' hy' ⟨by simp, rfl, rfl⟩
          · cases h
        · cases h
      · cases h
    · split at h
      · rename_i x y
        have hargs : evs σ args.toList = some [x, y] := by simpa [Op.operands, Call.operands] using hvs
        obtain ⟨p, q, hpq⟩ : ∃ p q, args.toList = [p, q] := by
          match hq : args.toList, hargs with
          | [], h => simp [evs] at h
          | [y], h =>
            simp only [evs] at h
            split at h
            · rename_i v l hv hl; cases hl; simp at h
            · cases h
          | [y, z], _ => exact ⟨y, z, rfl⟩
          | y :: z :: u :: r, h =>
            simp only [evs] at h
            split at h
            · rename_i v l hv hl
              split at hl
              · rename_i v2 l2 hv2 hl2
                split at hl2
                · cases hl2; cases hl; simp at h
                · cases hl2
              · cases hl
            · cases h
        have hargs' : args = #[p, q] := by apply Array.ext'; simpa using hpq
        rw [hpq] at hargs
        obtain ⟨v1, v2, hv', hx', hy'⟩ := evs_two hargs
        cases hv'
        subst hargs'
        simp only [minF] at h
        split at h
        · split at h
          · rename_i hk; subst hk; cases h
            exact op_max_int hop rfl hx' hy' ⟨by simp, rfl, rfl⟩
          · cases h
        · cases h
      · rename_i x y z
        have hargs : evs σ args.toList = some [x, y, z] := by simpa [Op.operands, Call.operands] using hvs
        obtain ⟨p, q, r, hpq⟩ : ∃ p q r, args.toList = [p, q, r] := by
          have hl : args.toList.length = 3 := (evs_len hargs).symm
          match hq : args.toList, hl with
          | [y, z, u], _ => exact ⟨y, z, u, rfl⟩
        have hargs' : args = #[p, q, r] := by apply Array.ext'; simpa using hpq
        rw [hpq] at hargs
        obtain ⟨v1, v2, v3, hv', hx', hy', hz'⟩ := evs_three hargs
        cases hv'
        subst hargs'
        simp only [max3F] at h
        split at h
        · split at h
          · rename_i hk; obtain ⟨hk1, hk2⟩ := hk; subst hk1; subst hk2; cases h
            exact op_max_int3 hop rfl hx' hy' hz' ⟨by simp, rfl, rfl⟩
          · cases h
        · cases h
      · cases h
    · cases h

end
end Go.Gp

namespace Go.Gp
open Go.RowKit
def forceV : V → V
  | .cnd b x => if b then x else .cnd b x
  | x => x
def forceE : List (Nat × V) → List (Nat × V)
  | [] => []
  | (t, v) :: r => (t, forceV v) :: forceE r
theorem aget_force (e : List (Nat × V)) (t : Nat) : aget (forceE e) t = (aget e t).map forceV := by
  induction e with
  | nil => rfl
  | cons p r ih =>
    obtain ⟨k, v⟩ := p
    simp only [forceE, aget]
    split
    · rfl
    · exact ih

def force (σ : St) : St := { σ with env := forceE σ.env }

section
variable {P : Program} {WG : World} {σ : St} {Q : VX → St → Prop} {ops : Array Oper}
theorem VR.force {w : World} {ok : Nat → Prop} {j : Nat → Option Loc} {nx : Nat} {v : V} {m : Value} (h : VR w ok j nx v m) : VR w ok j nx (forceV v) m := by
  cases h with
  | @cnd b x m h h0 =>
    unfold forceV
    cases b
    · exact .cnd h h0
    · exact h rfl
  | p h => exact .p h
  | ref a b c => exact .ref a b c
  | eref a b c => exact .eref a b c
  | oslNil a b => exact .oslNil a b
  | oslEnd a b c d => exact .oslEnd a b c d
  | osl a b c d e f g => exact .osl a b c d e f g
  | bsl a b c d => exact .bsl a b c d
  | bslEnd => exact .bslEnd
  | agg a b c => exact .agg a b c
  | tup a b => exact .tup a b
  | clo a b c d => exact .clo a b c d
  | ifc a => exact .ifc a
  | mp a b => exact .mp a b
  | zc => exact .zc
  | yld a b => exact .yld a b

theorem ERel.force {C : Ctx} {j : Nat → Option Loc} {a : Act} {w : World} (h : ERel WG C j σ a w) : ERel WG C j (force σ) a w :=
  ⟨h.mem, h.lo, h.lx, fun t v hv => by
    simp only [Gp.force, aget_force] at hv
    cases hq : aget σ.env t with
    | none => simp [hq] at hv
    | some u =>
      simp [hq] at hv; subst hv
      obtain ⟨m, hm, hr⟩ := h.env t u hq
      exact ⟨m, hm, hr.force⟩, h.n, h.defers⟩

theorem OpS.unforce {op : Oper} {K : V → Tab → Nat → Prop} (h : OpS P WG op (force σ) K) : OpS P WG op σ K := fun C j a w hr => h C j a w hr.force

def evsS (σ : St) : List Operand → Option (Bool × List V)
  | [] => some (true, [])
  | x :: r =>
    match ev σ x, evsS σ r with
    | some v, some (b, l) => some (condV v && b, stripV v :: l)
    | _, _ => none

theorem ev_force {x : Operand} {v : V} (h : ev σ x = some v) (hc : condV v = true) : ev (force σ) x = some (stripV v) := by
  have hs : forceV v = stripV v := by cases v <;> simp_all [condV, forceV, stripV]
  cases x with
  | tmp t => simp only [ev] at h; simp only [ev, Gp.force, aget_force, h, Option.map_some, hs]
  | const c =>
    have : stripV v = v := by
      simp only [ev] at h
      split at h
      · cases h; rfl
      · split at h
        · split at h
          · cases h; rfl
          · cases h
        · cases h
    rw [this]; exact h
  | func f => simp only [ev] at h; cases h; rfl
  | global g => simp [ev] at h
theorem evsS_force : ∀ {xs : List Operand} {b : Bool} {vs : List V}, evsS σ xs = some (b, vs) → b = true → evs (force σ) xs = some vs
  | [], b, vs, h, _ => by simp [evsS] at h; simp [evs, h.2]
  | x :: r, b, vs, h, hb => by
    simp only [evsS] at h
    split at h
    · rename_i v b' l hv hl
      cases h
      simp only [Bool.and_eq_true] at hb
      simp only [evs, ev_force hv hb.1, evsS_force hl hb.2]
    · cases h

abbrev Met := List (Nat × Option Nat)
def MetOk (ops : Array Oper) (ds : Met) : Prop := ∀ g d, aget ds g = some d → (ops[g]?).map (·.dst) = some d

def guardC (ds : Met) (σ : St) : Option (Nat × Bool) → Option Bool
  | none => some true
  | some (g, want) =>
    match aget ds g with
    | some (some t) =>
      match aget σ.env t with
      | some v =>
        match stripV v with
        | .p (.v (.bool b)) => some (condV v && (b == want))
        | _ => none
      | none => none
    | _ => none

theorem wanted_eq {C : Ctx} {j : Nat → Option Loc} {a : Act} {w : World} (hr : ERel WG C j σ a w) {o : Oper} {c : Bool} {ds : Met} (hds : MetOk ops ds) (h : guardC ds σ o.guard = some c) : Region.wanted o (yielded ops a.tmps) = c := by
  unfold guardC at h
  unfold Region.wanted
  cases hg : o.guard with
  | none => rw [hg] at h; simp only at h ⊢; exact Option.some.inj h
  | some gw =>
    obtain ⟨g, want⟩ := gw
    rw [hg] at h
    simp only at h ⊢
    split at h
    · rename_i t ht
      split at h
      · rename_i v hv
        split at h
        · rename_i b hs
          cases h
          obtain ⟨m, hm, hvr⟩ := hr.env t v hv
          have hy : ∀ x, m = x → yielded ops a.tmps g = (match x with | .bool b => some b | _ => none) := by
            intro x hx; subst hx
            have hd := hds g _ ht
            unfold yielded
            cases hog : ops[g]? with
            | none => simp [hog] at hd
            | some og =>
              simp only [hog, Option.map_some, Option.some.injEq] at hd
              simp only [Option.bind_some, hd, hm]
              cases m <;> rfl
          cases v with
          | cnd b' x =>
            simp only [stripV] at hs; subst hs
            cases hvr with
            | cnd h1 h0 =>
              simp only [condV]
              cases b'
              · rw [hy _ (h0 rfl)]; rfl
              · have := h1 rfl
                cases this with
                | p hp => cases hp; rw [hy _ rfl]; cases b <;> cases want <;> rfl
          | p x =>
            simp only [stripV] at hs
            injection hs with hs; subst hs
            cases hvr with
            | p hp => cases hp; rw [hy _ rfl]; cases b <;> cases want <;> rfl
          | _ => simp [stripV] at hs
        · cases h
      · cases h
    · cases h

def putC (σ : St) (o : Oper) (c : Bool) (v : V) : St :=
  match o.guard with
  | none => putS σ o.dst v σ.tab σ.nx
  | some _ => putS σ o.dst (.cnd c v) σ.tab σ.nx

theorem RT_pure {i : Nat} {rest : List Nat} {o : Oper} {c : Bool} {v : V} {ds : Met} (hds : MetOk ops ds) (hi : ops[i]? = some o) (hg : guardC ds σ o.guard = some c) (hd : dstOk σ o.dst) (h : c = true → OpS P WG o σ (Just σ v))
    (hk : RT P WG ops rest (putC σ o c v) Q) : RT P WG ops (i :: rest) σ Q := by
  intro C j a w hr
  have hw := wanted_eq hr hds hg
  simp only [wpOpsIn, hi]
  cases hc : c with
  | true =>
    rw [hc] at hw
    simp only [hw, if_true]
    obtain ⟨m, w', v', j', tab', nx', hrun, hm, hv, rfl, rfl, rfl⟩ := h hc C j a w hr
    refine ⟨fun _ _ => trivial, ?_⟩
    rw [semAt_value hrun]
    simp only [Oper.uponIn]
    refine hk C j' _ w' ?_
    unfold putC
    split
    · exact put_rel hr hm hv hd
    · exact put_rel hr hm (.cnd (fun _ => hv) (fun e => by simp [hc] at e)) hd
  | false =>
    rw [hc] at hw
    simp only [hw, Bool.false_eq_true, if_false]
    refine ⟨fun _ _ => trivial, ?_⟩
    refine hk C j _ w ?_
    unfold putC
    split
    · rename_i hn
      rw [hn] at hg; simp only [guardC] at hg; cases hg; cases hc
    · exact put_rel hr (Moves.refl hr) (.cnd (fun e => by simp [hc] at e) (fun _ => rfl)) hd

def pickB (b x y : Bool) : Bool := if b then x else y
theorem pickB_or (b y : Bool) : pickB b true y = (b || y) := by cases b <;> rfl
theorem pickB_and (b x : Bool) : pickB b x false = (b && x) := by cases b <;> rfl

def pickF (σ : St) (c x y : Operand) : Option (V × Prop) :=
  match ev σ c, ev σ x, ev σ y with
  | some vc, some vx, some vy =>
    match stripV vc, stripV vx, stripV vy with
    | .p (.v (.bool b)), .p (.v (.bool bx)), .p (.v (.bool by')) => some (.p (.v (.bool (pickB b bx by'))), condV vc = true ∧ (b = true → condV vx = true) ∧ (b = false → condV vy = true))
    | _, _, _ => none
  | _, _, _ => none

theorem pickF_sound {op : Oper} {c x y : Operand} {v : V} {side : Prop} (ho : op.op = .pick c x y) (h : pickF σ c x y = some (v, side)) (hs : side) : OpS P WG op σ (Just σ v) := by
  unfold pickF at h
  split at h
  · rename_i vc vx vy hc hx hy
    split at h
    · rename_i b bx by' hsc hsx hsy
      cases h
      obtain ⟨h1, h2, h3⟩ := hs
      refine .unforce ?_
      have e1 := ev_force hc h1
      rw [hsc] at e1
      refine op_pick (b := b) ho (by unfold evB; rw [e1]) (fun e => ?_) (fun e => ?_) ⟨rfl, rfl, rfl⟩
      · subst e; rw [ev_force hx (h2 rfl), hsx]; rfl
      · subst e; rw [ev_force hy (h3 rfl), hsy]; rfl
    · cases h
  · cases h

def okSrc (ti : TI) (y : V) : Bool :=
  match y with
  | .p (.v (.string _)) => (match ti.d with | .str => true | _ => false)
  | _ => (match ti.d with | .slice _ => true | _ => false)

def appF (P : Program) (σ : St) (c : Call) (vs : List V) : Option (Option V × Tab × Nat × Prop) :=
  match c.args.toList, c.argTypes.toList, vs with
  | [_, _], [t, tx], [x, y] =>
    match tiOf P t, tiOf P tx with
    | some i, some ti =>
      match i.d with
      | .slice e =>
        match tiOf P e with
        | some ei =>
          if decide (ei.bytes ≤ 16384) && okSrc ti y then
            match srcV σ.tab ei.agg ei.size y with
            | some (ys, side) =>
              match x with
              | .zc | .p (.v (.slice none 0 0)) => some (some (.osl σ.nx ei.size 0 ys.length none), aset σ.tab σ.nx (.arr ei.size ys true), σ.nx + 1, side ∧ ys.length ≤ 4294967296)
              | .osl b s lo len _ =>
                match aget σ.tab b with
                | some (.arr s' xs _) =>
                  if s = ei.size ∧ s' = ei.size then some (some (.osl σ.nx ei.size 0 (len + ys.length) none), aset (adel σ.tab b) σ.nx (.arr ei.size ((xs.drop lo).take len ++ ys) true), σ.nx + 1, side ∧ lo + len ≤ xs.length ∧ len + ys.length ≤ 4294967296)
                  else none
                | _ => none
              | _ => none
            | none => none
          else none
        | none => none
      | _ => none
    | _, _ => none
  | _, _, _ => none

def copyF (P : Program) (σ : St) (c : Call) (vs : List V) : Option (Option V × Tab × Nat × Prop) :=
  match c.args.toList, c.argTypes.toList, vs with
  | [_, _], [t, _], [.bsl b o s len _, y] =>
    match tiOf P t with
    | some i =>
      match i.d with
      | .slice e =>
        match tiOf P e, aget σ.tab b with
        | some ei, some (.box cs) =>
          match y with
          | .p (.v (.string _)) => none
          | y =>
            match srcV σ.tab ei.agg ei.size y with
            | some (ys, side) => if s = ei.size then some (some (.p (.v (.int .i64 (min ys.length len : Nat)))), aset σ.tab b (.box (putL cs o (((ys.take len).flatMap PV.cells).map V.p))), σ.nx, side ∧ o + len * s ≤ cs.length) else none
            | none => none
        | _, _ => none
      | _ => none
    | none => none
  | _, _, _ => none

def makeF (P : Program) (σ : St) (t : TypeId) (xl xc : V) : Option (Option V × Tab × Nat × Prop) :=
  match tiOf P t, xl, xc with
  | some i, .p (.v (.int _ l)), .p (.v (.int _ c)) =>
    match i.d with
    | .slice e =>
      match tiOf P e with
      | some ei =>
        if (ei.agg || ei.size == 1) && decide (0 < ei.size) then
          some (some (.osl σ.nx ei.size 0 l.toNat (some c.toNat)), aset σ.tab σ.nx (.arr ei.size (List.replicate c.toNat ei.zeroP) false), σ.nx + 1, 0 ≤ l ∧ l ≤ c ∧ c ≤ 16777216 ∧ (ei.bytes : Int) * c ≤ 281474976710656)
        else none
      | none => none
    | _ => none
  | _, _, _ => none

def bytesF (P : Program) (σ : St) (s t : TypeId) (x : V) : Option (Option V × Tab × Nat × Prop) :=
  match tiOf P s, tiOf P t, x with
  | some i', some i, .p (.v (.string b)) =>
    match i'.d, i.d with
    | .str, .slice e =>
      match tiOf P e with
      | some ei => if ei.d = .int .u8 then some (some (.osl σ.nx 1 0 b.size none), aset σ.tab σ.nx (.arr 1 (bytesP b.data.toList) true), σ.nx + 1, True) else none
      | none => none
    | _, _ => none
  | _, _, _ => none

def insertF (P : Program) (σ : St) (t : TypeId) (m k v : V) : Option (Option V × Tab × Nat × Prop) :=
  match tiOf P t, m, k with
  | some i, .mp b, .p (.v key) =>
    match i.d with
    | .map kt _ =>
      match kkOf P kt, aget σ.tab b, mpVal v with
      | some kk, some (.mp kk' es), some y => if decide (kk' = kk) && keyK kk key then some (none, aset σ.tab b (.mp kk (mset es key y)), σ.nx, True) else none
      | _, _, _ => none
    | _ => none
  | _, _, _ => none
def makeMapF (P : Program) (σ : St) (t : TypeId) : Option (Option V × Tab × Nat × Prop) :=
  match tiOf P t with
  | some i =>
    match i.d with
    | .map kt _ => (match kkOf P kt with | some kk => some (some (.mp σ.nx), aset σ.tab σ.nx (.mp kk []), σ.nx + 1, True) | none => none)
    | _ => none
  | none => none

def opM (P : Program) (σ : St) (op : Op) (vs : List V) : Option (Option V × Tab × Nat × Prop) :=
  match op with
  | .box _ _ => (match vs with | [x] => if x.isTup then none else some (some (.ref σ.nx 0), aset σ.tab σ.nx (.box x.cells), σ.nx + 1, True) | _ => none)
  | .alloc t => (match tiOf P t with | some i => some (some (.ref σ.nx 0), aset σ.tab σ.nx (.box (i.zero.map fun z => .p (.v z))), σ.nx + 1, True) | none => none)
  | .store t _ _ =>
    match tiOf P t, vs with
    | some i, [.ref b o, v] =>
      match aget σ.tab b with
      | some (.box cs) => if v.isTup then none else some (none, aset σ.tab b (.box (putL cs o v.cells)), σ.nx, v.cells.length = i.size ∧ o + i.size ≤ cs.length)
      | _ => none
    | some i, [.eref b s k c, v] =>
      match aget σ.tab b with
      | some (.arr s' xs gr) =>
        match xs[k]?, allP v.cells with
        | some z, some ps => if v.isTup then none else some (none, aset σ.tab b (.arr s' (xs.set k (setE z c ps)) gr), σ.nx, s' = s ∧ ps.length = i.size ∧ c + i.size ≤ s)
        | _, _ => none
      | _ => none
    | _, _ => none
  | .buildSlice t len parts =>
    match tiOf P t with
    | some i =>
      match i.d with
      | .slice e =>
        match tiOf P e, zipParts parts.toList vs with
        | some ei, some l =>
          match fillV ((List.range len).map fun k => (k * ei.size, ei.size)) (((List.range len).map fun _ => ei.zero.map fun x => V.p (.v x)).flatten) l with
          | some out =>
            match allP out with
            | some ps => if (ei.agg || ei.size == 1) && decide (0 < ei.size) && decide (len * ei.size ≤ 16777216) then some (some (.osl σ.nx ei.size 0 len (some len)), aset σ.tab σ.nx (.arr ei.size (elemsOf ei.agg ei.size len ps) false), σ.nx + 1, True) else none
            | none => if decide (0 < ei.size) && decide (len * ei.size ≤ 16777216) then some (some (.bsl σ.nx 0 ei.size len len), aset σ.tab σ.nx (.box out), σ.nx + 1, True) else none
          | none => none
        | _, _ => none
      | _ => none
    | none => none
  | .call c => (match c.callee with | .builtin .append => appF P σ c vs | .builtin .copy => copyF P σ c vs | _ => none)
  | .makeSlice t _ _ => (match vs with | [xl, xc] => makeF P σ t xl xc | _ => none)
  | .convert s t _ => (match vs with | [x] => bytesF P σ s t x | _ => none)
  | .makeMap t none => makeMapF P σ t
  | .insert t _ _ _ | .mapUpdate t _ _ _ => (match vs with | [m, k, v] => insertF P σ t m k v | _ => none)
  | _ => none

theorem insertF_sound {WG : World} {op : Oper} {t : TypeId} {m k v : Operand} {vm vk vv : V} {r : Option V} {tab : Tab} {nx : Nat} {side : Prop} (ho : op.op = .insert t m k v ∨ op.op = .mapUpdate t m k v) (hm : ev σ m = some vm) (hk : ev σ k = some vk) (hv : ev σ v = some vv)
    (h : insertF P σ t vm vk vv = some (r, tab, nx, side)) : r = none ∧ OpK P WG op σ fun t n => t = tab ∧ n = nx := by
  unfold insertF at h
  split at h
  · rename_i i b key hi
    split at h
    · rename_i kt et hd
      split at h
      · rename_i kk kk' es y hkk hb hy
        split at h
        · rename_i hc
          simp only [Bool.and_eq_true, decide_eq_true_eq] at hc
          obtain ⟨rfl, hc⟩ := hc
          cases h
          exact ⟨rfl, op_insert ho hi hd hkk hm hb hk hc hv hy ⟨rfl, rfl⟩⟩
        · cases h
      · cases h
    · cases h
  · cases h
def opMS (P : Program) (WG : World) (o : Oper) (σ : St) (v : Option V) (tab : Tab) (nx : Nat) : Prop :=
  match v with
  | some v => OpS P WG o σ fun v' t n => v' = v ∧ t = tab ∧ n = nx
  | none => OpK P WG o σ fun t n => t = tab ∧ n = nx

theorem appF_sound {op : Oper} {c : Call} {vs : List V} {v : Option V} {tab : Tab} {nx : Nat} {side : Prop} (ho : op.op = .call c) (hb : c.callee = .builtin .append) (hvs : evs σ c.args.toList = some vs) (h : appF P σ c vs = some (v, tab, nx, side)) (hs : side) : opMS P WG op σ v tab nx := by
  unfold appF at h
  split at h
  · rename_i xa ya t tx x y hargs hts
    rw [hargs] at hvs
    obtain ⟨vx, vy, he, hx, hy⟩ := evs_two hvs
    cases he
    have hc : c = { callee := .builtin .append, args := #[xa, ya], argTypes := #[t, tx] } := by
      obtain ⟨a, b, d⟩ := c
      simp only at hb hargs hts
      subst hb
      congr 1
      · exact Array.ext' (by simpa using hargs)
      · exact Array.ext' (by simpa using hts)
    split at h
    · rename_i i ti hi hti
      split at h
      · rename_i e hd
        split at h
        · rename_i ei hei
          split at h
          · rename_i hok
            simp only [Bool.and_eq_true, decide_eq_true_eq] at hok
            split at h
            · rename_i ys side' hsrc
              have hkk : ((∃ e, ti.d = .slice e) ∨ ti.d = .str) ∧ (ti.d = .str ↔ ∃ b, y = .p (.v (.string b))) := by
                have h2 := hok.2
                unfold okSrc at h2
                split at h2
                · rename_i b
                  split at h2
                  · rename_i hd2; exact ⟨.inr hd2, ⟨fun _ => ⟨b, rfl⟩, fun _ => hd2⟩⟩
                  · cases h2
                · rename_i hns
                  split at h2
                  · rename_i e' hd2
                    exact ⟨.inl ⟨e', hd2⟩, ⟨fun h => (by rw [hd2] at h; cases h), fun ⟨b, hb⟩ => (hns b hb).elim⟩⟩
                  · cases h2
              have new : (x = .zc ∨ x = .p (.v (.slice none 0 0))) → some (some (V.osl σ.nx ei.size 0 ys.length none), aset σ.tab σ.nx (.arr ei.size ys true), σ.nx + 1, side' ∧ ys.length ≤ 4294967296) = some (v, tab, nx, side) → opMS P WG op σ v tab nx := by
                intro hx0 h
                cases h
                refine op_append_new (olds := []) ho hc hi hd hei hti hkk.1 hkk.2 hok.1 hx hy hsrc hs.1 (.inl ⟨hx0, rfl⟩) (by simpa using hs.2) ⟨by simp, by simp, rfl⟩
              split at h
              · exact new (.inl rfl) h
              · exact new (.inr rfl) h
              · rename_i b s lo len cap
                split at h
                · rename_i s' xs gr hbk
                  split at h
                  · rename_i hss
                    obtain ⟨rfl, rfl⟩ := hss
                    cases h
                    exact op_append_own ho hc hi hd hei hti hkk.1 hkk.2 hok.1 hx hbk hs.2.1 hy hsrc hs.1 hs.2.2 ⟨rfl, rfl, rfl⟩
                  · cases h
                · cases h
              · cases h
            · cases h
          · cases h
        · cases h
      · cases h
    · cases h
  · cases h

theorem copyF_sound {op : Oper} {c : Call} {vs : List V} {v : Option V} {tab : Tab} {nx : Nat} {side : Prop} (ho : op.op = .call c) (hb : c.callee = .builtin .copy) (hvs : evs σ c.args.toList = some vs) (h : copyF P σ c vs = some (v, tab, nx, side)) (hs : side) : opMS P WG op σ v tab nx := by
  unfold copyF at h
  split at h
  · rename_i xa ya t tx b o s len cap y hargs hts
    rw [hargs] at hvs
    obtain ⟨vx, vy, he, hx, hy⟩ := evs_two hvs
    cases he
    have hc : c = { callee := .builtin .copy, args := #[xa, ya], argTypes := #[t, tx] } := by
      obtain ⟨a, b, d⟩ := c
      simp only at hb hargs hts
      subst hb
      congr 1
      · exact Array.ext' (by simpa using hargs)
      · exact Array.ext' (by simpa using hts)
    split at h
    · rename_i i hi
      split at h
      · rename_i e hd
        split at h
        · rename_i ei cs hei hbk
          split at h
          · cases h
          · rename_i hns
            split at h
            · rename_i ys side' hsrc
              split at h
              · rename_i hse
                subst hse
                cases h
                exact op_copy_box ho hc hi hd hei hx hbk hy hsrc hs.1 hns hs.2 ⟨rfl, rfl, rfl⟩
              · cases h
            · cases h
        · cases h
      · cases h
    · cases h
  · cases h

theorem opM_sound {op : Oper} {vs : List V} {v : Option V} {tab : Tab} {nx : Nat} {side : Prop} (hvs : evs σ op.op.operands.toList = some vs) (h : opM P σ op.op vs = some (v, tab, nx, side)) (hs : side) : opMS P WG op σ v tab nx := by
  cases hop : op.op <;> rw [hop] at h hvs <;> simp only [opM] at h <;> (try cases h)
  case box t x =>
    obtain ⟨vx, rfl, hx⟩ := evs_one hvs
    simp only at h
    split at h
    · cases h
    · rename_i ht; cases h; exact op_box hop hx (by simpa using ht) ⟨rfl, rfl, rfl⟩
  case alloc t =>
    split at h
    · rename_i i hi; cases h; exact op_alloc hop hi ⟨rfl, rfl, rfl⟩
    · cases h
  case store t x y =>
    obtain ⟨vx, vy, rfl, hx, hy⟩ := evs_two hvs
    split at h
    · rename_i i b o u hi hl
      cases hl
      split at h
      · rename_i cs hb
        split at h
        · cases h
        · rename_i ht; cases h; exact op_store_box hop hi hx hy (by simpa using ht) hb hs.1 hs.2 ⟨rfl, rfl⟩
      · cases h
    · rename_i i b s k c u hi hl
      cases hl
      split at h
      · rename_i s' xs gr hb
        split at h
        · rename_i z ps hz hp
          split at h
          · cases h
          · rename_i ht; cases h
            obtain ⟨rfl, h1, h2⟩ := hs
            exact op_store_eref hop hi hx hy (by simpa using ht) (allP_some hp) hb hz h1 h2 ⟨rfl, rfl⟩
        · cases h
      · cases h
    · cases h
  case call c =>
    split at h
    · rename_i hb
      exact appF_sound hop hb (by simpa [Op.operands, Call.operands, hb] using hvs) h hs
    · rename_i hb
      exact copyF_sound hop hb (by simpa [Op.operands, Call.operands, hb] using hvs) h hs
    · cases h
  case makeMap t r =>
    cases r with
    | some q => simp at h
    | none =>
      simp only [makeMapF] at h
      split at h
      · split at h
        · split at h
          · cases h; exact op_makeMap hop ⟨rfl, rfl, rfl⟩
          · cases h
        · cases h
      · cases h
  case insert t m k x =>
    obtain ⟨vm, vk, vv, rfl, hm, hk, hv⟩ := evs_three hvs
    obtain ⟨rfl, h'⟩ := insertF_sound (WG := WG) (.inl hop) hm hk hv h
    exact h'
  case mapUpdate t m k x =>
    obtain ⟨vm, vk, vv, rfl, hm, hk, hv⟩ := evs_three hvs
    obtain ⟨rfl, h'⟩ := insertF_sound (WG := WG) (.inr hop) hm hk hv h
    exact h'
  case makeSlice t xl xc =>
    obtain ⟨vx, vy, rfl, hx, hy⟩ := evs_two hvs
    simp only [makeF] at h
    split at h
    · rename_i i kl l kc cc hi
      split at h
      · rename_i e hd
        split at h
        · rename_i ei hei
          split at h
          · rename_i hc
            simp only [Bool.and_eq_true, decide_eq_true_eq] at hc
            cases h
            exact op_makeSlice hop hi hd hei hc.2 (aggOr hc.1) hx hy hs.1 hs.2.1 hs.2.2.1 hs.2.2.2 ⟨rfl, rfl, rfl⟩
          · cases h
        · cases h
      · cases h
    · cases h
  case convert s t x =>
    obtain ⟨vx, rfl, hx⟩ := evs_one hvs
    simp only [bytesF] at h
    split at h
    · rename_i i' i b hi' hi
      split at h
      · rename_i e hd' hd
        split at h
        · rename_i ei hei
          split at h
          · rename_i hed; cases h; exact op_conv_bytes hop hi hd hei hed hi' hd' hx ⟨rfl, rfl, rfl⟩
          · cases h
        · cases h
      · cases h
    · cases h
  case buildSlice t len parts =>
    split at h
    · rename_i i hi
      split at h
      · rename_i e hd
        split at h
        · rename_i ei l hei hl
          split at h
          · rename_i out hout
            split at h
            · rename_i ps hps
              split at h
              · rename_i hc
                simp only [Bool.and_eq_true, decide_eq_true_eq] at hc
                cases h
                exact op_buildSlice hop hi hd hei (aggOr hc.1.1) hc.2 hc.1.2 (zipParts_sound (by simpa [Op.operands] using hvs) hl) hout hps ⟨rfl, rfl, rfl⟩
              · cases h
            · split at h
              · rename_i hc
                simp only [Bool.and_eq_true, decide_eq_true_eq] at hc
                cases h
                exact op_buildSliceB hop hi hd hei hc.2 hc.1 (zipParts_sound (by simpa [Op.operands] using hvs) hl) hout ⟨rfl, rfl, rfl⟩
              · cases h
          · cases h
        · cases h
      · cases h
    · cases h

def putM (σ : St) (o : Oper) (v : Option V) (tab : Tab) (nx : Nat) : St :=
  match v with
  | some v => putS σ o.dst v tab nx
  | none => { σ with tab, nx }
def dropD (σ : St) : Option Nat → St
  | some d => { σ with env := adel σ.env d }
  | none => σ

theorem RT_mem {i : Nat} {rest : List Nat} {o : Oper} {c : Bool} {v : Option V} {tab : Tab} {nx : Nat} {ds : Met} (hds : MetOk ops ds) (hi : ops[i]? = some o) (hg : guardC ds σ o.guard = some c) (hd : dstOk σ o.dst) (hn : v = none → o.dst = none)
    (h1 : c = true → opMS P WG o σ v tab nx) (hk : c = true → RT P WG ops rest (putM σ o v tab nx) Q) (hk' : c = false → RT P WG ops rest (dropD σ o.dst) Q) : RT P WG ops (i :: rest) σ Q := by
  intro C j a w hr
  have hw := wanted_eq hr hds hg
  simp only [wpOpsIn, hi]
  cases hc : c with
  | true =>
    rw [hc] at hw
    simp only [hw, if_true]
    have h1' := h1 hc
    have hk1 := hk hc
    cases v with
    | some v =>
      obtain ⟨m, w', v', j', tab', nx', hrun, hm, hv, rfl, rfl, rfl⟩ := h1' C j a w hr
      refine ⟨fun _ _ => trivial, ?_⟩
      rw [semAt_value hrun]
      simp only [Oper.uponIn]
      exact hk1 C j' _ w' (put_rel hr hm hv hd)
    | none =>
      obtain ⟨w', j', tab', nx', hrun, hm, rfl, rfl⟩ := h1' C j a w hr
      refine ⟨fun _ _ => trivial, ?_⟩
      rw [semAt_skip hrun]
      simp only [Oper.uponIn, hn rfl, Act.put]
      exact hk1 C j' _ w' ⟨hm.mem, hr.lo, hm.lx, fun t u hu => let ⟨q, h1, h2⟩ := hr.env t u hu; ⟨q, h1, hm.keep _ _ h2⟩, hr.n, hr.defers.mono hm.okk⟩
  | false =>
    rw [hc] at hw
    simp only [hw, Bool.false_eq_true, if_false]
    refine ⟨fun _ _ => trivial, ?_⟩
    have hk1 := hk' hc
    cases hdst : o.dst with
    | none => rw [hdst] at hk1; exact hk1 C j a w hr
    | some d =>
      rw [hdst] at hk1
      refine hk1 C j _ w ⟨hr.mem, hr.lo, hr.lx, fun t' u hu => ?_, by simp only [Act.put, Array.size_setIfInBounds]; exact hr.n, hr.defers⟩
      simp only [dropD, aget_adel] at hu
      by_cases e : t' = d
      · simp [e] at hu
      · rw [if_neg e] at hu
        obtain ⟨q, h1, h2⟩ := hr.env t' u hu
        refine ⟨q, ?_, h2⟩
        simp only [Act.put, Array.getElem?_setIfInBounds]
        rw [if_neg (fun h => e h.symm)]; exact h1

def idx : Nat → List Oper → List Nat
  | _, [] => []
  | i, _ :: l => i :: idx (i + 1) l

def isMem (P : Program) : Op → Bool
  | .box .. | .alloc _ | .store .. | .buildSlice .. | .makeSlice .. | .makeMap .. | .insert .. | .mapUpdate .. => true
  | .call c => (match c.callee with | .builtin .append => true | .builtin .copy => true | _ => false)
  | .convert _ t _ => (match tiOf P t with | some i => (match i.d with | .slice _ => true | _ => false) | none => false)
  | _ => false

def callK (K : St → Prop) (σ : St) (d : Option Nat) : V → Tab → Nat → Prop := fun r tab nx => K (putS σ d r tab nx)
def callP (Q : VX → St → Prop) (σ : St) : V → Tab → Nat → Prop := fun r tab nx => Q (.panic r) { σ with tab, nx }

inductive SR where
  | pure (σ : St) (side : Prop)
  | mem (c : Bool) (σ σ' : St) (side : Prop)
  | call (g : FuncId) (vs : List V) (d : Option Nat)
  | callc (c : Bool) (side : Prop) (g : FuncId) (vs : List V) (o : Oper)
  | yld (b : Nat) (vs : List V) (d : Option Nat)
  | both (σ0 σ1 : St) (p side : Prop)

def nilP : V → Option Prop
  | .p (.sl _ xs) => some (xs = [])
  | .osl _ _ _ len _ => some (len = 0)
  | .bsl _ _ _ len _ => some (len = 0)
  | .zc => some True
  | _ => none
def isNilC : Operand → Bool
  | .const (.slice none 0 0) => true
  | _ => false
def TD.isSli : TD → Bool
  | .slice _ => true
  | _ => false
def nilS (P : Program) (op : Op) (vs : List V) : Option (Bool × Prop) :=
  match op, vs with
  | .binOp bo xt _ yo _, [x, _] =>
    match nilP x, tiOf P xt with
    | some p, some i => if isNilC yo && i.d.isSli then (match bo with | .eql => some (true, p) | .neq => some (false, p) | _ => none) else none
    | _, _ => none
  | _, _ => none

theorem VR.nilP {w : World} {ok : Nat → Prop} {j : Nat → Option Loc} {nx : Nat} {v : V} {m : Value} {p : Prop} (h : VR w ok j nx v m) (e : nilP v = some p) : ∃ a n c, m = .slice a n c ∧ (a.isNone = true → p) := by
  unfold Gp.nilP at e
  split at e
  · cases e
    cases h with
    | p hp =>
      cases hp with
      | nil => exact ⟨_, _, _, rfl, fun _ => rfl⟩
      | sl => exact ⟨_, _, _, rfl, fun h => by simp at h⟩
  · cases e
    cases h with
    | oslNil => exact ⟨_, _, _, rfl, fun _ => rfl⟩
    | oslEnd => exact ⟨_, _, _, rfl, fun _ => rfl⟩
    | osl => exact ⟨_, _, _, rfl, fun h => by simp at h⟩
  · cases e
    cases h with
    | bsl => exact ⟨_, _, _, rfl, fun h => by simp at h⟩
    | bslEnd => exact ⟨_, _, _, rfl, fun _ => rfl⟩
  · cases e
    cases h with
    | zc => exact ⟨_, _, _, rfl, fun _ => trivial⟩
  · cases e

theorem op_nilS {op : Oper} {vs : List V} {p : Prop} {b : Bool} {K : V → Tab → Nat → Prop} (h : nilS P op.op vs = some (b, p)) (hvs : evs σ op.op.operands.toList = some vs)
    (h0 : K (.p (.v (.bool (!b)))) σ.tab σ.nx) (h1 : p → K (.p (.v (.bool b))) σ.tab σ.nx) : OpS P WG op σ K := by
  unfold nilS at h
  split at h
  · rename_i bo xt xo yo yt x y ho
    split at h
    · rename_i p' i hp hi
      split at h
      · rename_i hc
        simp only [Bool.and_eq_true] at hc
        obtain ⟨hc1, hc2⟩ := hc
        obtain ⟨info, d, z, ht⟩ := tiOf_some hi
        have htd := ht.td
        have hu := ht.und
        obtain ⟨e, he⟩ : ∃ e, P.underlying xt = some (.slice e) := by
          rw [← htd] at hc2
          cases d <;> simp [tdOf, TD.isSli] at hc2
          exact ⟨_, hu⟩
        have hy : yo = .const (.slice none 0 0) := by
          unfold isNilC at hc1
          split at hc1
          · rfl
          · cases hc1
        subst hy
        have hx : ev σ xo = some x := by
          rw [ho] at hvs
          simp only [Op.operands, evs] at hvs
          cases hq : ev σ xo with
          | none => simp [hq] at hvs
          | some x' =>
            rw [hq] at hvs
            simp only [ev, flatV, if_true] at hvs
            simp at hvs
            exact congrArg some hvs.1
        intro C j a w hr
        obtain ⟨q, n, c, hm, hnil⟩ := (hr.ev hx).nilP hp
        have hrun : ∀ bo' : BinOp, bo' = .eql ∨ bo' = .neq → (binOp bo' xt (.slice q n c) (.slice none 0 0)).run P w = .ok (.bool (if bo' = .eql then q.isNone else !q.isNone)) w := by
          intro bo' hbo
          have hq : (Op.equal xt (.slice q n c) (.slice none 0 0)).run P w = .ok q.isNone w := run_equal_slice_nil w xt e q n c he
          rcases hbo with rfl | rfl
          · simp only [binOp]; simp [hq]
          · exact run_neq_slice_nil w xt e q n c he
        have hg : ∀ bo' : BinOp, (eqGuard bo' xt xo (.const (.slice none 0 0)) (.slice q n c) (.slice none 0 0)).run P w = .ok () w := fun bo' => eqGuard_flat w bo' xt xo _ _ _ (.inl (by simp)) (.inl (by simp))
        have hK : ∀ bo' : BinOp, bo' = .eql ∨ bo' = .neq → b = (if bo' = .eql then true else false) → K (.p (.v (.bool (if bo' = .eql then q.isNone else !q.isNone)))) σ.tab σ.nx := by
          intro bo' hbo hb
          have hpp : p' = p := by
            split at h
            · cases h; rfl
            · cases h; rfl
            · cases h
          subst hpp
          cases hqn : q.isNone with
          | true =>
            have := h1 (hnil hqn)
            rw [hb] at this
            rcases hbo with rfl | rfl
            · simpa using this
            · simpa using this
          | false =>
            rw [hb] at h0
            rcases hbo with rfl | rfl
            · simpa using h0
            · simpa using h0
        have fin : ∀ bo' : BinOp, bo' = bo → bo' = .eql ∨ bo' = .neq → b = (if bo' = .eql then true else false) → (∃ m w' v' j' tab' nx', (execOp a.eval op).run P w = .ok (.value m) w' ∧ Moves WG C σ.lo j σ.tab σ.nx w j' tab' nx' w' ∧ VR w' (okc C (Own j' tab') w') j' nx' v' m ∧ K v' tab' nx') := by
          intro bo' e1 hbo hb
          subst e1
          refine ⟨.bool (if bo' = .eql then q.isNone else !q.isNone), w, _, j, σ.tab, σ.nx, ?_, Moves.refl hr, .p (.v rfl), hK bo' hbo hb⟩
          unfold execOp; rw [ho]
          simp only [show ∀ c : Value, a.eval (.const c) = c from fun _ => rfl, Sem.run_bind, hm, hg, Result.andThen_ok, hrun bo' hbo, Sem.run_pure]
        split at h
        · cases h; exact fin .eql rfl (.inl rfl) rfl
        · cases h; exact fin .neq rfl (.inr rfl) rfl
        · cases h
      · cases h
    · cases h
  · cases h

def CallQ (P : Program) (WG : World) (g : FuncId) (vs : List V) (tab : Tab) (nx : Nat) (r : V) : Prop :=
  CallT P WG g vs tab nx (fun r' t n => r' = r ∧ t = tab ∧ n = nx) noP
def FVv (P : Program) (WG : World) (g : FuncId) (vs : List V) (r : V) : Prop := ∀ tab nx, CallQ P WG g vs tab nx r

def stepE (P : Program) (ds : Met) (o : Oper) (σ : St) : Option SR :=
  match guardC ds σ o.guard with
  | none => none
  | some c =>
    match o.op with
    | .pick a x y =>
      match pickF σ a x y with
      | some (v, side) => some (.pure (putC σ o c v) ((c = true → side) ∧ dstOk σ o.dst))
      | none => none
    | .call ⟨.value f, args, _⟩ =>
      match o.guard, ev σ f, evs σ args.toList with
      | none, some vf, some vs =>
        match cloOf vf with
        | some (g, fs, cs) => if callable P g then some (.call g (fs ++ vs ++ cs) o.dst) else
            (match extOf P g with
             | some e => (match extV e (fs ++ vs ++ cs) with | some (v, side) => some (.pure (putC σ o c v) ((c = true → side) ∧ dstOk σ o.dst)) | none => none)
             | none => none)
        | none => (match vf with | .yld b => some (.yld b vs o.dst) | _ => none)
      | some _, some vf, _ =>
        match evsS σ args.toList, cloOf (stripV vf) with
        | some (b, vs), some (g, fs, cs) => if callable P g then some (.callc c (c = true → condV vf = true ∧ b = true) g (fs ++ vs ++ cs) o) else
            (match extOf P g with
             | some e => (match extV e (fs ++ vs ++ cs) with | some (v, side) => some (.pure (putC σ o c v) ((c = true → (condV vf = true ∧ b = true) ∧ side) ∧ dstOk σ o.dst)) | none => none)
             | none => none)
        | _, _ => none
      | _, _, _ => none
    | op =>
      match evsS σ op.operands.toList with
      | some (b, vs) =>
        if isMem P op then
          match opM P σ op vs with
          | some (v, tab, nx, side) => some (.mem c (putM σ o v tab nx) (dropD σ o.dst) ((c = true → b = true ∧ side) ∧ dstOk σ o.dst ∧ (v = none → o.dst = none)))
          | none => none
        else
          match opF P σ.tab op vs with
          | some (v, side) => some (.pure (putC σ o c v) ((c = true → b = true ∧ side) ∧ dstOk σ o.dst))
          | none =>
            match o.guard, nilS P op vs with
            | none, some (r, p) => some (.both (putS σ o.dst (.p (.v (.bool !r))) σ.tab σ.nx) (putS σ o.dst (.p (.v (.bool r))) σ.tab σ.nx) p (b = true ∧ dstOk σ o.dst))
            | _, _ => none
      | none => none

def fin (P : Program) (WG : World) (r : Option SR) (σ : St) (K : St → Prop) (Q : VX → St → Prop) (R : Prop) : Prop :=
  match r with
  | none => R
  | some (.pure σ' side) => side ∧ K σ'
  | some (.mem c σ1 σ2 side) => side ∧ (c = true → K σ1) ∧ (c = false → K σ2)
  | some (.call g vs d) => dstOk σ d ∧ CallT P WG g vs σ.tab σ.nx (callK K σ d) (callP Q σ)
  | some (.callc c side g vs o) => side ∧ dstOk σ o.dst ∧ ∃ r, (c = true → CallQ P WG g vs σ.tab σ.nx r) ∧ K (putC σ o c r)
  | some (.yld b vs d) => dstOk σ d ∧ YldT P WG b vs σ.tab σ.nx (callK K σ d)
  | some (.both σ0 σ1 p side) => side ∧ K σ0 ∧ (p → K σ1)

theorem fin_pure {σ σ' : St} {s : Prop} {K : St → Prop} {Q : VX → St → Prop} {R : Prop} : fin P WG (some (.pure σ' s)) σ K Q R = (s ∧ K σ') := rfl
theorem fin_mem {σ σ1 σ2 : St} {c : Bool} {s : Prop} {K : St → Prop} {Q : VX → St → Prop} {R : Prop} : fin P WG (some (.mem c σ1 σ2 s)) σ K Q R = (s ∧ (c = true → K σ1) ∧ (c = false → K σ2)) := rfl
theorem fin_call {σ : St} {g : FuncId} {vs : List V} {d : Option Nat} {K : St → Prop} {Q : VX → St → Prop} {R : Prop} : fin P WG (some (.call g vs d)) σ K Q R = (dstOk σ d ∧ CallT P WG g vs σ.tab σ.nx (callK K σ d) (callP Q σ)) := rfl

theorem fin_yld {σ : St} {b : Nat} {vs : List V} {d : Option Nat} {K : St → Prop} {Q : VX → St → Prop} {R : Prop} : fin P WG (some (.yld b vs d)) σ K Q R = (dstOk σ d ∧ YldT P WG b vs σ.tab σ.nx (callK K σ d)) := rfl
theorem fin_both {σ σ0 σ1 : St} {p s : Prop} {K : St → Prop} {Q : VX → St → Prop} {R : Prop} : fin P WG (some (.both σ0 σ1 p s)) σ K Q R = (s ∧ K σ0 ∧ (p → K σ1)) := rfl
theorem fin_callc {σ : St} {c : Bool} {s : Prop} {g : FuncId} {vs : List V} {o : Oper} {K : St → Prop} {Q : VX → St → Prop} {R : Prop} : fin P WG (some (.callc c s g vs o)) σ K Q R = (s ∧ dstOk σ o.dst ∧ ∃ r, (c = true → CallQ P WG g vs σ.tab σ.nx r) ∧ K (putC σ o c r)) := rfl

theorem RT_callc {i : Nat} {rest : List Nat} {o : Oper} {c b : Bool} {ds : Met} {x : Operand} {args : Array Operand} {ts : Array TypeId} {vf : V} {g : FuncId} {fs cs vs : List V} {r : V} (hds : MetOk ops ds) (hi : ops[i]? = some o) (hg : guardC ds σ o.guard = some c) (hd : dstOk σ o.dst)
    (ho : o.op = .call { callee := .value x, args := args, argTypes := ts }) (hx : ev σ x = some vf) (hc : cloOf (stripV vf) = some (g, fs, cs)) (hvs : evsS σ args.toList = some (b, vs)) (hb : c = true → condV vf = true ∧ b = true) (hf : callable P g = true)
    (h : c = true → CallQ P WG g (fs ++ vs ++ cs) σ.tab σ.nx r) (hk : RT P WG ops rest (putC σ o c r) Q) : RT P WG ops (i :: rest) σ Q := by
  intro C j a w hr
  have hw := wanted_eq hr hds hg
  simp only [wpOpsIn, hi]
  cases hcc : c with
  | true =>
    rw [hcc] at hw
    simp only [hw, if_true]
    have hx' := ev_force hx (hb hcc).1
    refine wp_call (σ := force σ) hr.force ho hx' hc (evsS_force hvs (hb hcc).2) hf (h hcc) (fun j' tab' nx' w' r' m hm hv hk' => ?_) (fun _ _ _ _ _ _ _ _ hk' => hk'.elim)
    obtain ⟨rfl, rfl, rfl⟩ := hk'
    refine hk C j' _ w' ?_
    unfold putC
    split
    · exact put_rel hr hm hv hd
    · exact put_rel hr hm (.cnd (fun _ => hv) (fun e => by simp [hcc] at e)) hd
  | false =>
    rw [hcc] at hw
    simp only [hw, Bool.false_eq_true, if_false]
    refine ⟨fun _ _ => trivial, ?_⟩
    refine hk C j _ w ?_
    unfold putC
    split
    · rename_i hn
      rw [hn] at hg; simp only [guardC] at hg; cases hg; cases hcc
    · exact put_rel hr (Moves.refl hr) (.cnd (fun e => by simp [hcc] at e) (fun _ => rfl)) hd

def stepR (P : Program) (WG : World) (ds : Met) (o : Oper) (σ : St) (K : St → Prop) (Q : VX → St → Prop) (R : Prop) : Prop := fin P WG (stepE P ds o σ) σ K Q R

theorem Just.unforce {op : Oper} {v : V} (h : OpS P WG op (force σ) (Just (force σ) v)) : OpS P WG op σ (Just σ v) := h.unforce

theorem stepR_sound {i : Nat} {rest : List Nat} {o : Oper} {ds : Met} (hds : MetOk ops ds) (hi : ops[i]? = some o) (h : stepR P WG ds o σ (fun σ' => RT P WG ops rest σ' Q) Q (RT P WG ops (i :: rest) σ Q)) : RT P WG ops (i :: rest) σ Q := by
  unfold stepR at h
  cases hE : stepE P ds o σ with
  | none => rw [hE] at h; exact h
  | some sr =>
    rw [hE] at h
    unfold stepE at hE
    split at hE
    · cases hE
    rename_i c hg
    split at hE
    · rename_i a x y hop
      split at hE
      · rename_i v side hp
        cases hE
        obtain ⟨⟨h1, h2⟩, h3⟩ := h
        exact RT_pure hds hi hg h2 (fun hc => pickF_sound hop hp (h1 hc)) h3
      · cases hE
    · rename_i f args ts hop
      split at hE
      · rename_i vf vs hgd hf hvs
        split at hE
        · rename_i g fs cs hcl
          split at hE
          · rename_i hcb
            cases hE
            exact RT_call hi hgd h.1 hop hf hcl hvs hcb h.2
          · split at hE
            · rename_i e he
              split at hE
              · rename_i v side hv
                cases hE
                obtain ⟨⟨h1, h2⟩, h3⟩ := h
                exact RT_pure hds hi hg h2 (fun hc => op_ext hop hf hcl hvs he hv (h1 hc)) h3
              · cases hE
            · cases hE
        · split at hE
          · cases hE
            exact RT_yld hi hgd h.1 hop hf hvs h.2
          · cases hE
      · rename_i gw vf hgd hf
        split at hE
        · rename_i b vs g fs cs hvs hcl
          split at hE
          · rename_i hcb
            cases hE
            obtain ⟨h1, h2, r, h3, h4⟩ := h
            exact RT_callc hds hi hg h2 hop hf hcl hvs h1 hcb h3 h4
          · split at hE
            · rename_i e he
              split at hE
              · rename_i v side hv
                cases hE
                obtain ⟨⟨h1, h2⟩, h3⟩ := h
                refine RT_pure hds hi hg h2 (fun hc => ?_) h3
                exact OpS.unforce (op_ext (σ := force σ) hop (ev_force hf (h1 hc).1.1) hcl (evsS_force hvs (h1 hc).1.2) he hv (h1 hc).2)
              · cases hE
            · cases hE
        · cases hE
      · cases hE
    · split at hE
      · rename_i b vs hvs
        split at hE
        · split at hE
          · rename_i v tab nx side hm
            cases hE
            obtain ⟨⟨h1, h2, h3⟩, h4, h5⟩ := h
            refine RT_mem hds hi hg h2 h3 (fun hc => ?_) h4 h5
            have hs := h1 hc
            have h1 := opM_sound (σ := force σ) (WG := WG) (evsS_force hvs hs.1) (show opM P (force σ) o.op vs = some (v, tab, nx, side) from hm) hs.2
            cases v with
            | some v => exact OpS.unforce h1
            | none => exact fun C j a w hr => h1 C j a w hr.force
          · cases hE
        · split at hE
          · rename_i v side hf
            cases hE
            obtain ⟨⟨h1, h2⟩, h3⟩ := h
            refine RT_pure hds hi hg h2 (fun hc => ?_) h3
            have hs := h1 hc
            exact Just.unforce (opF_sound (σ := force σ) (evsS_force hvs hs.1) (show opF P (force σ).tab o.op vs = some (v, side) from hf) hs.2)
          · split at hE
            · rename_i r p hgd hn
              cases hE
              obtain ⟨⟨h1, h2⟩, h3, h4⟩ := h
              exact RT_op hi hgd h2 (OpS.unforce (op_nilS (σ := force σ) hn (evsS_force hvs h1) h3 h4))
            · cases hE
      · cases hE

def wpR (P : Program) (WG : World) (ops : Array Oper) (Q : VX → St → Prop) : Nat → Met → List Oper → St → Prop
  | _, _, [], σ => Q .normal σ
  | i, ds, o :: l, σ => stepR P WG ds o σ (wpR P WG ops Q (i + 1) ((i, o.dst) :: ds) l) Q (RT P WG ops (i :: idx (i + 1) l) σ Q)

theorem stepR_mono {o : Oper} {ds : Met} {K K' : St → Prop} {R R' : Prop} (hk : ∀ σ, K σ → K' σ) (hr : R → R') (h : stepR P WG ds o σ K Q R) : stepR P WG ds o σ K' Q R' := by
  unfold stepR at h ⊢
  cases hE : stepE P ds o σ with
  | none => rw [hE] at h; exact hr h
  | some sr =>
    rw [hE] at h
    cases sr with
    | pure σ' side => exact ⟨h.1, hk _ h.2⟩
    | mem c σ1 σ2 side => exact ⟨h.1, fun e => hk _ (h.2.1 e), fun e => hk _ (h.2.2 e)⟩
    | call g vs d => exact ⟨h.1, h.2.mono (fun r t n hq => hk _ hq) (fun _ _ _ hq => hq)⟩
    | callc c side g vs o => obtain ⟨h1, h2, r, h3, h4⟩ := h; exact ⟨h1, h2, r, h3, hk _ h4⟩
    | yld b vs d => exact ⟨h.1, h.2.mono fun r t n hq => hk _ hq⟩
    | both σ0 σ1 p side => exact ⟨h.1, hk _ h.2.1, fun e => hk _ (h.2.2 e)⟩

theorem wpR_sound : ∀ (l : List Oper) (i : Nat) (ds : Met) (σ : St), MetOk ops ds → (∀ k, ops[i + k]? = l[k]?) → wpR P WG ops Q i ds l σ → RT P WG ops (idx i l) σ Q
  | [], _, _, _, _, _, h => RT_nil h
  | o :: l, i, ds, σ, hds, hi, h => by
    have h0 : ops[i]? = some o := by simpa using hi 0
    refine stepR_sound hds h0 (stepR_mono (fun σ' hq => wpR_sound l (i + 1) _ σ' (fun g d hg => ?_) (fun k => ?_) hq) (fun hq => hq) h)
    · simp only [aget] at hg
      split at hg
      · rename_i e; subst e; cases hg; simp [h0]
      · exact hds g d hg
    · have := hi (k + 1)
      rw [List.getElem?_cons_succ] at this
      rw [← this]; congr 1; omega

theorem idx_range : ∀ (l : List Oper) (i : Nat), idx i l = List.range' i l.length
  | [], _ => rfl
  | _ :: l, i => by simp [idx, idx_range l (i + 1), List.range'_succ]

def wpC (P : Program) (WG : World) : Code → (VX → St → Prop) → St → Prop
  | .skip, Q, σ => Q .normal σ
  | .seq a b, Q, σ => wpC P WG a (thenQ (wpC P WG b Q) Q) σ
  | .cond c x y, Q, σ =>
    match evB σ c with
    | some b => (b = true → wpC P WG x Q σ) ∧ (b = false → wpC P WG y Q σ)
    | none => T P WG (.cond c x y) σ Q
  | .block i c, Q, σ => wpC P WG c (blockQ i Q) σ
  | .exit i, Q, σ => Q (.exit i) σ
  | .goto l, Q, σ => Q (.goto l) σ
  | .label _, Q, σ => Q .normal σ
  | .ret, Q, σ => Q .ret σ
  | .region i ops d, Q, σ => if d then T P WG (.region i ops d) σ Q else wpR P WG ops Q 0 [] ops.toList σ
  | .loop c, Q, σ => T P WG (.loop c) σ Q
  | .rangeFunc a b c d, Q, σ => T P WG (.rangeFunc a b c d) σ Q
  | .scope c, Q, σ => T P WG (.scope c) σ Q
  | .refuse c, Q, σ => T P WG (.refuse c) σ Q

theorem wpC_sound : ∀ (c : Code) (Q : VX → St → Prop) (σ : St), wpC P WG c Q σ → T P WG c σ Q
  | .skip, Q, σ, h => T_skip h
  | .seq a b, Q, σ, h => T_seq ((wpC_sound a _ σ h).mono fun x σ' hq => by
      cases x with
      | normal => exact wpC_sound b Q σ' hq
      | _ => exact hq)
  | .cond c x y, Q, σ, h => by
    simp only [wpC] at h
    split at h
    · rename_i b hb; exact T_cond hb (fun e => wpC_sound x Q σ (h.1 e)) (fun e => wpC_sound y Q σ (h.2 e))
    · exact h
  | .block i c, Q, σ, h => T_block (wpC_sound c _ σ h)
  | .exit i, Q, σ, h => T_exit h
  | .goto l, Q, σ, h => T_goto h
  | .label _, Q, σ, h => T_label h
  | .ret, Q, σ, h => T_ret h
  | .region i ops d, Q, σ, h => by
    simp only [wpC] at h
    split at h
    · exact h
    · rename_i hd
      have : d = false := by simpa using hd
      subst this
      refine T_region ?_
      have := wpR_sound ops.toList 0 [] σ (fun g d hg => by simp [aget] at hg) (fun k => by simp) h
      rwa [idx_range, Array.length_toList, ← List.range_eq_range'] at this
  | .loop _, _, _, h => h
  | .rangeFunc .., _, _, h => h
  | .scope _, _, _, h => h
  | .refuse _, _, _, h => h

theorem wpR_nil (ops : Array Oper) (i : Nat) (ds : Met) (σ : St) : wpR P WG ops Q i ds [] σ = Q .normal σ := rfl
theorem wpR_cons (ops : Array Oper) (i : Nat) (ds : Met) (o : Oper) (l : List Oper) (σ : St) :
    wpR P WG ops Q i ds (o :: l) σ = fin P WG (stepE P ds o σ) σ (wpR P WG ops Q (i + 1) ((i, o.dst) :: ds) l) Q (RT P WG ops (i :: idx (i + 1) l) σ Q) := rfl
theorem wpC_skip (σ : St) : wpC P WG .skip Q σ = Q .normal σ := rfl
theorem wpC_seq (a b : Code) (σ : St) : wpC P WG (.seq a b) Q σ = wpC P WG a (thenQ (wpC P WG b Q) Q) σ := rfl
theorem wpC_block (i : Nat) (c : Code) (σ : St) : wpC P WG (.block i c) Q σ = wpC P WG c (blockQ i Q) σ := rfl
theorem wpC_exit (i : Nat) (σ : St) : wpC P WG (.exit i) Q σ = Q (.exit i) σ := rfl
theorem wpC_ret (σ : St) : wpC P WG .ret Q σ = Q .ret σ := rfl
theorem wpC_region (i : Nat) (ops : Array Oper) (σ : St) : wpC P WG (.region i ops false) Q σ = wpR P WG ops Q 0 [] ops.toList σ := rfl
theorem wpC_draw (i : Nat) (ops : Array Oper) (σ : St) : wpC P WG (.region i ops true) Q σ = T P WG (.region i ops true) σ Q := rfl
theorem wpC_loop (c : Code) (σ : St) : wpC P WG (.loop c) Q σ = T P WG (.loop c) σ Q := rfl
def condW (P : Program) (WG : World) (b : Bool) (x y : Code) (Q : VX → St → Prop) (σ : St) : Prop := (b = true → wpC P WG x Q σ) ∧ (b = false → wpC P WG y Q σ)
def condK (P : Program) (WG : World) (b : Option Bool) (c : Operand) (x y : Code) (Q : VX → St → Prop) (σ : St) : Prop :=
  match b with
  | some b => condW P WG b x y Q σ
  | none => T P WG (.cond c x y) σ Q
theorem condK_some (b : Bool) (c : Operand) (x y : Code) (σ : St) : condK P WG (some b) c x y Q σ = condW P WG b x y Q σ := rfl
theorem wpC_cond (c : Operand) (x y : Code) (σ : St) : wpC P WG (.cond c x y) Q σ = condK P WG (evB σ c) c x y Q σ := by
  simp only [wpC, condK, condW]
theorem thenQ_normal (K : St → Prop) (σ : St) : thenQ K Q .normal σ = K σ := rfl
theorem thenQ_ret (K : St → Prop) (σ : St) : thenQ K Q .ret σ = Q .ret σ := rfl
theorem thenQ_exit (K : St → Prop) (σ : St) (i : Nat) : thenQ K Q (.exit i) σ = Q (.exit i) σ := rfl
theorem thenQ_panic (K : St → Prop) (σ : St) (v : V) : thenQ K Q (.panic v) σ = Q (.panic v) σ := rfl
theorem blockQ_normal (i : Nat) (σ : St) : blockQ i Q .normal σ = Q .normal σ := rfl
theorem blockQ_ret (i : Nat) (σ : St) : blockQ i Q .ret σ = Q .ret σ := rfl
theorem blockQ_exit (i k : Nat) (σ : St) : blockQ i Q (.exit k) σ = if k = i then Q .normal σ else Q (.exit k) σ := rfl
theorem blockQ_panic (i : Nat) (v : V) (σ : St) : blockQ i Q (.panic v) σ = Q (.panic v) σ := rfl
theorem callK_eq (K : St → Prop) (σ : St) (d : Option Nat) (r : V) (t : Tab) (n : Nat) : callK K σ d r t n = K (putS σ d r t n) := rfl
theorem callP_eq (σ : St) (r : V) (t : Tab) (n : Nat) : callP Q σ r t n = Q (.panic r) { σ with tab := t, nx := n } := rfl

end
end Go.Gp
