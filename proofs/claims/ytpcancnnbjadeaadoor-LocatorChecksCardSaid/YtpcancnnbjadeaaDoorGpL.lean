/-
  Straight-line code is evaluated: a function tells what each operation gives and what must hold for it.
-/
import Derived.Test.YtpcancnnbjadeaaDoorGpK
set_option linter.unusedSimpArgs false
set_option linter.unusedVariables false
namespace Go.Gp
open Go.RowKit

def condV : V → Bool
  | .cnd b _ => b
  | _ => true
def stripV : V → V
  | .cnd _ x => x
  | x => x

def binI' (op : BinOp) (k : IntKind) (a b : Int) : Option (Value × Prop) :=
  match op with
  | .add => some (.int k (k.wrap (a + b)), True)
  | .sub => some (.int k (k.wrap (a - b)), True)
  | .mul => some (.int k (k.wrap (a * b)), True)
  | .quo => some (.int k (k.wrap (a.tdiv b)), b ≠ 0)
  | .rem => some (.int k (a.tmod b), b ≠ 0)
  | .and => some (.int k (bits2 k (· &&& ·) a b), True)
  | .or => some (.int k (bits2 k (· ||| ·) a b), True)
  | .xor => some (.int k (bits2 k (· ^^^ ·) a b), True)
  | .andNot => some (.int k (bits2 k (fun x y => x &&& ~~~y) a b), True)
  | .eql => some (.bool (decide (a = b)), True)
  | .neq => some (.bool (!decide (a = b)), True)
  | .lss => some (.bool (decide (a < b)), True)
  | .leq => some (.bool (decide (a ≤ b)), True)
  | .gtr => some (.bool (decide (b < a)), True)
  | .geq => some (.bool (decide (b ≤ a)), True)
  | .shl => some (.int k (k.wrap (a * 2 ^ shAmt k b)), 0 ≤ b)
  | .shr => some (.int k (a.fdiv (2 ^ shAmt k b)), 0 ≤ b)

def binS' (op : BinOp) (a b : ByteArray) : Option (Value × Prop) :=
  match op with
  | .add => some (.string (a ++ b), (a.size : Int) + b.size ≤ 9223372036854775807)
  | .eql => some (.bool (strEq a b), True)
  | .neq => some (.bool (!strEq a b), True)
  | .lss => some (.bool (strLt a b), True)
  | .leq => some (.bool (strLt a b || strEq a b), True)
  | .gtr => some (.bool (!(strLt a b || strEq a b)), True)
  | .geq => some (.bool (!strLt a b), True)
  | _ => none

def pv (x : Option (Value × Prop)) : Option (V × Prop) :=
  match x with
  | some (v, s) => some (.p (.v v), s)
  | none => none

def binF (P : Program) (bo : BinOp) (xt : TypeId) (x y : V) : Option (V × Prop) :=
  match x, y with
  | .p (.v (.int k a)), .p (.v (.int k' b)) => if isShift bo || decide (k = k') then pv (binI' bo k a b) else none
  | .p (.v (.string a)), .p (.v (.string b)) => pv (binS' bo a b)
  | .p (.v (.bool a)), .p (.v (.bool b)) =>
    match tiOf P xt with
    | some i => if i.d = .bool then (match bo with | .eql => some (.p (.v (.bool (a == b))), True) | .neq => some (.p (.v (.bool (!(a == b)))), True) | _ => none) else none
    | none => none
  | _, _ => none

def unF (uo : UnOp) (x : V) : Option (V × Prop) :=
  match uo, x with
  | .not, .p (.v (.bool b)) => some (.p (.v (.bool !b)), True)
  | .neg, .p (.v (.int k n)) => some (.p (.v (.int k (k.wrap (0 - n)))), True)
  | .xor, .p (.v (.int k n)) => some (.p (.v (.int k (bits2 k (· ^^^ ·) (if k.signed then -1 else k.max) n))), True)
  | _, _ => none

def loadF (P : Program) (tab : Tab) (t : TypeId) (x : V) : Option (V × Prop) :=
  match tiOf P t, x with
  | some i, .ref b o =>
    match aget tab b with
    | some (.box cs) => if i.agg || i.size == 1 then some (readV i cs o, o + i.size ≤ cs.length) else none
    | _ => none
  | some i, .p (.ptr y o) => if i.agg || i.size == 1 then some (readX i y o, o + i.size ≤ y.cells.length) else none
  | some i, .eref b s k c =>
    match aget tab b with
    | some (.arr s' xs _) =>
      match xs[k]? with
      | some y => if (i.agg || i.size == 1) && s' == s then some (readX i y c, c + i.size ≤ s) else none
      | none => none
    | _ => none
  | _, _ => none

def fieldAddrF (P : Program) (s : TypeId) (f : Nat) (x : V) : Option (V × Prop) :=
  match tiOf P s with
  | some i =>
    match i.d with
    | .struct fs =>
      match fs[f]? with
      | some (off, _, sz) => if sz = 0 then none else (match addrAdd x off with | some v => some (v, True) | none => none)
      | none => none
    | _ => none
  | none => none

def fieldF (P : Program) (s : TypeId) (f : Nat) (x : V) : Option (V × Prop) :=
  match tiOf P s with
  | some i =>
    match i.d with
    | .struct fs =>
      match fs[f]? with
      | some (off, ft, _) =>
        match tiOf P ft with
        | some fi => if (fi.agg || fi.size == 1) && x.isAgg then some (readV fi x.cells off, off + fi.size ≤ x.cells.length) else none
        | none => none
      | none => none
    | _ => none
  | none => none

def indexF (P : Program) (t : TypeId) (x ix : V) : Option (V × Prop) :=
  match tiOf P t, ix with
  | some i, .p (.v (.int _ q)) =>
    match i.d, x with
    | .str, .p (.v (.string s)) => some (.p (.v (.int .u8 ((bAt s q.toNat).toNat))), 0 ≤ q ∧ q < (s.size : Int))
    | .array n e, x =>
      match tiOf P e with
      | some ei => if (ei.agg || ei.size == 1) && x.isAgg then some (readV ei x.cells (q.toNat * ei.size), (0 ≤ q ∧ q < (n : Int)) ∧ q.toNat * ei.size + ei.size ≤ x.cells.length) else none
      | none => none
    | _, _ => none
  | _, _ => none

def indexAddrF (P : Program) (t : TypeId) (x ix : V) : Option (V × Prop) :=
  match tiOf P t, ix with
  | some i, .p (.v (.int _ q)) =>
    match i.d with
    | .array n e =>
      match tiOf P e with
      | some ei => (match addrAdd x (q.toNat * ei.size) with | some v => some (v, 0 ≤ q ∧ q < (n : Int)) | none => none)
      | none => none
    | .slice e =>
      match tiOf P e, x with
      | some ei, .p (.sl s xs) => (match xs[q.toNat]? with | some y => if ei.size = s then some (.p (.ptr y 0), 0 ≤ q) else none | none => none)
      | some ei, .osl b s lo len _ => if ei.size = s then some (.eref b s (lo + q.toNat) 0, 0 ≤ q ∧ q < (len : Int)) else none
      | some ei, .bsl b o s len _ => if ei.size = s then some (.ref b (o + q.toNat * s), 0 ≤ q ∧ q < (len : Int)) else none
      | _, _ => none
    | _ => none
  | _, _ => none

def lenF (P : Program) (t : TypeId) (x : V) : Option (V × Prop) :=
  match tiOf P t with
  | some i =>
    match i.d with
    | .str => (match x with | .p (.v (.string s)) => some (.p (.v (.int .i64 s.size)), True) | _ => none)
    | .slice _ => (match lenV x with | some n => some (.p (.v (.int .i64 n)), True) | none => none)
    | .array n _ => some (.p (.v (.int .i64 n)), True)
    | _ => none
  | none => none

def convF (P : Program) (s t : TypeId) (x : V) : Option (V × Prop) :=
  match tiOf P s, tiOf P t with
  | some i', some i =>
    match i.d, x with
    | .int k, .p (.v (.int _ n)) => some (.p (.v (.int k (k.wrap n))), True)
    | .str, .p (.v (.string b)) => if i'.d = .str then some (.p (.v (.string b)), True) else none
    | _, _ => none
  | _, _ => none

def ifaceF (P : Program) (t : TypeId) (x : V) : Option (V × Prop) :=
  match tiOf P t with
  | some i => if i.d = .iface then none else some (.ifc t x, True)
  | none => none

def zipParts : List (Nat × Operand) → List V → Option (List (Nat × V))
  | [], [] => some []
  | (k, _) :: r, v :: s => match zipParts r s with | some l => some ((k, v) :: l) | none => none
  | _, _ => none

def buildF (P : Program) (t : TypeId) (parts : List (Nat × Operand)) (vs : List V) : Option (V × Prop) :=
  match tiOf P t with
  | some i =>
    match placesOf P i.d, zipParts parts vs with
    | some pl, some l => (match fillV pl (i.zero.map fun x => V.p (.v x)) l with | some out => some (mkAgg out, True) | none => none)
    | _, _ => none
  | none => none

def extractF (k : Nat) (x : V) : Option (V × Prop) :=
  match x with
  | .tup vs => (match vs[k]? with | some v => some (v, True) | none => none)
  | _ => none

def minF (mx : Bool) (x y : V) : Option (V × Prop) :=
  match x, y with
  | .p (.v (.int k a)), .p (.v (.int k' b)) => if k = k' then some (.p (.v (.int k (if mx then (if a < b then b else a) else (if b < a then b else a)))), True) else none
  | _, _ => none

def callF (P : Program) (c : Call) (vs : List V) : Option (V × Prop) :=
  match c.callee with
  | .builtin .len => (match c.argTypes.toList, vs with | [t], [x] => lenF P t x | _, _ => none)
  | .builtin .min => (match vs with | [x, y] => minF false x y | _ => none)
  | .builtin .max => (match vs with | [x, y] => minF true x y | _ => none)
  | _ => none

def boundF : Option Operand → List V → Option (Option Int × List V)
  | none, vs => some (none, vs)
  | some _, .p (.v (.int _ n)) :: vs => some (some n, vs)
  | _, _ => none

def sliceV (P : Program) (t : TypeId) (x : V) (l h m : Option Int) : Option (V × Prop) :=
  match tiOf P t, m with
  | some i, none =>
    match i.d, x with
    | .str, .p (.v (.string s)) => some (.p (.v (.string (s.extract (l.getD 0).toNat (h.getD s.size).toNat))), 0 ≤ l.getD 0 ∧ l.getD 0 ≤ h.getD s.size ∧ h.getD s.size ≤ s.size)
    | .slice e, .p (.sl s xs) =>
      match tiOf P e with
      | some ei => if ei.size = s then some (.p (.sl s ((xs.drop (l.getD 0).toNat).take ((h.getD xs.length).toNat - (l.getD 0).toNat))), 0 ≤ l.getD 0 ∧ l.getD 0 ≤ h.getD xs.length ∧ h.getD xs.length ≤ xs.length) else none
      | none => none
    | .slice e, .osl b s lo0 len cap =>
      match tiOf P e with
      | some ei => if ei.size = s then some (.osl b s (lo0 + (l.getD 0).toNat) ((h.getD len).toNat - (l.getD 0).toNat) (cap.map (· - (l.getD 0).toNat)), 0 ≤ l.getD 0 ∧ l.getD 0 ≤ h.getD len ∧ h.getD len ≤ len) else none
      | none => none
    | .slice e, .bsl b o s len cap =>
      match tiOf P e with
      | some ei => if ei.size = s then some (.bsl b (o + (l.getD 0).toNat * s) s ((h.getD len).toNat - (l.getD 0).toNat) (cap - (l.getD 0).toNat), 0 ≤ l.getD 0 ∧ l.getD 0 ≤ h.getD len ∧ h.getD len ≤ len) else none
      | none => none
    | .slice e, .p (.v (.slice none 0 0)) =>
      match tiOf P e with
      | some _ => some (.p (.v (.slice none 0 0)), l.getD 0 = 0 ∧ h.getD 0 = 0)
      | none => none
    | .array n e, .ref b o =>
      match tiOf P e with
      | some ei => some (.bsl b (o + (l.getD 0).toNat * ei.size) ei.size ((h.getD n).toNat - (l.getD 0).toNat) (n - (l.getD 0).toNat), 0 ≤ l.getD 0 ∧ l.getD 0 ≤ h.getD n ∧ h.getD n ≤ n)
      | none => none
    | .array n e, .p (.ptr y o) =>
      match tiOf P e with
      | some ei => if ei.agg || ei.size == 1 then some (.p (.sl ei.size (elemsOf ei.agg ei.size ((h.getD n).toNat - (l.getD 0).toNat) (y.cells.drop (o + (l.getD 0).toNat * ei.size)))), (0 ≤ l.getD 0 ∧ l.getD 0 ≤ h.getD n ∧ h.getD n ≤ n) ∧ o + n * ei.size ≤ y.cells.length) else none
      | none => none
    | _, _ => none
  | some i, some m =>
    match i.d with
    | .slice e =>
      match tiOf P e, lenV x with
      | some _, some _ => some (.zc, l.getD 0 = 0 ∧ h = some 0 ∧ m = 0)
      | _, _ => none
    | _ => none
  | none, _ => none

def sliceF (P : Program) (t : TypeId) (lo hi mx : Option Operand) (x : V) (vs : List V) : Option (V × Prop) :=
  match boundF lo vs with
  | some (l, vs1) =>
    match boundF hi vs1 with
    | some (h, vs2) =>
      match boundF mx vs2 with
      | some (m, []) => sliceV P t x l h m
      | _ => none
    | none => none
  | none => none

def byteOf : PV → UInt8
  | .v (.int _ n) => UInt8.ofNat n.toNat
  | _ => 0
theorem byteOf_bytesP (l : List UInt8) : (bytesP l).map byteOf = l := by
  induction l with
  | nil => rfl
  | cons x r ih => simp only [bytesP, List.map_cons] at ih ⊢; rw [ih]; simp [byteP, byteOf]

/-- 'string(b)'. -/
def convS (P : Program) (tab : Tab) (s t : TypeId) (x : V) : Option (V × Prop) :=
  match tiOf P s, tiOf P t with
  | some i', some i =>
    match i'.d, i.d with
    | .slice e, .str =>
      match tiOf P e with
      | some ei =>
        if ei.d = .int .u8 then
          match x with
          | .p (.v (.string _)) => none
          | x =>
            match srcV tab false 1 x with
            | some (ys, side) => some (.p (.v (.string ⟨(ys.map byteOf).toArray⟩)), side ∧ ys = bytesP (ys.map byteOf))
            | none => none
        else none
      | none => none
    | _, _ => none
  | _, _ => none

def convA (P : Program) (tab : Tab) (s t : TypeId) (x : V) : Option (V × Prop) :=
  match convF P s t x with
  | some r => some r
  | none => convS P tab s t x

/-- What an operation that only computes gives, and what must hold. -/
def opF (P : Program) (tab : Tab) (op : Op) (vs : List V) : Option (V × Prop) :=
  match op with
  | .move _ | .assign _ => (match vs with | [x] => some (x, True) | _ => none)
  | .binOp bo xt _ _ _ => (match vs with | [x, y] => binF P bo xt x y | _ => none)
  | .unOp uo _ _ => (match vs with | [x] => unF uo x | _ => none)
  | .convert s t _ => (match vs with | [x] => convA P tab s t x | _ => none)
  | .slice t _ lo hi mx => (match vs with | x :: r => sliceF P t lo hi mx x r | _ => none)
  | .makeInterface t _ => (match vs with | [x] => ifaceF P t x | _ => none)
  | .makeFunc fn fs _ => some (.clo fn (vs.take fs.size) (vs.drop fs.size), True)
  | .load t _ => (match vs with | [x] => loadF P tab t x | _ => none)
  | .fieldAddr s _ f => (match vs with | [x] => fieldAddrF P s f x | _ => none)
  | .field s _ f => (match vs with | [x] => fieldF P s f x | _ => none)
  | .index t _ _ => (match vs with | [x, y] => indexF P t x y | _ => none)
  | .indexAddr t _ _ => (match vs with | [x, y] => indexAddrF P t x y | _ => none)
  | .extract _ k => (match vs with | [x] => extractF k x | _ => none)
  | .build t parts => buildF P t parts.toList vs
  | .call c => callF P c vs
  | _ => none

section
variable {P : Program} {WG : World} {σ : St}

theorem evs_one {x : Operand} {vs : List V} (h : evs σ [x] = some vs) : ∃ v, vs = [v] ∧ ev σ x = some v := by
  simp only [evs] at h
  split at h
  · rename_i v l hv hl; cases hl; cases h; exact ⟨v, rfl, hv⟩
  · cases h
theorem evs_two {x y : Operand} {vs : List V} (h : evs σ [x, y] = some vs) : ∃ v u, vs = [v, u] ∧ ev σ x = some v ∧ ev σ y = some u := by
  simp only [evs] at h
  split at h
  · rename_i v l hv hl
    split at hl
    · rename_i u l' hu hl'; cases hl'; cases hl; cases h; exact ⟨v, u, rfl, hv, hu⟩
    · cases hl
  · cases h

theorem aggOr {i : TI} (h : (i.agg || i.size == 1) = true) : i.agg = true ∨ i.size = 1 := by simpa using h

abbrev Just (σ : St) (v : V) : V → Tab → Nat → Prop := fun v' t n => v' = v ∧ t = σ.tab ∧ n = σ.nx

theorem binF_sound {op : Oper} {bo : BinOp} {xt yt : TypeId} {x y : Operand} {vx vy v : V} {side : Prop} (ho : op.op = .binOp bo xt x y yt) (hx : ev σ x = some vx) (hy : ev σ y = some vy) (h : binF P bo xt vx vy = some (v, side)) (hs : side) : OpS P WG op σ (Just σ v) := by
  unfold binF at h
  split at h
  · rename_i k a k' b
    split at h
    · rename_i hk
      cases hsh : isShift bo
      · simp only [hsh, Bool.false_or, decide_eq_true_eq] at hk
        subst hk
        have key : ∀ u, binI bo k a b = some u → v = .p (.v u) → OpS P WG op σ (Just σ v) := fun u hu e => op_bin_int ho hsh hx hy hu ⟨e.symm, rfl, rfl⟩
        cases bo <;> simp only [isShift] at hsh <;> (try cases hsh) <;> simp only [binI', pv] at h <;> cases h <;>
          first
          | exact key _ rfl rfl
          | exact key _ (by simp only [binI]; rw [if_neg hs]) rfl
          | exact key _ (by simp only [binI]; rfl) (by congr 2; simp [BEq.beq])
          | exact key _ (by simp only [binI]; rfl) (by congr 3; simp [bne, BEq.beq])
      · cases bo <;> simp only [isShift] at hsh <;> (try cases hsh) <;> simp only [binI', pv] at h <;> cases h
        · exact op_bin_shift ho hx hy hs (.inl ⟨rfl, rfl⟩) ⟨rfl, rfl, rfl⟩
        · exact op_bin_shift ho hx hy hs (.inr ⟨rfl, rfl⟩) ⟨rfl, rfl, rfl⟩
    · cases h
  · rename_i a b
    have key : ∀ u, binS bo a b = some u → v = .p (.v u) → OpS P WG op σ (Just σ v) := fun u hu e => op_bin_str ho hx hy hu ⟨e.symm, rfl, rfl⟩
    cases bo <;> simp only [binS', pv] at h <;> cases h <;>
      first
      | exact key _ rfl rfl
      | exact key _ (by simp only [binS]; rw [if_pos (by simpa using hs)]) rfl
  · rename_i a b
    split at h
    · rename_i i hi
      split at h
      · rename_i hd
        split at h
        · cases h; exact op_bin_bool ho hi hd hx hy (.inl ⟨rfl, rfl⟩) ⟨rfl, rfl, rfl⟩
        · cases h; exact op_bin_bool ho hi hd hx hy (.inr ⟨rfl, rfl⟩) ⟨rfl, rfl, rfl⟩
        · cases h
      · cases h
    · cases h
  · cases h

theorem zipParts_sound {parts : List (Nat × Operand)} : ∀ {vs : List V} {l : List (Nat × V)}, evs σ (parts.map (·.2)) = some vs → zipParts parts vs = some l → evParts σ parts = some l := by
  induction parts with
  | nil => intro vs l h1 h2; simp [evs] at h1; subst h1; simp [zipParts] at h2; subst h2; rfl
  | cons p r ih =>
    obtain ⟨k, x⟩ := p
    intro vs l h1 h2
    simp only [List.map_cons, evs] at h1
    split at h1
    · rename_i v s hv hs
      cases h1
      simp only [zipParts] at h2
      split at h2
      · rename_i l' hl'
        cases h2
        simp only [evParts, hv, ih hs hl']
      · cases h2
    · cases h1

theorem evs_append {xs ys : List Operand} : ∀ {vs : List V}, evs σ (xs ++ ys) = some vs → evs σ xs = some (vs.take xs.length) ∧ evs σ ys = some (vs.drop xs.length) := by
  induction xs with
  | nil => intro vs h; exact ⟨by simp [evs], by simpa using h⟩
  | cons x r ih =>
    intro vs h
    simp only [List.cons_append, evs] at h
    split at h
    · rename_i v l hv hl
      cases h
      obtain ⟨h1, h2⟩ := ih hl
      exact ⟨by simp [evs, hv, h1], by simpa using h2⟩
    · cases h

theorem boundF_sound {lo : Option Operand} {rest : List Operand} {vs vs1 : List V} {l : Option Int} (h : evs σ (lo.toList ++ rest) = some vs) (hb : boundF lo vs = some (l, vs1)) : bnd σ lo l ∧ evs σ rest = some vs1 := by
  cases lo with
  | none => simp only [boundF] at hb; cases hb; exact ⟨trivial, h⟩
  | some x =>
    simp only [Option.toList_some, List.singleton_append, evs] at h
    split at h
    · rename_i v l' hv hl
      cases h
      cases v with
      | p px =>
        cases px with
        | v pv =>
          cases pv with
          | int k n => simp only [boundF] at hb; cases hb; exact ⟨⟨k, hv⟩, hl⟩
          | _ => simp [boundF] at hb
        | _ => simp [boundF] at hb
      | _ => simp [boundF] at hb
    · cases h

theorem sliceV_sound {op : Oper} {t : TypeId} {x : Operand} {lo hi mx : Option Operand} {vx v : V} {l h m : Option Int} {side : Prop} (ho : op.op = .slice t x lo hi mx) (hx : ev σ x = some vx) (hl : bnd σ lo l) (hh : bnd σ hi h) (hm : bnd σ mx m) (hv : sliceV P t vx l h m = some (v, side)) (hs : side) : OpS P WG op σ (Just σ v) := by
  have hJ : Just σ v v σ.tab σ.nx := ⟨rfl, rfl, rfl⟩
  unfold sliceV at hv
  split at hv
  · rename_i i hi'
    have hmx : mx = none := by cases mx <;> first | rfl | exact hm.elim
    subst hmx
    split at hv
    · rename_i hd; cases hv; exact op_slice_str ho hi' hd hx hl hh hs.1 hs.2.1 hs.2.2 hJ
    · rename_i hd
      split at hv
      · rename_i ei hei
        split at hv
        · rename_i hsz; cases hv; exact op_slice_sl ho hi' hd hei hsz hx hl hh hs.1 hs.2.1 hs.2.2 hJ
        · cases hv
      · cases hv
    · rename_i hd
      split at hv
      · rename_i ei hei
        split at hv
        · rename_i hsz; cases hv; exact op_slice_osl ho hi' hd hei hsz hx hl hh hs.1 hs.2.1 hs.2.2 hJ
        · cases hv
      · cases hv
    · rename_i hd
      split at hv
      · rename_i ei hei
        split at hv
        · rename_i hsz; cases hv; exact op_slice_bsl ho hi' hd hei hsz hx hl hh hs.1 hs.2.1 hs.2.2 hJ
        · cases hv
      · cases hv
    · rename_i hd
      split at hv
      · rename_i ei hei; cases hv; exact op_slice_nil ho hi' hd hei hx hl hh hs.1 hs.2 hJ
      · cases hv
    · rename_i hd
      split at hv
      · rename_i ei hei; cases hv; exact op_slice_arr ho hi' hd hei hx hl hh hs.1 hs.2.1 hs.2.2 hJ
      · cases hv
    · rename_i hd
      split at hv
      · rename_i ei hei
        split at hv
        · rename_i hc; cases hv; exact op_slice_ptr ho hi' hd hei (aggOr hc) hx hl hh hs.1.1 hs.1.2.1 hs.1.2.2 hs.2 hJ
        · cases hv
      · cases hv
    · cases hv
  · rename_i i m' hi'
    split at hv
    · rename_i e hd
      split at hv
      · rename_i ei n hei hn
        cases hv
        obtain ⟨h1, rfl, rfl⟩ := hs
        refine op_slice_zc ho hi' hd hei hx hn ?_ hh hm hJ
        cases l with
        | none => exact .inr hl
        | some l => simp only [Option.getD_some] at h1; subst h1; exact .inl hl
      · cases hv
    · cases hv
  · cases hv

theorem opF_sound {op : Oper} {vs : List V} {v : V} {side : Prop} (hvs : evs σ op.op.operands.toList = some vs) (h : opF P σ.tab op.op vs = some (v, side)) (hs : side) : OpS P WG op σ (Just σ v) := by
  have hJ : Just σ v v σ.tab σ.nx := ⟨rfl, rfl, rfl⟩
  cases hop : op.op <;> rw [hop] at h hvs <;> simp only [opF] at h <;> (try cases h)
  case move x =>
    obtain ⟨vx, rfl, hx⟩ := evs_one hvs
    simp only at h; cases h
    exact op_move (.inl hop) hx hJ
  case assign x =>
    obtain ⟨vx, rfl, hx⟩ := evs_one hvs
    simp only at h; cases h
    exact op_move (.inr hop) hx hJ
  case binOp bo xt x y yt =>
    obtain ⟨vx, vy, rfl, hx, hy⟩ := evs_two hvs
    exact binF_sound hop hx hy h hs
  case unOp uo xt x =>
    obtain ⟨vx, rfl, hx⟩ := evs_one hvs
    simp only [unF] at h
    split at h <;> cases h
    · exact op_not hop hx hJ
    · exact op_neg hop hx hJ
    · exact op_compl hop hx hJ
  case slice t x lo hi mx =>
    simp only [Op.operands, Array.toList_append] at hvs
    split at h
    · rename_i vx r
      have hv2 : evs σ (x :: (lo.toList ++ (hi.toList ++ (mx.toList ++ [])))) = some (vx :: r) := by
        rw [← hvs]; congr 1
        cases lo <;> cases hi <;> cases mx <;> rfl
      simp only [evs] at hv2
      split at hv2
      · rename_i v' l' hx hr
        cases hv2
        simp only [sliceF] at h
        split at h
        · rename_i l vs1 hb1
          obtain ⟨hl, hr1⟩ := boundF_sound hr hb1
          split at h
          · rename_i hh vs2 hb2
            obtain ⟨hh', hr2⟩ := boundF_sound hr1 hb2
            split at h
            · rename_i m hb3
              obtain ⟨hm, _⟩ := boundF_sound hr2 hb3
              exact sliceV_sound hop hx hl hh' hm h hs
            · cases h
          · cases h
        · cases h
      · cases hv2
    · cases h
  case convert s t x =>
    obtain ⟨vx, rfl, hx⟩ := evs_one hvs
    simp only [convA] at h
    split at h
    case h_2 hcf =>
      simp only [convS] at h
      split at h
      · rename_i i' i hi' hi
        split at h
        · rename_i e hd' hd
          split at h
          · rename_i ei hei
            split at h
            · rename_i hed
              split at h
              · cases h
              · rename_i hns
                split at h
                · rename_i ys side' hsrc
                  cases h
                  exact op_conv_string hop hi hd hi' hd' hei hed hx (by rw [← hs.2]; exact hsrc) hs.1 (fun b e => hns b e) ⟨rfl, rfl, rfl⟩
                · cases h
            · cases h
          · cases h
        · cases h
      · cases h
    rename_i rr hcf
    cases h
    rename_i h0
    clear h0
    have h := hcf
    simp only [convF] at h
    split at h
    · rename_i i' i hi' hi
      split at h
      · rename_i hd; cases h; exact op_conv_int hop hi hd hi' hx hJ
      · rename_i hd
        split at h
        · rename_i hd'; cases h; exact op_conv_str hop hi hd hi' hd' hx hJ
        · cases h
      · cases h
    · cases h
  case makeInterface t x =>
    obtain ⟨vx, rfl, hx⟩ := evs_one hvs
    simp only [ifaceF] at h
    split at h
    · rename_i i hi
      split at h
      · cases h
      · rename_i hd; cases h; exact op_makeInterface hop hi hd hx hJ
    · cases h
  case makeFunc fn fs cs =>
    simp only [Op.operands, Array.toList_append] at hvs
    obtain ⟨h1, h2⟩ := evs_append hvs
    simp only [Array.length_toList] at h1 h2
    exact op_makeFunc hop h1 h2 hJ
  case load t x =>
    obtain ⟨vx, rfl, hx⟩ := evs_one hvs
    simp only [loadF] at h
    split at h
    · rename_i i b o hi
      split at h
      · rename_i cs hb
        split at h
        · rename_i hc; cases h; exact op_load_box hop hi hx hb (aggOr hc) hs hJ
        · cases h
      · cases h
    · rename_i i y o hi
      split at h
      · rename_i hc; cases h; exact op_load_ptr hop hi hx (aggOr hc) hs hJ
      · cases h
    · rename_i i b s k c hi
      split at h
      · rename_i s' xs gr hb
        split at h
        · rename_i y hy
          split at h
          · rename_i hc
            simp only [Bool.and_eq_true, beq_iff_eq] at hc
            obtain ⟨hc1, rfl⟩ := hc
            cases h
            exact op_load_eref hop hi hx hb hy (aggOr hc1) hs hJ
          · cases h
        · cases h
      · cases h
    · cases h
  case fieldAddr s x f =>
    obtain ⟨vx, rfl, hx⟩ := evs_one hvs
    simp only [fieldAddrF] at h
    split at h
    · rename_i i hi
      split at h
      · rename_i fs hd
        split at h
        · rename_i off ft sz hf
          split at h
          · cases h
          · rename_i hsz
            split at h
            · rename_i u hu; cases h; exact op_fieldAddr hop hi hd hf hsz hx hu hJ
            · cases h
        · cases h
      · cases h
    · cases h
  case field s x f =>
    obtain ⟨vx, rfl, hx⟩ := evs_one hvs
    simp only [fieldF] at h
    split at h
    · rename_i i hi
      split at h
      · rename_i fs hd
        split at h
        · rename_i off ft sz hf
          split at h
          · rename_i fi hfi
            split at h
            · rename_i hc
              simp only [Bool.and_eq_true] at hc
              cases h
              exact op_field hop hi hd hf hfi (aggOr hc.1) hx hc.2 hs hJ
            · cases h
          · cases h
        · cases h
      · cases h
    · cases h
  case index t x ix =>
    obtain ⟨vx, vy, rfl, hx, hy⟩ := evs_two hvs
    simp only [indexF] at h
    split at h
    · rename_i i k q hi
      split at h
      · rename_i hd; cases h; exact op_index_str hop hi hd hx hy hs.1 hs.2 hJ
      · rename_i n e hd
        split at h
        · rename_i ei hei
          split at h
          · rename_i hc
            simp only [Bool.and_eq_true] at hc
            cases h
            exact op_index_arr hop hi hd hei (aggOr hc.1) hx hc.2 hy hs.1.1 hs.1.2 hs.2 hJ
          · cases h
        · cases h
      · cases h
    · cases h
  case indexAddr t x ix =>
    obtain ⟨vx, vy, rfl, hx, hy⟩ := evs_two hvs
    simp only [indexAddrF] at h
    split at h
    · rename_i i k q hi
      split at h
      · rename_i n e hd
        split at h
        · rename_i ei hei
          split at h
          · rename_i u hu; cases h; exact op_indexAddr_arr hop hi hd hei hx hy hs.1 hs.2 hu hJ
          · cases h
        · cases h
      · rename_i e hd
        split at h
        · rename_i ei s xs hei
          split at h
          · rename_i y hyy
            split at h
            · rename_i hsz; cases h; exact op_indexAddr_sl hop hi hd hei hx hy hs hyy hsz hJ
            · cases h
          · cases h
        · rename_i ei b s lo len cap hei
          split at h
          · rename_i hsz; cases h; exact op_indexAddr_osl hop hi hd hei hx hy hs.1 hs.2 hsz hJ
          · cases h
        · rename_i ei b o s len cap hei
          split at h
          · rename_i hsz; cases h; exact op_indexAddr_bsl hop hi hd hei hx hy hs.1 hs.2 hsz hJ
          · cases h
        · cases h
      · cases h
    · cases h
  case extract x k =>
    obtain ⟨vx, rfl, hx⟩ := evs_one hvs
    simp only [extractF] at h
    split at h
    · split at h
      · rename_i u hu; cases h; exact op_extract hop hx hu hJ
      · cases h
    · cases h
  case build t parts =>
    simp only [buildF] at h
    split at h
    · rename_i i hi
      split at h
      · rename_i pl l hpl hl
        split at h
        · rename_i out hout
          cases h
          exact op_build hop hi hpl (zipParts_sound (by simpa [Op.operands] using hvs) hl) hout hJ
        · cases h
      · cases h
    · cases h
  case call c =>
    obtain ⟨callee, args, ts⟩ := c
    simp only [callF] at h
    split at h
    · split at h
      · rename_i t x hts
        obtain ⟨ts⟩ := ts
        have hts' : ts = [t] := hts
        subst hts'
        have hargs : evs σ args.toList = some [x] := by simpa [Op.operands, Call.operands] using hvs
        obtain ⟨y, hy⟩ : ∃ y, args.toList = [y] := by
          match hq : args.toList, hargs with
          | [], h => simp [evs] at h
          | [y], _ => exact ⟨y, rfl⟩
          | y :: z :: r, h =>
            simp only [evs] at h
            split at h
            · rename_i v l hv hl
              split at hl
              · cases hl; simp at h
              · cases hl
            · cases h
        have hargs' : args = #[y] := by apply Array.ext'; simpa using hy
        rw [hy] at hargs
        obtain ⟨v', hv', hx'⟩ := evs_one hargs
        cases hv'
        subst hargs'
        simp only [lenF] at h
        split at h
        · rename_i i hi
          split at h
          · rename_i hd
            split at h
            · cases h; exact op_len_str hop rfl hi hd hx' hJ
            · cases h
          · rename_i e hd
            split at h
            · rename_i n hn; cases h; exact op_len_sl hop rfl hi hd hx' hn hJ
            · cases h
          · rename_i n e hd; cases h; exact op_len_arr hop rfl hi hd hJ
          · cases h
        · cases h
      · cases h
    · split at h
      · rename_i x y
        have hargs : evs σ args.toList = some [x, y] := by simpa [Op.operands, Call.operands] using hvs
        obtain ⟨p, q, hpq⟩ : ∃ p q, args.toList = [p, q] := by
          match hq : args.toList, hargs with
          | [], h => simp [evs] at h
          | [y], h =>
            simp only [evs] at h
            split at h
            · rename_i v l hv hl; cases hl; simp at h
            · cases h
          | [y, z], _ => exact ⟨y, z, rfl⟩
          | y :: z :: u :: r, h =>
            simp only [evs] at h
            split at h
            · rename_i v l hv hl
              split at hl
              · rename_i v2 l2 hv2 hl2
                split at hl2
                · cases hl2; cases hl; simp at h
                · cases hl2
              · cases hl
            · cases h
        have hargs' : args = #[p, q] := by apply Array.ext'; simpa using hpq
        rw [hpq] at hargs
        obtain ⟨v1, v2, hv', hx', hy'⟩ := evs_two hargs
        cases hv'
        subst hargs'
        simp only [minF] at h
        split at h
        · split at h
          · rename_i hk; subst hk; cases h
            exact op_min_int hop rfl hx' hy' ⟨by simp, rfl, rfl⟩
          · cases h
        · cases h
      · cases h
    · split at h
      · rename_i x y
        have hargs : evs σ args.toList = some [x, y] := by simpa [Op.operands, Call.operands] using hvs
        obtain ⟨p, q, hpq⟩ : ∃ p q, args.toList = [p, q] := by
          match hq : args.toList, hargs with
          | [], h => simp [evs] at h
          | [y], h =>
            simp only [evs] at h
            split at h
            · rename_i v l hv hl; cases hl; simp at h
            · cases h
          | [y, z], _ => exact ⟨y, z, rfl⟩
          | y :: z :: u :: r, h =>
            simp only [evs] at h
            split at h
            · rename_i v l hv hl
              split at hl
              · rename_i v2 l2 hv2 hl2
                split at hl2
                · cases hl2; cases hl; simp at h
                · cases hl2
              · cases hl
            · cases h
        have hargs' : args = #[p, q] := by apply Array.ext'; simpa using hpq
        rw [hpq] at hargs
        obtain ⟨v1, v2, hv', hx', hy'⟩ := evs_two hargs
        cases hv'
        subst hargs'
        simp only [minF] at h
        split at h
        · split at h
          · rename_i hk; subst hk; cases h
            exact op_max_int hop rfl hx' hy' ⟨by simp, rfl, rfl⟩
          · cases h
        · cases h
      · cases h
    · cases h

end
end Go.Gp
