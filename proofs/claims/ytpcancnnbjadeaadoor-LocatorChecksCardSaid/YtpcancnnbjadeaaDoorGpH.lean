/-
  The operations, fourth part: numbers, strings, truth values; lengths; making and cutting slices.
-/
import Derived.Test.YtpcancnnbjadeaaDoorGpG
set_option linter.unusedSimpArgs false
set_option linter.unusedVariables false
namespace Go.Gp
open Go.RowKit

section
variable {P : Program} {WG : World} {σ : St} {op : Oper} {K : V → Tab → Nat → Prop}

def strEq (a b : ByteArray) : Bool := a.toList == b.toList
def strLt (a b : ByteArray) : Bool := Op.bytesLess a.toList b.toList

def shAmt (k : IntKind) (b : Int) : Nat := min b.toNat k.bits
def bits2 (k : IntKind) (f : BitVec k.bits → BitVec k.bits → BitVec k.bits) (x y : Int) : Int := k.wrap ((f (BitVec.ofInt k.bits x) (BitVec.ofInt k.bits y)).toNat : Int)

def binI (op : BinOp) (k : IntKind) (a b : Int) : Option Value :=
  match op with
  | .add => some (.int k (k.wrap (a + b)))
  | .sub => some (.int k (k.wrap (a - b)))
  | .mul => some (.int k (k.wrap (a * b)))
  | .quo => if b = 0 then none else some (.int k (k.wrap (a.tdiv b)))
  | .rem => if b = 0 then none else some (.int k (a.tmod b))
  | .and => some (.int k (bits2 k (· &&& ·) a b))
  | .or => some (.int k (bits2 k (· ||| ·) a b))
  | .xor => some (.int k (bits2 k (· ^^^ ·) a b))
  | .andNot => some (.int k (bits2 k (fun x y => x &&& ~~~y) a b))
  | .eql => some (.bool (a == b))
  | .neq => some (.bool (a != b))
  | .lss => some (.bool (decide (a < b)))
  | .leq => some (.bool (decide (a ≤ b)))
  | .gtr => some (.bool (decide (a > b)))
  | .geq => some (.bool (decide (a ≥ b)))
  | _ => none

def binS (op : BinOp) (a b : ByteArray) : Option Value :=
  match op with
  | .add => if ((a.size + b.size : Nat) : Int) ≤ 9223372036854775807 then some (.string (a ++ b)) else none
  | .eql => some (.bool (strEq a b))
  | .neq => some (.bool (!strEq a b))
  | .lss => some (.bool (strLt a b))
  | .leq => some (.bool (strLt a b || strEq a b))
  | .gtr => some (.bool (!(strLt a b || strEq a b)))
  | .geq => some (.bool (!strLt a b))
  | _ => none

def isShift : BinOp → Bool
  | .shl | .shr => true
  | _ => false

theorem eqGuard_flat (w : World) (op : BinOp) (t : TypeId) (x y : Operand) (a b : Value) (h : a ≠ .nilIface ∨ b ≠ .nilIface) (h2 : (∀ cs, a ≠ .agg cs) ∨ (∀ cs, b ≠ .agg cs)) : (eqGuard op t x y a b).run P w = .ok () w := by
  unfold eqGuard
  cases op <;> first
    | rfl
    | (simp only [Bool.not_true, Bool.false_eq_true, if_false]
       split
       · rcases h with h | h <;> exact absurd rfl h
       · rcases h2 with h | h <;> exact absurd rfl (h _)
       · rfl)

theorem op_bin_int {bo : BinOp} {xt yt : TypeId} {x y : Operand} {k : IntKind} {a b : Int} {v : Value} (ho : op.op = .binOp bo xt x y yt) (hs : isShift bo = false) (hx : ev σ x = some (.p (.v (.int k a)))) (hy : ev σ y = some (.p (.v (.int k b))))
    (hv : binI bo k a b = some v) (hk : K (.p (.v v)) σ.tab σ.nx) : OpS P WG op σ K := by
  refine .pure (fun C j ac w hr => ⟨v, ?_, .p (.v ?_)⟩) hk
  · unfold execOp; rw [ho]
    simp only [ev_int hr hx, ev_int hr hy, Sem.run_bind, eqGuard_flat w bo xt x y (.int k a) (.int k b) (.inl (by simp)) (.inl (by simp)), Result.andThen_ok]
    cases bo <;> simp only [isShift] at hs <;> (try cases hs) <;> simp only [binI] at hv <;> (try cases hv) <;>
      first
      | (simp only [binOp, ne_eq, not_true_eq_false, if_false, Op.intArith, Op.intBits, Op.intCmp, Sem.run_pure, Result.andThen_ok]; done)
      | (simp only [binOp, ne_eq, not_true_eq_false, if_false, Op.intArith, Op.intBits, Op.intCmp, Sem.run_pure, Result.andThen_ok, bits2]; done)
      | (simp only [binOp, ne_eq, not_true_eq_false, if_false, Op.intArith, Op.intBits, Op.intCmp, Sem.run_pure, Result.andThen_ok]; rfl)
      | (split at hv
         · cases hv
         · cases hv
           rename_i hb
           simp only [binOp, ne_eq, not_true_eq_false, if_false, Op.intDiv, if_neg hb, Sem.run_pure, Result.andThen_ok])
  · cases bo <;> simp only [isShift] at hs <;> (try cases hs) <;> simp only [binI] at hv <;> first | (cases hv; rfl) | (split at hv <;> cases hv; rfl)

theorem op_bin_shift {bo : BinOp} {xt yt : TypeId} {x y : Operand} {k k' : IntKind} {a b : Int} {v : Value} (ho : op.op = .binOp bo xt x y yt) (hx : ev σ x = some (.p (.v (.int k a)))) (hy : ev σ y = some (.p (.v (.int k' b))))
    (h0 : 0 ≤ b) (hv : (bo = .shl ∧ v = .int k (k.wrap (a * 2 ^ shAmt k b))) ∨ (bo = .shr ∧ v = .int k (a.fdiv (2 ^ shAmt k b)))) (hk : K (.p (.v v)) σ.tab σ.nx) : OpS P WG op σ K := by
  refine .pure (fun C j ac w hr => ⟨v, ?_, .p (.v ?_)⟩) hk
  · unfold execOp; rw [ho]
    simp only [ev_int hr hx, ev_int hr hy, Sem.run_bind, eqGuard_flat w bo xt x y (.int k a) (.int k' b) (.inl (by simp)) (.inl (by simp)), Result.andThen_ok]
    rcases hv with ⟨rfl, rfl⟩ | ⟨rfl, rfl⟩ <;> simp only [binOp, Op.shift, if_neg (show ¬ b < 0 by omega), Sem.run_pure, Result.andThen_ok, shAmt]
  · rcases hv with ⟨_, rfl⟩ | ⟨_, rfl⟩ <;> rfl

theorem op_bin_str {bo : BinOp} {xt yt : TypeId} {x y : Operand} {a b : ByteArray} {v : Value} (ho : op.op = .binOp bo xt x y yt) (hx : ev σ x = some (.p (.v (.string a)))) (hy : ev σ y = some (.p (.v (.string b))))
    (hv : binS bo a b = some v) (hk : K (.p (.v v)) σ.tab σ.nx) : OpS P WG op σ K := by
  refine .pure (fun C j ac w hr => ⟨v, ?_, .p (.v ?_)⟩) hk
  · unfold execOp; rw [ho]
    simp only [ev_flat hr hx, ev_flat hr hy, Sem.run_bind, eqGuard_flat w bo xt x y (.string a) (.string b) (.inl (by simp)) (.inl (by simp)), Result.andThen_ok]
    cases bo <;> simp only [binS] at hv <;> (try cases hv) <;>
      first
      | (simp only [binOp, Op.stringOp, Sem.run_pure, Result.andThen_ok]; done)
      | (simp only [binOp, Op.stringOp, Sem.run_pure, Result.andThen_ok]; rfl)
      | (split at hv
         · cases hv
           rename_i hb
           have hb' : ¬ (((a.size + b.size : Nat) : Int) > IntKind.i64.max) := by
             have : IntKind.i64.max = 9223372036854775807 := by decide
             omega
           simp only [binOp, Op.stringOp, if_neg hb', Sem.run_pure, Result.andThen_ok]
         · cases hv)
  · cases bo <;> simp only [binS] at hv <;> (try cases hv) <;> first | rfl | (split at hv <;> cases hv; rfl)

theorem op_bin_bool {bo : BinOp} {xt yt : TypeId} {x y : Operand} {a b c : Bool} {i : TI} (ho : op.op = .binOp bo xt x y yt) (hi : tiOf P xt = some i) (hd : i.d = .bool) (hx : ev σ x = some (.p (.v (.bool a)))) (hy : ev σ y = some (.p (.v (.bool b))))
    (hc : (bo = .eql ∧ c = (a == b)) ∨ (bo = .neq ∧ c = !(a == b))) (hk : K (.p (.v (.bool c))) σ.tab σ.nx) : OpS P WG op σ K := by
  refine .pure (fun C j ac w hr => ⟨.bool c, ?_, .p (.v rfl)⟩) hk
  obtain ⟨info, d, z, ht⟩ := tiOf_some hi
  have htd := ht.td; rw [hd] at htd
  cases d <;> simp only [tdOf] at htd <;> try cases htd
  unfold execOp; rw [ho]
  simp only [ev_flat hr hx, ev_flat hr hy, Sem.run_bind, eqGuard_flat w bo xt x y (.bool a) (.bool b) (.inl (by simp)) (.inl (by simp)), Result.andThen_ok]
  rcases hc with ⟨rfl, rfl⟩ | ⟨rfl, rfl⟩
  · simp only [run_eql_bool w xt a b ht.und, Result.andThen_ok, Sem.run_pure]
  · simp only [run_neq_bool w xt a b ht.und, Result.andThen_ok, Sem.run_pure]

theorem op_not {t : TypeId} {x : Operand} {b : Bool} (ho : op.op = .unOp .not t x) (hx : ev σ x = some (.p (.v (.bool b)))) (hk : K (.p (.v (.bool !b))) σ.tab σ.nx) : OpS P WG op σ K := by
  refine .pure (fun C j ac w hr => ⟨.bool !b, ?_, .p (.v rfl)⟩) hk
  unfold execOp; rw [ho]
  simp only [ev_flat hr hx, Op.unary, Sem.run_bind, Sem.run_pure, Result.andThen_ok]
theorem op_neg {t : TypeId} {x : Operand} {k : IntKind} {n : Int} (ho : op.op = .unOp .neg t x) (hx : ev σ x = some (.p (.v (.int k n)))) (hk : K (.p (.v (.int k (k.wrap (0 - n))))) σ.tab σ.nx) : OpS P WG op σ K := by
  refine .pure (fun C j ac w hr => ⟨.int k (k.wrap (0 - n)), ?_, .p (.v rfl)⟩) hk
  unfold execOp; rw [ho]
  simp only [ev_flat hr hx, Op.unary, Op.intArith, Sem.run_bind, Sem.run_pure, Result.andThen_ok]
theorem op_compl {t : TypeId} {x : Operand} {k : IntKind} {n : Int} (ho : op.op = .unOp .xor t x) (hx : ev σ x = some (.p (.v (.int k n)))) (hk : K (.p (.v (.int k (bits2 k (· ^^^ ·) (if k.signed then -1 else k.max) n)))) σ.tab σ.nx) : OpS P WG op σ K := by
  refine .pure (fun C j ac w hr => ⟨.int k (bits2 k (· ^^^ ·) (if k.signed then -1 else k.max) n), ?_, .p (.v rfl)⟩) hk
  unfold execOp; rw [ho]
  simp only [ev_flat hr hx, Op.unary, Op.intBits, bits2, Sem.run_bind, Sem.run_pure, Result.andThen_ok]

theorem op_conv_int {s t : TypeId} {x : Operand} {i i' : TI} {k k' : IntKind} {n : Int} (ho : op.op = .convert s t x) (hi : tiOf P t = some i) (hd : i.d = .int k') (hi' : tiOf P s = some i') (hx : ev σ x = some (.p (.v (.int k n))))
    (hk : K (.p (.v (.int k' (k'.wrap n)))) σ.tab σ.nx) : OpS P WG op σ K := by
  refine .pure (fun C j ac w hr => ⟨.int k' (k'.wrap n), ?_, .p (.v rfl)⟩) hk
  obtain ⟨info, d, z, ht⟩ := tiOf_some hi
  obtain ⟨info', d', z', ht'⟩ := tiOf_some hi'
  have htd := ht.td; rw [hd] at htd
  cases d <;> simp only [tdOf] at htd <;> try cases htd
  unfold execOp; rw [ho]
  simp only [ev_flat hr hx, convert, ht.run_und, ht'.run_und, Conv.intToInt, Sem.run_bind, Sem.run_pure, Result.andThen_ok]

theorem op_conv_str {s t : TypeId} {x : Operand} {i i' : TI} {b : ByteArray} (ho : op.op = .convert s t x) (hi : tiOf P t = some i) (hd : i.d = .str) (hi' : tiOf P s = some i') (hd' : i'.d = .str) (hx : ev σ x = some (.p (.v (.string b))))
    (hk : K (.p (.v (.string b))) σ.tab σ.nx) : OpS P WG op σ K := by
  refine .pure (fun C j ac w hr => ⟨.string b, ?_, .p (.v rfl)⟩) hk
  obtain ⟨info, d, z, ht⟩ := tiOf_some hi
  obtain ⟨info', d', z', ht'⟩ := tiOf_some hi'
  have htd := ht.td; rw [hd] at htd
  cases d <;> simp only [tdOf] at htd <;> try cases htd
  have htd' := ht'.td; rw [hd'] at htd'
  cases d' <;> simp only [tdOf] at htd' <;> try cases htd'
  unfold execOp; rw [ho]
  simp only [ev_flat hr hx, convert, ht.run_und, ht'.run_und, Sem.run_bind, Sem.run_pure, Result.andThen_ok]

/-- How many elements a slice's value has. -/
def lenV : V → Option Nat
  | .p (.sl _ xs) => some xs.length
  | .p (.v (.slice none 0 0)) => some 0
  | .osl _ _ _ len _ => some len
  | .bsl _ _ _ len _ => some len
  | .zc => some 0
  | _ => none
theorem VR.len {w : World} {ok : Nat → Prop} {j : Nat → Option Loc} {nx : Nat} {v : V} {m : Value} {n : Nat} (h : VR w ok j nx v m) (e : lenV v = some n) : ∃ a c, m = .slice a n c ∧ n ≤ c := by
  cases h with
  | p hp =>
    cases hp with
    | nil => simp [lenV] at e; subst e; exact ⟨_, _, rfl, Nat.zero_le _⟩
    | sl f hn hok hc => simp [lenV] at e; subst e; subst hn; exact ⟨_, _, rfl, hc⟩
    | v hf =>
      cases m <;> simp [flatV] at hf <;> simp [lenV] at e
      rename_i a l c
      cases a <;> try simp [lenV] at e
      rcases l with _ | l <;> rcases c with _ | c <;> simp [lenV] at e
      subst e; exact ⟨_, _, rfl, Nat.le_refl _⟩
    | _ => simp [lenV] at e
  | oslNil => simp [lenV] at e; subst e; exact ⟨_, _, rfl, Nat.le_refl _⟩
  | oslEnd => simp [lenV] at e; subst e; exact ⟨_, _, rfl, Nat.le_refl _⟩
  | osl hb hl hq hlen => simp [lenV] at e; subst e; exact ⟨_, _, rfl, hlen⟩
  | bsl hb hl hq hlen => simp [lenV] at e; subst e; exact ⟨_, _, rfl, hlen⟩
  | bslEnd => simp [lenV] at e; subst e; exact ⟨_, _, rfl, Nat.le_refl _⟩
  | zc => simp [lenV] at e; subst e; exact ⟨_, _, rfl, Nat.le_refl _⟩
  | _ => simp [lenV] at e

theorem op_len_str {c : Call} {t : TypeId} {x : Operand} {i : TI} {s : ByteArray} (ho : op.op = .call c) (hc : c = { callee := .builtin .len, args := #[x], argTypes := #[t] }) (hi : tiOf P t = some i) (hd : i.d = .str)
    (hx : ev σ x = some (.p (.v (.string s)))) (hk : K (.p (.v (.int .i64 s.size))) σ.tab σ.nx) : OpS P WG op σ K := by
  refine .pure (fun C j ac w hr => ⟨.int .i64 s.size, ?_, .p (.v rfl)⟩) hk
  subst hc
  obtain ⟨info, d, z, ht⟩ := tiOf_some hi
  have htd := ht.td; rw [hd] at htd
  cases d <;> simp only [tdOf] at htd <;> try cases htd
  unfold execOp; rw [ho]
  simp [resolve, invoke, builtin, Builtin.len_, ev_flat hr hx, ht.run_und, goInt]

theorem op_len_sl {c : Call} {t : TypeId} {x : Operand} {i : TI} {e : TypeId} {v : V} {n : Nat} (ho : op.op = .call c) (hc : c = { callee := .builtin .len, args := #[x], argTypes := #[t] }) (hi : tiOf P t = some i) (hd : i.d = .slice e)
    (hx : ev σ x = some v) (hn : lenV v = some n) (hk : K (.p (.v (.int .i64 n))) σ.tab σ.nx) : OpS P WG op σ K := by
  refine .pure (fun C j ac w hr => ⟨.int .i64 n, ?_, .p (.v rfl)⟩) hk
  subst hc
  obtain ⟨info, d, z, ht⟩ := tiOf_some hi
  have htd := ht.td; rw [hd] at htd
  cases d <;> simp only [tdOf] at htd <;> try cases htd
  obtain ⟨a, cp, hm, _⟩ := (hr.ev hx).len hn
  unfold execOp; rw [ho]
  simp [resolve, invoke, builtin, Builtin.len_, hm, ht.run_und, goInt]

theorem op_len_arr {c : Call} {t : TypeId} {x : Operand} {i : TI} {e n : Nat} (ho : op.op = .call c) (hc : c = { callee := .builtin .len, args := #[x], argTypes := #[t] }) (hi : tiOf P t = some i) (hd : i.d = .array n e)
    (hk : K (.p (.v (.int .i64 n))) σ.tab σ.nx) : OpS P WG op σ K := by
  refine .pure (fun C j ac w hr => ⟨.int .i64 n, ?_, .p (.v rfl)⟩) hk
  subst hc
  obtain ⟨info, d, z, ht⟩ := tiOf_some hi
  have htd := ht.td; rw [hd] at htd
  cases d <;> simp only [tdOf] at htd <;> try cases htd
  unfold execOp; rw [ho]
  simp [resolve, invoke, builtin, Builtin.len_, ht.run_und, goInt]

theorem op_min_int {c : Call} {t : Array TypeId} {x y : Operand} {k : IntKind} {a b : Int} (ho : op.op = .call c) (hc : c = { callee := .builtin .min, args := #[x, y], argTypes := t }) (hx : ev σ x = some (.p (.v (.int k a)))) (hy : ev σ y = some (.p (.v (.int k b))))
    (hk : K (.p (.v (.int k (if b < a then b else a)))) σ.tab σ.nx) : OpS P WG op σ K := by
  refine .pure (fun C j ac w hr => ⟨.int k (if b < a then b else a), ?_, .p (.v rfl)⟩) hk
  subst hc
  unfold execOp; rw [ho]
  simp [resolve, invoke, builtin, Builtin.min_, Builtin.min2, ev_flat hr hx, ev_flat hr hy]
theorem op_max_int {c : Call} {t : Array TypeId} {x y : Operand} {k : IntKind} {a b : Int} (ho : op.op = .call c) (hc : c = { callee := .builtin .max, args := #[x, y], argTypes := t }) (hx : ev σ x = some (.p (.v (.int k a)))) (hy : ev σ y = some (.p (.v (.int k b))))
    (hk : K (.p (.v (.int k (if a < b then b else a)))) σ.tab σ.nx) : OpS P WG op σ K := by
  refine .pure (fun C j ac w hr => ⟨.int k (if a < b then b else a), ?_, .p (.v rfl)⟩) hk
  subst hc
  unfold execOp; rw [ho]
  simp [resolve, invoke, builtin, Builtin.max_, Builtin.max2, ev_flat hr hx, ev_flat hr hy]

end
end Go.Gp
