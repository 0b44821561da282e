/-
  The operations, fifth part: cutting slices and strings; making slices; strings and bytes.
-/
import Derived.Test.YtpcancnnbjadeaaDoorGpH
import Derived.Laws.MakeOwn
set_option linter.unusedSimpArgs false
set_option linter.unusedVariables false
namespace Go.Gp
open Go.RowKit

section
variable {P : Program} {WG : World} {σ : St} {op : Oper} {K : V → Tab → Nat → Prop}

/-- A bound: the operand that is there has this value. -/
def bnd (σ : St) (x : Option Operand) (d : Option Int) : Prop :=
  match x, d with
  | none, none => True
  | some x, some n => ∃ k, ev σ x = some (.p (.v (.int k n)))
  | _, _ => False

theorem run_bound {k : IntKind} {n : Int} {y : Nat} {code : BoundsCode} (w : World) (h0 : 0 ≤ n) (h : n ≤ y) : (Instr.sliceBound (.int k n) y code).run P w = .ok n.toNat w := by
  simp [Instr.sliceBound, asIntOf, h0, h]

/-- The bounds, where none stands for what is left out. -/
theorem run_bounds {C : Ctx} {j : Nat → Option Loc} {a : Act} {w : World} (hr : ERel WG C j σ a w) (isSlice : Bool) (len cap : Nat) {lo hi mx : Option Operand} {l h m : Option Int} (hl : bnd σ lo l) (hh : bnd σ hi h) (hm : bnd σ mx m)
    (hmh : m.isSome = true → h.isSome = true) (h0 : 0 ≤ l.getD 0) (h1 : l.getD 0 ≤ h.getD len) (h2 : h.getD len ≤ m.getD cap) (h3 : m.getD cap ≤ cap) :
    (Instr.sliceBounds isSlice len cap (lo.map a.eval) (hi.map a.eval) (mx.map a.eval)).run P w = .ok ((l.getD 0).toNat, (h.getD len).toNat, (m.getD cap).toNat) w := by
  have key : ∀ {x : Option Operand} {d : Option Int}, bnd σ x d → (x = none ∧ d = none) ∨ ∃ y k n, x = some y ∧ d = some n ∧ a.eval y = .int k n := by
    intro x d hb
    cases x <;> cases d <;> simp only [bnd] at hb
    · exact .inl ⟨rfl, rfl⟩
    · obtain ⟨k, hk⟩ := hb; exact .inr ⟨_, k, _, rfl, rfl, ev_int hr hk⟩
  rcases key hl with ⟨rfl, rfl⟩ | ⟨lx, lk, ln, rfl, rfl, hle⟩ <;> rcases key hh with ⟨rfl, rfl⟩ | ⟨hx, hk, hn, rfl, rfl, hhe⟩ <;> rcases key hm with ⟨rfl, rfl⟩ | ⟨mx', mk, mn, rfl, rfl, hme⟩ <;>
    simp only [Option.getD_none, Option.getD_some, Option.isSome_some, Option.isSome_none, Bool.false_eq_true, imp_false, not_true_eq_false] at h0 h1 h2 h3 hmh
  · simp only [Instr.sliceBounds, Option.map_none, Sem.run_bind, Sem.run_pure, Result.andThen_ok, Option.getD_none, Int.toNat_natCast, Int.toNat_zero]
  · simp only [Instr.sliceBounds, Option.map_none, Option.map_some, hhe, Sem.run_bind, Sem.run_pure, Result.andThen_ok, Option.getD_none, Option.getD_some, run_bound w (show 0 ≤ hn by omega) h2, Int.toNat_natCast, Int.toNat_zero]
  · have e : ((mn.toNat : Nat) : Int) = mn := Int.toNat_of_nonneg (by omega)
    simp only [Instr.sliceBounds, Option.map_none, Option.map_some, hhe, hme, Sem.run_bind, Sem.run_pure, Result.andThen_ok, Option.getD_none, Option.getD_some, run_bound w (show 0 ≤ mn by omega) h3, run_bound w (y := mn.toNat) (show 0 ≤ hn by omega) (by omega), Int.toNat_zero]
  · simp only [Instr.sliceBounds, Option.map_none, Option.map_some, hle, Sem.run_bind, Sem.run_pure, Result.andThen_ok, Option.getD_none, Option.getD_some, run_bound w h0 h1, Int.toNat_natCast]
  · have e : ((hn.toNat : Nat) : Int) = hn := Int.toNat_of_nonneg (by omega)
    simp only [Instr.sliceBounds, Option.map_none, Option.map_some, hle, hhe, Sem.run_bind, Sem.run_pure, Result.andThen_ok, Option.getD_none, Option.getD_some, run_bound w (show 0 ≤ hn by omega) h2, run_bound w (y := hn.toNat) h0 (by omega), Int.toNat_natCast]
  · have e : ((hn.toNat : Nat) : Int) = hn := Int.toNat_of_nonneg (by omega)
    have e2 : ((mn.toNat : Nat) : Int) = mn := Int.toNat_of_nonneg (by omega)
    simp only [Instr.sliceBounds, Option.map_some, hle, hhe, hme, Sem.run_bind, Sem.run_pure, Result.andThen_ok, Option.getD_some, run_bound w (show 0 ≤ mn by omega) h3, run_bound w (y := mn.toNat) (show 0 ≤ hn by omega) (by omega), run_bound w (y := hn.toNat) h0 (by omega)]

theorem op_slice_str {t : TypeId} {x : Operand} {lo hi : Option Operand} {l h : Option Int} {i : TI} {s : ByteArray} (ho : op.op = .slice t x lo hi none) (hi' : tiOf P t = some i) (hd : i.d = .str) (hx : ev σ x = some (.p (.v (.string s))))
    (hl : bnd σ lo l) (hh : bnd σ hi h) (h0 : 0 ≤ l.getD 0) (h1 : l.getD 0 ≤ h.getD s.size) (h2 : h.getD s.size ≤ s.size) (hk : K (.p (.v (.string (s.extract (l.getD 0).toNat (h.getD s.size).toNat)))) σ.tab σ.nx) : OpS P WG op σ K := by
  refine .pure (fun C j a w hr => ?_) hk
  obtain ⟨info, d, z, ht⟩ := tiOf_some hi'
  have htd := ht.td; rw [hd] at htd
  cases d <;> simp only [tdOf] at htd <;> try cases htd
  refine ⟨_, ?_, .p (.v rfl)⟩
  have hb := run_bounds (P := P) hr false s.size s.size hl hh (show bnd σ none none from trivial) (by simp) h0 h1 h2 (by simp)
  unfold execOp; rw [ho]
  simp only [Option.map_none] at hb
  simp only [Instr.sliceAt, Instr.slice, ev_flat hr hx, Sem.run_bind, ht.run_und, Result.andThen_ok, Option.map_none, Option.isSome_none, Bool.false_eq_true, if_false, Sem.run_pure, hb]

/-- A slice's value, cut. -/
theorem run_slice_sl {C : Ctx} {j : Nat → Option Loc} {a : Act} {w : World} (hr : ERel WG C j σ a w) {t : TypeId} {x : Operand} {lo hi mx : Option Operand} {l h m : Option Int} {i ei : TI} {e : TypeId} (ho : op.op = .slice t x lo hi mx) (hi' : tiOf P t = some i) (hd : i.d = .slice e) (hei : tiOf P e = some ei)
    {b : Option Addr} {len cap : Nat} (hx : a.eval x = .slice b len cap)
    (hl : bnd σ lo l) (hh : bnd σ hi h) (hm : bnd σ mx m) (hmh : m.isSome = true → h.isSome = true) (h0 : 0 ≤ l.getD 0) (h1 : l.getD 0 ≤ h.getD len) (h2 : h.getD len ≤ m.getD cap) (h3 : m.getD cap ≤ cap) :
    (execOp a.eval op).run P w = .ok (.value (.slice (if (m.getD cap).toNat = (l.getD 0).toNat then b else b.map (·.add ((l.getD 0).toNat * ei.size))) ((h.getD len).toNat - (l.getD 0).toNat) ((m.getD cap).toNat - (l.getD 0).toNat))) w := by
  obtain ⟨info, d, z, ht⟩ := tiOf_some hi'
  obtain ⟨info', d', z', ht'⟩ := tiOf_some hei
  have htd := ht.td; rw [hd] at htd
  cases d <;> simp only [tdOf] at htd <;> try cases htd
  have hb := run_bounds (P := P) hr true len cap hl hh hm hmh h0 h1 h2 h3
  unfold execOp; rw [ho]
  simp only [Instr.sliceAt, Instr.slice, hx, Sem.run_bind, ht.run_und, ht'.run_size, Result.andThen_ok, hb, Sem.run_pure]

theorem op_slice_sl {t : TypeId} {x : Operand} {lo hi : Option Operand} {l h : Option Int} {i ei : TI} {e s : Nat} {xs : List PV} (ho : op.op = .slice t x lo hi none) (hi' : tiOf P t = some i) (hd : i.d = .slice e) (hei : tiOf P e = some ei) (hs : ei.size = s)
    (hx : ev σ x = some (.p (.sl s xs))) (hl : bnd σ lo l) (hh : bnd σ hi h) (h0 : 0 ≤ l.getD 0) (h1 : l.getD 0 ≤ h.getD xs.length) (h2 : h.getD xs.length ≤ xs.length)
    (hk : K (.p (.sl s ((xs.drop (l.getD 0).toNat).take ((h.getD xs.length).toNat - (l.getD 0).toNat)))) σ.tab σ.nx) : OpS P WG op σ K := by
  refine .pure (fun C j a w hr => ?_) hk
  have hv := hr.ev hx
  generalize hm : a.eval x = m at hv
  cases hv with
  | p hp =>
    cases hp with
    | nil =>
      rename_i b c
      simp only [List.length_nil] at h1 h2
      have hrun := run_slice_sl (P := P) hr ho hi' hd hei hm hl hh (show bnd σ none none from trivial) (by simp) h0 h1 (by simp only [Option.getD_none]; omega) (by simp)
      refine ⟨_, hrun, ?_⟩
      have e0 : (h.getD ((0 : Nat) : Int)).toNat - (l.getD 0).toNat = 0 := by omega
      rw [e0]
      simp only [List.drop_nil, List.take_nil]
      exact .p .nil
    | @sl s xs B o c n f hn hok hc hcell hlen hone hrel =>
      subst hn
      have hrun := run_slice_sl (P := P) hr ho hi' hd hei hm hl hh (show bnd σ none none from trivial) (by simp) h0 h1 (by simp only [Option.getD_none]; omega) (by simp)
      refine ⟨_, hrun, ?_⟩
      obtain ⟨L, hL⟩ : ∃ L : Nat, l.getD 0 = L := ⟨_, (Int.toNat_of_nonneg h0).symm⟩
      obtain ⟨H, hH⟩ : ∃ H : Nat, h.getD xs.length = H := ⟨_, (Int.toNat_of_nonneg (by omega)).symm⟩
      rw [hL] at h1
      rw [hH] at h1 h2
      simp only [hL, hH, Int.toNat_natCast, Option.getD_none]
      have hlen' : ((xs.drop L).take (H - L)).length = H - L := by simp; omega
      by_cases hz : H - L = 0
      · have : (xs.drop L).take (H - L) = [] := List.eq_nil_of_length_eq_zero (by rw [hlen', hz])
        rw [this, hz]; exact .p .nil
      · rw [if_neg (by omega)]
        simp only [Option.map_some, addr_add]
        have hget : ∀ i, i < H - L → ((xs.drop L).take (H - L))[i]? = xs[L + i]? := fun i hi => by
          rw [List.getElem?_take, if_pos hi, List.getElem?_drop]
        have hget' : ∀ (i : Nat) x, ((xs.drop L).take (H - L))[i]? = some x → i < H - L ∧ xs[L + i]? = some x := fun i x hx => by
          have hlt := (List.getElem?_eq_some_iff.1 hx).1
          rw [hlen'] at hlt
          exact ⟨hlt, (hget i hlt).symm.trans hx⟩
        refine .p (.sl (fun k => f (L * s + k)) hlen'.symm hok (by omega) (fun k hk => ?_) (fun i x hx => hlen _ _ (hget' i x hx).2) (fun i k x y hx hy => hone _ _ _ _ (hget' i x hx).2 hy) (fun i k x y hx hy => ?_))
        · have hb : L * s + k < xs.length * s := by
            have h4 : L * s + (H - L) * s = H * s := by rw [← Nat.add_mul]; congr 1; omega
            have h5 : H * s ≤ xs.length * s := Nat.mul_le_mul_right s (by omega)
            omega
          have := hcell _ hb
          rw [hs, Nat.add_assoc]; exact this
        · have := hrel _ _ _ _ (hget' i x hx).2 hy
          rw [Nat.add_mul] at this
          show PR w _ y (f (L * s + (i * s + k)))
          rwa [← Nat.add_assoc]

theorem op_slice_osl {t : TypeId} {x : Operand} {lo hi : Option Operand} {l h : Option Int} {i ei : TI} {e s b lo0 len : Nat} {cap : Option Nat} (ho : op.op = .slice t x lo hi none) (hi' : tiOf P t = some i) (hd : i.d = .slice e) (hei : tiOf P e = some ei) (hs : ei.size = s)
    (hx : ev σ x = some (.osl b s lo0 len cap)) (hl : bnd σ lo l) (hh : bnd σ hi h) (h0 : 0 ≤ l.getD 0) (h1 : l.getD 0 ≤ h.getD len) (h2 : h.getD len ≤ len)
    (hk : K (.osl b s (lo0 + (l.getD 0).toNat) ((h.getD len).toNat - (l.getD 0).toNat) (cap.map (· - (l.getD 0).toNat))) σ.tab σ.nx) : OpS P WG op σ K := by
  refine .pure (fun C j a w hr => ?_) hk
  have hv := hr.ev hx
  generalize hm : a.eval x = m at hv
  obtain ⟨L, hL⟩ : ∃ L : Nat, l.getD 0 = L := ⟨_, (Int.toNat_of_nonneg h0).symm⟩
  obtain ⟨H, hH⟩ : ∃ H : Nat, h.getD len = H := ⟨_, (Int.toNat_of_nonneg (by omega)).symm⟩
  have hLH : L ≤ H := by omega
  have hHl : H ≤ len := by omega
  simp only [hL, hH, Int.toNat_natCast]
  cases hv with
  | oslNil hb hj =>
    have hrun := run_slice_sl (P := P) hr ho hi' hd hei hm hl hh (show bnd σ none none from trivial) (by simp) h0 h1 (by simp only [Option.getD_none]; omega) (by simp)
    refine ⟨_, hrun, ?_⟩
    obtain rfl : L = 0 := by omega
    obtain rfl : H = 0 := by omega
    have e1 : (h.getD ((0 : Nat) : Int)).toNat - (l.getD 0).toNat = 0 := by omega
    have e2 : (l.getD 0).toNat = 0 := by omega
    rw [e1, e2]
    exact .oslNil hb hj
  | oslEnd hb hj hlo hcap =>
    have hrun := run_slice_sl (P := P) hr ho hi' hd hei hm hl hh (show bnd σ none none from trivial) (by simp) h0 h1 (by simp only [Option.getD_none]; omega) (by simp)
    refine ⟨_, hrun, ?_⟩
    obtain rfl : L = 0 := by omega
    obtain rfl : H = 0 := by omega
    have e1 : (h.getD ((0 : Nat) : Int)).toNat - (l.getD 0).toNat = 0 := by omega
    have e2 : (l.getD 0).toNat = 0 := by omega
    rw [e1, e2]
    refine VR.oslEnd hb hj (fun e => hlo ?_) (fun k hk => ?_)
    · cases cap with
      | none => rfl
      | some c => simp at e
    cases cap with
    | none => simp at hk
    | some c => simp at hk; subst hk; exact hcap _ rfl
  | @osl b s lo0 len cap l' c p hb hj hp hlen hc hsm hn =>
    have hrun := run_slice_sl (P := P) hr ho hi' hd hei hm hl hh (show bnd σ none none from trivial) (by simp) h0 h1 (by simp only [Option.getD_none]; omega) (by simp)
    refine ⟨_, hrun, ?_⟩
    simp only [hL, hH, Option.getD_none, Int.toNat_natCast]
    by_cases hz : c = L
    · subst hz
      have e1 : H - c = 0 := by omega
      simp only [if_true, Nat.sub_self, e1]
      refine .oslEnd hb hj (fun e => ?_) (fun k hk => ?_)
      · have : cap = none := by cases cap <;> simp_all
        have := hn this; omega
      · cases cap with
        | none => simp at hk
        | some c' => have := hsm c' rfl; simp at hk; omega
    · rw [if_neg (by omega)]
      simp only [Option.map_some, addr_add, hs]
      refine .osl hb hj (by rw [hp, Nat.add_mul]; omega) (by omega) (by omega) (fun k hk => ?_) (fun e => ?_)
      · cases cap with
        | none => simp at hk
        | some c' => have := hsm c' rfl; simp at hk; omega
      · have : cap = none := by cases cap <;> simp_all
        have := hn this; omega

theorem op_slice_bsl {t : TypeId} {x : Operand} {lo hi : Option Operand} {l h : Option Int} {i ei : TI} {e s b o len cap : Nat} (ho : op.op = .slice t x lo hi none) (hi' : tiOf P t = some i) (hd : i.d = .slice e) (hei : tiOf P e = some ei) (hs : ei.size = s)
    (hx : ev σ x = some (.bsl b o s len cap)) (hl : bnd σ lo l) (hh : bnd σ hi h) (h0 : 0 ≤ l.getD 0) (h1 : l.getD 0 ≤ h.getD len) (h2 : h.getD len ≤ len)
    (hk : K (.bsl b (o + (l.getD 0).toNat * s) s ((h.getD len).toNat - (l.getD 0).toNat) (cap - (l.getD 0).toNat)) σ.tab σ.nx) : OpS P WG op σ K := by
  refine .pure (fun C j a w hr => ?_) hk
  have hv := hr.ev hx
  generalize hm : a.eval x = m at hv
  obtain ⟨L, hL⟩ : ∃ L : Nat, l.getD 0 = L := ⟨_, (Int.toNat_of_nonneg h0).symm⟩
  obtain ⟨H, hH⟩ : ∃ H : Nat, h.getD len = H := ⟨_, (Int.toNat_of_nonneg (by omega)).symm⟩
  have hLH : L ≤ H := by omega
  have hHl : H ≤ len := by omega
  simp only [hL, hH, Int.toNat_natCast]
  cases hv with
  | bslEnd =>
    have hrun := run_slice_sl (P := P) hr ho hi' hd hei hm hl hh (show bnd σ none none from trivial) (by simp) h0 h1 (by simp only [Option.getD_none]; omega) (by simp)
    refine ⟨_, hrun, ?_⟩
    obtain rfl : L = 0 := by omega
    obtain rfl : H = 0 := by omega
    have e1 : (h.getD ((0 : Nat) : Int)).toNat - (l.getD 0).toNat = 0 := by omega
    have e2 : (l.getD 0).toNat = 0 := by omega
    rw [e1, e2]
    exact .bslEnd
  | @bsl b o s len cap l' p hb hj hp hlen =>
    have hrun := run_slice_sl (P := P) hr ho hi' hd hei hm hl hh (show bnd σ none none from trivial) (by simp) h0 h1 (by simp only [Option.getD_none]; omega) (by simp)
    refine ⟨_, hrun, ?_⟩
    simp only [hL, hH, Option.getD_none, Int.toNat_natCast]
    by_cases hz : cap = L
    · subst hz
      have e1 : H - cap = 0 := by omega
      simp only [if_true, Nat.sub_self, e1]
      exact .bslEnd
    · rw [if_neg (by omega)]
      simp only [Option.map_some, addr_add, hs]
      exact .bsl hb hj (by omega) (by omega)

/-- The cells of a local array variable, as a slice. -/
theorem op_slice_arr {t : TypeId} {x : Operand} {lo hi : Option Operand} {l h : Option Int} {i ei : TI} {n e b o : Nat} (ho : op.op = .slice t x lo hi none) (hi' : tiOf P t = some i) (hd : i.d = .array n e) (hei : tiOf P e = some ei)
    (hx : ev σ x = some (.ref b o)) (hl : bnd σ lo l) (hh : bnd σ hi h) (h0 : 0 ≤ l.getD 0) (h1 : l.getD 0 ≤ h.getD n) (h2 : h.getD n ≤ n)
    (hk : K (.bsl b (o + (l.getD 0).toNat * ei.size) ei.size ((h.getD n).toNat - (l.getD 0).toNat) (n - (l.getD 0).toNat)) σ.tab σ.nx) : OpS P WG op σ K := by
  refine .pure (fun C j a w hr => ?_) hk
  obtain ⟨info, d, z, ht⟩ := tiOf_some hi'
  obtain ⟨info', d', z', ht'⟩ := tiOf_some hei
  have htd := ht.td; rw [hd] at htd
  cases d <;> simp only [tdOf] at htd <;> try cases htd
  obtain ⟨l', hb, hj, hm⟩ := ev_ref hr hx
  obtain ⟨L, hL⟩ : ∃ L : Nat, l.getD 0 = L := ⟨_, (Int.toNat_of_nonneg h0).symm⟩
  obtain ⟨H, hH⟩ : ∃ H : Nat, h.getD n = H := ⟨_, (Int.toNat_of_nonneg (by omega)).symm⟩
  have hLH : L ≤ H := by omega
  have hHl : H ≤ n := by omega
  have hbd := run_bounds (P := P) hr false n n hl hh (show bnd σ none none from trivial) (by simp) h0 h1 (by simpa using h2) (by simp)
  simp only [Option.map_none, Option.getD_none, hL, hH, Int.toNat_natCast] at hbd
  simp only [hL, hH, Int.toNat_natCast]
  have hrun : (execOp a.eval op).run P w = .ok (.value (.slice (some (if n = L then ⟨l'.blk, l'.off + o, none⟩ else ⟨l'.blk, l'.off + o + L * ei.size, none⟩)) (H - L) (n - L))) w := by
    unfold execOp; rw [ho]
    simp only [Instr.sliceAt, hm, Instr.sureAddr, Sem.run_bind, ht.run_und, ht'.run_size, Result.andThen_ok, Option.map_none, hbd, Sem.run_pure, addr_add]
  refine ⟨_, hrun, ?_⟩
  by_cases hz : n = L
  · subst hz
    have e1 : H - n = 0 := by omega
    simp only [if_true, Nat.sub_self, e1]
    exact .bslEnd
  · rw [if_neg hz]
    exact .bsl hb hj (by omega) (by omega)

/-- The cells of an array that is read through a pointer, as a slice. -/
theorem op_slice_ptr {t : TypeId} {x : Operand} {lo hi : Option Operand} {l h : Option Int} {i ei : TI} {n e o : Nat} {y : PV} (ho : op.op = .slice t x lo hi none) (hi' : tiOf P t = some i) (hd : i.d = .array n e) (hei : tiOf P e = some ei)
    (h1' : ei.agg = true ∨ ei.size = 1) (hx : ev σ x = some (.p (.ptr y o))) (hl : bnd σ lo l) (hh : bnd σ hi h) (h0 : 0 ≤ l.getD 0) (h1 : l.getD 0 ≤ h.getD n) (h2 : h.getD n ≤ n) (hlen : o + n * ei.size ≤ y.cells.length)
    (hk : K (.p (.sl ei.size (elemsOf ei.agg ei.size ((h.getD n).toNat - (l.getD 0).toNat) (y.cells.drop (o + (l.getD 0).toNat * ei.size))))) σ.tab σ.nx) : OpS P WG op σ K := by
  refine .pure (fun C j a w hr => ?_) hk
  obtain ⟨info, d, z, ht⟩ := tiOf_some hi'
  obtain ⟨info', d', z', ht'⟩ := tiOf_some hei
  have htd := ht.td; rw [hd] at htd
  cases d <;> simp only [tdOf] at htd <;> try cases htd
  obtain ⟨L, hL⟩ : ∃ L : Nat, l.getD 0 = L := ⟨_, (Int.toNat_of_nonneg h0).symm⟩
  obtain ⟨H, hH⟩ : ∃ H : Nat, h.getD n = H := ⟨_, (Int.toNat_of_nonneg (by omega)).symm⟩
  have hLH : L ≤ H := by omega
  have hHl : H ≤ n := by omega
  have hv := hr.ev hx
  generalize hm : a.eval x = m at hv
  cases hv with
  | p hp =>
    cases hp with
    | @ptr y B b o q f hok hq hcell hone hrel =>
      subst hq
      have hbd := run_bounds (P := P) hr false n n hl hh (show bnd σ none none from trivial) (by simp) h0 h1 (by simpa using h2) (by simp)
      simp only [Option.map_none, Option.getD_none, hL, hH, Int.toNat_natCast] at hbd
      simp only [hL, hH, Int.toNat_natCast]
      have hrun : (execOp a.eval op).run P w = .ok (.value (.slice (some (if n = L then ⟨B, b + o, none⟩ else ⟨B, b + o + L * ei.size, none⟩)) (H - L) (n - L))) w := by
        unfold execOp; rw [ho]
        simp only [Instr.sliceAt, hm, Instr.sureAddr, Sem.run_bind, ht.run_und, ht'.run_size, Result.andThen_ok, Option.map_none, hbd, Sem.run_pure, addr_add]
      refine ⟨_, hrun, ?_⟩
      by_cases hz : H - L = 0
      · rw [hz]; simp only [elemsOf]; exact .p .nil
      · rw [if_neg (by omega)]
        have hbnd : ∀ k, k < H - L → o + L * ei.size + (k * ei.size + ei.size) ≤ y.cells.length := fun k hk => by
          have h4 : L * ei.size + (k * ei.size + ei.size) = (L + (k + 1)) * ei.size := by rw [Nat.add_mul, Nat.succ_mul]
          have h5 : (L + (k + 1)) * ei.size ≤ n * ei.size := Nat.mul_le_mul_right _ (by omega)
          omega
        have hcs : ∀ (k : Nat) x, (elemsOf ei.agg ei.size (H - L) (y.cells.drop (o + L * ei.size)))[k]? = some x → k < H - L ∧ x.cells = ((y.cells.drop (o + L * ei.size)).drop (k * ei.size)).take ei.size := fun k x hx => by
          obtain ⟨hk, rfl⟩ := elemsOf_get hx
          have := hbnd k hk
          exact ⟨hk, elemOf_cells (s := ei.size) (by simp; omega) h1' (fun c hc => by
            obtain ⟨q, hq⟩ := List.mem_iff_getElem?.1 (List.mem_of_mem_drop (List.mem_of_mem_drop (List.mem_of_mem_take hc)))
            exact hone q c hq)⟩
        refine .p (.sl (fun k => f (o + L * ei.size + k)) (elemsOf_length).symm hok (by omega) (fun k hk => ?_) (fun k x hx => ?_) (fun k c x z hx hz' => ?_) (fun k c x z hx hz' => ?_))
        · have h4 : L * ei.size + (H - L) * ei.size = H * ei.size := by rw [← Nat.add_mul]; congr 1; omega
          have h5 : H * ei.size ≤ n * ei.size := Nat.mul_le_mul_right _ (by omega)
          have := hcell (o + L * ei.size + k) (by omega)
          rw [← this]; congr 2; omega
        · obtain ⟨hk, e⟩ := hcs k x hx
          have := hbnd k hk
          rw [e]; simp; omega
        · obtain ⟨hk, e⟩ := hcs k x hx
          rw [e] at hz'
          obtain ⟨q, hq⟩ := List.mem_iff_getElem?.1 (List.mem_of_mem_drop (List.mem_of_mem_drop (List.mem_of_mem_take (List.mem_of_getElem? hz'))))
          exact hone q z hq
        · obtain ⟨hk, e⟩ := hcs k x hx
          rw [e] at hz'
          have hlt : c < ei.size := by have := (List.getElem?_eq_some_iff.1 hz').1; simp at this; omega
          rw [List.getElem?_take, if_pos hlt, List.getElem?_drop, List.getElem?_drop] at hz'
          have := hrel _ _ hz'
          rwa [← Nat.add_assoc] at this ⊢

theorem op_slice_nil {t : TypeId} {x : Operand} {lo hi : Option Operand} {l h : Option Int} {i ei : TI} {e : Nat} (ho : op.op = .slice t x lo hi none) (hi' : tiOf P t = some i) (hd : i.d = .slice e) (hei : tiOf P e = some ei)
    (hx : ev σ x = some (.p (.v (.slice none 0 0)))) (hl : bnd σ lo l) (hh : bnd σ hi h) (h0 : l.getD 0 = 0) (h1 : h.getD 0 = 0)
    (hk : K (.p (.v (.slice none 0 0))) σ.tab σ.nx) : OpS P WG op σ K := by
  refine .pure (fun C j a w hr => ?_) hk
  have hrun := run_slice_sl (P := P) hr ho hi' hd hei (ev_flat hr hx) hl hh (show bnd σ none none from trivial) (by simp) (by omega) (by simp; omega) (by simp only [Option.getD_none]; simp; omega) (by simp)
  refine ⟨_, hrun, ?_⟩
  simp [h0, h1]
  exact .p (.v rfl)

/-- 's[:0:0]'. -/
theorem op_slice_zc {t : TypeId} {x : Operand} {lo hi mx : Option Operand} {i ei : TI} {e n : Nat} {v : V} (ho : op.op = .slice t x lo hi mx) (hi' : tiOf P t = some i) (hd : i.d = .slice e) (hei : tiOf P e = some ei)
    (hx : ev σ x = some v) (hn : lenV v = some n) (hl : bnd σ lo (some 0) ∨ bnd σ lo none) (hh : bnd σ hi (some 0)) (hm : bnd σ mx (some 0))
    (hk : K .zc σ.tab σ.nx) : OpS P WG op σ K := by
  refine .pure (fun C j a w hr => ?_) hk
  obtain ⟨b, c, hv, hc⟩ := (hr.ev hx).len hn
  rcases hl with hl | hl
  · have hrun := run_slice_sl (P := P) hr ho hi' hd hei hv hl hh hm (by simp) (by simp) (by simp) (by simp) (by simp)
    exact ⟨_, hrun, by simp; exact .zc⟩
  · have hrun := run_slice_sl (P := P) hr ho hi' hd hei hv hl hh hm (by simp) (by simp) (by simp) (by simp) (by simp)
    exact ⟨_, hrun, by simp; exact .zc⟩

theorem madeCells_get (z : Array Value) (n k : Nat) (hk : k < n) (hz : 0 < z.size) : ((Array.range n).map (z[· % z.size]!)).getD k undef = z.getD (k % z.size) undef := by
  have hm : k % z.size < z.size := Nat.mod_lt _ hz
  simp [Array.getD, hk, getElem!_pos, hm]

theorem op_makeSlice {t : TypeId} {xl xc : Operand} {i ei : TI} {e : Nat} {kl kc : IntKind} {l c : Int} (ho : op.op = .makeSlice t xl xc) (hi : tiOf P t = some i) (hd : i.d = .slice e) (hei : tiOf P e = some ei) (hpos : 0 < ei.size) (h1 : ei.agg = true ∨ ei.size = 1)
    (hl : ev σ xl = some (.p (.v (.int kl l)))) (hc : ev σ xc = some (.p (.v (.int kc c)))) (h0 : 0 ≤ l) (hlc : l ≤ c) (hc24 : c ≤ 16777216) (hb : (ei.bytes : Int) * c ≤ 281474976710656)
    (hk : K (.osl σ.nx ei.size 0 l.toNat (some c.toNat)) (aset σ.tab σ.nx (.arr ei.size (List.replicate c.toNat ei.zeroP) false)) (σ.nx + 1)) : OpS P WG op σ K := by
  intro C j a w hr
  obtain ⟨info, d, z, ht⟩ := tiOf_some hi
  obtain ⟨info', d', z', ht'⟩ := tiOf_some hei
  have htd := ht.td; rw [hd] at htd
  cases d <;> simp only [tdOf] at htd <;> try cases htd
  have hrun0 := run_make w t e info' z' ht.und ht'.inf ht'.hz kl kc l c h0 hlc (by rw [ht'.bytes]; exact hb) (by omega)
  have hzs : z'.cells.size = ei.size := by rw [ht'.zc]; simpa using ht'.zs
  have hzp := (ht'.zr w (okc C (Own j σ.tab) w)).cells
  have hzc : ei.zeroP.cells.length = ei.size := by rw [← hzp.1]; exact hzs
  obtain ⟨j', hm, hj⟩ := newArr hr ⟨rfl, rfl, rfl, rfl⟩ ei.size (List.replicate c.toNat ei.zeroP) false c.toNat (madeCells z'.cells (c.toNat * info'.size)) e (0, 0) (Opn.zero _) (by simp [madeCells, ht'.size]) (by simp) (by simp)
    (fun k x hx => by
      rw [List.getElem?_replicate] at hx
      split at hx
      · cases hx; exact hzc
      · cases hx)
    (fun k q x y hx hy => by
      rw [List.getElem?_replicate] at hx
      split at hx
      · rename_i hkc
        cases hx
        have hq : q < ei.size := by have := (List.getElem?_eq_some_iff.1 hy).1; omega
        have hb' : k * ei.size + ei.size ≤ c.toNat * ei.size := by rw [← Nat.succ_mul]; exact Nat.mul_le_mul_right _ hkc
        have := hzp.2 q y hy
        refine ⟨this.1, ?_⟩
        have e1 : (madeCells z'.cells (c.toNat * info'.size)).getD (k * ei.size + q) undef = z'.cells.getD q undef := by
          unfold madeCells
          rw [madeCells_get _ _ _ (by rw [ht'.size]; omega) (by rw [hzs]; exact hpos), hzs, Nat.mul_comm, Nat.mul_add_mod, Nat.mod_eq_of_lt hq]
        rw [e1]; exact this.2
      · cases hx)
  refine ⟨.slice (some ⟨w.heap.size, 0, none⟩) l.toNat c.toNat, _, .osl σ.nx ei.size 0 l.toNat (some c.toNat), j', _, _, ?_, hm, .osl (Nat.lt_succ_self _) hj (by simp) (by omega) (by simp) (fun k h => by cases h; rfl) (fun h => by cases h), hk⟩
  unfold execOp; rw [ho]
  simp only [ev_int hr hl, ev_int hr hc, Sem.run_bind, hrun0, Result.andThen_ok, Sem.run_pure]

end
end Go.Gp
