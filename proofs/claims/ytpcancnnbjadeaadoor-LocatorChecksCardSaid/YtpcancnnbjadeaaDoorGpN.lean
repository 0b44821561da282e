/-
  A call over data alone: its contract over no local memory holds over any.
-/
import Derived.Test.YtpcancnnbjadeaaDoorGpM
set_option linter.unusedSimpArgs false
set_option linter.unusedVariables false
namespace Go.Gp
open Go.RowKit

mutual
def V.sh (d : Nat) : V → V
  | .p x => .p x
  | .ref b o => .ref (b + d) o
  | .eref b s i c => .eref (b + d) s i c
  | .osl b s lo len cap => .osl (b + d) s lo len cap
  | .bsl b o s len cap => .bsl (b + d) o s len cap
  | .agg cs => .agg (V.shL d cs)
  | .tup vs => .tup (V.shL d vs)
  | .clo fn fs cs => .clo fn (V.shL d fs) (V.shL d cs)
  | .ifc t x => .ifc t (V.sh d x)
  | .mp b => .mp (b + d)
  | .zc => .zc
  | .cnd b x => .cnd b (V.sh d x)
def V.shL (d : Nat) : List V → List V
  | [] => []
  | x :: r => V.sh d x :: V.shL d r
end

theorem V.shL_get (d : Nat) : ∀ (l : List V) (i : Nat), (V.shL d l)[i]? = (l[i]?).map (V.sh d)
  | [], i => by simp [V.shL]
  | x :: r, 0 => by simp [V.shL]
  | x :: r, i + 1 => by simp [V.shL, V.shL_get d r i]
theorem V.shL_length (d : Nat) : ∀ (l : List V), (V.shL d l).length = l.length
  | [] => rfl
  | x :: r => by simp [V.shL, V.shL_length d r]
theorem V.sh_one (d : Nat) (v : V) : (V.sh d v).one = v.one := by cases v <;> simp [V.sh, V.one]

theorem VR.sh {w : World} {ok ok' : Nat → Prop} {j0 j : Nat → Option Loc} {n0 nx d : Nat} (hok : ∀ k, ok k → ok' k) (hj : ∀ b, b < n0 → j (b + d) = j0 b ∧ b + d < nx) {v : V} {m : Value} (h : VR w ok j0 n0 v m) : VR w ok' j nx (V.sh d v) m := by
  have mem : ∀ {l : List V} {ms : Array Value}, (∀ (i : Nat) c, l[i]? = some c → VR w ok' j nx (V.sh d c) (ms.getD i undef)) → ∀ (i : Nat) c, (V.shL d l)[i]? = some c → VR w ok' j nx c (ms.getD i undef) := by
    intro l ms ih i c hi
    rw [V.shL_get] at hi
    cases hq : l[i]? with
    | none => simp [hq] at hi
    | some x => simp [hq] at hi; subst hi; exact ih i x hq
  induction h with
  | p hp => exact .p (hp.mono (fun k hk => ⟨hok k hk, rfl⟩))
  | ref hb hl hq => exact .ref (hj _ hb).2 ((hj _ hb).1.trans hl) hq
  | eref hb hl hq => exact .eref (hj _ hb).2 ((hj _ hb).1.trans hl) hq
  | oslNil hb hl => exact .oslNil (hj _ hb).2 ((hj _ hb).1.trans hl)
  | oslEnd hb hl hlo hc => exact .oslEnd (hj _ hb).2 ((hj _ hb).1.trans hl) hlo hc
  | osl hb hl hq hlen hc hs hn => exact .osl (hj _ hb).2 ((hj _ hb).1.trans hl) hq hlen hc hs hn
  | bsl hb hl hq hlen => exact .bsl (hj _ hb).2 ((hj _ hb).1.trans hl) hq hlen
  | bslEnd => exact .bslEnd
  | agg hlen hone _ ih =>
    refine .agg (by rw [V.shL_length]; exact hlen) (fun i c hi => ?_) (mem ih)
    rw [V.shL_get] at hi
    rename_i cs ms _
    cases hq : cs[i]? with
    | none => simp [hq] at hi
    | some x => simp [hq] at hi; subst hi; rw [V.sh_one]; exact hone i x hq
  | tup hlen _ ih => exact .tup (by rw [V.shL_length]; exact hlen) (mem ih)
  | clo h1 h2 _ _ ih1 ih2 => exact .clo (by rw [V.shL_length]; exact h1) (by rw [V.shL_length]; exact h2) (mem ih1) (mem ih2)
  | ifc _ ih => exact .ifc ih
  | mp hb hl => exact .mp (hj _ hb).2 ((hj _ hb).1.trans hl)
  | zc => exact .zc
  | cnd _ h0 ih => exact .cnd ih h0

def Blk.sh (d : Nat) : Blk → Blk
  | .box cs => .box (V.shL d cs)
  | .arr s xs gr => .arr s xs gr
def tsh (d : Nat) : Tab → Tab
  | [] => []
  | (k, x) :: r => (k + d, x.sh d) :: tsh d r
theorem aget_tsh (d : Nat) : ∀ (t : Tab) (b : Nat), aget (tsh d t) b = if d ≤ b then (aget t (b - d)).map (Blk.sh d) else none
  | [], b => by simp [tsh, aget]
  | (k, x) :: r, b => by
    simp only [tsh, aget, aget_tsh d r b]
    by_cases h : d ≤ b
    · rw [if_pos h, if_pos h]
      by_cases e : k = b - d
      · subst e; rw [if_pos (by omega), if_pos rfl]; rfl
      · rw [if_neg (by omega), if_neg e]
    · rw [if_neg h, if_neg h, if_neg (by omega)]
theorem aget_append {α : Type} (a b : List (Nat × α)) (k : Nat) : aget (a ++ b) k = match aget a k with | some x => some x | none => aget b k := by
  induction a with
  | nil => rfl
  | cons p r ih =>
    obtain ⟨q, x⟩ := p
    simp only [List.cons_append, aget]
    split
    · rfl
    · exact ih

theorem BlkR.sh {w : World} {ok ok' : Nat → Prop} {j0 j : Nat → Option Loc} {n0 nx d b : Nat} (hok : ∀ k, ok k → ok' k) (hj : ∀ b, b < n0 → j (b + d) = j0 b ∧ b + d < nx) (hb : b < n0) {x : Blk} (h : BlkR w ok j0 n0 b x) : BlkR w ok' j nx (b + d) (x.sh d) := by
  cases x with
  | box cs =>
    obtain ⟨l, ms, e, fr, hl, hh, hfr, hs, h1, hr⟩ := h
    refine ⟨l, ms, e, fr, (hj b hb).1.trans hl, hh, hfr, by rw [V.shL_length]; exact hs, fun i c hi => ?_, fun i c hi => ?_⟩
    · rw [V.shL_get] at hi
      cases hq : cs[i]? with
      | none => simp [hq] at hi
      | some x => simp [hq] at hi; subst hi; rw [V.sh_one]; exact h1 i x hq
    · rw [V.shL_get] at hi
      cases hq : cs[i]? with
      | none => simp [hq] at hi
      | some x => simp [hq] at hi; subst hi; exact (hr i x hq).sh hok hj
  | arr s xs gr =>
    rcases h with ⟨hl, hx⟩ | ⟨l, ms, e, fr, hl, hh, hfr, hs, hx, hg, h0, h1, hr⟩
    · exact .inl ⟨(hj b hb).1.trans hl, hx⟩
    · exact .inr ⟨l, ms, e, fr, (hj b hb).1.trans hl, hh, hfr, hs, hx, hg, h0, h1, fun i k x y h1 h2 => (hr i k x y h1 h2).mono (fun k hk => ⟨hok k hk, rfl⟩)⟩

section
variable {P : Program} {WG : World}

theorem CallT.frame {f : FuncId} {ps : List PV} {tab : Tab} {nx : Nat} {K KP K0 KP0 : V → Tab → Nat → Prop} (h : CallT P WG f (ps.map .p) [] 0 K0 KP0)
    (hk : ∀ r t n, K0 r t n → K (V.sh nx r) (tab ++ tsh nx t) (nx + n)) (hp : ∀ r t n, KP0 r t n → KP (V.sh nx r) (tab ++ tsh nx t) (nx + n)) : CallT P WG f (ps.map .p) tab nx K KP := by
  intro C j w ms h1 h2 h3 h4 hm hvs
  let C0 : Ctx := ⟨0, fun _ => none, fun _ => False, okc C (Own j tab) w, w⟩
  have hno : ∀ k, ¬ Own (fun _ => none) ([] : Tab) k := fun k ⟨b, x, l, hb, _⟩ => by simp [aget] at hb
  have hm0 : MemR WG C0 (fun _ => none) [] 0 w := {
    nb := Nat.le_refl _
    low := fun b x hb => by simp [aget] at hb
    blk := fun b x hb => by simp [aget] at hb
    apart := fun b b' x x' l l' hb => by simp [aget] at hb
    agree := fun b hb => absurd hb (Nat.not_lt_zero _)
    own := fun k hk => (hno k hk).elim
    ownG := fun k hk => (hno k hk).elim
    size := Nat.le_refl _
    keep := fun _ _ _ => rfl
    os := rfl
    tape := rfl
    output := rfl
    glob := hm.glob
    rd := fun k hk => ⟨hk.1, fun h => h⟩ }
  have hok0 : ∀ k, okc C (Own j tab) w k → okc C0 (Own (fun _ => none) ([] : Tab)) w k := fun k hk => ⟨hk.1, hno k, .inl hk⟩
  have hvs0 : VRs w (okc C0 (Own (fun _ => none) ([] : Tab)) w) (fun _ => none) 0 (ps.map .p) ms := by
    refine ⟨hvs.1, fun i v hv => ?_⟩
    have := hvs.2 i v hv
    simp only [List.getElem?_map] at hv
    cases hq : ps[i]? with
    | none => simp [hq] at hv
    | some x =>
      simp [hq] at hv; subst hv
      cases this with
      | p hp => exact .p (hp.mono (fun k hk => ⟨hok0 k hk, rfl⟩))
  have fin : ∀ (j0 : Nat → Option Loc) (t : Tab) (n : Nat) (w' : World), MemR WG C0 j0 t n w' →
      MemR WG C (fun b => if b < nx then j b else j0 (b - nx)) (tab ++ tsh nx t) (nx + n) w' ∧
      ∀ r m, VR w' (okc C0 (Own j0 t) w') j0 n r m → VR w' (okc C (Own (fun b => if b < nx then j b else j0 (b - nx)) (tab ++ tsh nx t)) w') (fun b => if b < nx then j b else j0 (b - nx)) (nx + n) (V.sh nx r) m := by
    intro j0 t n w' h'
    let J : Nat → Option Loc := fun b => if b < nx then j b else j0 (b - nx)
    have hJ1 : ∀ b, b < nx → J b = j b ∧ b < nx + n := fun b hb => ⟨by simp [J, hb], by omega⟩
    have hJ2 : ∀ b, b < n → J (b + nx) = j0 b ∧ b + nx < nx + n := fun b hb => ⟨by show (if b + nx < nx then _ else _) = _; rw [if_neg (by omega), Nat.add_sub_cancel], by omega⟩
    have hget : ∀ b x, aget (tab ++ tsh nx t) b = some x → (b < nx ∧ aget tab b = some x) ∨ (nx ≤ b ∧ ∃ y, aget t (b - nx) = some y ∧ x = y.sh nx) := by
      intro b x hb
      rw [aget_append] at hb
      split at hb
      · rename_i y hy; cases hb; exact .inl ⟨hm.low b x hy, hy⟩
      · rw [aget_tsh] at hb
        by_cases hle : nx ≤ b
        · rw [if_pos hle] at hb
          obtain ⟨y, hy, rfl⟩ := Option.map_eq_some_iff.1 hb
          exact .inr ⟨hle, y, hy, rfl⟩
        · rw [if_neg hle] at hb; cases hb
    have hown : ∀ k, Own J (tab ++ tsh nx t) k → Own j tab k ∨ Own j0 t k := by
      rintro k ⟨b, x, l, hb, hl, rfl⟩
      rcases hget b x hb with ⟨hlt, hx⟩ | ⟨hle, y, hy, rfl⟩
      · exact .inl ⟨b, x, l, hx, by rw [← (hJ1 b hlt).1]; exact hl, rfl⟩
      · refine .inr ⟨b - nx, y, l, hy, ?_, rfl⟩
        have : J b = j0 (b - nx) := by simp [J, Nat.not_lt.2 hle]
        rw [← this]; exact hl
    have hown0 : ∀ k, Own j0 t k → w.heap.size ≤ k := fun k hk => (h'.own k hk).resolve_left (fun h => h)
    have hkeep : ∀ k, k < w.heap.size → w'.heap[k]? = w.heap[k]? := fun k hk => h'.keep k hk (fun h => h)
    have hsz : w.heap.size ≤ w'.heap.size := h'.size
    have hok1 : ∀ k, okc C (Own j tab) w k → okc C (Own J (tab ++ tsh nx t)) w' k ∧ w'.heap[k]? = w.heap[k]? := by
      rintro k ⟨a1, a2, a3⟩
      refine ⟨⟨by omega, fun hn => ?_, a3⟩, hkeep k a1⟩
      rcases hown k hn with h | h
      · exact a2 h
      · have := hown0 k h; omega
    have hok2 : ∀ k, okc C0 (Own j0 t) w' k → okc C (Own J (tab ++ tsh nx t)) w' k := by
      rintro k ⟨a1, a2, a3⟩
      rcases a3 with a3 | a3
      · exact (hok1 k a3).1
      · refine ⟨a1, fun hn => ?_, ?_⟩
        · rcases hown k hn with h | h
          · have := hm.own_lt h; simp only [C0] at a3; omega
          · exact a2 h
        · right; rw [h4]; exact a3
    refine ⟨?_, fun r m hv => hv.sh hok2 hJ2⟩
    exact {
      nb := by rw [h1]; omega
      low := fun b x hb => by
        rcases hget b x hb with ⟨hlt, _⟩ | ⟨hle, y, hy, _⟩
        · omega
        · have := h'.low _ y hy; omega
      blk := fun b x hb => by
        rcases hget b x hb with ⟨hlt, hx⟩ | ⟨hle, y, hy, rfl⟩
        · exact (hm.blk b x hx).mono hok1 hJ1 hlt (fun l hl => hkeep _ ((hm.blk b x hx).lt hl))
        · have hb' := (h'.blk _ y hy).sh hok2 hJ2 (h'.low _ y hy)
          rwa [Nat.sub_add_cancel hle] at hb'
      apart := fun b b' x x' l l' hb hb' hne hl hl' => by
        rcases hget b x hb with ⟨hlt, hx⟩ | ⟨hle, y, hy, rfl⟩ <;> rcases hget b' x' hb' with ⟨hlt', hx'⟩ | ⟨hle', y', hy', rfl⟩
        · exact hm.apart b b' x x' l l' hx hx' hne (by rw [← (hJ1 b hlt).1]; exact hl) (by rw [← (hJ1 b' hlt').1]; exact hl')
        · have e1 : j b = some l := by rw [← (hJ1 b hlt).1]; exact hl
          have e2 : j0 (b' - nx) = some l' := by have : J b' = j0 (b' - nx) := by simp [J, Nat.not_lt.2 hle']
                                                 rw [← this]; exact hl'
          have := (hm.blk b x hx).lt e1
          have := hown0 l'.blk ⟨_, y', l', hy', e2, rfl⟩
          omega
        · have e1 : j b' = some l' := by rw [← (hJ1 b' hlt').1]; exact hl'
          have e2 : j0 (b - nx) = some l := by have : J b = j0 (b - nx) := by simp [J, Nat.not_lt.2 hle]
                                               rw [← this]; exact hl
          have := (hm.blk b' x' hx').lt e1
          have := hown0 l.blk ⟨_, y, l, hy, e2, rfl⟩
          omega
        · have e1 : j0 (b - nx) = some l := by have : J b = j0 (b - nx) := by simp [J, Nat.not_lt.2 hle]
                                               rw [← this]; exact hl
          have e2 : j0 (b' - nx) = some l' := by have : J b' = j0 (b' - nx) := by simp [J, Nat.not_lt.2 hle']
                                                 rw [← this]; exact hl'
          exact h'.apart _ _ y y' l l' hy hy' (by omega) e1 e2
      agree := fun b hb => by
        rw [h1] at hb
        rw [h2]; exact (hJ1 b hb).1
      own := fun k hk => by
        rcases hown k hk with h | h
        · exact hm.own k h
        · right; rw [h4]; exact hown0 k h
      ownG := fun k hk => by
        rcases hown k hk with h | h
        · exact hm.ownG k h
        · exact h'.ownG k h
      size := by rw [h4]; exact hsz
      keep := fun k hk h0 => by rw [h4] at hk ⊢; exact hkeep k hk
      os := by rw [h4]; exact h'.os
      tape := by rw [h4]; exact h'.tape
      output := by rw [h4]; exact h'.output
      glob := h'.glob
      rd := hm.rd }
  refine (h C0 (fun _ => none) w ms rfl rfl (funext fun k => propext ⟨fun h => h.elim, fun h => (hno k h).elim⟩) rfl hm0 hvs0).mono fun e w' he => ?_
  cases e with
  | returned m =>
    obtain ⟨j0, t, n, r, a, b, c⟩ := he
    obtain ⟨x, y⟩ := fin j0 t n w' a
    exact ⟨_, _, _, _, x, y r m b, hk _ _ _ c⟩
  | panicked ch =>
    obtain ⟨j0, t, n, r, m, a, b, c, d⟩ := he
    obtain ⟨x, y⟩ := fin j0 t n w' a
    exact ⟨_, _, _, _, _, x, b, y r m c, hp _ _ _ d⟩
  | outgrown => exact he.elim

/-- The function gives this for these data. -/
def FV (P : Program) (WG : World) (f : FuncId) (ps : List PV) (r : V) : Prop := FVv P WG f (ps.map .p) r

def isP : V → Bool
  | .p _ => true
  | _ => false
/-- A result that is data: one, or several. -/
def pureR : V → Bool
  | .p _ => true
  | .tup vs => vs.all isP
  | _ => false
theorem V.sh_pure {d : Nat} {r : V} (h : pureR r = true) : V.sh d r = r := by
  cases r with
  | p x => rfl
  | tup vs =>
    simp only [pureR, List.all_eq_true] at h
    simp only [V.sh]
    congr 1
    apply List.ext_getElem?
    intro i
    rw [V.shL_get]
    cases hq : vs[i]? with
    | none => rfl
    | some v =>
      have := h v (List.mem_of_getElem? hq)
      cases v <;> simp [isP] at this
      rfl
  | _ => simp [pureR] at h
theorem VR.pure {w w' : World} {ok ok' : Nat → Prop} {j j' : Nat → Option Loc} {nx nx' : Nat} (h : ∀ k, ok k → ok' k ∧ w'.heap[k]? = w.heap[k]?) {r : V} {m : Value} (hp : pureR r = true) (hr : VR w ok j nx r m) : VR w' ok' j' nx' r m := by
  cases hr with
  | p hx => exact .p (hx.mono h)
  | tup hlen hrel =>
    simp only [pureR, List.all_eq_true] at hp
    refine .tup hlen (fun i c hi => ?_)
    have h1 := hp c (List.mem_of_getElem? hi)
    have h2 := hrel i c hi
    revert h2
    generalize Array.getD _ i undef = mm
    intro h2
    cases c with
    | p x => cases h2 with | p hx => exact .p (hx.mono h)
    | _ => simp [isP] at h1
  | _ => simp [pureR] at hp

/-- Local memory is let go at the end. -/
theorem CallT.pure {f : FuncId} {ps : List PV} {r : V} (hp : pureR r = true) (h : CallT P WG f (ps.map .p) [] 0 (fun r' _ _ => r' = r) noP) : FV P WG f ps r := by
  intro tab nx
  have h0 : CallT P WG f (ps.map .p) [] 0 (fun r' t n => r' = r ∧ t = [] ∧ n = 0) noP := by
    intro C j w ms h1 h2 h3 h4 hm hvs
    refine (h C j w ms h1 h2 h3 h4 hm hvs).mono fun e w' he => ?_
    cases e with
    | panicked ch => obtain ⟨_, _, _, _, _, _, _, _, d⟩ := he; exact d.elim
    | outgrown => exact he.elim
    | returned m =>
      obtain ⟨j', t, n, r', a, b, rfl⟩ := he
      have hno : ∀ k, ¬ Own j' ([] : Tab) k := fun k ⟨b, x, l, hb, _⟩ => by simp [aget] at hb
      have hok : ∀ k, okc C (Own j' t) w' k → okc C (Own j' []) w' k ∧ w'.heap[k]? = w'.heap[k]? := fun k hk => ⟨⟨hk.1, hno k, hk.2.2⟩, rfl⟩
      refine ⟨j', [], 0, _, ?_, VR.pure hok hp b, rfl, rfl, rfl⟩
      · exact {
          nb := by rw [h1]; exact Nat.le_refl _
          low := fun b x hb => by simp [aget] at hb
          blk := fun b x hb => by simp [aget] at hb
          apart := fun b b' x x' l l' hb => by simp [aget] at hb
          agree := fun b hb => by rw [h1] at hb; exact absurd hb (Nat.not_lt_zero _)
          own := fun k hk => (hno k hk).elim
          ownG := fun k hk => (hno k hk).elim
          size := a.size
          keep := a.keep
          os := a.os
          tape := a.tape
          output := a.output
          glob := a.glob
          rd := a.rd }
  refine h0.frame (fun r' t n hq => ?_) (fun r' t n hq => hq)
  obtain ⟨rfl, rfl, rfl⟩ := hq
  exact ⟨V.sh_pure hp, by simp [tsh], rfl⟩

end
end Go.Gp
